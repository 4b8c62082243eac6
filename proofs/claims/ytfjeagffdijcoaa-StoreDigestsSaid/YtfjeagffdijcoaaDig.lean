/- Layer 7: the shelf: Digest. -/
import Derived.Test.YtfjeagffdijcoaaSB
import Derived.LoopNIn
namespace Go.Proofs.Ytfjeagffdijcoaa
open Go.RowKit Go.Shelf
attribute [local go_sem] Oper.semAt_some

/-- the bytes of a pair that the digest goes over -/
def head8 (k : Int) : List Int := [k / 72057594037927936 % 256, k / 281474976710656 % 256, k / 1099511627776 % 256, k / 4294967296 % 256, k / 16777216 % 256, k / 65536 % 256, k / 256 % 256, k % 256]
def pairB (p : Int × List Int) : List Int := head8 p.1 ++ [(p.2.length : Int) / 256 % 256, (p.2.length : Int) % 256] ++ p.2
def fnv0 : Int := 14695981039346656037
def digL (G : List (Int × List Int)) : Int := fnvL fnv0 (G.flatMap pairB)
theorem digL_snoc (G : List (Int × List Int)) (p : Int × List Int) : digL (G ++ [p]) = fnvL (fnvL (digL G) (head8 p.1 ++ [(p.2.length : Int) / 256 % 256, (p.2.length : Int) % 256])) p.2 := by
  unfold digL
  rw [List.flatMap_append, List.flatMap_singleton, fnvL_append]
  unfold pairB
  rw [fnvL_append]
theorem head8_byte (k : Int) (n : Nat) : ∀ x ∈ head8 k ++ [(n : Int) / 256 % 256, (n : Int) % 256], 0 ≤ x ∧ x ≤ 255 := by
  intro x hx
  simp only [head8, List.mem_append, List.mem_cons, List.not_mem_nil, or_false] at hx
  omega

theorem bytes_new (w : World) (l : List Int) (t : TypeId) : U8s (w.heap.size + 1) (w.alloc (.cells (l.map (Value.int .u8)).toArray t)) (some ⟨w.heap.size, 0, none⟩) l :=
  .inr ⟨_, 0, rfl, by omega, fun i x hx j v hv => by
    cases j with
    | zero =>
      have e : v = .int .u8 x := by simpa [u8s] using hv.symm
      subst e
      have := (Row.new w (l.map (Value.int .u8)) t).2 i (.int .u8 x) (by simp [hx])
      simpa using this
    | succ j => simp [u8s] at hv⟩

/-- what holds between two rounds of Digest -/
structure DigI (w w6 : World) (Bh : Nat) (P6 : Nat → Prop) (F : List (Int × TU.SV)) (G : List (Int × List Int)) (pre : List (Int × TU.SV)) (W : World) : Prop where
  box : Boxed W Bh 60 (.int .u64 (digL (G.take pre.length)))
  kp : KeepsT P6 w6 W
  bel : Below w.heap.size w W
  sz : w6.heap.size ≤ W.heap.size
  pf : pre <+: F
theorem DigI.from (w w6 : World) (Bh : Nat) (P6 : Nat → Prop) (F : List (Int × TU.SV)) (G : List (Int × List Int)) (B : Nat) (hP : ∀ k, P6 k → k < B ∧ k < w6.heap.size) (h1 : w.heap.size ≤ B) :
    OwnFrom B (DigI w w6 Bh P6 F G) := by
  rintro pre X Y row h hg hr
  have hk : ∀ (g : Nat) (cur : Array Value) (t : TypeId) (fr : Nat × Nat), X.heap[g]? = some (Obj.cells cur t fr) → Y.heap[g]? = X.heap[g]? := fun g cur t fr hx => hg.block g (Array.getElem?_eq_some_iff.1 hx).1 (fun e => by
    obtain ⟨_, o, ho, hc⟩ := hr g e.symm
    rw [hx] at ho; cases ho; cases hc)
  exact ⟨(hk _ _ _ _ h.box).trans h.box, ownFrom_keepsT (β := Unit) hP () X Y row h.kp hg hr, ownFrom_below (β := Unit) (Nat.le_refl _) h1 () X Y row h.bel hg hr, Nat.le_trans h.sz hg.size, h.pf⟩

set_option maxRecDepth 100000 in
set_option maxHeartbeats 4000000 in
theorem shDigest_any (w : World) (S : Nat) (most : Int) (P : Nat → Prop) (L : List (Int × List Int)) (lo hi : Int) (h : IsShelf w S most P L) :
    Calls Try.prog 42 #[.pointer (some ⟨S, 0, none⟩), .int .u64 lo, .int .u64 hi] w fun e w' =>
      e = .returned (.int .u64 (digL (L.filter (inR TI.cmpI lo hi)))) ∧ Below w.heap.size w w' := by
  have hsmall := h.small
  have hfew := h.few
  obtain ⟨G, hG⟩ : ∃ G, G = L.filter (inR TI.cmpI lo hi) := ⟨_, rfl⟩
  rw [← hG]
  have HG := hid hG
  clear hG
  obtain ⟨M, T, h⟩ := h
  have hfnv := fnv_any w none 0 0 [] rfl (by omega) (by simp) (.inl rfl)
  obtain ⟨w4, hw4⟩ : ∃ w4, w4 = w.alloc (.cells #[.int .u64 fnv0] 60) := ⟨_, rfl⟩
  have hs4 : w4.heap.size = w.heap.size + 1 := by rw [hw4]; simp
  have hb4 : Below w.heap.size w w4 := by rw [hw4]; exact (Below.refl _ w).alloc (Nat.le_refl _) _
  have k0 : Boxed w4 w.heap.size 60 (.int .u64 fnv0) := by rw [hw4]; exact Boxed.new w _ _
  have h4 := h.below hb4
  have c0 := h4.c0
  rw [hw4] at c0
  have HW4 := hid hw4
  have HB4 := hid hb4
  have HS4 := hid hs4
  have HK := hid k0
  have H4 := hid h4
  have HSM := hid hsmall
  have HF := hid hfew
  have HLT := hid h.lt
  have HFN : Hid (Calls Try.prog 41 #[.slice none 0 0] w fun e w' => e = .returned (.int .u64 fnv0) ∧ w' = w) := hid hfnv
  clear hw4 hb4 hs4 k0 h4 h hsmall hfew hfnv
  generalize hz : fnv0 = z0 at *
  refine (callsIn_wide (n := 4)).1 ?_
  refine callsIn_of_wp_marks Try.func42 rfl trivial ?_ rfl
  simp only [Try.ntmps42, List.size_toArray, List.length_cons, List.length_nil, Nat.reduceAdd, Nat.reduceSub, Array.replicate_succ, Array.replicate_zero, List.push_toArray, List.append_toArray, List.nil_append, List.cons_append]
  refine wpIn_wide.2 ?_
  have HZ := hid hz
  clear hz
  go_wp2_with fail
  refine HFN.out.mono ?_
  rintro e w1 ⟨rfl, hw1⟩
  obtain rfl : w = w1 := hw1.symm
  go_wp2_with fail
  rw [← HW4.out]
  refine (TU.between_any w4 (some ⟨M, 0, none⟩) lo hi).mono ?_
  rintro e w6 ⟨rfl, hw6⟩
  obtain ⟨N4, hN4⟩ : ∃ N4, N4 = w4.heap.size := ⟨_, rfl⟩
  rw [← hN4]
  have hs4 := HS4.out
  have hb6 : Below N4 w4 w6 := by rw [hw6, hN4]; exact (((Below.refl _ w4).alloc (Nat.le_refl _) _).alloc (by simp) _).alloc (by simp; omega) _
  have hs6 : w6.heap.size = N4 + 1 + 1 + 1 := by rw [hw6, hN4]; simp
  have cm6 : w6.cell? ⟨N4, 0, none⟩ = some (.pointer (some ⟨M, 0, none⟩)) := by
    rw [hw6, hN4]
    exact (((Boxed.new w4 _ _).alloc _).alloc _).cell
  have cl6 : w6.cell? ⟨N4 + 1, 0, none⟩ = some (.int .u64 lo) := by
    rw [hw6, hN4]
    have := ((Boxed.new (w4.alloc (.cells #[.pointer (some ⟨M, 0, none⟩)] 150)) 60 (.int .u64 lo)).alloc (.cells #[.int .u64 hi] 60)).cell
    rwa [World.size_alloc] at this
  have ch6 : w6.cell? ⟨N4 + 1 + 1, 0, none⟩ = some (.int .u64 hi) := by
    rw [hw6, hN4]
    have := (Boxed.new ((w4.alloc (.cells #[.pointer (some ⟨M, 0, none⟩)] 150)).alloc (.cells #[.int .u64 lo] 60)) 60 (.int .u64 hi)).cell
    rwa [World.size_alloc, World.size_alloc] at this
  have hN : N4 = w.heap.size + 1 := by omega
  have k0 := (hb6.block _ (by omega)).trans HK.out
  have hB6 : Below w.heap.size w w6 := HB4.out.trans (hb6.mono (by omega))
  have h6 : ShelfAt w6 S M T most P L := by
    have := H4.out.below (w' := w6) (by rw [← hN4]; exact hb6)
    exact this
  obtain ⟨F, hF⟩ : ∃ F, F = T.pairs.filter (inR TI.cmpI lo hi) := ⟨_, rfl⟩
  have hG := HG.out
  have hFG : ValsOf w6 0 F G := by rw [hF, hG]; exact h6.vals.filter (fun k => decide (0 ≤ TI.cmpI k lo) && decide (TI.cmpI k hi ≤ 0))
  have hFs : ∀ p ∈ F, p ∈ T.pairs := fun p hp => by rw [hF] at hp; exact (List.mem_filter.1 hp).1
  have hGl : ∀ p ∈ G, p.2.length ≤ 64 ∧ 0 ≤ p.1 ∧ p.1 ≤ 18446744073709551615 := fun p hp => by rw [hG] at hp; exact HSM.out p (List.mem_filter.1 hp).1
  have hFn : F.length = G.length := hFG.len
  obtain ⟨P6, hP6⟩ : ∃ P6 : Nat → Prop, P6 = fun x => x < w6.heap.size ∧ x ≠ w.heap.size := ⟨_, rfl⟩
  have hPlt : ∀ k, P6 k → k < w6.heap.size := fun k hk => by rw [hP6] at hk; exact hk.1
  have hPi : ∀ k, k < w6.heap.size → k ≠ w.heap.size → P6 k := fun k h1 h2 => by rw [hP6]; exact ⟨h1, h2⟩
  have hPo : ∀ k, P k → P6 k := fun k hk => by have := HLT.out k hk; exact hPi k (by omega) (by omega)
  have hPv : ∀ p ∈ F, ∀ g, (TU.ev p.2).ownBlock = some g → P6 g := fun p hp g hg => hPo g (h6.own p (hFs p hp) g hg).1
  have hP3 : ¬ P6 w.heap.size := fun hk => by rw [hP6] at hk; exact hk.2 rfl
  have hseq := TU.between_stops TI.cmpI TI.cmpI_ord 134 #[] (fun _ => True) TU.cmp_fn.eg (fun w a b _ => TU.compare_same w a b) (fun _ => trivial) 3 N4 (N4 + 1) (N4 + 1 + 1) M lo hi T P6 w6 cm6 cl6 ch6 h6.map h6.up (fun x hx => hPo x (h6.pT x hx))
  rw [← hF] at hseq
  have HSEQ := hid hseq
  have hs60 : w.heap.size ≤ w6.heap.size := by omega
  have hs61 : w.heap.size + 1 ≤ w6.heap.size := by omega
  clear hseq hP6 hF hb6 hw6 cm6 cl6 ch6 hs6 hs4 hN4 hN hG HW4 HB4 HS4 HK H4 c0 HFN
  have HB6 := hid hB6
  have HFG := hid hFG
  have H0 := hid k0
  have HFL := hid hFn
  clear hB6 k0 hFG hFn
  go_wp2_with fail
  refine (wpIn_wide (n := 4)).1 ?_
  refine' range_law (gf := 137) (lb := #[.pointer (some ⟨N4, 0, none⟩), .pointer (some ⟨N4 + 1, 0, none⟩), .pointer (some ⟨N4 + 1 + 1, 0, none⟩)]) rfl (enters_of Try.func137 (by kernel_rfl) rfl) TU.encP (fun _ => rfl)
    (DigI w w6 w.heap.size P6 F G) (fun _ _ _ => False)
    (fun pre x _ => pre ++ [x] <+: F) (fun xs => xs = F) (fun pre => pre <+: F)
    (DigI.from _ _ _ _ _ _ _ (fun k hk => ⟨hPlt k hk, hPlt k hk⟩) hs60) (fun _ _ _ _ _ hs _ _ => hs) (fun pre x => ownFrom_pure _ (fun (_ : Unit) => pre ++ [x] <+: F)) ?h0 ?hseq _ ?assign ?body ?done ?stop
  case h0 => exact ⟨by rw [← HZ.out] at H0; exact H0.out, fun _ _ => rfl, HB6.out, Nat.le_refl _, List.nil_prefix⟩
  case hseq =>
    intro l J Jx W hW hJ hJx hJI hY h0
    refine HSEQ.out l J Jx W hW hJ hJx ?_ h0
    intro pre x W1 hj hx
    refine (hY pre x W1 hj hx).mono ?_
    rintro e W' (⟨rfl, hj'⟩ | hr)
    · exact .inl ⟨rfl, hj', fun k hk => ((hJI _ _ hj').kp k hk).trans ((hJI _ _ hj).kp k hk).symm⟩
    · exact .inr hr
  case assign =>
    intro l x W K hK
    gi_wp2
    exact hK
  case body =>
    rintro l1 pre x W hI hx
    have hI0 := hI
    obtain ⟨hv, hkp, hbel, hsz, hpf⟩ := hI
    have hxF := prefix_at hx
    have hvF := HFG.out.keeps (w' := W) (fun p hp g hg => hkp g (hPv p hp g hg))
    obtain ⟨key, sv⟩ := x
    obtain ⟨bs, hGb, hvx, hb255⟩ := hvF.at' hxF
    obtain ⟨vA, vc, hx2, hvn, hvr⟩ := ownsRow_ev hvx
    dsimp only at hx2 hGb
    subst hx2
    have hgl := hGl (key, bs) (List.mem_of_getElem? hGb)
    have hb64 : bs.length ≤ 64 := hgl.1
    have hk0 : 0 ≤ key := hgl.2.1
    have hk1 : key ≤ 18446744073709551615 := hgl.2.2
    have hc := hv.cell
    have hf := hv.frozen
    have HX := hid hx
    have HI0 := hid hI0
    have HVR := hid hvr
    have HV := hid hv
    have H255 := hid hb255
    have HGB := hid hGb
    clear hx hI0 hvr hv hb255 hGb hvx hvn hvF hkp hbel hpf hxF hgl
    generalize hdg : digL (G.take pre.length) = dg at *
    have HDG := hid hdg
    clear hdg
    gi_wp2_with fail
    refine wpIn_loop_rounds 9 ?_
    repeat (first | (rw [roundsIn_succ]; gi_wp2_with fail) | fail)
    obtain ⟨hd, hhd⟩ : ∃ hd : List Int, hd = [key / 72057594037927936, key / 281474976710656 % 256, key / 1099511627776 % 256, key / 4294967296 % 256, key / 16777216 % 256, key / 65536 % 256, key / 256 % 256, key % 256, (bs.length : Int) / 256, (bs.length : Int)] := ⟨_, rfl⟩
    obtain ⟨W4, hW4⟩ : ∃ W4, W4 = W.alloc (.cells (hd.map (Value.int .u8)).toArray 159) := ⟨_, rfl⟩
    have hW4' : W4 = W.alloc (.cells #[.int .u8 (key / 72057594037927936), .int .u8 (key / 281474976710656 % 256), .int .u8 (key / 1099511627776 % 256), .int .u8 (key / 4294967296 % 256), .int .u8 (key / 16777216 % 256), .int .u8 (key / 65536 % 256), .int .u8 (key / 256 % 256), .int .u8 (key % 256), .int .u8 ((bs.length : Int) / 256), .int .u8 (bs.length : Int)] 159) := by rw [hW4, hhd]; rfl
    rw [← hW4']
    clear hW4'
    have hhq : hd = head8 key ++ [(bs.length : Int) / 256 % 256, (bs.length : Int) % 256] := by
      rw [hhd, show (bs.length : Int) / 256 % 256 = (bs.length : Int) / 256 by omega, show (bs.length : Int) % 256 = (bs.length : Int) by omega]
      unfold head8
      rw [show key / 72057594037927936 % 256 = key / 72057594037927936 by omega]
      rfl
    have hhb : ∀ x ∈ hd, 0 ≤ x ∧ x ≤ 255 := by rw [hhq]; exact head8_byte key bs.length
    have hhl : hd.length = 10 := by rw [hhd]; rfl
    have hb4 : Below W.heap.size W W4 := by rw [hW4]; exact (Below.refl _ W).alloc (Nat.le_refl _) _
    have hs4 : W4.heap.size = W.heap.size + 1 := by rw [hW4]; simp
    have hu4 : U8s W4.heap.size W4 (some ⟨W.heap.size, 0, none⟩) hd := by rw [hs4, hW4]; exact bytes_new _ _ _
    have hub : U8s W4.heap.size W4 vA bs := (HVR.out.below hb4).mono (by omega)
    have hd4 : Boxed W4 w.heap.size 60 (.int .u64 dg) := (hb4.block _ (by omega)).trans HV.out
    have hc := hd4.cell
    have hf := hd4.frozen
    have HCA := hid (fnvMore_any W4.drew dg (some ⟨W.heap.size, 0, none⟩) 10 10 hd hhl (by omega) hhb (hu4.drewN 1))
    have HCB := hid (fnvMore_any W4.drew (fnvL dg hd) vA bs.length vc bs rfl (by omega) H255.out (hub.drewN 1))
    have HD4 := hid hd4
    have HB4 := hid hb4
    have HS4 := hid hs4
    have HHQ := hid hhq
    clear hhq hhb hhl hb4 hs4 hu4 hub hd4 hW4 hhd
    refine tail_in_round 5 (by kernel_rfl) (by kernel_rfl) (by kernel_rfl) ?_
    simp only [List.take_succ_cons, List.take_zero, List.drop_succ_cons, List.drop_zero]
    change wpStill _ _ (World.drew W4) _ _ _
    still_step
    still_step
    still_call HCA.out
    still_step
    still_call HCB.out
    refine wpStill_nil ?_
    change wpListIn _ _ _ _ _ _ _ (World.drew W4)
    have hhq := HHQ.out
    generalize hz5 : fnvL (fnvL dg hd) bs = z5
    gi_wp2_with fail
    obtain ⟨Wf, hWf⟩ : ∃ Wf, Wf = (W4.setCell ⟨w.heap.size, 0, none⟩ (.int .u64 z5)).drew := ⟨_, rfl⟩
    rw [← hWf]
    have hb4 := HB4.out
    have hs4 := HS4.out
    obtain ⟨hv, hkp, hbel, _, hpf⟩ := HI0.out
    have hw0 : w.heap.size < W.heap.size := by omega
    have keep : ∀ k, k < W.heap.size → k ≠ w.heap.size → Wf.heap[k]? = W.heap[k]? := fun k hk hne => by
      rw [hWf]
      exact (Below.heap_setCell _ _ _ _ hne).trans (hb4.block k hk)
    have hsf : Wf.heap.size = W4.heap.size := by rw [hWf]; simp [World.setCell]
    refine ⟨⟨by omega, fun k o hB hk _ => (keep k (Array.getElem?_eq_some_iff.1 hk).1 (by omega)).trans hk⟩, trivial, ⟨?_, ?_, ?_, by omega, HX.out⟩⟩
    · rw [List.length_append, List.length_singleton, take_snoc' HGB.out, digL_snoc, HDG.out, ← hhq, hz5, hWf]
      exact Boxed.set (W := W4) _ HD4.out
    · exact fun k hk => (keep k (by have := hPlt k hk; omega) (fun e => hP3 (e ▸ hk))).trans (hkp k hk)
    · rw [hWf]
      exact ((Below.trans hbel (hb4.mono (by omega))).setCell (p := ⟨w.heap.size, 0, none⟩) (Nat.le_refl _) _).drew
  case done =>
    rintro D xs W hD rfl hI hKD
    obtain ⟨hv, hkp, hbel, hsz, hpf⟩ := hI
    have hFn := HFL.out
    rw [hFn, List.take_length] at hv
    have hc := hv.cell
    have HKX := hid hKD
    have HBL := hid hbel
    have hwD : w.heap.size ≤ D := by omega
    clear hkp hbel hv hpf hKD
    go_wp2_with fail
    refine ⟨by simp, .inl ⟨_, _, rfl, run_takeDeferred HKX.out, ?_⟩⟩
    exact ⟨_, results_tmp rfl _ _ _, rfl, HBL.out.trans (belowK_b (w := w) (Nat.le_refl _) W D _ _ hwD HKX.out rfl rfl)⟩
  case stop =>
    rintro D cd pre W hD hSp hX hKD
    exact hX.elim
end Go.Proofs.Ytfjeagffdijcoaa
