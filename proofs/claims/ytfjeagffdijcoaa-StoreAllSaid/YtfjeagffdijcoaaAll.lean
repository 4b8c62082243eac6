/- Layer 7: the walk of StoreAll. -/
import Derived.Test.YtfjeagffdijcoaaAllS
import Derived.LoopN
namespace Go.Proofs.Ytfjeagffdijcoaa
open Go.RowKit Go.Shelf
attribute [local go_sem] Oper.semAt_some

theorem next_own (B : Nat) (T0 : Tr Int Int) (pre : List (Int × Int)) (x : Int × Int) : OwnFrom B (fun (_ : Unit) W => TI.Next T0 pre x W) := fun _ W W' row hs hg hr => by
  obtain ⟨b, h1, h2⟩ := hs
  obtain ⟨o, ho, hc⟩ := cell_cells h2
  refine ⟨b, h1, hg.cell h2 (fun e => ?_)⟩
  obtain ⟨_, o', ho', hc'⟩ := hr b e.symm
  rw [ho] at ho'
  cases ho'
  rw [hc] at hc'
  cases hc'

theorem ASt.upE {w W : World} {N3 M R : Nat} {stop ahead told : Int} {T0 : Tr Int Int} {n : Nat} {bx Ds : List Nat} {E E' : Nat} (h : ASt w W N3 M R stop ahead told T0 n bx Ds E) (hE : E ≤ E') : ASt w W N3 M R stop ahead told T0 n bx Ds E' :=
  ⟨h.ex, h.stp, h.ah, h.res, h.bm, h.br, h.bt, h.bel, h.ds, h.hN, h.b0, h.b1, h.b2, h.hn, h.nD, h.nd, fun d hd => Nat.lt_of_lt_of_le (h.dE d hd) hE, h.bl⟩

theorem nodes_at {w : World} {B M g : Nat} {cb : Array Value} {T0 T : Tr Int Int} {R : Nat} {which : Int} {kv vv : Value} {l : List (Int × Int)} (h : Both w B M g cb T R which kv vv l) (hs : Tr.Same T0 T) {pre : List (Int × Int)} {x : Int × Int} (hn : TI.Next T0 pre x w) : l[pre.length]? = some x := by
  obtain ⟨b, h1, h2⟩ := hn
  rw [hs.facts.2.2.2.1] at h1
  obtain ⟨v, h3, h4⟩ := TI.held_at h.mp.held _ _ _ h1
  rw [h2] at h4
  cases h4
  rw [h.pr] at h3
  exact h3

/-- one key's value put anew: beside both, and what is told next -/
theorem both_again {w W1 W2 : World} {B M : Nat} {T : Tr Int Int} {R : Nat} {kv vv kv' vv' : Value} {l : List (Int × Int)} {key val : Int} {nb : Nat} (h : Both w B M 76 #[] T R 0 kv vv l) (hB : B ≤ w.heap.size) (hnb : w.heap.size ≤ nb)
    (g2 : TI.IsMap W1 M 76 #[] (Tr.put (ordI 0) key val nb T)) (g3 : Wrote (fun x => x = M ∨ x ∈ T.blocks) w W1) (hk : ∃ v, (key, v) ∈ l)
    (k1 : IsRef W2 B R 0 kv' vv' (putL (ordI 0) key val l)) (k2 : Wrote (footR R kv vv) W1 W2) (k3 : ∀ x, footR R kv' vv' x → footR R kv vv x ∨ W1.heap.size ≤ x) :
    Both W2 B M 76 #[] (Tr.put (ordI 0) key val nb T) R 0 kv' vv' (putL (ordI 0) key val l) ∧ Tr.Same T (Tr.put (ordI 0) key val nb T) ∧ Wrote (footB M T R kv vv) w W2 ∧ (∀ x, footB M (Tr.put (ordI 0) key val nb T) R kv' vv' x → footB M T R kv vv x ∨ w.heap.size ≤ x) := by
  have hup : Up (ordI 0) T.pairs := by rw [h.pr]; exact h.up
  have hpp : (Tr.put (ordI 0) key val nb T).pairs = putL (ordI 0) key val l := by rw [Tr.put_pairs (ordI_ord 0) _ _ _ hup, h.pr]
  obtain ⟨s1, s2, s3⟩ := h.step g2 g3 (fun y hy => (Tr.put_mem _ _ nb T y hy).elim (fun e => .inr (by omega)) .inl) hB k1 k2 k3 hpp (putL_up (ordI_ord 0) _ _ h.up)
  refine ⟨s1, Tr.put_same key val nb h.mp.bal ?_, s2, s3⟩
  obtain ⟨v, hv⟩ := hk
  rw [Tr.get_pairs (ordI_ord 0) key hup, h.pr, getL_mem (ordI_ord 0) h.up hv]
  rfl

set_option maxRecDepth 100000 in
set_option maxHeartbeats 8000000 in
theorem storeAll_walk (w : World) (A : Option Addr) (n c : Nat) (ks : List Int) (A' : Option Addr) (n' c' : Nat) (os : List Int) (stop ahead : Int)
    (hl : ks.length = n) (_ : n ≤ c) (_ : c ≤ maxLen) (_ : ∀ x ∈ ks, (Lit.int .i64 x).wf = true) (hn : n * 8 ≤ 140737488351232) (hR : Reads w.heap.size w i64 1 A ks)
    (hl' : os.length = n') (_ : n' ≤ c') (_ : c' ≤ maxLen) (_ : ∀ x ∈ os, (Lit.int .i64 x).wf = true) (hn' : n' * 8 ≤ 140737488351232) (hR' : Reads w.heap.size w i64 1 A' os)
    (_ : (Lit.int .i64 stop).wf = true) (_ : (Lit.int .i64 ahead).wf = true) :
    Calls Try.prog 4 #[.slice A n c, .slice A' n' c', .int .i64 stop, .int .i64 ahead] w fun e w' => e = .returned (.bool true) ∧ Below w.heap.size w w' := by
  have hord : TI.OrdFn 76 #[] (ordI 0) (fun _ => True) (fun _ => False) := by rw [ordI0]; exact TI.cmp_fn
  have hfn := fun w f a c => run_eql_func_nil (P := Try.prog) w 27 f a c Try.underlying27
  have HORD := hid hord
  obtain ⟨wA, hwA⟩ : ∃ wA, wA = ((w.alloc (.cells #[.int .i64 stop] 3)).alloc (.cells #[.int .i64 ahead] 3)).alloc (.cells #[.bool false] 4) := ⟨_, rfl⟩
  have hbA : Below w.heap.size w wA := by rw [hwA]; exact (((Below.refl _ w).alloc (Nat.le_refl _) _).alloc (by simp) _).alloc (by simp; omega) _
  have hszA : wA.heap.size = w.heap.size + 3 := by rw [hwA]; simp
  have hs1 : Boxed wA w.heap.size 3 (.int .i64 stop) := by rw [hwA]; exact ((Boxed.new w _ _).alloc _).alloc _
  have hs2 : Boxed wA (w.heap.size + 1) 3 (.int .i64 ahead) := by
    rw [hwA]
    have := (Boxed.new (w.alloc (.cells #[.int .i64 stop] 3)) 3 (.int .i64 ahead)).alloc (.cells #[.bool false] 4)
    rwa [World.size_alloc] at this
  have hr1 : Boxed wA (w.heap.size + 1 + 1) 4 (.bool false) := by
    rw [hwA]
    have := Boxed.new ((w.alloc (.cells #[.int .i64 stop] 3)).alloc (.cells #[.int .i64 ahead] 3)) 4 (.bool false)
    rwa [World.size_alloc, World.size_alloc] at this
  have hfl := filled_any wA A n c ks A' n' c' os hl hn ((hR.below hbA).mono (by omega)) hl' hn' ((hR'.below hbA).mono (by omega))
  have HFL := hid hfl
  have HWA := hid hwA
  have HBA := hid hbA
  have HSZ := hid hszA
  have HS1 := hid hs1
  have HS2 := hid hs2
  have HR1 := hid hr1
  clear hord hfl hwA hbA hszA hs1 hs2 hr1 hR hR'
  refine (callsIn_wide (n := 4)).1 ?_
  refine callsIn_of_wp_marks Try.func4 rfl trivial ?_ rfl
  simp only [Try.ntmps4, List.size_toArray, List.length_cons, List.length_nil, Nat.reduceAdd, Nat.reduceSub, Array.replicate_succ, Array.replicate_zero, List.push_toArray, List.append_toArray, List.nil_append, List.cons_append]
  refine wpIn_wide.2 ?_
  go_wp2_with fail
  rw [← HWA.out]
  refine HFL.out.mono ?_
  rintro e w2 ⟨M, T0, R, kv, vv, l, rfl, hB, hb2, hln⟩
  obtain ⟨N3, hN3⟩ : ∃ N3, N3 = w2.heap.size := ⟨_, rfl⟩
  obtain ⟨V0, hV0⟩ : ∃ V0, V0 = ((w2.alloc (.cells #[.pointer (some ⟨M, 0, none⟩)] 22)).alloc (.cells #[.pointer (some ⟨R, 0, none⟩)] 32)).alloc (.cells #[.int .i64 0] 3) := ⟨_, rfl⟩
  have hb3 : Below w2.heap.size w2 V0 := by rw [hV0]; exact (((Below.refl _ w2).alloc (Nat.le_refl _) _).alloc (by simp) _).alloc (by simp; omega) _
  have hsA := HSZ.out
  have hs2 := hb2.size
  have hll : l.length ≤ 17592186043904 := by omega
  have hmany : T0.many = l.length := hB.many
  obtain ⟨L, hL⟩ : ∃ L, L = l.length := ⟨_, rfl⟩
  rw [← hL] at hll hmany
  have stV0 : ASt w V0 N3 M R stop ahead 0 T0 L [N3, N3 + 1, N3 + 1 + 1] [] 0 := by
    have bs := hB.below hb3
    rw [hsA] at bs
    refine ⟨⟨T0, kv, vv, l, bs, Tr.Same.refl T0, fun x hx => ?_⟩, (hb3.block _ (by omega)).trans ((hb2.block _ (by omega)).trans HS1.out), (hb3.block _ (by omega)).trans ((hb2.block _ (by omega)).trans HS2.out), (hb3.block _ (by omega)).trans ((hb2.block _ (by omega)).trans HR1.out), ?_, ?_, ?_,
      HBA.out.trans ((hb2.mono (by omega)).trans (hb3.mono (by omega))), fun _ h => (by cases h), by omega, by simp, by simp, by simp, hmany, fun _ h => (by cases h), List.nodup_nil, fun _ h => (by cases h), fun b hb => ?_⟩
    · have := hB.lt x hx
      simp only [List.mem_cons, List.not_mem_nil, or_false, not_or]
      omega
    · rw [hV0, hN3]; exact ((Boxed.new w2 _ _).alloc _).alloc _
    · rw [hV0, hN3]
      have := (Boxed.new (w2.alloc (.cells #[.pointer (some ⟨M, 0, none⟩)] 22)) 32 (.pointer (some ⟨R, 0, none⟩))).alloc (.cells #[.int .i64 0] 3)
      rwa [World.size_alloc] at this
    · rw [hV0, hN3]
      have := Boxed.new ((w2.alloc (.cells #[.pointer (some ⟨M, 0, none⟩)] 22)).alloc (.cells #[.pointer (some ⟨R, 0, none⟩)] 32)) 3 (.int .i64 0)
      rwa [World.size_alloc, World.size_alloc] at this
    · have hv : V0.heap.size = N3 + 1 + 1 + 1 := by rw [hV0, hN3]; simp
      simp only [List.mem_cons, List.not_mem_nil, or_false] at hb
      omega
  obtain ⟨t0, ht0⟩ : ∃ t0 : Int, t0 = 0 := ⟨0, rfl⟩
  rw [← ht0] at stV0
  have ht0b : 0 ≤ t0 ∧ t0 ≤ (L : Int) := by omega
  have HT0 := hid ht0
  obtain ⟨cn, hcn⟩ : ∃ cn : Int, cn = if 0 ≤ stop ∧ stop < (L : Int) then stop + 1 else L := ⟨_, rfl⟩
  have hcb : 0 ≤ cn ∧ cn ≤ (L : Int) := by rw [hcn]; split <;> omega
  have HCN := hid hcn
  have HV0 := hid hV0
  have HNe := hid hN3
  have ST := hid stV0
  clear ht0 hcn hB hb2 hb3 hsA hs2 hL hmany HS1 HS2 HR1 HBA HSZ HWA HFL stV0 hN3 hV0 hl hl' hn hn' hln
  go_wp2_with fail
  rw [← HV0.out, ← HNe.out]
  clear HV0 HNe
  have stV0 := ST.out
  refine wp_loop_rounds 3 ?_
  rw [rounds_succ]
  have hbm := stV0.bm.cell
  obtain ⟨U0, hU0⟩ : ∃ U0, U0 = V0.alloc (.cells #[.int .i64 0] 3) := ⟨_, rfl⟩
  have hbU0 : Below V0.heap.size V0 U0 := by rw [hU0]; exact (Below.refl _ _).alloc (Nat.le_refl _) _
  have hbiU0 : Boxed U0 V0.heap.size 3 (.int .i64 0) := by rw [hU0]; exact Boxed.new _ _ _
  have hszU0 : U0.heap.size = V0.heap.size + 1 := by rw [hU0]; simp
  have hbmU : (V0.alloc (.cells #[.int .i64 0] 3)).cell? ⟨N3, 0, none⟩ = some (.pointer (some ⟨M, 0, none⟩)) := by rw [← hU0]; exact Tfact' hbU0 (a := ⟨N3, 0, none⟩) stV0.bm.lt hbm
  have HU0 := hid hU0
  clear hU0
  go_wp2_with fail
  clear hbmU
  rw [← HU0.out]
  refine (TI.all_any U0 (some ⟨M, 0, none⟩)).mono ?_
  rintro e X0 ⟨rfl, hX0⟩
  have hbX0 : Below U0.heap.size U0 X0 := by rw [hX0]; exact (Below.refl _ _).alloc (Nat.le_refl _) _
  have cmX0 : X0.cell? ⟨V0.heap.size + 1, 0, none⟩ = some (.pointer (some ⟨M, 0, none⟩)) := by rw [← hszU0, hX0]; exact (Boxed.new U0 _ _).cell
  have hszX0 : X0.heap.size = V0.heap.size + 1 + 1 := by rw [hX0]; simp; omega
  have hbiX0 : Boxed X0 V0.heap.size 3 (.int .i64 0) := (hbX0.block _ (by omega)).trans hbiU0
  have hbtl := stV0.bt.lt
  have hhN := stV0.hN
  have hDl : ∀ d ∈ ([] : List Nat), d < V0.heap.size := fun d hd => (Array.getElem?_eq_some_iff.1 (stV0.ds d hd)).1
  have stX0 : ASt w X0 N3 M R stop ahead t0 T0 L (V0.heap.size :: (V0.heap.size + 1) :: [N3, N3 + 1, N3 + 1 + 1]) ([] : List Nat) X0.heap.size := by
    have h := stV0.below (hbU0.trans (hbX0.mono (by omega))) [V0.heap.size, V0.heap.size + 1] (fun b hb => by simp only [List.mem_cons, List.not_mem_nil, or_false] at hb; omega)
    exact ⟨h.ex, h.stp, h.ah, h.res, h.bm, h.br, h.bt, h.bel, h.ds, h.hN, h.b0, h.b1, h.b2, h.hn, h.nD, h.nd, fun d hd => by have := hDl d hd; omega, h.bl⟩
  clear hX0 hbm HU0 hbiU0 hbU0 hbX0
  go_wp2_with fail
  have hs60 : w.heap.size ≤ X0.heap.size := stX0.bel.size
  have hOI : OwnFrom X0.heap.size (fun (pre : List (Int × Int)) W => (ASt w W N3 M R stop ahead (t0 + (pre.length : Int)) T0 L (V0.heap.size :: (V0.heap.size + 1) :: [N3, N3 + 1, N3 + 1 + 1]) ([] : List Nat) X0.heap.size ∧ Boxed W V0.heap.size 3 (.int .i64 pre.length)) ∧ (pre.length ≤ L ∧ ∀ k : Nat, k < pre.length → (k : Int) ≠ stop)) :=
    OwnFrom.and (OwnFrom.and (fun _ _ _ _ h hg hr => h.abides hg hr hs60) (Own.from (boxed_own _ _ (fun (pre : List (Int × Int)) => .int .i64 pre.length)) _)) (ownFrom_pure _ _)
  have hOX : ∀ cd : Code, OwnFrom X0.heap.size (fun (pre : List (Int × Int)) W => ASt w W N3 M R stop ahead (t0 + (pre.length : Int)) T0 L (V0.heap.size :: (V0.heap.size + 1) :: [N3, N3 + 1, N3 + 1 + 1]) ([] : List Nat) X0.heap.size ∧ ((pre.length : Int) = stop + 1 ∧ 1 ≤ pre.length ∧ pre.length ≤ L ∧ cd = .exit 2)) :=
    fun cd => OwnFrom.and (fun _ _ _ _ h hg hr => h.abides hg hr hs60) (ownFrom_pure _ _)
  refine (wpIn_wide (n := 4)).1 ?_
  refine' range_law2 (gf := 78) (lb := #[.pointer (some ⟨V0.heap.size + 1, 0, none⟩)]) rfl (enters_of Try.func78 (by kernel_rfl) rfl) TI.encP (fun _ => rfl) 2 (fun W => ASt w W N3 M R stop ahead (t0 + cn) T0 L (V0.heap.size :: (V0.heap.size + 1) :: [N3, N3 + 1, N3 + 1 + 1]) ([] : List Nat) X0.heap.size)
    (fun (pre : List (Int × Int)) W => (ASt w W N3 M R stop ahead (t0 + (pre.length : Int)) T0 L (V0.heap.size :: (V0.heap.size + 1) :: [N3, N3 + 1, N3 + 1 + 1]) ([] : List Nat) X0.heap.size ∧ Boxed W V0.heap.size 3 (.int .i64 pre.length)) ∧ (pre.length ≤ L ∧ ∀ k : Nat, k < pre.length → (k : Int) ≠ stop))
    (fun cd (pre : List (Int × Int)) W => ASt w W N3 M R stop ahead (t0 + (pre.length : Int)) T0 L (V0.heap.size :: (V0.heap.size + 1) :: [N3, N3 + 1, N3 + 1 + 1]) ([] : List Nat) X0.heap.size ∧ ((pre.length : Int) = stop + 1 ∧ 1 ≤ pre.length ∧ pre.length ≤ L ∧ cd = .exit 2))
    (TI.Next T0) (fun xs => xs.length = T0.many) (fun _ => True) hOI hOX (next_own _ T0) ⟨⟨by simpa using stX0, by simpa using hbiX0⟩, by simp, fun k hk => absurd hk (by simp)⟩
    (fun l0 J Jx W hbW hJ _ hJI hY h0 => TI.all_now l0 (V0.heap.size + 1) M T0 J Jx W ((hbW.cell (p := ⟨V0.heap.size + 1, 0, none⟩) (by show V0.heap.size + 1 < X0.heap.size; omega)).trans cmX0) (by
      obtain ⟨T, kv, vv, l, h1, h2, _⟩ := (hJI [] W h0).1.1.ex
      rw [h1.mp.root]
      show some (Value.pointer _) = some (Value.pointer _)
      rw [h2.facts.2.2.1]) (fun pre W hj => by
      obtain ⟨T, kv, vv, l, h1, h2, _⟩ := (hJI pre W hj).1.1.ex
      exact TI.links_of h1.mp.held h2) (abides_drew hJ) hY h0)
    _ ?assign1 ?body1 ?pa1 ?pb1 (fun _ _ h => h) ?after1
  case assign1 =>
    intro l1 x W K hK
    gi_wp2
    exact hK
  case body1 =>
    rintro l1 pre ⟨x1, x2⟩ W ⟨⟨hst, hbi⟩, hpn, hns⟩ hnx
    obtain ⟨T, kv, vv, l, hB, hS, hF⟩ := hst.ex
    have hxl := nodes_at hB hS hnx
    have hlt := (List.getElem?_eq_some_iff.1 hxl).1
    have hlL : l.length = L := by rw [← hB.many, ← hS.facts.2.1]; exact hst.hn
    obtain ⟨A1, c1, A2, c2, rfl, rfl, _, _, _, _, hRk, hRv⟩ := hB.rf.read
    obtain ⟨bk, ok, bv, ov, y1, y2, hxy, hA1, hA2, _, _, hck, hcv⟩ := ref_at hRk hRv pre.length hlt
    obtain ⟨rfl, rfl⟩ : y1 = x1 ∧ y2 = x2 := by have := hxy.out.symm.trans hxl; cases this; exact ⟨rfl, rfl⟩
    have hR1 := hB.rf.c1
    have hR2 := hB.rf.c2
    have hci := hbi.cell
    have hfi := hbi.frozen
    have hct := hst.bt.cell
    have hft := hst.bt.frozen
    have hcs := hst.stp.cell
    have hca := hst.ah.cell
    have hcm := hst.bm.cell
    have hcr := hst.br.cell
    rw [hA1] at hR1
    rw [hA2] at hR2
    rw [hlL] at hR1 hR2
    have hltL : pre.length < L := by omega
    have hii : (pre.length : Int) < (L : Int) := by omega
    have hge : decide (L ≤ pre.length) = false := by simp; omega
    have hge2 : decide ((L : Int) ≤ (pre.length : Int)) = false := by simp; omega
    have HLL := hid hlL
    have HST : Hid (∀ q, ASt w (W.drewN q) N3 M R stop ahead (t0 + (pre.length : Int)) T0 L (V0.heap.size :: (V0.heap.size + 1) :: [N3, N3 + 1, N3 + 1 + 1]) ([] : List Nat) X0.heap.size) := fun q => hst.drewN q
    have HBI : Hid (Boxed W V0.heap.size 3 (.int .i64 pre.length)) := hbi
    have HNS := hid hns
    have HXL := hid hxl
    have HBB := hid hB
    have HSS := hid hS
    have HFF := hid hF
    clear hxy hRk hRv hF hnx hns hOI hOX hst hbi hlL hlt
    gi_wp2_with fail
    refine still_in_round (by kernel_rfl) (by kernel_rfl) (by kernel_rfl) ?_
    repeat still_step
    refine wpStill_nil ?_
    change Exit.then _ _ _ _ (World.drew W)
    have hst := HST.out 1
    have hbi : Boxed (World.drew W) V0.heap.size 3 (.int .i64 pre.length) := HBI.out
    have hB := HBB.out.drewN 1
    replace hck : (World.drew W).cell? _ = _ := hck
    replace hcv : (World.drew W).cell? _ = _ := hcv
    replace hR1 : (World.drew W).cell? _ = _ := hR1
    replace hR2 : (World.drew W).cell? _ = _ := hR2
    replace hci : (World.drew W).cell? _ = _ := hci
    replace hct : (World.drew W).cell? _ = _ := hct
    replace hcs : (World.drew W).cell? _ = _ := hcs
    replace hfi : (World.drew W).frozen? _ = _ := hfi
    replace hft : (World.drew W).frozen? _ = _ := hft
    change ASt w (World.drew W) N3 M R stop ahead (t0 + (pre.length : Int)) T0 L (V0.heap.size :: (V0.heap.size + 1) :: [N3, N3 + 1, N3 + 1 + 1]) ([] : List Nat) X0.heap.size at hst
    change Both (World.drew W) _ _ _ _ _ _ _ _ _ _ at hB
    have hdr : KeepsOthers W (World.drew W) := KeepsOthers.drew W
    have HSTb := hid hst
    have HBIb := hid hbi
    have HB2 := hid hB
    have HDR := hid hdr
    clear HST HBI HBB hst hbi hB hdr hca hcm hcr
    generalize World.drew W = W2 at *
    have hwt : IntKind.i64.wrap (t0 + (pre.length : Int) + 1) = t0 + (pre.length : Int) + 1 := wrap_mid _ (by omega) (by omega)
    have hwt0 : IntKind.i64.wrap ((pre.length : Int) + 1) = (pre.length : Int) + 1 := wrap_mid _ (by omega) (by omega)
    have HLN : Hid (t0 + (((pre ++ [(y1, y2)]).length : Nat) : Int) = t0 + (pre.length : Int) + 1) := by show _ = _; simp; omega
    have HLN2 : Hid ((((pre ++ [(y1, y2)]).length : Nat) : Int) = (pre.length : Int) + 1) := by show _ = _; simp
    by_cases h3 : (pre.length : Int) = stop
    · have e3 : ((pre.length : Int) == stop) = true := by simp [h3]
      have H3 := hid h3
      clear h3
      gi_wp2_with fail
      refine ⟨(HDR.out.trans (KeepsOthers.setCell _ _ _)).from _, ?_, ?_⟩
      · rw [HLN.out]; exact HSTb.out.told' _
      · have := H3.out; exact ⟨by rw [HLN2.out]; omega, by rw [List.length_append, List.length_singleton]; omega, by rw [List.length_append, List.length_singleton]; omega, rfl⟩
    · have e3 : ((pre.length : Int) == stop) = false := by simp [h3]
      have HNS3 : Hid (∀ k : Nat, k < (pre ++ [(y1, y2)]).length → (k : Int) ≠ stop) := fun k hk => by
        simp only [List.length_append, List.length_singleton] at hk
        rcases Nat.lt_or_ge k pre.length with h | h
        · exact HNS.out k h
        · obtain rfl : k = pre.length := by omega
          exact h3
      have HPL : Hid ((pre ++ [(y1, y2)]).length ≤ L) := by show _ ≤ _; rw [List.length_append, List.length_singleton]; omega
      clear h3
      gi_wp2_with fail
      have st3 := HSTb.out.told' (t0 + (pre.length : Int) + 1)
      have hfn2 : ∀ x, footB M T R (.slice A1 l.length c1) (.slice A2 l.length c2) x → x ≠ N3 + 1 + 1 := fun x hx e => HFF.out x hx (e ▸ HSTb.out.b2)
      have hni2 : V0.heap.size ≠ N3 + 1 + 1 := by have := stV0.bt.lt; omega
      have hB3 := HB2.out.wrote (S := fun x => x = N3 + 1 + 1) ((Wrote.refl (fun x => x = N3 + 1 + 1) W2).setCell (p := ⟨N3 + 1 + 1, 0, none⟩) (.inl rfl) (.int .i64 (t0 + (pre.length : Int) + 1))) hfn2
      have hbi3 := HBIb.out.other hni2 (.int .i64 (t0 + (pre.length : Int) + 1))
      have hdr3 := HDR.out.trans (KeepsOthers.setCell W2 ⟨N3 + 1 + 1, 0, none⟩ (.int .i64 (t0 + (pre.length : Int) + 1)))
      clear hck hcv hR1 hR2 hci hct hcs hfi hft HSTb HBIb HB2 HDR hwt hge hge2 e3 hfn2 hni2
      generalize W2.setCell ⟨N3 + 1 + 1, 0, none⟩ (.int .i64 (t0 + (pre.length : Int) + 1)) = W3 at *
      have ST3 := hid st3
      have HB3 := hid hB3
      have HBI3 := hid hbi3
      have HDR3 := hid hdr3
      have dci := hbi3.cell
      have dca := st3.ah.cell
      have dcr := st3.br.cell
      have dR1 := hB3.rf.c1
      rw [HLL.out] at dR1
      have hws : IntKind.i64.wrap ((L : Int) - (pre.length : Int)) = (L : Int) - (pre.length : Int) := wrap_mid _ (by omega) (by omega)
      clear st3 hB3 hbi3 hdr3
      by_cases ha : 0 < ahead
      · by_cases hb : ahead < (L : Int) - (pre.length : Int)
        · by_cases hc : (pre.length : Int) < 40
          · skip
            gi_wp2_with fail
            refine quiet_in_round (by kernel_rfl) (by kernel_rfl) (by kernel_rfl) ?_
            repeat (quiet_step (fail))
            refine wpQuiet_nil ?_
            rintro _ ⟨nq, rfl⟩
            have st4 := ST3.out.drewN (nq + 1)
            have hbi4 : Boxed (W3.drewN (nq + 1)) V0.heap.size 3 (.int .i64 pre.length) := HBI3.out
            have hdr4 : KeepsOthers W (W3.drewN (nq + 1)) := ⟨HDR3.out.size, HDR3.out.same⟩
            have hB4 := HB3.out.drewN (nq + 1)
            have hdrew : World.drew (W3.drewN nq) = W3.drewN (nq + 1) := rfl
            have HDW : Hid (∀ (a : Addr) v, (W3.drewN (nq + 1)).cell? a = some v → (W3.drewN nq).cell? a = some v) := fun _ _ h => h
            clear ST3 HB3 HBI3 HDR3 dci dca dcr dR1
            generalize W3.drewN (nq + 1) = W5 at *
            generalize W3.drewN nq = W4 at *
            obtain ⟨aa, haa⟩ : ∃ aa : Nat, ahead = (aa : Int) := ⟨ahead.toNat, by omega⟩
            obtain ⟨jx, hje⟩ : ∃ jx, jx = pre.length + aa := ⟨_, rfl⟩
            have hjx : jx < L := by omega
            obtain ⟨Ax, cx, Ay, cy, ek1, ek2, _, _, _, _, hRk, hRv⟩ := hB4.rf.read
            cases ek1
            cases ek2
            obtain ⟨b1, o1, b2, o2, kx, vx, hkx, hAx, hAy, _, _, hckx, hcvx⟩ := ref_at hRk hRv jx (by rw [HLL.out]; exact hjx)
            have eci := hbi4.cell
            have eca := st4.ah.cell
            have ecm := st4.bm.cell
            have ecr := st4.br.cell
            have eR1 := hB4.rf.c1
            rw [HLL.out, hAx] at eR1
            have fci := HDW.out _ _ eci
            have fca := HDW.out _ _ eca
            have fcm := HDW.out _ _ ecm
            have fcr := HDW.out _ _ ecr
            have fR1 := HDW.out _ _ eR1
            have fck := HDW.out _ _ hckx
            have hwa : IntKind.i64.wrap ((pre.length : Int) + ahead) = (jx : Int) := by rw [haa]; rw [wrap_mid _ (by omega) (by omega)]; omega
            have hwk : IntKind.i64.wrap (1000 + (pre.length : Int)) = 1000 + (pre.length : Int) := wrap_mid _ (by omega) (by omega)
            have hix : (jx : Int) < (L : Int) := by omega
            have hmm : T.many ≤ 70368744177664 := by rw [hB4.many, HLL.out]; omega
            have HPUT := hid (TI.mapPut_any 76 #[] (ordI 0) (fun _ => True) (fun _ => False) HORD.out W5 M T kx (1000 + (pre.length : Int)) hB4.mp hmm trivial (fun _ _ => id) id)
            have HST4 := hid st4
            have HBI4 := hid hbi4
            have HDR4 := hid hdr4
            have HB4 := hid hB4
            have HKX := hid hkx
            have HAX := hid hAx
            have HCK := hid hckx
            have HDW2 := hid hdrew
            clear HDW st4 hbi4 hdr4 hB4 hkx hAx hAy hckx hcvx hRk hRv haa hje hjx ha hb hc hmm eci eca ecm ecr eR1 hdrew
            gi_wp2_with fail
            refine tail_in_round 12 (by kernel_rfl) (by kernel_rfl) (by kernel_rfl) ?_
            simp only [List.take_succ_cons, List.take_zero, List.drop_succ_cons, List.drop_zero]
            repeat still_step
            refine wpStill_nil ?_
            change wpListIn _ _ _ _ _ _ _ (World.drew W4)
            rw [HDW2.out]
            gi_wp2_with fail
            refine ⟨trivial, (calls_in_round HPUT.out).mono ?_⟩
            rintro e W6 ⟨nb, g1, rfl, g2, g3, -⟩
            have hB5 := HB4.out
            have hbx : ∀ b ∈ (V0.heap.size :: (V0.heap.size + 1) :: [N3, N3 + 1, N3 + 1 + 1]), ¬ (b = M ∨ b ∈ T.blocks) := fun b hb hf => HFF.out b (.inl hf) hb
            have hlo : ∀ b, b < w.heap.size + 3 → ¬ (b = M ∨ b ∈ T.blocks) := fun b hb hf => by have := hB5.ge b (.inl hf); omega
            have bm6 := Boxed.cell (show Boxed W6 N3 22 (.pointer (some ⟨M, 0, none⟩)) from (g3.block _ HST4.out.bm.lt (hbx _ HST4.out.b0)).trans HST4.out.bm)
            have br6 := Boxed.cell (show Boxed W6 (N3 + 1) 32 (.pointer (some ⟨R, 0, none⟩)) from (g3.block _ HST4.out.br.lt (hbx _ HST4.out.b1)).trans HST4.out.br)
            have ba6 := Boxed.cell (show Boxed W6 (w.heap.size + 1) 3 (.int .i64 ahead) from (g3.block _ HST4.out.ah.lt (hlo _ (by omega))).trans HST4.out.ah)
            have bi6 := Boxed.cell (show Boxed W6 V0.heap.size 3 (.int .i64 pre.length) from (g3.block _ HBI4.out.lt (hbx _ (by simp))).trans HBI4.out)
            have hrf6 := hB5.ref1 g3
            have r16 := hrf6.c1
            have hb1f : ¬ (b1 = M ∨ b1 ∈ T.blocks) := by
              obtain ⟨q1, q2⟩ := hB5.apart b1 (.inr (.inl (by rw [HAX.out]; rfl)))
              exact fun e => e.elim q1 q2
            have ck6 := g3.cell (p := ⟨b1, o1 + jx, none⟩) hb1f HCK.out
            rw [HLL.out, HAX.out] at r16
            have hsz6 : w.heap.size + 3 ≤ W6.heap.size := by have := HST4.out.bm.lt; have := HST4.out.hN; have := g3.size; omega
            have HRP := hid (refPut_any (W6.drewN 1) (w.heap.size + 3) R 0 _ _ l kx (1000 + (pre.length : Int)) (hrf6.drewN 1) hB5.up hsz6 (by rw [HLL.out]; omega))
            have hB5s : w.heap.size + 3 ≤ W5.heap.size := by have := HST4.out.bm.lt; have := HST4.out.hN; omega
            have G1 := hid g1
            have G2 := hid g2
            have G3 := hid g3
            clear g1 g2 g3 hbx hlo hb1f hrf6 hsz6 hB5 HPUT fci fca fcm fcr fR1 fck
            gi_wp2_with fail
            refine tail_in_round 12 (by kernel_rfl) (by kernel_rfl) (by kernel_rfl) ?_
            simp only [List.take_succ_cons, List.take_zero, List.drop_succ_cons, List.drop_zero]
            repeat still_step
            refine wpStill_nil ?_
            change wpListIn _ _ _ _ _ _ _ (W6.drewN 1)
            gi_wp2_with fail
            refine ⟨trivial, (calls_in_round HRP.out).mono ?_⟩
            rintro e W8 ⟨kv8, vv8, rfl, k1, k2, k3⟩
            obtain ⟨s1, s2, s3, s4⟩ := both_again HB4.out hB5s G1.out G2.out G3.out ⟨vx, List.mem_of_getElem? HKX.out⟩ k1 (((Wrote.refl _ W6).drewN 1).trans k2) k3
            have ST8 := hid (HST4.out.puts HB4.out HFF.out s1 (HSS.out.trans s2) s3 s4 (fun d hd hf => by
              obtain ⟨o, h1, h2⟩ := HB4.out.cells d hf
              rw [HST4.out.ds d hd] at h1
              cases h1
              cases h2) HB4.out.ge)
            have HBI8 : Hid (Boxed W8 V0.heap.size 3 (.int .i64 pre.length)) := (s3.block _ HBI4.out.lt (fun hf => HFF.out _ hf (by simp))).trans HBI4.out
            have HDR8 := hid (HDR4.out.trans (keepsOthers_wrote s3 HB4.out.cells))
            clear s1 s2 s3 s4 k1 k2 k3 HRP HB4 HST4 HBI4 HDR4 G1 G2 G3 bm6 br6 ba6 bi6 r16 ck6
            have eci := HBI8.out.cell
            have efi := HBI8.out.frozen
            gi_wp2_with fail
            refine ⟨(HDR8.out.trans (KeepsOthers.setCell _ _ _)).from _, trivial, ⟨?_, ?_⟩, HPL.out, HNS3.out⟩
            · rw [HLN.out]; exact ST8.out.other (by simp) (by have := stV0.bt.lt; omega) (fun hd => by have := hDl _ hd; omega) _
            · rw [HLN2.out]; exact HBI8.out.set _
          · have hc2 : decide ((pre.length : Int) < 40) = false := by simp; omega
            clear hc
            gi_wp2_with fail
            refine quiet_in_round (by kernel_rfl) (by kernel_rfl) (by kernel_rfl) ?_
            repeat (quiet_step (fail))
            refine wpQuiet_nil ?_
            rintro _ ⟨nq, rfl⟩
            have ST4 := hid (ST3.out.drewN nq)
            have HBI4 : Hid (Boxed (W3.drewN nq) V0.heap.size 3 (.int .i64 pre.length)) := HBI3.out
            have HDR4 : Hid (KeepsOthers W (W3.drewN nq)) := hid ⟨HDR3.out.size, HDR3.out.same⟩
            change Hid (ASt w (W3.drewN nq) _ _ _ _ _ _ _ _ _ _ _) at ST4
            clear ST3 HB3 HBI3 HDR3 dci dca dcr dR1
            generalize W3.drewN nq = W4 at *
            have eci := HBI4.out.cell
            have efi := HBI4.out.frozen
            gi_wp2_with fail
            refine ⟨(HDR4.out.trans (KeepsOthers.setCell _ _ _)).from _, trivial, ⟨?_, ?_⟩, HPL.out, HNS3.out⟩
            · rw [HLN.out]; exact ST4.out.other (by simp) (by have := stV0.bt.lt; omega) (fun hd => by have := hDl _ hd; omega) _
            · rw [HLN2.out]; exact HBI4.out.set _
        · have hb2 : decide (ahead < (L : Int) - (pre.length : Int)) = false := by simp; omega
          clear hb
          gi_wp2_with fail
          refine quiet_in_round (by kernel_rfl) (by kernel_rfl) (by kernel_rfl) ?_
          repeat (quiet_step (fail))
          refine wpQuiet_nil ?_
          rintro _ ⟨nq, rfl⟩
          have ST4 := hid (ST3.out.drewN nq)
          have HBI4 : Hid (Boxed (W3.drewN nq) V0.heap.size 3 (.int .i64 pre.length)) := HBI3.out
          have HDR4 : Hid (KeepsOthers W (W3.drewN nq)) := hid ⟨HDR3.out.size, HDR3.out.same⟩
          change Hid (ASt w (W3.drewN nq) _ _ _ _ _ _ _ _ _ _ _) at ST4
          clear ST3 HB3 HBI3 HDR3 dci dca dcr dR1
          generalize W3.drewN nq = W4 at *
          have eci := HBI4.out.cell
          have efi := HBI4.out.frozen
          gi_wp2_with fail
          refine ⟨(HDR4.out.trans (KeepsOthers.setCell _ _ _)).from _, trivial, ⟨?_, ?_⟩, HPL.out, HNS3.out⟩
          · rw [HLN.out]; exact ST4.out.other (by simp) (by have := stV0.bt.lt; omega) (fun hd => by have := hDl _ hd; omega) _
          · rw [HLN2.out]; exact HBI4.out.set _
      · skip
        gi_wp2_with fail
        refine quiet_in_round (by kernel_rfl) (by kernel_rfl) (by kernel_rfl) ?_
        quiet_step (fail)
        quiet_step (fail)
        quiet_step (fail)
        refine wpQuiet_step (fun K hK => ?_)
        go_simp
        rw [if_neg (show ¬ 0 < ahead by omega)]
        refine hK _ ?_
        clear hK K
        refine wpQuiet_step (fun K hK => ?_)
        go_simp
        rw [if_neg (show ¬ 0 < ahead by omega)]
        refine hK _ ?_
        clear hK K
        refine wpQuiet_step (fun K hK => ?_)
        go_simp
        rw [if_neg (show ¬ 0 < ahead by omega)]
        refine hK _ ?_
        clear hK K
        refine wpQuiet_step (fun K hK => ?_)
        go_simp
        rw [if_neg (show ¬ 0 < ahead by omega)]
        refine hK _ ?_
        clear hK K
        refine wpQuiet_step (fun K hK => ?_)
        go_simp
        rw [if_neg (show ¬ 0 < ahead by omega)]
        refine hK _ ?_
        clear hK K
        refine wpQuiet_step (fun K hK => ?_)
        go_simp
        rw [if_neg (show ¬ 0 < ahead by omega)]
        refine hK _ ?_
        clear hK K
        refine wpQuiet_step (fun K hK => ?_)
        go_simp
        rw [if_neg (show ¬ 0 < ahead by omega)]
        refine hK _ ?_
        clear hK K
        refine wpQuiet_step (fun K hK => ?_)
        go_simp
        rw [if_neg (show ¬ 0 < ahead by omega)]
        refine hK _ ?_
        clear hK K
        refine wpQuiet_step (fun K hK => ?_)
        go_simp
        rw [if_neg (show ¬ 0 < ahead by omega)]
        refine hK _ ?_
        clear hK K
        quiet_step (fail)
        simp only [if_neg (show ¬ 0 < ahead by omega)]
        quiet_step (fail)
        quiet_step (fail)
        quiet_step (fail)
        quiet_step (fail)
        refine wpQuiet_nil ?_
        rintro _ ⟨nq, rfl⟩
        have ST4 := hid (ST3.out.drewN nq)
        have HBI4 : Hid (Boxed (W3.drewN nq) V0.heap.size 3 (.int .i64 pre.length)) := HBI3.out
        have HDR4 : Hid (KeepsOthers W (W3.drewN nq)) := hid ⟨HDR3.out.size, HDR3.out.same⟩
        change Hid (ASt w (W3.drewN nq) _ _ _ _ _ _ _ _ _ _ _) at ST4
        clear ST3 HB3 HBI3 HDR3 dci dca dcr dR1
        generalize W3.drewN nq = W4 at *
        have eci := HBI4.out.cell
        have efi := HBI4.out.frozen
        gi_wp2_with fail
        refine ⟨(HDR4.out.trans (KeepsOthers.setCell _ _ _)).from _, trivial, ⟨?_, ?_⟩, HPL.out, HNS3.out⟩
        · rw [HLN.out]; exact ST4.out.other (by simp) (by have := stV0.bt.lt; omega) (fun hd => by have := hDl _ hd; omega) _
        · rw [HLN2.out]; exact HBI4.out.set _
  case pa1 =>
    rintro xs W hxs ⟨⟨hst, hbi⟩, hpn, hns⟩
    have htl : t0 + (xs.length : Int) = t0 + cn := by
      have h1 := HCN.out
      rw [if_neg (fun h => hns stop.toNat (by rw [hxs, stX0.hn]; omega) (by omega))] at h1
      rw [h1, hxs, stX0.hn]
    rw [htl] at hst
    exact hst
  case pb1 =>
    rintro cd pre W - ⟨hst, hps, hp1, hpL, rfl⟩
    have htl : t0 + (pre.length : Int) = t0 + cn := by
      have h1 := HCN.out
      rw [if_pos (by omega)] at h1
      omega
    rw [htl] at hst
    exact ⟨rfl, hst⟩
  case after1 =>
    rintro D0 W hD hst hKD
    have stV1 : ASt w W N3 M R stop ahead (cn) T0 L (V0.heap.size :: (V0.heap.size + 1) :: [N3, N3 + 1, N3 + 1 + 1]) [D0] (D0 + 1) := by
      have h := hst.more hKD (by omega) (fun d hd => by have := hDl d hd; omega) (Nat.lt_succ_self D0)
      have e : t0 + cn = cn := by have := HT0.out; omega
      rw [e] at h
      exact h
    obtain ⟨V1, hV1⟩ : ∃ V, V = W := ⟨_, rfl⟩
    rw [← hV1] at stV1 ⊢
    clear hst hKD hOI hOX hs60 hDl hbtl hhN cmX0 stX0 hbiX0 hV1
    go_wp2_with fail
    rw [rounds_succ]
    have hbm := stV1.bm.cell
    obtain ⟨U1, hU1⟩ : ∃ U1, U1 = V1.alloc (.cells #[.int .i64 0] 3) := ⟨_, rfl⟩
    have hbU1 : Below V1.heap.size V1 U1 := by rw [hU1]; exact (Below.refl _ _).alloc (Nat.le_refl _) _
    have hbiU1 : Boxed U1 V1.heap.size 3 (.int .i64 0) := by rw [hU1]; exact Boxed.new _ _ _
    have hszU1 : U1.heap.size = V1.heap.size + 1 := by rw [hU1]; simp
    have hbmU : (V1.alloc (.cells #[.int .i64 0] 3)).cell? ⟨N3, 0, none⟩ = some (.pointer (some ⟨M, 0, none⟩)) := by rw [← hU1]; exact Tfact' hbU1 (a := ⟨N3, 0, none⟩) stV1.bm.lt hbm
    have HU1 := hid hU1
    clear hU1
    go_wp2_with fail
    clear hbmU
    rw [← HU1.out]
    refine (TI.all_any U1 (some ⟨M, 0, none⟩)).mono ?_
    rintro e X1 ⟨rfl, hX1⟩
    have hbX1 : Below U1.heap.size U1 X1 := by rw [hX1]; exact (Below.refl _ _).alloc (Nat.le_refl _) _
    have cmX1 : X1.cell? ⟨V1.heap.size + 1, 0, none⟩ = some (.pointer (some ⟨M, 0, none⟩)) := by rw [← hszU1, hX1]; exact (Boxed.new U1 _ _).cell
    have hszX1 : X1.heap.size = V1.heap.size + 1 + 1 := by rw [hX1]; simp; omega
    have hbiX1 : Boxed X1 V1.heap.size 3 (.int .i64 0) := (hbX1.block _ (by omega)).trans hbiU1
    have hbtl := stV1.bt.lt
    have hhN := stV1.hN
    have hDl : ∀ d ∈ [D0], d < V1.heap.size := fun d hd => (Array.getElem?_eq_some_iff.1 (stV1.ds d hd)).1
    have stX1 : ASt w X1 N3 M R stop ahead cn T0 L (V1.heap.size :: (V1.heap.size + 1) :: (V0.heap.size :: (V0.heap.size + 1) :: [N3, N3 + 1, N3 + 1 + 1])) [D0] X1.heap.size := by
      have h := stV1.below (hbU1.trans (hbX1.mono (by omega))) [V1.heap.size, V1.heap.size + 1] (fun b hb => by simp only [List.mem_cons, List.not_mem_nil, or_false] at hb; omega)
      exact ⟨h.ex, h.stp, h.ah, h.res, h.bm, h.br, h.bt, h.bel, h.ds, h.hN, h.b0, h.b1, h.b2, h.hn, h.nD, h.nd, fun d hd => by have := hDl d hd; omega, h.bl⟩
    clear hX1 hbm HU1 hbiU1 hbU1 hbX1
    go_wp2_with fail
    have hs60 : w.heap.size ≤ X1.heap.size := stX1.bel.size
    have hOI : OwnFrom X1.heap.size (fun (pre : List (Int × Int)) W => (ASt w W N3 M R stop ahead (cn + (pre.length : Int)) T0 L (V1.heap.size :: (V1.heap.size + 1) :: (V0.heap.size :: (V0.heap.size + 1) :: [N3, N3 + 1, N3 + 1 + 1])) [D0] X1.heap.size ∧ Boxed W V1.heap.size 3 (.int .i64 pre.length)) ∧ (pre.length ≤ L ∧ ∀ k : Nat, k < pre.length → (k : Int) ≠ stop)) :=
      OwnFrom.and (OwnFrom.and (fun _ _ _ _ h hg hr => h.abides hg hr hs60) (Own.from (boxed_own _ _ (fun (pre : List (Int × Int)) => .int .i64 pre.length)) _)) (ownFrom_pure _ _)
    have hOX : ∀ cd : Code, OwnFrom X1.heap.size (fun (pre : List (Int × Int)) W => ASt w W N3 M R stop ahead (cn + (pre.length : Int)) T0 L (V1.heap.size :: (V1.heap.size + 1) :: (V0.heap.size :: (V0.heap.size + 1) :: [N3, N3 + 1, N3 + 1 + 1])) [D0] X1.heap.size ∧ ((pre.length : Int) = stop + 1 ∧ 1 ≤ pre.length ∧ pre.length ≤ L ∧ cd = .exit 2)) :=
      fun cd => OwnFrom.and (fun _ _ _ _ h hg hr => h.abides hg hr hs60) (ownFrom_pure _ _)
    refine (wpIn_wide (n := 4)).1 ?_
    refine' range_law2 (gf := 78) (lb := #[.pointer (some ⟨V1.heap.size + 1, 0, none⟩)]) rfl (enters_of Try.func78 (by kernel_rfl) rfl) TI.encP (fun _ => rfl) 2 (fun W => ASt w W N3 M R stop ahead (cn + cn) T0 L (V1.heap.size :: (V1.heap.size + 1) :: (V0.heap.size :: (V0.heap.size + 1) :: [N3, N3 + 1, N3 + 1 + 1])) [D0] X1.heap.size)
      (fun (pre : List (Int × Int)) W => (ASt w W N3 M R stop ahead (cn + (pre.length : Int)) T0 L (V1.heap.size :: (V1.heap.size + 1) :: (V0.heap.size :: (V0.heap.size + 1) :: [N3, N3 + 1, N3 + 1 + 1])) [D0] X1.heap.size ∧ Boxed W V1.heap.size 3 (.int .i64 pre.length)) ∧ (pre.length ≤ L ∧ ∀ k : Nat, k < pre.length → (k : Int) ≠ stop))
      (fun cd (pre : List (Int × Int)) W => ASt w W N3 M R stop ahead (cn + (pre.length : Int)) T0 L (V1.heap.size :: (V1.heap.size + 1) :: (V0.heap.size :: (V0.heap.size + 1) :: [N3, N3 + 1, N3 + 1 + 1])) [D0] X1.heap.size ∧ ((pre.length : Int) = stop + 1 ∧ 1 ≤ pre.length ∧ pre.length ≤ L ∧ cd = .exit 2))
      (TI.Next T0) (fun xs => xs.length = T0.many) (fun _ => True) hOI hOX (next_own _ T0) ⟨⟨by simpa using stX1, by simpa using hbiX1⟩, by simp, fun k hk => absurd hk (by simp)⟩
      (fun l0 J Jx W hbW hJ _ hJI hY h0 => TI.all_now l0 (V1.heap.size + 1) M T0 J Jx W ((hbW.cell (p := ⟨V1.heap.size + 1, 0, none⟩) (by show V1.heap.size + 1 < X1.heap.size; omega)).trans cmX1) (by
        obtain ⟨T, kv, vv, l, h1, h2, _⟩ := (hJI [] W h0).1.1.ex
        rw [h1.mp.root]
        show some (Value.pointer _) = some (Value.pointer _)
        rw [h2.facts.2.2.1]) (fun pre W hj => by
        obtain ⟨T, kv, vv, l, h1, h2, _⟩ := (hJI pre W hj).1.1.ex
        exact TI.links_of h1.mp.held h2) (abides_drew hJ) hY h0)
      _ ?assign2 ?body2 ?pa2 ?pb2 (fun _ _ h => h) ?after2
    case assign2 =>
      intro l1 x W K hK
      gi_wp2
      exact hK
    case body2 =>
      rintro l1 pre ⟨x1, x2⟩ W ⟨⟨hst, hbi⟩, hpn, hns⟩ hnx
      obtain ⟨T, kv, vv, l, hB, hS, hF⟩ := hst.ex
      have hxl := nodes_at hB hS hnx
      have hlt := (List.getElem?_eq_some_iff.1 hxl).1
      have hlL : l.length = L := by rw [← hB.many, ← hS.facts.2.1]; exact hst.hn
      obtain ⟨A1, c1, A2, c2, rfl, rfl, _, _, _, _, hRk, hRv⟩ := hB.rf.read
      obtain ⟨bk, ok, bv, ov, y1, y2, hxy, hA1, hA2, _, _, hck, hcv⟩ := ref_at hRk hRv pre.length hlt
      obtain ⟨rfl, rfl⟩ : y1 = x1 ∧ y2 = x2 := by have := hxy.out.symm.trans hxl; cases this; exact ⟨rfl, rfl⟩
      have hR1 := hB.rf.c1
      have hR2 := hB.rf.c2
      have hci := hbi.cell
      have hfi := hbi.frozen
      have hct := hst.bt.cell
      have hft := hst.bt.frozen
      have hcs := hst.stp.cell
      have hca := hst.ah.cell
      have hcm := hst.bm.cell
      have hcr := hst.br.cell
      rw [hA1] at hR1
      rw [hA2] at hR2
      rw [hlL] at hR1 hR2
      have hltL : pre.length < L := by omega
      have hii : (pre.length : Int) < (L : Int) := by omega
      have hge : decide (L ≤ pre.length) = false := by simp; omega
      have hge2 : decide ((L : Int) ≤ (pre.length : Int)) = false := by simp; omega
      have HLL := hid hlL
      have HST : Hid (∀ q, ASt w (W.drewN q) N3 M R stop ahead (cn + (pre.length : Int)) T0 L (V1.heap.size :: (V1.heap.size + 1) :: (V0.heap.size :: (V0.heap.size + 1) :: [N3, N3 + 1, N3 + 1 + 1])) [D0] X1.heap.size) := fun q => hst.drewN q
      have HBI : Hid (Boxed W V1.heap.size 3 (.int .i64 pre.length)) := hbi
      have HNS := hid hns
      have HXL := hid hxl
      have HBB := hid hB
      have HSS := hid hS
      have HFF := hid hF
      clear hxy hRk hRv hF hnx hns hOI hOX hst hbi hlL hlt
      gi_wp2_with fail
      refine still_in_round (by kernel_rfl) (by kernel_rfl) (by kernel_rfl) ?_
      repeat still_step
      refine wpStill_nil ?_
      change Exit.then _ _ _ _ (World.drew W)
      have hst := HST.out 1
      have hbi : Boxed (World.drew W) V1.heap.size 3 (.int .i64 pre.length) := HBI.out
      have hB := HBB.out.drewN 1
      replace hck : (World.drew W).cell? _ = _ := hck
      replace hcv : (World.drew W).cell? _ = _ := hcv
      replace hR1 : (World.drew W).cell? _ = _ := hR1
      replace hR2 : (World.drew W).cell? _ = _ := hR2
      replace hci : (World.drew W).cell? _ = _ := hci
      replace hct : (World.drew W).cell? _ = _ := hct
      replace hcs : (World.drew W).cell? _ = _ := hcs
      replace hfi : (World.drew W).frozen? _ = _ := hfi
      replace hft : (World.drew W).frozen? _ = _ := hft
      change ASt w (World.drew W) N3 M R stop ahead (cn + (pre.length : Int)) T0 L (V1.heap.size :: (V1.heap.size + 1) :: (V0.heap.size :: (V0.heap.size + 1) :: [N3, N3 + 1, N3 + 1 + 1])) [D0] X1.heap.size at hst
      change Both (World.drew W) _ _ _ _ _ _ _ _ _ _ at hB
      have hdr : KeepsOthers W (World.drew W) := KeepsOthers.drew W
      have HSTb := hid hst
      have HBIb := hid hbi
      have HB2 := hid hB
      have HDR := hid hdr
      clear HST HBI HBB hst hbi hB hdr hca hcm hcr
      generalize World.drew W = W2 at *
      have hwt : IntKind.i64.wrap (cn + (pre.length : Int) + 1) = cn + (pre.length : Int) + 1 := wrap_mid _ (by omega) (by omega)
      have hwt0 : IntKind.i64.wrap ((pre.length : Int) + 1) = (pre.length : Int) + 1 := wrap_mid _ (by omega) (by omega)
      have HLN : Hid (cn + (((pre ++ [(y1, y2)]).length : Nat) : Int) = cn + (pre.length : Int) + 1) := by show _ = _; simp; omega
      have HLN2 : Hid ((((pre ++ [(y1, y2)]).length : Nat) : Int) = (pre.length : Int) + 1) := by show _ = _; simp
      by_cases h3 : (pre.length : Int) = stop
      · have e3 : ((pre.length : Int) == stop) = true := by simp [h3]
        have H3 := hid h3
        clear h3
        gi_wp2_with fail
        refine ⟨(HDR.out.trans (KeepsOthers.setCell _ _ _)).from _, ?_, ?_⟩
        · rw [HLN.out]; exact HSTb.out.told' _
        · have := H3.out; exact ⟨by rw [HLN2.out]; omega, by rw [List.length_append, List.length_singleton]; omega, by rw [List.length_append, List.length_singleton]; omega, rfl⟩
      · have e3 : ((pre.length : Int) == stop) = false := by simp [h3]
        have HNS3 : Hid (∀ k : Nat, k < (pre ++ [(y1, y2)]).length → (k : Int) ≠ stop) := fun k hk => by
          simp only [List.length_append, List.length_singleton] at hk
          rcases Nat.lt_or_ge k pre.length with h | h
          · exact HNS.out k h
          · obtain rfl : k = pre.length := by omega
            exact h3
        have HPL : Hid ((pre ++ [(y1, y2)]).length ≤ L) := by show _ ≤ _; rw [List.length_append, List.length_singleton]; omega
        clear h3
        gi_wp2_with fail
        have st3 := HSTb.out.told' (cn + (pre.length : Int) + 1)
        have hfn2 : ∀ x, footB M T R (.slice A1 l.length c1) (.slice A2 l.length c2) x → x ≠ N3 + 1 + 1 := fun x hx e => HFF.out x hx (e ▸ HSTb.out.b2)
        have hni2 : V1.heap.size ≠ N3 + 1 + 1 := by have := stV1.bt.lt; omega
        have hB3 := HB2.out.wrote (S := fun x => x = N3 + 1 + 1) ((Wrote.refl (fun x => x = N3 + 1 + 1) W2).setCell (p := ⟨N3 + 1 + 1, 0, none⟩) (.inl rfl) (.int .i64 (cn + (pre.length : Int) + 1))) hfn2
        have hbi3 := HBIb.out.other hni2 (.int .i64 (cn + (pre.length : Int) + 1))
        have hdr3 := HDR.out.trans (KeepsOthers.setCell W2 ⟨N3 + 1 + 1, 0, none⟩ (.int .i64 (cn + (pre.length : Int) + 1)))
        clear hck hcv hR1 hR2 hci hct hcs hfi hft HSTb HBIb HB2 HDR hwt hge hge2 e3 hfn2 hni2
        generalize W2.setCell ⟨N3 + 1 + 1, 0, none⟩ (.int .i64 (cn + (pre.length : Int) + 1)) = W3 at *
        have ST3 := hid st3
        have HB3 := hid hB3
        have HBI3 := hid hbi3
        have HDR3 := hid hdr3
        have dci := hbi3.cell
        have dca := st3.ah.cell
        have dcr := st3.br.cell
        have dR1 := hB3.rf.c1
        rw [HLL.out] at dR1
        have hws : IntKind.i64.wrap ((L : Int) - (pre.length : Int)) = (L : Int) - (pre.length : Int) := wrap_mid _ (by omega) (by omega)
        clear st3 hB3 hbi3 hdr3
        by_cases ha : 0 < ahead
        · by_cases hb : ahead < (L : Int) - (pre.length : Int)
          · by_cases hc : (pre.length : Int) < 40
            · skip
              gi_wp2_with fail
              refine quiet_in_round (by kernel_rfl) (by kernel_rfl) (by kernel_rfl) ?_
              repeat (quiet_step (fail))
              refine wpQuiet_nil ?_
              rintro _ ⟨nq, rfl⟩
              have st4 := ST3.out.drewN (nq + 1)
              have hbi4 : Boxed (W3.drewN (nq + 1)) V1.heap.size 3 (.int .i64 pre.length) := HBI3.out
              have hdr4 : KeepsOthers W (W3.drewN (nq + 1)) := ⟨HDR3.out.size, HDR3.out.same⟩
              have hB4 := HB3.out.drewN (nq + 1)
              have hdrew : World.drew (W3.drewN nq) = W3.drewN (nq + 1) := rfl
              have HDW : Hid (∀ (a : Addr) v, (W3.drewN (nq + 1)).cell? a = some v → (W3.drewN nq).cell? a = some v) := fun _ _ h => h
              clear ST3 HB3 HBI3 HDR3 dci dca dcr dR1
              generalize W3.drewN (nq + 1) = W5 at *
              generalize W3.drewN nq = W4 at *
              obtain ⟨aa, haa⟩ : ∃ aa : Nat, ahead = (aa : Int) := ⟨ahead.toNat, by omega⟩
              obtain ⟨jx, hje⟩ : ∃ jx, jx = pre.length + aa := ⟨_, rfl⟩
              have hjx : jx < L := by omega
              obtain ⟨Ax, cx, Ay, cy, ek1, ek2, _, _, _, _, hRk, hRv⟩ := hB4.rf.read
              cases ek1
              cases ek2
              obtain ⟨b1, o1, b2, o2, kx, vx, hkx, hAx, hAy, _, _, hckx, hcvx⟩ := ref_at hRk hRv jx (by rw [HLL.out]; exact hjx)
              have eci := hbi4.cell
              have eca := st4.ah.cell
              have ecm := st4.bm.cell
              have ecr := st4.br.cell
              have eR1 := hB4.rf.c1
              rw [HLL.out, hAx] at eR1
              have fci := HDW.out _ _ eci
              have fca := HDW.out _ _ eca
              have fcm := HDW.out _ _ ecm
              have fcr := HDW.out _ _ ecr
              have fR1 := HDW.out _ _ eR1
              have fck := HDW.out _ _ hckx
              have hwa : IntKind.i64.wrap ((pre.length : Int) + ahead) = (jx : Int) := by rw [haa]; rw [wrap_mid _ (by omega) (by omega)]; omega
              have hwk : IntKind.i64.wrap (1000 + (pre.length : Int)) = 1000 + (pre.length : Int) := wrap_mid _ (by omega) (by omega)
              have hix : (jx : Int) < (L : Int) := by omega
              have hmm : T.many ≤ 70368744177664 := by rw [hB4.many, HLL.out]; omega
              have HPUT := hid (TI.mapPut_any 76 #[] (ordI 0) (fun _ => True) (fun _ => False) HORD.out W5 M T kx (1000 + (pre.length : Int)) hB4.mp hmm trivial (fun _ _ => id) id)
              have HST4 := hid st4
              have HBI4 := hid hbi4
              have HDR4 := hid hdr4
              have HB4 := hid hB4
              have HKX := hid hkx
              have HAX := hid hAx
              have HCK := hid hckx
              have HDW2 := hid hdrew
              clear HDW st4 hbi4 hdr4 hB4 hkx hAx hAy hckx hcvx hRk hRv haa hje hjx ha hb hc hmm eci eca ecm ecr eR1 hdrew
              gi_wp2_with fail
              refine tail_in_round 12 (by kernel_rfl) (by kernel_rfl) (by kernel_rfl) ?_
              simp only [List.take_succ_cons, List.take_zero, List.drop_succ_cons, List.drop_zero]
              repeat still_step
              refine wpStill_nil ?_
              change wpListIn _ _ _ _ _ _ _ (World.drew W4)
              rw [HDW2.out]
              gi_wp2_with fail
              refine ⟨trivial, (calls_in_round HPUT.out).mono ?_⟩
              rintro e W6 ⟨nb, g1, rfl, g2, g3, -⟩
              have hB5 := HB4.out
              have hbx : ∀ b ∈ (V1.heap.size :: (V1.heap.size + 1) :: (V0.heap.size :: (V0.heap.size + 1) :: [N3, N3 + 1, N3 + 1 + 1])), ¬ (b = M ∨ b ∈ T.blocks) := fun b hb hf => HFF.out b (.inl hf) hb
              have hlo : ∀ b, b < w.heap.size + 3 → ¬ (b = M ∨ b ∈ T.blocks) := fun b hb hf => by have := hB5.ge b (.inl hf); omega
              have bm6 := Boxed.cell (show Boxed W6 N3 22 (.pointer (some ⟨M, 0, none⟩)) from (g3.block _ HST4.out.bm.lt (hbx _ HST4.out.b0)).trans HST4.out.bm)
              have br6 := Boxed.cell (show Boxed W6 (N3 + 1) 32 (.pointer (some ⟨R, 0, none⟩)) from (g3.block _ HST4.out.br.lt (hbx _ HST4.out.b1)).trans HST4.out.br)
              have ba6 := Boxed.cell (show Boxed W6 (w.heap.size + 1) 3 (.int .i64 ahead) from (g3.block _ HST4.out.ah.lt (hlo _ (by omega))).trans HST4.out.ah)
              have bi6 := Boxed.cell (show Boxed W6 V1.heap.size 3 (.int .i64 pre.length) from (g3.block _ HBI4.out.lt (hbx _ (by simp))).trans HBI4.out)
              have hrf6 := hB5.ref1 g3
              have r16 := hrf6.c1
              have hb1f : ¬ (b1 = M ∨ b1 ∈ T.blocks) := by
                obtain ⟨q1, q2⟩ := hB5.apart b1 (.inr (.inl (by rw [HAX.out]; rfl)))
                exact fun e => e.elim q1 q2
              have ck6 := g3.cell (p := ⟨b1, o1 + jx, none⟩) hb1f HCK.out
              rw [HLL.out, HAX.out] at r16
              have hsz6 : w.heap.size + 3 ≤ W6.heap.size := by have := HST4.out.bm.lt; have := HST4.out.hN; have := g3.size; omega
              have HRP := hid (refPut_any (W6.drewN 1) (w.heap.size + 3) R 0 _ _ l kx (1000 + (pre.length : Int)) (hrf6.drewN 1) hB5.up hsz6 (by rw [HLL.out]; omega))
              have hB5s : w.heap.size + 3 ≤ W5.heap.size := by have := HST4.out.bm.lt; have := HST4.out.hN; omega
              have G1 := hid g1
              have G2 := hid g2
              have G3 := hid g3
              clear g1 g2 g3 hbx hlo hb1f hrf6 hsz6 hB5 HPUT fci fca fcm fcr fR1 fck
              gi_wp2_with fail
              refine tail_in_round 12 (by kernel_rfl) (by kernel_rfl) (by kernel_rfl) ?_
              simp only [List.take_succ_cons, List.take_zero, List.drop_succ_cons, List.drop_zero]
              repeat still_step
              refine wpStill_nil ?_
              change wpListIn _ _ _ _ _ _ _ (W6.drewN 1)
              gi_wp2_with fail
              refine ⟨trivial, (calls_in_round HRP.out).mono ?_⟩
              rintro e W8 ⟨kv8, vv8, rfl, k1, k2, k3⟩
              obtain ⟨s1, s2, s3, s4⟩ := both_again HB4.out hB5s G1.out G2.out G3.out ⟨vx, List.mem_of_getElem? HKX.out⟩ k1 (((Wrote.refl _ W6).drewN 1).trans k2) k3
              have ST8 := hid (HST4.out.puts HB4.out HFF.out s1 (HSS.out.trans s2) s3 s4 (fun d hd hf => by
                obtain ⟨o, h1, h2⟩ := HB4.out.cells d hf
                rw [HST4.out.ds d hd] at h1
                cases h1
                cases h2) HB4.out.ge)
              have HBI8 : Hid (Boxed W8 V1.heap.size 3 (.int .i64 pre.length)) := (s3.block _ HBI4.out.lt (fun hf => HFF.out _ hf (by simp))).trans HBI4.out
              have HDR8 := hid (HDR4.out.trans (keepsOthers_wrote s3 HB4.out.cells))
              clear s1 s2 s3 s4 k1 k2 k3 HRP HB4 HST4 HBI4 HDR4 G1 G2 G3 bm6 br6 ba6 bi6 r16 ck6
              have eci := HBI8.out.cell
              have efi := HBI8.out.frozen
              gi_wp2_with fail
              refine ⟨(HDR8.out.trans (KeepsOthers.setCell _ _ _)).from _, trivial, ⟨?_, ?_⟩, HPL.out, HNS3.out⟩
              · rw [HLN.out]; exact ST8.out.other (by simp) (by have := stV1.bt.lt; omega) (fun hd => by have := hDl _ hd; omega) _
              · rw [HLN2.out]; exact HBI8.out.set _
            · have hc2 : decide ((pre.length : Int) < 40) = false := by simp; omega
              clear hc
              gi_wp2_with fail
              refine quiet_in_round (by kernel_rfl) (by kernel_rfl) (by kernel_rfl) ?_
              repeat (quiet_step (fail))
              refine wpQuiet_nil ?_
              rintro _ ⟨nq, rfl⟩
              have ST4 := hid (ST3.out.drewN nq)
              have HBI4 : Hid (Boxed (W3.drewN nq) V1.heap.size 3 (.int .i64 pre.length)) := HBI3.out
              have HDR4 : Hid (KeepsOthers W (W3.drewN nq)) := hid ⟨HDR3.out.size, HDR3.out.same⟩
              change Hid (ASt w (W3.drewN nq) _ _ _ _ _ _ _ _ _ _ _) at ST4
              clear ST3 HB3 HBI3 HDR3 dci dca dcr dR1
              generalize W3.drewN nq = W4 at *
              have eci := HBI4.out.cell
              have efi := HBI4.out.frozen
              gi_wp2_with fail
              refine ⟨(HDR4.out.trans (KeepsOthers.setCell _ _ _)).from _, trivial, ⟨?_, ?_⟩, HPL.out, HNS3.out⟩
              · rw [HLN.out]; exact ST4.out.other (by simp) (by have := stV1.bt.lt; omega) (fun hd => by have := hDl _ hd; omega) _
              · rw [HLN2.out]; exact HBI4.out.set _
          · have hb2 : decide (ahead < (L : Int) - (pre.length : Int)) = false := by simp; omega
            clear hb
            gi_wp2_with fail
            refine quiet_in_round (by kernel_rfl) (by kernel_rfl) (by kernel_rfl) ?_
            repeat (quiet_step (fail))
            refine wpQuiet_nil ?_
            rintro _ ⟨nq, rfl⟩
            have ST4 := hid (ST3.out.drewN nq)
            have HBI4 : Hid (Boxed (W3.drewN nq) V1.heap.size 3 (.int .i64 pre.length)) := HBI3.out
            have HDR4 : Hid (KeepsOthers W (W3.drewN nq)) := hid ⟨HDR3.out.size, HDR3.out.same⟩
            change Hid (ASt w (W3.drewN nq) _ _ _ _ _ _ _ _ _ _ _) at ST4
            clear ST3 HB3 HBI3 HDR3 dci dca dcr dR1
            generalize W3.drewN nq = W4 at *
            have eci := HBI4.out.cell
            have efi := HBI4.out.frozen
            gi_wp2_with fail
            refine ⟨(HDR4.out.trans (KeepsOthers.setCell _ _ _)).from _, trivial, ⟨?_, ?_⟩, HPL.out, HNS3.out⟩
            · rw [HLN.out]; exact ST4.out.other (by simp) (by have := stV1.bt.lt; omega) (fun hd => by have := hDl _ hd; omega) _
            · rw [HLN2.out]; exact HBI4.out.set _
        · skip
          gi_wp2_with fail
          refine quiet_in_round (by kernel_rfl) (by kernel_rfl) (by kernel_rfl) ?_
          quiet_step (fail)
          quiet_step (fail)
          quiet_step (fail)
          refine wpQuiet_step (fun K hK => ?_)
          go_simp
          rw [if_neg (show ¬ 0 < ahead by omega)]
          refine hK _ ?_
          clear hK K
          refine wpQuiet_step (fun K hK => ?_)
          go_simp
          rw [if_neg (show ¬ 0 < ahead by omega)]
          refine hK _ ?_
          clear hK K
          refine wpQuiet_step (fun K hK => ?_)
          go_simp
          rw [if_neg (show ¬ 0 < ahead by omega)]
          refine hK _ ?_
          clear hK K
          refine wpQuiet_step (fun K hK => ?_)
          go_simp
          rw [if_neg (show ¬ 0 < ahead by omega)]
          refine hK _ ?_
          clear hK K
          refine wpQuiet_step (fun K hK => ?_)
          go_simp
          rw [if_neg (show ¬ 0 < ahead by omega)]
          refine hK _ ?_
          clear hK K
          refine wpQuiet_step (fun K hK => ?_)
          go_simp
          rw [if_neg (show ¬ 0 < ahead by omega)]
          refine hK _ ?_
          clear hK K
          refine wpQuiet_step (fun K hK => ?_)
          go_simp
          rw [if_neg (show ¬ 0 < ahead by omega)]
          refine hK _ ?_
          clear hK K
          refine wpQuiet_step (fun K hK => ?_)
          go_simp
          rw [if_neg (show ¬ 0 < ahead by omega)]
          refine hK _ ?_
          clear hK K
          refine wpQuiet_step (fun K hK => ?_)
          go_simp
          rw [if_neg (show ¬ 0 < ahead by omega)]
          refine hK _ ?_
          clear hK K
          quiet_step (fail)
          simp only [if_neg (show ¬ 0 < ahead by omega)]
          quiet_step (fail)
          quiet_step (fail)
          quiet_step (fail)
          quiet_step (fail)
          refine wpQuiet_nil ?_
          rintro _ ⟨nq, rfl⟩
          have ST4 := hid (ST3.out.drewN nq)
          have HBI4 : Hid (Boxed (W3.drewN nq) V1.heap.size 3 (.int .i64 pre.length)) := HBI3.out
          have HDR4 : Hid (KeepsOthers W (W3.drewN nq)) := hid ⟨HDR3.out.size, HDR3.out.same⟩
          change Hid (ASt w (W3.drewN nq) _ _ _ _ _ _ _ _ _ _ _) at ST4
          clear ST3 HB3 HBI3 HDR3 dci dca dcr dR1
          generalize W3.drewN nq = W4 at *
          have eci := HBI4.out.cell
          have efi := HBI4.out.frozen
          gi_wp2_with fail
          refine ⟨(HDR4.out.trans (KeepsOthers.setCell _ _ _)).from _, trivial, ⟨?_, ?_⟩, HPL.out, HNS3.out⟩
          · rw [HLN.out]; exact ST4.out.other (by simp) (by have := stV1.bt.lt; omega) (fun hd => by have := hDl _ hd; omega) _
          · rw [HLN2.out]; exact HBI4.out.set _
    case pa2 =>
      rintro xs W hxs ⟨⟨hst, hbi⟩, hpn, hns⟩
      have htl : cn + (xs.length : Int) = cn + cn := by
        have h1 := HCN.out
        rw [if_neg (fun h => hns stop.toNat (by rw [hxs, stX1.hn]; omega) (by omega))] at h1
        rw [h1, hxs, stX1.hn]
      rw [htl] at hst
      exact hst
    case pb2 =>
      rintro cd pre W - ⟨hst, hps, hp1, hpL, rfl⟩
      have htl : cn + (pre.length : Int) = cn + cn := by
        have h1 := HCN.out
        rw [if_pos (by omega)] at h1
        omega
      rw [htl] at hst
      exact ⟨rfl, hst⟩
    case after2 =>
      rintro D1 W hD hst hKD
      have stV2 : ASt w W N3 M R stop ahead (cn + cn) T0 L (V1.heap.size :: (V1.heap.size + 1) :: (V0.heap.size :: (V0.heap.size + 1) :: [N3, N3 + 1, N3 + 1 + 1])) [D1, D0] (D1 + 1) := by
        have h := hst.more hKD (by omega) (fun d hd => by have := hDl d hd; omega) (Nat.lt_succ_self D1)
        skip
        skip
        exact h
      obtain ⟨V2, hV2⟩ : ∃ V, V = W := ⟨_, rfl⟩
      rw [← hV2] at stV2 ⊢
      clear hst hKD hOI hOX hs60 hDl hbtl hhN cmX1 stX1 hbiX1 hV2
      go_wp2_with fail
      rw [rounds_succ]
      obtain ⟨T, kv, vv, l, hB, hS, hF⟩ := stV2.ex
      have hlL : l.length = L := by rw [← hB.many, ← hS.facts.2.1]; exact stV2.hn
      obtain ⟨A1, c1, A2, c2, rfl, rfl, _, _, _, _, _, _⟩ := hB.rf.read
      have hR1 := hB.rf.c1
      rw [hlL] at hR1
      have hlen := TI.mapLen_any (World.drew V2) M _ _ T (hB.mp.drewN 1)
      rw [hB.many, hlL] at hlen
      have HLEN := hid hlen
      have fct := stV2.bt.cell
      have fcs := stV2.stp.cell
      have fcm := stV2.bm.cell
      have fcr := stV2.br.cell
      have fcz := stV2.res.cell
      have ffz := stV2.res.frozen
      have hLL : ((L : Int) == (L : Int)) = true := by simp
      have hcc : ((cn + cn : Int) == (cn + cn : Int)) = true := by simp
      clear hlen hB hS hF hlL
      by_cases h0 : 0 ≤ stop
      · by_cases h1 : stop < (L : Int)
        · have h2 : cn = stop + 1 := by rw [HCN.out, if_pos ⟨h0, h1⟩]
          have hw1 : IntKind.i64.wrap (stop + 1) = stop + 1 := wrap_mid _ (by omega) (by omega)
          have hw2 : IntKind.i64.wrap (2 * (stop + 1)) = cn + cn := by rw [wrap_mid _ (by omega) (by omega)]; omega
          clear h2
          go_wp2_with fail
          go_still_tail 14, (by kernel_rfl)
          still_call (HLEN.out)
          repeat still_step
          refine wpStill_nil ?_
          change wpList _ _ _ _ _ (World.drew V2)
          go_wp2_with fail
          exact leaves_collected w (w.heap.size + 1 + 1) rfl rfl Try.underlying4 [D1, D0] _ stV2.nd (fun d hd => (Below.heap_setCell V2 ⟨w.heap.size + 1 + 1, 0, none⟩ _ _ (by show d ≠ w.heap.size + 1 + 1; have := stV2.nD d hd; have := stV2.hN; omega)).trans (stV2.ds d hd)) (fun d hd => by have := stV2.nD d hd; have := stV2.hN; omega) (show Boxed _ _ 4 _ from stV2.res.set _) ((stV2.bel.setCell (p := ⟨w.heap.size + 1 + 1, 0, none⟩) (by show w.heap.size ≤ w.heap.size + 1 + 1; omega) _).drew)
        · have h2 : cn = L := by rw [HCN.out, if_neg (fun h => h1 h.2)]
          have hw2 : IntKind.i64.wrap (2 * (L : Int)) = cn + cn := by rw [wrap_mid _ (by omega) (by omega)]; omega
          clear h2
          go_wp2_with fail
          go_still_tail 14, (by kernel_rfl)
          still_call (HLEN.out)
          repeat still_step
          refine wpStill_nil ?_
          change wpList _ _ _ _ _ (World.drew V2)
          go_wp2_with fail
          exact leaves_collected w (w.heap.size + 1 + 1) rfl rfl Try.underlying4 [D1, D0] _ stV2.nd (fun d hd => (Below.heap_setCell V2 ⟨w.heap.size + 1 + 1, 0, none⟩ _ _ (by show d ≠ w.heap.size + 1 + 1; have := stV2.nD d hd; have := stV2.hN; omega)).trans (stV2.ds d hd)) (fun d hd => by have := stV2.nD d hd; have := stV2.hN; omega) (show Boxed _ _ 4 _ from stV2.res.set _) ((stV2.bel.setCell (p := ⟨w.heap.size + 1 + 1, 0, none⟩) (by show w.heap.size ≤ w.heap.size + 1 + 1; omega) _).drew)
      · have h2 : cn = L := by rw [HCN.out, if_neg (fun h => h0 h.1)]
        have hw2 : IntKind.i64.wrap (2 * (L : Int)) = cn + cn := by rw [wrap_mid _ (by omega) (by omega)]; omega
        clear h2
        go_wp2_with fail
        go_still_tail 14, (by kernel_rfl)
        still_call (HLEN.out)
        repeat still_step
        refine wpStill_nil ?_
        change wpList _ _ _ _ _ (World.drew V2)
        go_wp2_with fail
        exact leaves_collected w (w.heap.size + 1 + 1) rfl rfl Try.underlying4 [D1, D0] _ stV2.nd (fun d hd => (Below.heap_setCell V2 ⟨w.heap.size + 1 + 1, 0, none⟩ _ _ (by show d ≠ w.heap.size + 1 + 1; have := stV2.nD d hd; have := stV2.hN; omega)).trans (stV2.ds d hd)) (fun d hd => by have := stV2.nD d hd; have := stV2.hN; omega) (show Boxed _ _ 4 _ from stV2.res.set _) ((stV2.bel.setCell (p := ⟨w.heap.size + 1 + 1, 0, none⟩) (by show w.heap.size ≤ w.heap.size + 1 + 1; omega) _).drew)
end Go.Proofs.Ytfjeagffdijcoaa
