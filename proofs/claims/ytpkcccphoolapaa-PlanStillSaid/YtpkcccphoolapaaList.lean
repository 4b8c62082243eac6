/- Layer 6: All, List. -/
import Derived.Test.YtpkcccphoolapaaIter
namespace Go.Proofs.Ytpkcccphoolapaa
open Go.RowKit Go.Shelf

attribute [local go_sem] Oper.semAt_some

theorem ownsRow_mono {w : World} {base base' : Nat} {e : TypeId} {size n : Nat} {v : Value} {xs : List Value} (h : w.ownsRow base e size v n xs) (hb : base' ≤ base) : w.ownsRow base' e size v n xs := by
  refine ⟨h.1, ?_⟩
  rcases h.2 with h | ⟨g, cap, cur, h1, h2, h3⟩
  · exact .inl h
  · exact .inr ⟨g, cap, cur, h1, Nat.le_trans hb h2, h3⟩

/-- behind 'out = append(out, ..)' whose box is B: besides what the kit's lemma says, that all blocks below n₀ but B lie as they lay. -/
theorem appendedP {W w1 : World} {m₀ n₀ B : Nat} {t e : TypeId} {size : Nat} {v v' : Value} {k m : Nat} {xs ys : List Value} {tmp : Obj}
    (hv : Boxed W B t v) (hte : t ≠ e) (hrow : W.ownsRow n₀ e size v k xs) (hn₀ : n₀ ≤ W.heap.size) (hm : m₀ ≤ B) (hmn : m₀ ≤ n₀)
    (hown' : w1.ownsRow n₀ e size v' m ys) (hgrow : (W.alloc tmp).grownBy w1 v.ownBlock) :
    Boxed w1 B t v ∧ Boxed (w1.setCell ⟨B, 0, none⟩ v') B t v' ∧ (w1.setCell ⟨B, 0, none⟩ v').ownsRow n₀ e size v' m ys ∧ KeepsOthers W (w1.setCell ⟨B, 0, none⟩ v') ∧ Below m₀ W (w1.setCell ⟨B, 0, none⟩ v') ∧
      KeepsP (fun k => k < n₀ ∧ k ≠ B) W (w1.setCell ⟨B, 0, none⟩ v') := by
  obtain ⟨h1, h2, _, h4, h5⟩ := hv.appended hte (ownsRow_mono hrow hmn) (Nat.le_trans hmn hn₀) hm (ownsRow_mono hown' hmn) hgrow
  refine ⟨h1, h2, hown'.kept (grownBy_setCell' w1 B v') (.inr (h1.not_row hte hown').symm), h4, h5, fun k hk => ?_⟩
  rw [Below.heap_setCell _ _ _ k hk.2]
  have hlt : k < W.heap.size := Nat.lt_of_lt_of_le hk.1 hn₀
  refine (hgrow.block k (by simp; omega) ?_).trans (Below.heap_alloc W tmp k hlt)
  intro e'
  have := (hrow.lt k e'.symm).1
  omega

theorem ownFrom_size {β : Type} {B m : Nat} : OwnFrom B (fun (_ : β) W => m ≤ W.heap.size) := fun _ _ _ _ hs hg _ => Nat.le_trans hs hg.size

/-- the contract of an iterator of Within. -/
theorem iter_stops (F : Fence) (n : Nat) (h41 : F.fn 97) (hro : F.round = none) (hn : 1 ≤ n) (S Lo Hi b : Nat) (P : Nat → Prop) (pS : P S) (pL : P Lo) (pH : P Hi) (pb : P b) (lo hi : Int) (zs : List Seg) (hlen : zs.length ≤ 1000000000)
    (w : World) (hP : ∀ k, P k → k < w.heap.size) (hI : IsIter w S Lo Hi b lo hi zs) :
    SeqStopsK F n Try.prog 97 #[.pointer (some ⟨S, 0, none⟩), .pointer (some ⟨Lo, 0, none⟩), .pointer (some ⟨Hi, 0, none⟩)] (fun x : Seg => #[Value.agg #[.int .u64 x.lo, .int .u64 x.hi, .int .u8 x.host]]) (KeepsP P)
      (fun ys => ys = zs.map (cutTo lo hi)) (fun pre => pre <+: zs.map (cutTo lo hi)) zs.length w := fun l J Jx W hW hJ _ hY h0 => by
  refine (iter_in F n h41 hro hn l S Lo Hi b P pS pL pH pb lo hi zs hlen J Jx W hJ (fun k hk => Nat.lt_of_lt_of_le (hP k hk) hW.size) hY (hI.kept (keepsP_of_below hP hW) pS pL pH pb) h0).mono ?_
  rintro e W' ⟨he, ⟨ys, rfl, hj⟩ | ⟨pre, ⟨k, hk, rfl⟩, hj⟩⟩
  · exact ⟨he, .inl ⟨_, rfl, hj⟩⟩
  · exact ⟨he, .inr ⟨_, by rw [List.map_take]; exact List.take_prefix _ _, hj⟩⟩

theorem at_zero {l : List Seg} (h : Rng.WF l) : Rng.at' l 0 = 0 := by
  unfold Rng.at'
  rw [List.countP_eq_zero]
  intro s hs
  have := h.seg s hs
  simp only [decide_eq_true_eq]
  omega

theorem at_max {l : List Seg} (h : Rng.WF l) : Rng.at' l maxK + 1 = l.length := by
  have h1 := Rng.at_lt h.tiles (show (0 : Int) ≤ maxK by decide) (show maxK < maxK + 1 by omega)
  obtain ⟨s, _, _, _, _, _, h6⟩ := Rng.at_split h.tiles (show (0 : Int) ≤ maxK by decide) (show maxK < maxK + 1 by omega)
  by_cases h2 : Rng.at' l maxK + 1 < l.length
  · have hm : l[Rng.at' l maxK + 1] ∈ l.drop (Rng.at' l maxK + 1) := List.mem_iff_getElem.2 ⟨0, by simp; omega, by simp⟩
    have h3 := h6 _ hm
    have h4 := h.seg _ (List.mem_of_mem_drop hm)
    omega
  · omega

theorem cut_all {l : List Seg} (h : Rng.WF l) : l.map (cutTo 0 maxK) = l := by
  have hs := h.seg
  clear h
  induction l with
  | nil => rfl
  | cons s r ih =>
    obtain ⟨h1, h2, h3, _⟩ := hs s (by simp)
    rw [List.map_cons, ih (fun x hx => hs x (by simp [hx]))]
    congr 1
    simp only [cutTo]
    rw [if_neg (by omega), if_neg (by omega)]

set_option maxHeartbeats 1000000 in
theorem all_any (w : World) (T b off c : Nat) (l : List Seg) (h1s : w.cell? ⟨T, 1, none⟩ = some (.slice (some ⟨b, off, none⟩) l.length c)) (hc : l.length ≤ c)
    (hR : Segs w.heap.size w (some ⟨b, off, none⟩) l) (hW : Rng.WF l) (hm : l.length ≤ 1000000000) :
    Calls Try.prog 65 #[.pointer (some ⟨T, 0, none⟩)] w fun e w' =>
      ∃ S, e = .returned (iterOf S w.heap.size (w.heap.size + 1)) ∧ w.heap.size + 1 < S ∧ IsIter w' S w.heap.size (w.heap.size + 1) b 0 maxK l ∧ Below w.heap.size w w' := by
  have hwi := within_any w T b off c l 0 maxK h1s hc hR hW hm (by decide) (by decide) (by decide)
  rw [at_zero hW, at_max hW, List.take_length, List.drop_zero] at hwi
  have HW := hid hwi
  clear hwi hR h1s
  go_enter Try.func65, Try.ntmps65
  go_wp2_with fail
  refine HW.out.mono ?_
  rintro e w1 ⟨S, rfl, h1, h2, h3⟩
  go_wp2
  refine bodyPost_ret (results_tmp rfl _ _ _) rfl ?_
  exact ⟨S, rfl, h1, h2, h3⟩

set_option maxRecDepth 100000 in
set_option maxHeartbeats 2000000 in
theorem list_any (w : World) (T : Nat) (limit : Int) (l : List Seg) (h : IsTab w T limit l) (hW : Rng.WF l) (hm : l.length ≤ 1000000000) :
    Calls Try.prog 46 #[.pointer (some ⟨T, 0, none⟩)] w fun e w' => ∃ v, e = .returned v ∧ OwnSegs w' w.heap.size v l ∧ Below w.heap.size w w' := by
  have hT := h.lt
  obtain ⟨b, off, c, h1s, hc, hne, hbl, hR⟩ := h.segs
  obtain ⟨wA, hwA⟩ : ∃ wA, w.alloc (.cells #[.slice none 0 0] 32) = wA := ⟨_, rfl⟩
  have hbA : Below w.heap.size w wA := by rw [← hwA]; exact (Below.refl _ w).alloc (Nat.le_refl _) _
  have hszA : wA.heap.size = w.heap.size + 1 := by rw [← hwA]; simp
  have hall := all_any wA T b off c l (Tfact hbA hT h1s) hc ((hR.below hbA).mono (by omega)) hW hm
  have bOA : Boxed wA w.heap.size 32 (.slice none 0 0) := by rw [← hwA]; exact Boxed.new w _ _
  obtain ⟨i0, hi, hz0, hz1, hz2⟩ := info_parts infoSeg
  have HALL := hid hall
  have HWA := hid hwA
  have HBA := hid hbA
  have HSZ := hid hszA
  have HBO := hid bOA
  clear hall hwA hbA hR h1s hszA bOA
  refine (callsIn_wide (n := 4)).1 ?_
  refine callsIn_of_wp_marks Try.func46 rfl trivial ?_ rfl
  simp only [Try.ntmps46, List.size_toArray, List.length_cons, List.length_nil, Nat.reduceAdd, Nat.reduceSub, Array.replicate_succ, Array.replicate_zero, List.push_toArray, List.append_toArray, List.nil_append, List.cons_append]
  gi_wp2_with fail
  refine ⟨trivial, ?_⟩
  rw [HWA.out]
  refine (callsIn_wide.2 HALL.out).mono ?_
  rintro e w1 ⟨S, rfl, hS, hI, hb⟩
  gi_wp2_with fail
  have hsz := HSZ.out
  have hbsz := hb.size
  have hSl : S < w1.heap.size := by obtain ⟨_, _, h1, _⟩ := hI.sl; exact World.block_lt_of_cell? _ _ h1
  have hLl : wA.heap.size + 1 < w1.heap.size := World.block_lt_of_cell? _ _ hI.hi
  have hB0 : Below w.heap.size w w1 := HBA.out.trans (hb.mono (by omega))
  have bO : Boxed w1 w.heap.size 32 (.slice none 0 0) := (hb.block w.heap.size (by omega)).trans HBO.out
  have hsz1 : wA.heap.size ≤ w.heap.size + 1 := by omega
  have hsz2 : w.heap.size + 1 ≤ wA.heap.size := by omega
  clear hsz
  refine wpIn_rangeFunc_ownH rfl (by omega) (gf := 97) (lb := #[.pointer (some ⟨S, 0, none⟩), .pointer (some ⟨wA.heap.size, 0, none⟩), .pointer (some ⟨wA.heap.size + 1, 0, none⟩)]) rfl trivial (enters_of Try.func97 (by kernel_rfl) rfl)
    (iter_stops Fence.wide 3 trivial rfl (by omega) S wA.heap.size (wA.heap.size + 1) b (fun k => k < w1.heap.size ∧ k ≠ w.heap.size) ⟨hSl, by show S ≠ _; omega⟩ ⟨by show wA.heap.size < _; omega, by show wA.heap.size ≠ _; omega⟩ ⟨hLl, by show wA.heap.size + 1 ≠ _; omega⟩ ⟨by show b < _; omega, by show b ≠ _; omega⟩ 0 maxK l hm w1 (fun k hk => hk.1) hI) keepsP_t (keepsP_b (fun k hk => hk.1)) (Below.refl _ _) (fun _ => rfl)
    (fun (pre : List Seg) W => (∃ v, Boxed W w.heap.size 32 v ∧ W.ownsRow w1.heap.size 67 3 v pre.length (pre.flatMap encSeg) ∧ True) ∧ Below w.heap.size w W ∧ w1.heap.size ≤ W.heap.size)
    (fun _ _ _ => False)
    (OwnFrom.and (Own.from (holdsRow_own w1.heap.size w.heap.size 32 67 3 (fun (pre : List Seg) => pre.length) (fun (pre : List Seg) => pre.flatMap encSeg) (fun _ _ => True)) _) (OwnFrom.and (ownFrom_below (Nat.le_refl _) (by omega)) ownFrom_size))
    (fun _ _ _ _ _ hs _ _ => hs)
    ⟨⟨_, bO, World.ownsRow_nil _ _ _ _, trivial⟩, hB0, Nat.le_refl _⟩
    (fun x a' W => ∃ Bx, w1.heap.size ≤ Bx ∧ W.heap[Bx]? = some (.cells #[.int .u64 x.lo, .int .u64 x.hi, .int .u8 x.host] 67) ∧ a' = { tmps := #[.pointer (some ⟨T, 0, none⟩), undef, .slice none 0 0, .pointer (some ⟨w.heap.size, 0, none⟩), .pointer (some ⟨Bx, 0, none⟩), .pointer (some ⟨T, 0, none⟩), iterOf S wA.heap.size (wA.heap.size + 1), .agg #[.int .u64 x.lo, .int .u64 x.hi, .int .u8 x.host], undef, undef, undef, undef, undef], defers := [] })
    (fun x a' _ X Y row hs hg hr => by
      obtain ⟨Bx, g1, g2, g3⟩ := hs
      refine ⟨Bx, g1, (hg.block Bx (Array.getElem?_eq_some_iff.1 g2).1 (fun e' => ?_)).trans g2, g3⟩
      obtain ⟨_, o, ho, hcl⟩ := hr Bx e'.symm
      rw [g2] at ho; cases ho; cases hcl)
    ?assign ?body ?done ?stop
  case assign =>
    rintro l1 pre x W K ⟨⟨v, hv, hrow, _⟩, hB, hsW⟩ hK
    gi_wp2
    exact hK _ _ ((KeepsOthers.alloc _ _).from _) (fun k hk => Below.heap_alloc W _ k (by have := hk.1; omega)) ⟨⟨v, hv.alloc _, hrow.alloc _, trivial⟩, hB.alloc hB.size _, by simp; omega⟩ ⟨W.heap.size, hsW, World.alloc_heap_new W _, rfl⟩
  case body =>
    rintro l1 pre x a' W hl1 ⟨r, hr⟩ ⟨⟨v, hv, hrow, _⟩, hB, hsW⟩ ⟨Bx, hBx, bX, rfl⟩ hlt
    have hc := hv.cell
    have c0 : W.cell? ⟨Bx, 0, none⟩ = some (.int .u64 x.lo) := by simp [World.cell?, bX]
    have c1 : W.cell? ⟨Bx, 1, none⟩ = some (.int .u64 x.hi) := by simp [World.cell?, bX]
    have c2 : W.cell? ⟨Bx, 2, none⟩ = some (.int .u8 x.host) := by simp [World.cell?, bX]
    gi_wp2_with (gi_at_builtin; refine wpListIn_append_own _ rfl _ _ 32 rfl w1.heap.size 67 i0 _ 3 24 Try.underlying32 hi hz0 hz1 hz2 rfl (by decide) _ _ _ rfl (hrow.alloc _) ⟨W.heap.size, 0, none⟩ 1 1 (encSeg x) rfl rfl (World.news_of_block (cs := (encSeg x).toArray) (t := 67) (fr := (0, 0)) (heap_alloc_new W _)) (encSeg_one x) (by simp only [maxLen]; omega) (by omega) (by simp; omega) ?_; intro v' w2 hown' hgrow _; obtain ⟨g', cap', rfl⟩ := ownsRow_succ hown'; obtain ⟨hv1, hv2, hr2, hk2, hb2, hkp2⟩ := appendedP (m₀ := w.heap.size) hv (by decide) hrow hsW (Nat.le_refl _) (by omega) hown' hgrow; have hc1 := hv1.cell; have hf1 := hv1.frozen)
    refine ⟨hk2.from _, hkp2, ⟨⟨_, hv2, by simpa using hr2, trivial⟩, hB.trans hb2, ?_⟩⟩
    have := hgrow.size
    rw [size_setCell]
    simp at this
    omega
  case done =>
    rintro D ys W hD rfl ⟨⟨v, hv, hrow, _⟩, hB, hsW⟩ hK
    have hc := hv.cell
    rw [cut_all hW] at hrow
    gi_wp2
    refine ⟨by simp, .inl ⟨_, _, rfl, run_takeDeferred hK, ?_⟩⟩
    exact ⟨_, results_tmp rfl _ _ _, v, rfl, ownsRow_mono (ownsRow_putObj hrow _ hK rfl) (by omega), hB.trans (belowK_b (w := w) (Nat.le_refl _) W D _ _ (by omega) hK rfl rfl)⟩
  case stop =>
    rintro D c pre W _ _ h _
    exact h.elim
end Go.Proofs.Ytpkcccphoolapaa
