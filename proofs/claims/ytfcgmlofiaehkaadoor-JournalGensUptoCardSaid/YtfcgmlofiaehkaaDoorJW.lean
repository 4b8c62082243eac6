/- Layer 9: Snapshot of a journal that lives, and what is refused. -/
import Derived.Test.YtfcgmlofiaehkaaDoorJA
namespace Go.Proofs.YtfcgmlofiaehkaaDoor
open Go.RowKit

theorem wraps_u64 (n : Int) (h0 : 0 ≤ n) (h1 : n < 2 ^ 64) : IntKind.u64.wrap n = n := by rw [IntKind.wrap_u64]; omega
set_option maxRecDepth 100000 in
set_option maxHeartbeats 4000000 in
theorem snap_0 (w : World) (lo hi j : Nat) (J : JL) (s0 s1 : SV) (hJ : JAt w lo hi j J s0 s1) (hu : J.use = 0) (A : Option Addr) (n c : Nat) (st : List Int) (hl : st.length = n) (h2 : n ≤ 4194304) (hb : ∀ x ∈ st, isB x) (hR : U8s w.heap.size w A st) (hA : st ≠ [] → ∀ p, A = some p → p.block ≠ j)
    (_ : J.limit ≤ 16777216) (hfit : 24 + (n : Int) ≤ J.limit) (hg0 : 0 ≤ J.gen) (hg1 : J.gen < 18446744073709551615) : Calls Tryd.prog 41 #[.pointer (some ⟨j, 0, none⟩), .slice A n c] w fun e w' =>
    ∃ A' n' c', e = .returned (.int .i64 0) ∧ n' = 24 + n ∧ w'.heap[j]? = some (.cells (jCells { J with use := 1, l1 := begunB (J.gen + 1) st, synced := 0, gen := J.gen + 1, sum := begunSum (J.gen + 1) st, recs := 0, waiting := 0 } s0 (A', n', c')) 120 (0, 0)) ∧ OwnB w' w.heap.size (SV.v (A', n', c')) (begunB (J.gen + 1) st) ∧ Tch (fun k => k = j) w w' := by
  subst hl
  have hbox := hJ.box
  have HAL := hid (alive_live w j J _ _ hbox)
  have hw1 : IntKind.u64.wrap (J.gen + 1) = J.gen + 1 := wraps_u64 _ (by omega) (by omega)
  have hd1 : (J.gen == 18446744073709551615) = false := by simp; omega
  obtain ⟨g, hg⟩ : ∃ g, g = J.gen + 1 := ⟨_, rfl⟩
  rw [← hg] at hw1
  have hgb : 0 ≤ g ∧ g ≤ 18446744073709551615 := by omega
  obtain ⟨x0, x1, x2, x3, x4, x5, x6, x7, x8, x9⟩ := jcellsA hbox
  have f5 : w.frozen? ⟨j, 5, none⟩ = false := box_fz hbox 5
  have f3 : w.frozen? ⟨j, 3, none⟩ = false := box_fz hbox 3
  rw [hu] at x3
  have d0 : decide ((4194304 : Int) < (st.length : Int)) = false := by simp; omega
  have d2 : decide (J.limit < 20 + (st.length : Int) + 4) = false := by simp; omega
  have w1 : IntKind.i64.wrap (20 + (st.length : Int)) = 20 + (st.length : Int) := wrap_small _ (by omega) (by omega)
  have w2 : IntKind.i64.wrap (20 + (st.length : Int) + 4) = 20 + (st.length : Int) + 4 := wrap_small _ (by omega) (by omega)
  have w3 : IntKind.i64.wrap (1 - (0 : Int)) = 1 := by decide
  obtain ⟨W2, hW2⟩ : ∃ W, W = (w.setCell ⟨j, 5, none⟩ (.int .u64 g)).setCell ⟨j, 3, none⟩ (.int .i64 1) := ⟨_, rfl⟩
  have ht2 : Tch (fun k => k = j) w W2 := by rw [hW2]; exact ((Tch.refl (fun k => k = j) w).setCell ⟨j, 5, none⟩ _ (.inl rfl)).setCell ⟨j, 3, none⟩ _ (.inl rfl)
  have hbx2 : W2.heap[j]? = some (.cells (jCells { J with use := 1, gen := g } s0 s1) 120 (0, 0)) := by
    rw [hW2]
    exact heap_setCell_at _ (heap_setCell_at _ hbox)
  have hR2 : U8s W2.heap.size W2 A st := (ht2.reads hR (Nat.le_refl _) hA).mono ht2.size
  have hB : ∀ W, Drawn W2 W → Calls Tryd.prog 61 #[.int .u64 g, .slice A st.length c] W fun e w' => ∃ A' c', e = .returned (.tuple #[.slice A' (24 + st.length) c', .int .u32 (begunSum g st)]) ∧ w'.ownsRow w.heap.size 5 1 (.slice A' (24 + st.length) c') (24 + st.length) ((begunB g st).flatMap u8s) ∧ Below W2.heap.size W2 w' := fun W hW => by
    refine (begun_any W g A st.length c st hgb rfl (by omega) hb (by rw [hW.heap]; exact hW.reads hR2)).mono ?_
    rintro e w' ⟨A', c', he, ho, hb2⟩
    have hsz := ht2.size
    rw [hW.heap] at ho hb2
    exact ⟨A', c', he, own_mono ho hsz, (hW.below _).trans hb2⟩
  obtain ⟨sm, hsm⟩ : ∃ sm, begunSum g st = sm := ⟨_, rfl⟩
  rw [hsm] at hB
  obtain ⟨n', hn'⟩ : ∃ n', 24 + st.length = n' := ⟨_, rfl⟩
  rw [hn'] at hB
  have HB := hid hB
  have HT2 := hid ht2
  have HN : Hid (∀ W, Below W2.heap.size W2 W → W.cell? ⟨j, 3, none⟩ = some (.int .i64 (1 : Nat)) ∧ W.cell? ⟨j, 5, none⟩ = some (.int .u64 g) ∧ (∀ i, i < 10 → ∃ v, W.cell? ⟨j, i, none⟩ = some v) ∧ ∀ i, W.frozen? ⟨j, i, none⟩ = false) := hid (fun W h => by
    have hb := box_below hbx2 h
    obtain ⟨y0, y1, y2, y3, y4, y5, y6, y7, y8, y9⟩ := jcellsA hb
    exact ⟨y3, y5, fun i hi => by
      match i, hi with
      | 0, _ => exact ⟨_, y0⟩
      | 1, _ => exact ⟨_, y1⟩
      | 2, _ => exact ⟨_, y2⟩
      | 3, _ => exact ⟨_, y3⟩
      | 4, _ => exact ⟨_, y4⟩
      | 5, _ => exact ⟨_, y5⟩
      | 6, _ => exact ⟨_, y6⟩
      | 7, _ => exact ⟨_, y7⟩
      | 8, _ => exact ⟨_, y8⟩
      | 9, _ => exact ⟨_, y9⟩, fun i => box_fz hb i⟩)
  have HBX2 := hid hbx2
  have HSM := hid hsm
  have HN' := hid hn'
  have HG := hid hg
  have hgw : J.gen + 1 = g := hg.symm
  clear hJ hbox hR hA hb hR2 hB hsm hn' ht2 hbx2 hu x1 x2 x4 x6 x7 x8 x9 hg hgb
  go_enter Tryd.func41, Tryd.ntmps41
  go_wp2_with fail
  refine HAL.out.mono ?_
  rintro e wq ⟨rfl, hwq⟩
  obtain rfl : w = wq := hwq.symm
  clear HAL
  go_upto_region 12 with fail
  rw [← hW2]
  obtain ⟨z3, z5, zc, zf⟩ := HN.out W2 (Below.refl _ _)
  clear hW2 zc zf x3 x5 f5 f3 x0
  go_region_with (go_at_call 61; with_reducible refine (HB.out _ (by first | assumption | exact (Drawn.refl _).drew | exact Drawn.refl _)).mono ?_; go_loud (rintro e W4 ⟨Qd, qd, rfl, ho4, hb4⟩; obtain ⟨y3, y5, zc, zf⟩ := HN.out _ hb4; obtain ⟨z1v, z1⟩ := zc 2 (by decide); obtain ⟨z6v, z6⟩ := zc 6 (by decide); obtain ⟨z4v, z4⟩ := zc 4 (by decide); obtain ⟨z7v, z7⟩ := zc 7 (by decide); obtain ⟨z8v, z8⟩ := zc 8 (by decide); have HO4 := hid ho4; have HB4 := hid hb4; have f1 := zf 2; have f4 := zf 4; have f6 := zf 6; have f7 := zf 7; have f8 := zf 8; clear ho4 hb4 zc zf))
  all_goals go_wp2_with fail
  all_goals
    refine bodyPost_ret (results_tmp rfl _ _ _) rfl ?_
    have hbx := box_below HBX2.out HB4.out
    have ht := HT2.out.trans (Tch.below (P := fun _ => False) HB4.out) (fun _ h => h.elim)
    have ht4 := ((((ht.setCell ⟨j, 2, none⟩ (.slice Qd n' qd) (.inl rfl)).setCell ⟨j, 6, none⟩ (.int .u32 sm) (.inl rfl)).setCell ⟨j, 4, none⟩ (.int .i64 0) (.inl rfl)).setCell ⟨j, 7, none⟩ (.int .i64 0) (.inl rfl)).setCell ⟨j, 8, none⟩ (.int .i64 0) (.inl rfl)
    have htj := (((((Tch.refl (fun k => k = j) W4).setCell ⟨j, 2, none⟩ (.slice Qd n' qd) (.inl rfl)).setCell ⟨j, 6, none⟩ (.int .u32 sm) (.inl rfl)).setCell ⟨j, 4, none⟩ (.int .i64 0) (.inl rfl)).setCell ⟨j, 7, none⟩ (.int .i64 0) (.inl rfl)).setCell ⟨j, 8, none⟩ (.int .i64 0) (.inl rfl)
    rw [HG.out] at HO4
    refine ⟨Qd, n', qd, rfl, HN'.out.symm, ?_, ?_, ht4⟩
    · refine (heap_setCell_at _ (heap_setCell_at _ (heap_setCell_at _ (heap_setCell_at _ (heap_setCell_at _ hbx))))).trans ?_
      rw [← HSM.out, HG.out]
      rfl
    · have ho := HO4.out
      have ho2 := htj.own ho (fun k hk e => by
        subst e
        obtain ⟨g, cap, cur, e1, _, e3, _⟩ := ho.2.resolve_left (fun h => by rw [h.1] at hk; cases hk)
        rw [e1] at hk
        injection hk with hk
        subst hk
        rw [hbx] at e3
        injection e3 with e3
        injection e3 with _ e3
        exact absurd e3 (by decide))
      show World.ownsRow _ _ _ 1 _ _ _
      rw [begunB_len, HN'.out]
      exact ho2
set_option maxRecDepth 100000 in
set_option maxHeartbeats 4000000 in
theorem snap_1 (w : World) (lo hi j : Nat) (J : JL) (s0 s1 : SV) (hJ : JAt w lo hi j J s0 s1) (hu : J.use = 1) (A : Option Addr) (n c : Nat) (st : List Int) (hl : st.length = n) (h2 : n ≤ 4194304) (hb : ∀ x ∈ st, isB x) (hR : U8s w.heap.size w A st) (hA : st ≠ [] → ∀ p, A = some p → p.block ≠ j)
    (_ : J.limit ≤ 16777216) (hfit : 24 + (n : Int) ≤ J.limit) (hg0 : 0 ≤ J.gen) (hg1 : J.gen < 18446744073709551615) : Calls Tryd.prog 41 #[.pointer (some ⟨j, 0, none⟩), .slice A n c] w fun e w' =>
    ∃ A' n' c', e = .returned (.int .i64 0) ∧ n' = 24 + n ∧ w'.heap[j]? = some (.cells (jCells { J with use := 0, l0 := begunB (J.gen + 1) st, synced := 0, gen := J.gen + 1, sum := begunSum (J.gen + 1) st, recs := 0, waiting := 0 } (A', n', c') s1) 120 (0, 0)) ∧ OwnB w' w.heap.size (SV.v (A', n', c')) (begunB (J.gen + 1) st) ∧ Tch (fun k => k = j) w w' := by
  subst hl
  have hbox := hJ.box
  have HAL := hid (alive_live w j J _ _ hbox)
  have hw1 : IntKind.u64.wrap (J.gen + 1) = J.gen + 1 := wraps_u64 _ (by omega) (by omega)
  have hd1 : (J.gen == 18446744073709551615) = false := by simp; omega
  obtain ⟨g, hg⟩ : ∃ g, g = J.gen + 1 := ⟨_, rfl⟩
  rw [← hg] at hw1
  have hgb : 0 ≤ g ∧ g ≤ 18446744073709551615 := by omega
  obtain ⟨x0, x1, x2, x3, x4, x5, x6, x7, x8, x9⟩ := jcellsA hbox
  have f5 : w.frozen? ⟨j, 5, none⟩ = false := box_fz hbox 5
  have f3 : w.frozen? ⟨j, 3, none⟩ = false := box_fz hbox 3
  rw [hu] at x3
  have d0 : decide ((4194304 : Int) < (st.length : Int)) = false := by simp; omega
  have d2 : decide (J.limit < 20 + (st.length : Int) + 4) = false := by simp; omega
  have w1 : IntKind.i64.wrap (20 + (st.length : Int)) = 20 + (st.length : Int) := wrap_small _ (by omega) (by omega)
  have w2 : IntKind.i64.wrap (20 + (st.length : Int) + 4) = 20 + (st.length : Int) + 4 := wrap_small _ (by omega) (by omega)
  have w3 : IntKind.i64.wrap (1 - (1 : Int)) = 0 := by decide
  obtain ⟨W2, hW2⟩ : ∃ W, W = (w.setCell ⟨j, 5, none⟩ (.int .u64 g)).setCell ⟨j, 3, none⟩ (.int .i64 0) := ⟨_, rfl⟩
  have ht2 : Tch (fun k => k = j) w W2 := by rw [hW2]; exact ((Tch.refl (fun k => k = j) w).setCell ⟨j, 5, none⟩ _ (.inl rfl)).setCell ⟨j, 3, none⟩ _ (.inl rfl)
  have hbx2 : W2.heap[j]? = some (.cells (jCells { J with use := 0, gen := g } s0 s1) 120 (0, 0)) := by
    rw [hW2]
    exact heap_setCell_at _ (heap_setCell_at _ hbox)
  have hR2 : U8s W2.heap.size W2 A st := (ht2.reads hR (Nat.le_refl _) hA).mono ht2.size
  have hB : ∀ W, Drawn W2 W → Calls Tryd.prog 61 #[.int .u64 g, .slice A st.length c] W fun e w' => ∃ A' c', e = .returned (.tuple #[.slice A' (24 + st.length) c', .int .u32 (begunSum g st)]) ∧ w'.ownsRow w.heap.size 5 1 (.slice A' (24 + st.length) c') (24 + st.length) ((begunB g st).flatMap u8s) ∧ Below W2.heap.size W2 w' := fun W hW => by
    refine (begun_any W g A st.length c st hgb rfl (by omega) hb (by rw [hW.heap]; exact hW.reads hR2)).mono ?_
    rintro e w' ⟨A', c', he, ho, hb2⟩
    have hsz := ht2.size
    rw [hW.heap] at ho hb2
    exact ⟨A', c', he, own_mono ho hsz, (hW.below _).trans hb2⟩
  obtain ⟨sm, hsm⟩ : ∃ sm, begunSum g st = sm := ⟨_, rfl⟩
  rw [hsm] at hB
  obtain ⟨n', hn'⟩ : ∃ n', 24 + st.length = n' := ⟨_, rfl⟩
  rw [hn'] at hB
  have HB := hid hB
  have HT2 := hid ht2
  have HN : Hid (∀ W, Below W2.heap.size W2 W → W.cell? ⟨j, 3, none⟩ = some (.int .i64 (0 : Nat)) ∧ W.cell? ⟨j, 5, none⟩ = some (.int .u64 g) ∧ (∀ i, i < 10 → ∃ v, W.cell? ⟨j, i, none⟩ = some v) ∧ ∀ i, W.frozen? ⟨j, i, none⟩ = false) := hid (fun W h => by
    have hb := box_below hbx2 h
    obtain ⟨y0, y1, y2, y3, y4, y5, y6, y7, y8, y9⟩ := jcellsA hb
    exact ⟨y3, y5, fun i hi => by
      match i, hi with
      | 0, _ => exact ⟨_, y0⟩
      | 1, _ => exact ⟨_, y1⟩
      | 2, _ => exact ⟨_, y2⟩
      | 3, _ => exact ⟨_, y3⟩
      | 4, _ => exact ⟨_, y4⟩
      | 5, _ => exact ⟨_, y5⟩
      | 6, _ => exact ⟨_, y6⟩
      | 7, _ => exact ⟨_, y7⟩
      | 8, _ => exact ⟨_, y8⟩
      | 9, _ => exact ⟨_, y9⟩, fun i => box_fz hb i⟩)
  have HBX2 := hid hbx2
  have HSM := hid hsm
  have HN' := hid hn'
  have HG := hid hg
  have hgw : J.gen + 1 = g := hg.symm
  clear hJ hbox hR hA hb hR2 hB hsm hn' ht2 hbx2 hu x1 x2 x4 x6 x7 x8 x9 hg hgb
  go_enter Tryd.func41, Tryd.ntmps41
  go_wp2_with fail
  refine HAL.out.mono ?_
  rintro e wq ⟨rfl, hwq⟩
  obtain rfl : w = wq := hwq.symm
  clear HAL
  go_upto_region 12 with fail
  rw [← hW2]
  obtain ⟨z3, z5, zc, zf⟩ := HN.out W2 (Below.refl _ _)
  clear hW2 zc zf x3 x5 f5 f3 x0
  go_region_with (go_at_call 61; with_reducible refine (HB.out _ (by first | assumption | exact (Drawn.refl _).drew | exact Drawn.refl _)).mono ?_; go_loud (rintro e W4 ⟨Qd, qd, rfl, ho4, hb4⟩; obtain ⟨y3, y5, zc, zf⟩ := HN.out _ hb4; obtain ⟨z1v, z1⟩ := zc 1 (by decide); obtain ⟨z6v, z6⟩ := zc 6 (by decide); obtain ⟨z4v, z4⟩ := zc 4 (by decide); obtain ⟨z7v, z7⟩ := zc 7 (by decide); obtain ⟨z8v, z8⟩ := zc 8 (by decide); have HO4 := hid ho4; have HB4 := hid hb4; have f1 := zf 1; have f4 := zf 4; have f6 := zf 6; have f7 := zf 7; have f8 := zf 8; clear ho4 hb4 zc zf))
  all_goals go_wp2_with fail
  all_goals
    refine bodyPost_ret (results_tmp rfl _ _ _) rfl ?_
    have hbx := box_below HBX2.out HB4.out
    have ht := HT2.out.trans (Tch.below (P := fun _ => False) HB4.out) (fun _ h => h.elim)
    have ht4 := ((((ht.setCell ⟨j, 1, none⟩ (.slice Qd n' qd) (.inl rfl)).setCell ⟨j, 6, none⟩ (.int .u32 sm) (.inl rfl)).setCell ⟨j, 4, none⟩ (.int .i64 0) (.inl rfl)).setCell ⟨j, 7, none⟩ (.int .i64 0) (.inl rfl)).setCell ⟨j, 8, none⟩ (.int .i64 0) (.inl rfl)
    have htj := (((((Tch.refl (fun k => k = j) W4).setCell ⟨j, 1, none⟩ (.slice Qd n' qd) (.inl rfl)).setCell ⟨j, 6, none⟩ (.int .u32 sm) (.inl rfl)).setCell ⟨j, 4, none⟩ (.int .i64 0) (.inl rfl)).setCell ⟨j, 7, none⟩ (.int .i64 0) (.inl rfl)).setCell ⟨j, 8, none⟩ (.int .i64 0) (.inl rfl)
    rw [HG.out] at HO4
    refine ⟨Qd, n', qd, rfl, HN'.out.symm, ?_, ?_, ht4⟩
    · refine (heap_setCell_at _ (heap_setCell_at _ (heap_setCell_at _ (heap_setCell_at _ (heap_setCell_at _ hbx))))).trans ?_
      rw [← HSM.out, HG.out]
      rfl
    · have ho := HO4.out
      have ho2 := htj.own ho (fun k hk e => by
        subst e
        obtain ⟨g, cap, cur, e1, _, e3, _⟩ := ho.2.resolve_left (fun h => by rw [h.1] at hk; cases hk)
        rw [e1] at hk
        injection hk with hk
        subst hk
        rw [hbx] at e3
        injection e3 with e3
        injection e3 with _ e3
        exact absurd e3 (by decide))
      show World.ownsRow _ _ _ 1 _ _ _
      rw [begunB_len, HN'.out]
      exact ho2
end Go.Proofs.YtfcgmlofiaehkaaDoor
