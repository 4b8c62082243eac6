/- Layer 9: what is left of a journal. -/
import Derived.Test.YtfcgmlofiaehkaaDoorJD
namespace Go.Proofs.YtfcgmlofiaehkaaDoor
open Go.RowKit

theorem jcells {w : World} {j : Nat} {J : JL} {s0 s1 : SV} (h : w.heap[j]? = some (.cells (jCells J s0 s1) 120 (0, 0))) : w.cell? ⟨j, 0, none⟩ = some (.int .i64 J.limit) ∧ w.cell? ⟨j, 1, none⟩ = some (.slice s0.1 s0.2.1 s0.2.2) ∧ w.cell? ⟨j, 2, none⟩ = some (.slice s1.1 s1.2.1 s1.2.2) ∧ w.cell? ⟨j, 3, none⟩ = some (.int .i64 J.use) ∧ w.cell? ⟨j, 4, none⟩ = some (.int .i64 J.synced) ∧ w.cell? ⟨j, 5, none⟩ = some (.int .u64 J.gen) ∧ w.cell? ⟨j, 6, none⟩ = some (.int .u32 J.sum) ∧ w.cell? ⟨j, 7, none⟩ = some (.int .i64 J.recs) ∧ w.cell? ⟨j, 8, none⟩ = some (.int .i64 J.waiting) ∧ w.cell? ⟨j, 9, none⟩ = some (.bool false) := by
  refine ⟨?_, ?_, ?_, ?_, ?_, ?_, ?_, ?_, ?_, ?_⟩ <;> simp [World.cell?, h, jCells]
theorem copied_in {B : Nat} {l : List Int} {A : Option Addr} {n c : Nat} (W0 : World) (hl : l.length = n) (hm : n ≤ 1000000000) (hR : U8s B W0 A l) (hB : B ≤ W0.heap.size) :
    ∀ W, Drawn W0 W → Calls Tryd.prog 54 #[.slice A n c] W fun e w' => ∃ A n c, e = .returned (.slice A n c) ∧ Below W0.heap.size W0 w' ∧ OwnB w' W0.heap.size (SV.v (A, n, c)) l := fun W hW => by
  subst hl
  refine (copied_any W A _ c l rfl hm (((hR.below ((hW.below _).mono hB))).mono (by rw [hW.heap]; exact hB))).mono ?_
  rintro e w' ⟨v, rfl, ho, hb⟩
  have ho2 : OwnB w' W.heap.size v l := ho
  obtain ⟨_, A', c', rfl, _, _, _⟩ := owns_reads u8s_len ho2 (by decide)
  exact ⟨A', _, c', rfl, (hW.below _).trans (hb.mono (by rw [hW.heap]; exact Nat.le_refl _)), by rw [hW.heap] at ho2; exact ho2⟩
set_option maxRecDepth 100000 in
set_option maxHeartbeats 4000000 in
theorem left_0 (w : World) (lo hi j : Nat) (J : JL) (s0 s1 : SV) (hJ : JAt w lo hi j J s0 s1) (hu : J.use = 0) (hm0 : J.l0.length ≤ 1000000000) (hm1 : J.l1.length ≤ 1000000000) (n : Nat) (hn : n ≤ J.l0.length) : Calls Tryd.prog 60 #[.pointer (some ⟨j, 0, none⟩), .int .i64 n] w fun e w' =>
    ∃ t0 t1 : SV, e = .returned (.agg #[.slice t0.1 t0.2.1 t0.2.2, .slice t1.1 t1.2.1 t1.2.2]) ∧ OwnB w' w.heap.size t0.v (J.l0.take n) ∧ OwnB w' w.heap.size t1.v J.l1 ∧ (∀ k, t0.v.ownBlock = some k → t1.v.ownBlock ≠ some k) ∧ Below w.heap.size w w' := by
  obtain ⟨A0, n0, c0⟩ := s0
  obtain ⟨A1, n1, c1⟩ := s1
  obtain ⟨hl0, hc0, _, r0⟩ := OwnB.reads hJ.own0
  obtain ⟨hl1, hc1, _, r1⟩ := OwnB.reads hJ.own1
  have hbox := hJ.box
  clear hJ
  subst hl0 hl1
  obtain ⟨x0, x1, x2, x3, x4, x5, x6, x7, x8, x9⟩ := jcells hbox
  clear x0 x1 x2 x3 x4 x5 x6 x7 x8 x9
  have hjw : j < w.heap.size := (Array.getElem?_eq_some_iff.1 hbox).1
  obtain ⟨W0, hW0⟩ : ∃ W, W = (w.alloc (.cells #[.slice none 0 0, .slice none 0 0] 25)).alloc (.cells #[.slice none 0 0, .slice none 0 0] 25) := ⟨_, rfl⟩
  have hb0 : Below w.heap.size w W0 := by rw [hW0]; exact ((Below.refl _ w).alloc (Nat.le_refl _) _).alloc (by simp) _
  have hz0 : W0.heap.size = w.heap.size + 2 := by rw [hW0]; simp
  have hr0 : W0.heap[w.heap.size]? = some (.cells #[.slice none 0 0, .slice none 0 0] 25 (0, 0)) := by rw [hW0]; exact (((Below.refl _ _).alloc (Nat.le_refl _) _).block _ (by simp)).trans (heap_alloc_new w _)
  have hd0 : W0.heap[w.heap.size + 1]? = some (.cells #[.slice none 0 0, .slice none 0 0] 25 (0, 0)) := by rw [hW0]; simpa using heap_alloc_new (w.alloc (.cells #[.slice none 0 0, .slice none 0 0] 25)) (.cells #[.slice none 0 0, .slice none 0 0] 25)
  have hj0 := (hb0.block j hjw).trans hbox
  obtain ⟨Ah, runh, rdh, _⟩ := headB_run A0 J.l0.length c0 n (n : Int) rfl hn hc0
  have HCP0 := hid (copied_in (c := c0) W0 (l := J.l0.take n) (n := n) (by rw [List.length_take]; omega) (by omega) (rdh _ _ _ rfl (r0.below hb0)) hb0.size)
  have HR1 := hid r1
  have HB0 := hid hb0
  have HZ0 := hid hz0
  have HRB := hid hr0
  have HDB := hid hd0
  have HJB := hid hj0
  have HJW := hid hjw
  have HN : Hid (∀ wn, Below W0.heap.size W0 wn → wn.cell? ⟨j, 3, none⟩ = some (.int .i64 0) ∧ wn.cell? ⟨w.heap.size + 1, 0, none⟩ = some (.slice none 0 0) ∧ wn.frozen? ⟨w.heap.size + 1, 0, none⟩ = false) := hid (fun wn hb => by
    have hq := (jcells (box_below HJB.out hb)).2.2.2.1
    rw [hu] at hq
    exact ⟨hq, box_cell (box_below HDB.out hb) 0, box_fz (box_below HDB.out hb) 0⟩)
  obtain ⟨y0, y1, y2, y3, y4, y5, y6, y7, y8, y9⟩ := jcells hj0
  rw [hu] at y3
  have z1 : W0.cell? ⟨j, 3, none⟩ = some (.int .i64 0) := y3
  clear y0 y4 y5 y6 y7 y8 y9 y3
  have hdc := disk_box hd0
  obtain ⟨z2, z3, z4, z5⟩ := hdc
  clear r0 r1 hb0 hz0 hr0 hd0 hj0 hjw hbox rdh
  go_enter Tryd.func60, Tryd.ntmps60
  go_upto_region 2 with fail
  rw [← hW0]
  clear hW0
  go_cut [5] from 6 to 44 (fun vv wd => vv = .pointer (some ⟨w.heap.size + 1, 0, none⟩) ∧ ∃ Ac nc cc w1, Below W0.heap.size W0 w1 ∧ OneSet (w.heap.size + 1) w1 wd ∧ wd.heap[w.heap.size + 1]? = some (.cells #[.slice Ac nc cc, .slice none 0 0] 25 (0, 0)) ∧ OwnB wd W0.heap.size (SV.v (Ac, nc, cc)) (J.l0.take n))
  case first =>
    go_region_with (go_at_call 54; with_reducible refine (HCP0.out _ (by first | assumption | exact (Drawn.refl _).drew | exact Drawn.refl _)).mono ?_; go_loud (rintro e wn ⟨Ac, nc, cc, rfl, hbC, hoC⟩; obtain ⟨j1, j2, j3⟩ := HN.out _ hbC; have HBC2 := hid hbC; have HOC2 := hid hoC; clear hbC hoC))
    all_goals go_wp2_with fail
    all_goals go_meet
    all_goals exact ⟨by first | rfl | simp, _, _, _, wn, HBC2.out, (OneSet.refl _ _).setCell 0 _, heap_setCell_at (k := 0) _ (box_below HDB.out HBC2.out), ownB_keep row_u8 HOC2.out (keep_setCell (a := ⟨w.heap.size + 1, 0, none⟩) (box_below HDB.out HBC2.out) (by decide) (by decide) _)⟩
  case rest =>
  obtain ⟨rfl, Ac0, nc0, cc0, w1, hb1, hos1, hD1, hown1⟩ := hcut
  obtain ⟨W6, hWn⟩ : ∃ W, W = wc := ⟨_, rfl⟩
  subst hWn
  have hjn : j ≠ w.heap.size + 1 := by have := HJW.out; omega
  have hj6 : W6.heap[j]? = _ := (hos1.block j hjn).trans (box_below HJB.out hb1)
  have hr6 : W6.heap[w.heap.size]? = _ := (hos1.block _ (by omega)).trans (box_below HRB.out hb1)
  have hb6 : Below w.heap.size w W6 := (HB0.out.trans (hb1.mono HB0.out.size)).trans (hos1.below (by omega))
  have hz6 : W0.heap.size ≤ W6.heap.size := by rw [hos1.size]; exact hb1.size
  have HCP1 := hid (copied_in (c := c1) W6 (l := J.l1) rfl hm1 (HR1.out.below hb6) hb6.size)
  have HB6 := hid hb6
  have HZ6 := hid hz6
  have HR6 := hid hr6
  have HJ6 := hid hj6
  have HD6 := hid hD1
  have HO6 := hid hown1
  have HN6 : Hid (∀ wn, Below W6.heap.size W6 wn → wn.cell? ⟨j, 3, none⟩ = some (.int .i64 0) ∧ wn.cell? ⟨w.heap.size + 1, 1, none⟩ = some (.slice none 0 0) ∧ wn.frozen? ⟨w.heap.size + 1, 1, none⟩ = false) := hid (fun wn hb => by
    have hq := (jcells (box_below HJ6.out hb)).2.2.2.1
    rw [hu] at hq
    exact ⟨hq, box_cell (box_below HD6.out hb) 1, box_fz (box_below HD6.out hb) 1⟩)
  obtain ⟨y0, y1, y2, y3, y4, y5, y6, y7, y8, y9⟩ := jcells hj6
  rw [hu] at y3
  have z6 : W6.cell? ⟨j, 3, none⟩ = some (.int .i64 0) := y3
  clear y0 y4 y5 y6 y7 y8 y9 y3 z1 z2 z3 z4 z5 hb1 hos1 hD1 hown1 hj6 hr6 hb6 hz6 hjn HN HCP0 HR1
  have hw : IntKind.i64.wrap 1 = 1 := by decide
  go_upto_region 3 with fail
  go_cut [5] from 6 to 44 (fun vv wd => vv = .pointer (some ⟨w.heap.size + 1, 0, none⟩) ∧ ∃ Ac nc cc w1, Below W6.heap.size W6 w1 ∧ OneSet (w.heap.size + 1) w1 wd ∧ wd.heap[w.heap.size + 1]? = some (.cells #[.slice Ac0 nc0 cc0, .slice Ac nc cc] 25 (0, 0)) ∧ OwnB wd W6.heap.size (SV.v (Ac, nc, cc)) J.l1)
  case first =>
    go_region_with (go_at_call 54; with_reducible refine (HCP1.out _ (by first | assumption | exact (Drawn.refl _).drew | exact Drawn.refl _)).mono ?_; go_loud (rintro e wn ⟨Ac, nc, cc, rfl, hbC, hoC⟩; obtain ⟨j1, j2, j3⟩ := HN6.out _ hbC; have HBC2 := hid hbC; have HOC2 := hid hoC; clear hbC hoC))
    all_goals go_wp2_with fail
    all_goals go_meet
    all_goals exact ⟨by first | rfl | simp, _, _, _, wn, HBC2.out, (OneSet.refl _ _).setCell 1 _, heap_setCell_at (k := 1) _ (box_below HD6.out HBC2.out), ownB_keep row_u8 HOC2.out (keep_setCell (a := ⟨w.heap.size + 1, 1, none⟩) (box_below HD6.out HBC2.out) (by decide) (by decide) _)⟩
  case rest =>
  obtain ⟨rfl, Ac1, nc1, cc1, w1, hb1, hos1, hD1, hown1⟩ := hcut
  obtain ⟨W7, hWn⟩ : ∃ W, W = wc := ⟨_, rfl⟩
  subst hWn
  have hr7 : W7.heap[w.heap.size]? = _ := (hos1.block _ (by omega)).trans (box_below HR6.out hb1)
  obtain ⟨d0, d1, _, _⟩ := disk_box hD1
  obtain ⟨r0, r1, q0, q1⟩ := disk_box hr7
  have HR7 := hid hr7
  have HH7 := hid (And.intro hb1 (And.intro hos1 (And.intro hown1 HD6.out)))
  clear hb1 hos1 hown1 hr7 z6 y1 y2 HN6 HCP1 hD1
  go_wp2_with fail
  obtain ⟨U, hU⟩ : ∃ U, U = (W7.setCell ⟨w.heap.size, 0, none⟩ (.slice Ac0 nc0 cc0)).setCell ⟨w.heap.size, 1, none⟩ (.slice Ac1 nc1 cc1) := ⟨_, rfl⟩
  have hos : OneSet w.heap.size W7 U := by rw [hU]; exact ((OneSet.refl _ _).setCell 0 _).setCell 1 _
  have hbx : U.heap[w.heap.size]? = some (.cells #[.slice Ac0 nc0 cc0, .slice Ac1 nc1 cc1] 25 (0, 0)) := by
    rw [hU]
    exact heap_setCell_at _ (heap_setCell_at _ HR7.out)
  rw [← hU]
  refine bodyPost_ret (results_disk1 rfl _ _ _ _ rfl hbx rfl) rfl ?_
  obtain ⟨hb1, hos1, hown1, hd6⟩ := HH7.out
  have hk7 : KeepRows W7 U := hos.rows HR7.out (by decide) (by decide)
  have hk6 : KeepRows W6 W7 := (keep_below hb1).trans (hos1.rows (box_below hd6 hb1) (by decide) (by decide))
  have hz1 := HZ6.out
  have hz0 := HZ0.out
  have o0 : OwnB U w.heap.size (SV.v (Ac0, nc0, cc0)) (J.l0.take n) := own_mono (ownB_keep row_u8 HO6.out (hk6.trans hk7)) (by omega)
  have o1 : OwnB U w.heap.size (SV.v (Ac1, nc1, cc1)) J.l1 := own_mono (ownB_keep row_u8 hown1 hk7) (by omega)
  have hap : ∀ k, (SV.v (Ac0, nc0, cc0)).ownBlock = some k → (SV.v (Ac1, nc1, cc1)).ownBlock ≠ some k := fun k e e2 => by
    have h1 := (HO6.out.lt k e).2
    have h2 := (hown1.lt k e2).1
    omega
  refine ⟨Ac0, nc0, cc0, Ac1, nc1, cc1, rfl, o0, o1, hap, ?_⟩
  exact ((HB6.out.trans (hb1.mono HB6.out.size)).trans (hos1.below (by omega))).trans (hos.below (Nat.le_refl _))
set_option maxRecDepth 100000 in
set_option maxHeartbeats 4000000 in
theorem left_1 (w : World) (lo hi j : Nat) (J : JL) (s0 s1 : SV) (hJ : JAt w lo hi j J s0 s1) (hu : J.use = 1) (hm0 : J.l0.length ≤ 1000000000) (hm1 : J.l1.length ≤ 1000000000) (n : Nat) (hn : n ≤ J.l1.length) : Calls Tryd.prog 60 #[.pointer (some ⟨j, 0, none⟩), .int .i64 n] w fun e w' =>
    ∃ t0 t1 : SV, e = .returned (.agg #[.slice t0.1 t0.2.1 t0.2.2, .slice t1.1 t1.2.1 t1.2.2]) ∧ OwnB w' w.heap.size t0.v J.l0 ∧ OwnB w' w.heap.size t1.v (J.l1.take n) ∧ (∀ k, t0.v.ownBlock = some k → t1.v.ownBlock ≠ some k) ∧ Below w.heap.size w w' := by
  obtain ⟨A0, n0, c0⟩ := s0
  obtain ⟨A1, n1, c1⟩ := s1
  obtain ⟨hl0, hc0, _, r0⟩ := OwnB.reads hJ.own0
  obtain ⟨hl1, hc1, _, r1⟩ := OwnB.reads hJ.own1
  have hbox := hJ.box
  clear hJ
  subst hl0 hl1
  obtain ⟨x0, x1, x2, x3, x4, x5, x6, x7, x8, x9⟩ := jcells hbox
  clear x0 x1 x2 x3 x4 x5 x6 x7 x8 x9
  have hjw : j < w.heap.size := (Array.getElem?_eq_some_iff.1 hbox).1
  obtain ⟨W0, hW0⟩ : ∃ W, W = (w.alloc (.cells #[.slice none 0 0, .slice none 0 0] 25)).alloc (.cells #[.slice none 0 0, .slice none 0 0] 25) := ⟨_, rfl⟩
  have hb0 : Below w.heap.size w W0 := by rw [hW0]; exact ((Below.refl _ w).alloc (Nat.le_refl _) _).alloc (by simp) _
  have hz0 : W0.heap.size = w.heap.size + 2 := by rw [hW0]; simp
  have hr0 : W0.heap[w.heap.size]? = some (.cells #[.slice none 0 0, .slice none 0 0] 25 (0, 0)) := by rw [hW0]; exact (((Below.refl _ _).alloc (Nat.le_refl _) _).block _ (by simp)).trans (heap_alloc_new w _)
  have hd0 : W0.heap[w.heap.size + 1]? = some (.cells #[.slice none 0 0, .slice none 0 0] 25 (0, 0)) := by rw [hW0]; simpa using heap_alloc_new (w.alloc (.cells #[.slice none 0 0, .slice none 0 0] 25)) (.cells #[.slice none 0 0, .slice none 0 0] 25)
  have hj0 := (hb0.block j hjw).trans hbox
  obtain ⟨Ah, runh, rdh, _⟩ := headB_run A1 J.l1.length c1 n (n : Int) rfl hn hc1
  have HCP0 := hid (copied_in (c := c1) W0 (l := J.l1.take n) (n := n) (by rw [List.length_take]; omega) (by omega) (rdh _ _ _ rfl (r1.below hb0)) hb0.size)
  have HR0 := hid r0
  have HB0 := hid hb0
  have HZ0 := hid hz0
  have HRB := hid hr0
  have HDB := hid hd0
  have HJB := hid hj0
  have HJW := hid hjw
  have HN : Hid (∀ wn, Below W0.heap.size W0 wn → wn.cell? ⟨j, 3, none⟩ = some (.int .i64 1) ∧ wn.cell? ⟨w.heap.size + 1, 1, none⟩ = some (.slice none 0 0) ∧ wn.frozen? ⟨w.heap.size + 1, 1, none⟩ = false) := hid (fun wn hb => by
    have hq := (jcells (box_below HJB.out hb)).2.2.2.1
    rw [hu] at hq
    exact ⟨hq, box_cell (box_below HDB.out hb) 1, box_fz (box_below HDB.out hb) 1⟩)
  obtain ⟨y0, y1, y2, y3, y4, y5, y6, y7, y8, y9⟩ := jcells hj0
  rw [hu] at y3
  have z1 : W0.cell? ⟨j, 3, none⟩ = some (.int .i64 1) := y3
  clear y0 y4 y5 y6 y7 y8 y9 y3
  have hdc := disk_box hd0
  obtain ⟨z2, z3, z4, z5⟩ := hdc
  clear r0 r1 hb0 hz0 hr0 hd0 hj0 hjw hbox rdh
  go_enter Tryd.func60, Tryd.ntmps60
  go_upto_region 2 with fail
  rw [← hW0]
  clear hW0
  go_cut [5] from 6 to 44 (fun vv wd => vv = .pointer (some ⟨w.heap.size + 1, 0, none⟩) ∧ ∃ Ac nc cc w1, Below W0.heap.size W0 w1 ∧ OneSet (w.heap.size + 1) w1 wd ∧ wd.heap[w.heap.size + 1]? = some (.cells #[.slice none 0 0, .slice Ac nc cc] 25 (0, 0)) ∧ OwnB wd W0.heap.size (SV.v (Ac, nc, cc)) (J.l1.take n))
  case first =>
    go_region_with (go_at_call 54; with_reducible refine (HCP0.out _ (by first | assumption | exact (Drawn.refl _).drew | exact Drawn.refl _)).mono ?_; go_loud (rintro e wn ⟨Ac, nc, cc, rfl, hbC, hoC⟩; obtain ⟨j1, j2, j3⟩ := HN.out _ hbC; have HBC2 := hid hbC; have HOC2 := hid hoC; clear hbC hoC))
    all_goals go_wp2_with fail
    all_goals go_meet
    all_goals exact ⟨by first | rfl | simp, _, _, _, wn, HBC2.out, (OneSet.refl _ _).setCell 1 _, heap_setCell_at (k := 1) _ (box_below HDB.out HBC2.out), ownB_keep row_u8 HOC2.out (keep_setCell (a := ⟨w.heap.size + 1, 1, none⟩) (box_below HDB.out HBC2.out) (by decide) (by decide) _)⟩
  case rest =>
  obtain ⟨rfl, Ac0, nc0, cc0, w1, hb1, hos1, hD1, hown1⟩ := hcut
  obtain ⟨W6, hWn⟩ : ∃ W, W = wc := ⟨_, rfl⟩
  subst hWn
  have hjn : j ≠ w.heap.size + 1 := by have := HJW.out; omega
  have hj6 : W6.heap[j]? = _ := (hos1.block j hjn).trans (box_below HJB.out hb1)
  have hr6 : W6.heap[w.heap.size]? = _ := (hos1.block _ (by omega)).trans (box_below HRB.out hb1)
  have hb6 : Below w.heap.size w W6 := (HB0.out.trans (hb1.mono HB0.out.size)).trans (hos1.below (by omega))
  have hz6 : W0.heap.size ≤ W6.heap.size := by rw [hos1.size]; exact hb1.size
  have HCP1 := hid (copied_in (c := c0) W6 (l := J.l0) rfl hm0 (HR0.out.below hb6) hb6.size)
  have HB6 := hid hb6
  have HZ6 := hid hz6
  have HR6 := hid hr6
  have HJ6 := hid hj6
  have HD6 := hid hD1
  have HO6 := hid hown1
  have HN6 : Hid (∀ wn, Below W6.heap.size W6 wn → wn.cell? ⟨j, 3, none⟩ = some (.int .i64 1) ∧ wn.cell? ⟨w.heap.size + 1, 0, none⟩ = some (.slice none 0 0) ∧ wn.frozen? ⟨w.heap.size + 1, 0, none⟩ = false) := hid (fun wn hb => by
    have hq := (jcells (box_below HJ6.out hb)).2.2.2.1
    rw [hu] at hq
    exact ⟨hq, box_cell (box_below HD6.out hb) 0, box_fz (box_below HD6.out hb) 0⟩)
  obtain ⟨y0, y1, y2, y3, y4, y5, y6, y7, y8, y9⟩ := jcells hj6
  rw [hu] at y3
  have z6 : W6.cell? ⟨j, 3, none⟩ = some (.int .i64 1) := y3
  clear y0 y4 y5 y6 y7 y8 y9 y3 z1 z2 z3 z4 z5 hb1 hos1 hD1 hown1 hj6 hr6 hb6 hz6 hjn HN HCP0 HR0
  have hw : IntKind.i64.wrap 0 = 0 := by decide
  go_upto_region 3 with fail
  go_cut [5] from 6 to 44 (fun vv wd => vv = .pointer (some ⟨w.heap.size + 1, 0, none⟩) ∧ ∃ Ac nc cc w1, Below W6.heap.size W6 w1 ∧ OneSet (w.heap.size + 1) w1 wd ∧ wd.heap[w.heap.size + 1]? = some (.cells #[.slice Ac nc cc, .slice Ac0 nc0 cc0] 25 (0, 0)) ∧ OwnB wd W6.heap.size (SV.v (Ac, nc, cc)) J.l0)
  case first =>
    go_region_with (go_at_call 54; with_reducible refine (HCP1.out _ (by first | assumption | exact (Drawn.refl _).drew | exact Drawn.refl _)).mono ?_; go_loud (rintro e wn ⟨Ac, nc, cc, rfl, hbC, hoC⟩; obtain ⟨j1, j2, j3⟩ := HN6.out _ hbC; have HBC2 := hid hbC; have HOC2 := hid hoC; clear hbC hoC))
    all_goals go_wp2_with fail
    all_goals go_meet
    all_goals exact ⟨by first | rfl | simp, _, _, _, wn, HBC2.out, (OneSet.refl _ _).setCell 0 _, heap_setCell_at (k := 0) _ (box_below HD6.out HBC2.out), ownB_keep row_u8 HOC2.out (keep_setCell (a := ⟨w.heap.size + 1, 0, none⟩) (box_below HD6.out HBC2.out) (by decide) (by decide) _)⟩
  case rest =>
  obtain ⟨rfl, Ac1, nc1, cc1, w1, hb1, hos1, hD1, hown1⟩ := hcut
  obtain ⟨W7, hWn⟩ : ∃ W, W = wc := ⟨_, rfl⟩
  subst hWn
  have hr7 : W7.heap[w.heap.size]? = _ := (hos1.block _ (by omega)).trans (box_below HR6.out hb1)
  obtain ⟨d0, d1, _, _⟩ := disk_box hD1
  obtain ⟨r0, r1, q0, q1⟩ := disk_box hr7
  have HR7 := hid hr7
  have HH7 := hid (And.intro hb1 (And.intro hos1 (And.intro hown1 HD6.out)))
  clear hb1 hos1 hown1 hr7 z6 y1 y2 HN6 HCP1 hD1
  go_wp2_with fail
  obtain ⟨U, hU⟩ : ∃ U, U = (W7.setCell ⟨w.heap.size, 0, none⟩ (.slice Ac1 nc1 cc1)).setCell ⟨w.heap.size, 1, none⟩ (.slice Ac0 nc0 cc0) := ⟨_, rfl⟩
  have hos : OneSet w.heap.size W7 U := by rw [hU]; exact ((OneSet.refl _ _).setCell 0 _).setCell 1 _
  have hbx : U.heap[w.heap.size]? = some (.cells #[.slice Ac1 nc1 cc1, .slice Ac0 nc0 cc0] 25 (0, 0)) := by
    rw [hU]
    exact heap_setCell_at _ (heap_setCell_at _ HR7.out)
  rw [← hU]
  refine bodyPost_ret (results_disk1 rfl _ _ _ _ rfl hbx rfl) rfl ?_
  obtain ⟨hb1, hos1, hown1, hd6⟩ := HH7.out
  have hk7 : KeepRows W7 U := hos.rows HR7.out (by decide) (by decide)
  have hk6 : KeepRows W6 W7 := (keep_below hb1).trans (hos1.rows (box_below hd6 hb1) (by decide) (by decide))
  have hz1 := HZ6.out
  have hz0 := HZ0.out
  have o0 : OwnB U w.heap.size (SV.v (Ac0, nc0, cc0)) (J.l1.take n) := own_mono (ownB_keep row_u8 HO6.out (hk6.trans hk7)) (by omega)
  have o1 : OwnB U w.heap.size (SV.v (Ac1, nc1, cc1)) J.l0 := own_mono (ownB_keep row_u8 hown1 hk7) (by omega)
  have hap : ∀ k, (SV.v (Ac0, nc0, cc0)).ownBlock = some k → (SV.v (Ac1, nc1, cc1)).ownBlock ≠ some k := fun k e e2 => by
    have h1 := (HO6.out.lt k e).2
    have h2 := (hown1.lt k e2).1
    omega
  refine ⟨Ac1, nc1, cc1, Ac0, nc0, cc0, rfl, o1, o0, fun k e e2 => hap k e2 e, ?_⟩
  exact ((HB6.out.trans (hb1.mono HB6.out.size)).trans (hos1.below (by omega))).trans (hos.below (Nat.le_refl _))
end Go.Proofs.YtfcgmlofiaehkaaDoor
