/- Layer 9: Disk, Stat and Sync of a journal that lives. -/
import Derived.Test.YtfcgmlofiaehkaaDoorJL
namespace Go.Proofs.YtfcgmlofiaehkaaDoor
open Go.RowKit

theorem OneSet.drew {g : Nat} {W W' : World} (h : OneSet g W W') : OneSet g W W'.drew := ⟨h.size, h.os, h.tape, h.output, h.block⟩
theorem Below.drew' {n : Nat} {W : World} : Below n W W.drew := (Drawn.refl W).drew.below n
set_option maxRecDepth 100000 in
set_option maxHeartbeats 4000000 in
theorem disk_0 (w : World) (lo hi j : Nat) (J : JL) (s0 s1 : SV) (hJ : JAt w lo hi j J s0 s1) (hu : J.use = 0) (hm0 : J.l0.length ≤ 1000000000) (hm1 : J.l1.length ≤ 1000000000) (hs : J.synced ≤ J.l0.length) : Calls Tryd.prog 38 #[.pointer (some ⟨j, 0, none⟩)] w fun e w' =>
    ∃ a0 n0 c0 a1 n1 c1, e = .returned (.agg #[.slice a0 n0 c0, .slice a1 n1 c1]) ∧ OwnB w' w.heap.size (SV.v (a0, n0, c0)) (J.l0.take J.synced) ∧ OwnB w' w.heap.size (SV.v (a1, n1, c1)) J.l1 ∧ (∀ k, (SV.v (a0, n0, c0)).ownBlock = some k → (SV.v (a1, n1, c1)).ownBlock ≠ some k) ∧ Below w.heap.size w w' := by
  have hbox := hJ.box
  have hjw : j < w.heap.size := (Array.getElem?_eq_some_iff.1 hbox).1
  have HAL := hid (fun (o : Obj) => alive_live (w.alloc o) j J s0 s1 (((Below.refl w.heap.size w).alloc (Nat.le_refl _) o).block j hjw |>.trans hbox))
  obtain ⟨W1, hW1⟩ : ∃ W, W = w.alloc (.cells #[.slice none 0 0, .slice none 0 0] 25) := ⟨_, rfl⟩
  have hb1 : Below w.heap.size w W1 := by rw [hW1]; exact (Below.refl _ w).alloc (Nat.le_refl _) _
  have hz1 : W1.heap.size = w.heap.size + 1 := by rw [hW1]; simp
  have hr1 : W1.heap[w.heap.size]? = some (.cells #[.slice none 0 0, .slice none 0 0] 25 (0, 0)) := by rw [hW1]; exact heap_alloc_new w _
  have HL := hid (left_0 W1 lo hi j J s0 s1 (hJ.below hb1) hu hm0 hm1 J.synced hs)
  obtain ⟨x0, x1, x2, x3, x4, x5, x6, x7, x8, x9⟩ := jcells (hJ.below hb1).box
  clear x0 x1 x2 x3 x5 x6 x7 x8 x9
  have HB1 := hid hb1
  have HZ1 := hid hz1
  have HR1 := hid hr1
  clear hbox hJ hb1 hz1 hr1 hjw
  go_enter Tryd.func38, Tryd.ntmps38
  go_wp2_with fail
  refine (HAL.out _).mono ?_
  rintro e w1 ⟨rfl, hw1⟩
  subst hw1
  clear HAL
  rw [← hW1]
  clear hW1
  go_wp2_with fail
  refine HL.out.mono ?_
  rintro e wn ⟨t0, t1, rfl, ho0, ho1, hap, hbC⟩
  have hr2 := box_below HR1.out hbC
  obtain ⟨y0, y1, y2, y3⟩ := disk_box hr2
  have HR2 := hid hr2
  have HH := hid (And.intro ho0 (And.intro ho1 (And.intro hap hbC)))
  clear ho0 ho1 hap hbC hr2 x4 HL
  go_wp2_with fail
  obtain ⟨U, hU⟩ : ∃ U, U = (wn.setCell ⟨w.heap.size, 0, none⟩ (.slice t0.1 t0.2.1 t0.2.2)).setCell ⟨w.heap.size, 1, none⟩ (.slice t1.1 t1.2.1 t1.2.2) := ⟨_, rfl⟩
  have hos : OneSet w.heap.size wn U := by rw [hU]; exact ((OneSet.refl _ _).setCell 0 _).setCell 1 _
  have hbx : U.heap[w.heap.size]? = some (.cells #[.slice t0.1 t0.2.1 t0.2.2, .slice t1.1 t1.2.1 t1.2.2] 25 (0, 0)) := by
    rw [hU]
    exact heap_setCell_at _ (heap_setCell_at _ HR2.out)
  rw [← hU]
  refine bodyPost_ret (results_disk1 rfl _ _ _ _ rfl hbx rfl) rfl ?_
  obtain ⟨o0, o1, hap, hbC⟩ := HH.out
  have hk : KeepRows wn U := hos.rows HR2.out (by decide) (by decide)
  have hz1 := HZ1.out
  exact ⟨_, _, _, _, _, _, rfl, own_mono (ownB_keep row_u8 o0 hk) (by omega), own_mono (ownB_keep row_u8 o1 hk) (by omega), hap, (HB1.out.trans (hbC.mono HB1.out.size)).trans (hos.below (Nat.le_refl _))⟩
set_option maxRecDepth 100000 in
set_option maxHeartbeats 4000000 in
theorem disk_1 (w : World) (lo hi j : Nat) (J : JL) (s0 s1 : SV) (hJ : JAt w lo hi j J s0 s1) (hu : J.use = 1) (hm0 : J.l0.length ≤ 1000000000) (hm1 : J.l1.length ≤ 1000000000) (hs : J.synced ≤ J.l1.length) : Calls Tryd.prog 38 #[.pointer (some ⟨j, 0, none⟩)] w fun e w' =>
    ∃ a0 n0 c0 a1 n1 c1, e = .returned (.agg #[.slice a0 n0 c0, .slice a1 n1 c1]) ∧ OwnB w' w.heap.size (SV.v (a0, n0, c0)) J.l0 ∧ OwnB w' w.heap.size (SV.v (a1, n1, c1)) (J.l1.take J.synced) ∧ (∀ k, (SV.v (a0, n0, c0)).ownBlock = some k → (SV.v (a1, n1, c1)).ownBlock ≠ some k) ∧ Below w.heap.size w w' := by
  have hbox := hJ.box
  have hjw : j < w.heap.size := (Array.getElem?_eq_some_iff.1 hbox).1
  have HAL := hid (fun (o : Obj) => alive_live (w.alloc o) j J s0 s1 (((Below.refl w.heap.size w).alloc (Nat.le_refl _) o).block j hjw |>.trans hbox))
  obtain ⟨W1, hW1⟩ : ∃ W, W = w.alloc (.cells #[.slice none 0 0, .slice none 0 0] 25) := ⟨_, rfl⟩
  have hb1 : Below w.heap.size w W1 := by rw [hW1]; exact (Below.refl _ w).alloc (Nat.le_refl _) _
  have hz1 : W1.heap.size = w.heap.size + 1 := by rw [hW1]; simp
  have hr1 : W1.heap[w.heap.size]? = some (.cells #[.slice none 0 0, .slice none 0 0] 25 (0, 0)) := by rw [hW1]; exact heap_alloc_new w _
  have HL := hid (left_1 W1 lo hi j J s0 s1 (hJ.below hb1) hu hm0 hm1 J.synced hs)
  obtain ⟨x0, x1, x2, x3, x4, x5, x6, x7, x8, x9⟩ := jcells (hJ.below hb1).box
  clear x0 x1 x2 x3 x5 x6 x7 x8 x9
  have HB1 := hid hb1
  have HZ1 := hid hz1
  have HR1 := hid hr1
  clear hbox hJ hb1 hz1 hr1 hjw
  go_enter Tryd.func38, Tryd.ntmps38
  go_wp2_with fail
  refine (HAL.out _).mono ?_
  rintro e w1 ⟨rfl, hw1⟩
  subst hw1
  clear HAL
  rw [← hW1]
  clear hW1
  go_wp2_with fail
  refine HL.out.mono ?_
  rintro e wn ⟨t0, t1, rfl, ho0, ho1, hap, hbC⟩
  have hr2 := box_below HR1.out hbC
  obtain ⟨y0, y1, y2, y3⟩ := disk_box hr2
  have HR2 := hid hr2
  have HH := hid (And.intro ho0 (And.intro ho1 (And.intro hap hbC)))
  clear ho0 ho1 hap hbC hr2 x4 HL
  go_wp2_with fail
  obtain ⟨U, hU⟩ : ∃ U, U = (wn.setCell ⟨w.heap.size, 0, none⟩ (.slice t0.1 t0.2.1 t0.2.2)).setCell ⟨w.heap.size, 1, none⟩ (.slice t1.1 t1.2.1 t1.2.2) := ⟨_, rfl⟩
  have hos : OneSet w.heap.size wn U := by rw [hU]; exact ((OneSet.refl _ _).setCell 0 _).setCell 1 _
  have hbx : U.heap[w.heap.size]? = some (.cells #[.slice t0.1 t0.2.1 t0.2.2, .slice t1.1 t1.2.1 t1.2.2] 25 (0, 0)) := by
    rw [hU]
    exact heap_setCell_at _ (heap_setCell_at _ HR2.out)
  rw [← hU]
  refine bodyPost_ret (results_disk1 rfl _ _ _ _ rfl hbx rfl) rfl ?_
  obtain ⟨o0, o1, hap, hbC⟩ := HH.out
  have hk : KeepRows wn U := hos.rows HR2.out (by decide) (by decide)
  have hz1 := HZ1.out
  exact ⟨_, _, _, _, _, _, rfl, own_mono (ownB_keep row_u8 o0 hk) (by omega), own_mono (ownB_keep row_u8 o1 hk) (by omega), hap, (HB1.out.trans (hbC.mono HB1.out.size)).trans (hos.below (Nat.le_refl _))⟩
set_option maxRecDepth 100000 in
set_option maxHeartbeats 4000000 in
theorem sync_0 (w : World) (lo hi j : Nat) (J : JL) (s0 s1 : SV) (hJ : JAt w lo hi j J s0 s1) (hu : J.use = 0) : Calls Tryd.prog 37 #[.pointer (some ⟨j, 0, none⟩)] w fun e w' =>
    e = .returned (.tuple #[.int .i64 J.waiting, .int .i64 0]) ∧ OneSet j w w' ∧ w'.heap[j]? = some (.cells (jCells { J with synced := J.l0.length, waiting := 0 } s0 s1) 120 (0, 0)) := by
  obtain ⟨A0, n0, c0⟩ := s0
  obtain ⟨hl, _, _, _⟩ := OwnB.reads hJ.own0
  subst hl
  have hbox := hJ.box
  have HAL := hid (alive_live w j J _ _ hbox)
  obtain ⟨x0, x1, x2, x3, x4, x5, x6, x7, x8, x9⟩ := jcells hbox
  have f4 : w.frozen? ⟨j, 4, none⟩ = false := box_fz hbox 4
  have f8 : w.frozen? ⟨j, 8, none⟩ = false := box_fz hbox 8
  rw [hu] at x3
  have HB := hid hbox
  clear hbox hJ
  go_enter Tryd.func37, Tryd.ntmps37
  go_wp2_with fail
  refine HAL.out.mono ?_
  rintro e w1 ⟨rfl, hw1⟩
  subst hw1
  clear HAL
  go_wp2_with fail
  go_region
  all_goals go_wp2_with fail
  go_ret2
  exact ⟨rfl, (((OneSet.refl _ _).setCell 8 _).setCell 4 _).drew, heap_setCell_at _ (heap_setCell_at _ HB.out)⟩
set_option maxRecDepth 100000 in
set_option maxHeartbeats 4000000 in
theorem sync_1 (w : World) (lo hi j : Nat) (J : JL) (s0 s1 : SV) (hJ : JAt w lo hi j J s0 s1) (hu : J.use = 1) : Calls Tryd.prog 37 #[.pointer (some ⟨j, 0, none⟩)] w fun e w' =>
    e = .returned (.tuple #[.int .i64 J.waiting, .int .i64 0]) ∧ OneSet j w w' ∧ w'.heap[j]? = some (.cells (jCells { J with synced := J.l1.length, waiting := 0 } s0 s1) 120 (0, 0)) := by
  obtain ⟨A1, n1, c1⟩ := s1
  obtain ⟨hl, _, _, _⟩ := OwnB.reads hJ.own1
  subst hl
  have hbox := hJ.box
  have HAL := hid (alive_live w j J _ _ hbox)
  obtain ⟨x0, x1, x2, x3, x4, x5, x6, x7, x8, x9⟩ := jcells hbox
  have f4 : w.frozen? ⟨j, 4, none⟩ = false := box_fz hbox 4
  have f8 : w.frozen? ⟨j, 8, none⟩ = false := box_fz hbox 8
  rw [hu] at x3
  have HB := hid hbox
  clear hbox hJ
  go_enter Tryd.func37, Tryd.ntmps37
  go_wp2_with fail
  refine HAL.out.mono ?_
  rintro e w1 ⟨rfl, hw1⟩
  subst hw1
  clear HAL
  go_wp2_with fail
  go_region
  all_goals go_wp2_with fail
  go_ret2
  exact ⟨rfl, (((OneSet.refl _ _).setCell 8 _).setCell 4 _).drew, heap_setCell_at _ (heap_setCell_at _ HB.out)⟩
set_option maxRecDepth 100000 in
set_option maxHeartbeats 4000000 in
theorem stat_0 (w : World) (lo hi j : Nat) (J : JL) (s0 s1 : SV) (hJ : JAt w lo hi j J s0 s1) (hu : J.use = 0) (hm : J.l0.length ≤ 1000000000) (hs : J.synced ≤ J.l0.length) : Calls Tryd.prog 43 #[.pointer (some ⟨j, 0, none⟩)] w fun e w' =>
    e = .returned (.agg #[.int .u64 J.gen, .int .i64 0, .int .i64 J.recs, .int .i64 J.l0.length, .int .i64 J.waiting, .int .i64 (J.l0.length - J.synced : Nat)]) ∧ Below w.heap.size w w' := by
  obtain ⟨A0, n0, c0⟩ := s0
  obtain ⟨hl, _, _, _⟩ := OwnB.reads hJ.own0
  subst hl
  have hbox := hJ.box
  have hjw : j < w.heap.size := (Array.getElem?_eq_some_iff.1 hbox).1
  have HAL := hid (fun (o : Obj) => alive_live (w.alloc o) j J _ _ (((Below.refl w.heap.size w).alloc (Nat.le_refl _) o).block j hjw |>.trans hbox))
  obtain ⟨d, hd⟩ : ∃ d, d = J.l0.length - J.synced := ⟨_, rfl⟩
  have hw1 : IntKind.i64.wrap ((J.l0.length : Int) - (J.synced : Int)) = (d : Int) := by rw [wrap_small _ (by omega) (by omega)]; omega
  rw [← hd]
  clear hd
  obtain ⟨W1, hW1⟩ : ∃ W, W = w.alloc (.cells #[.int .u64 0, .int .i64 0, .int .i64 0, .int .i64 0, .int .i64 0, .int .i64 0] 89) := ⟨_, rfl⟩
  have hb1 : Below w.heap.size w W1 := by rw [hW1]; exact (Below.refl _ w).alloc (Nat.le_refl _) _
  have hr1 : W1.heap[w.heap.size]? = some (.cells #[.int .u64 0, .int .i64 0, .int .i64 0, .int .i64 0, .int .i64 0, .int .i64 0] 89 (0, 0)) := by rw [hW1]; exact heap_alloc_new w _
  obtain ⟨x0, x1, x2, x3, x4, x5, x6, x7, x8, x9⟩ := jcells (hJ.below hb1).box
  rw [hu] at x3
  have y0 := box_cell hr1 0
  have y1 := box_cell hr1 1
  have y2 := box_cell hr1 2
  have y3 := box_cell hr1 3
  have y4 := box_cell hr1 4
  have y5 := box_cell hr1 5
  have HB1 := hid hb1
  have HR1 := hid hr1
  have f0 := box_fz hr1 0
  have f1 := box_fz hr1 1
  have f2 := box_fz hr1 2
  have f3 := box_fz hr1 3
  have f4 := box_fz hr1 4
  have f5 := box_fz hr1 5
  clear hbox hJ hb1 hr1 hjw hu hm hs
  go_enter Tryd.func43, Tryd.ntmps43
  go_wp2_with fail
  refine (HAL.out _).mono ?_
  rintro e w1 ⟨rfl, hw1⟩
  subst hw1
  clear HAL
  rw [← hW1]
  clear hW1
  go_wp2_with fail
  go_region
  all_goals go_wp2_with fail
  go_region
  all_goals go_wp2_with fail
  obtain ⟨V, hV⟩ : ∃ V, V = (((((W1.setCell ⟨w.heap.size, 0, none⟩ (.int .u64 J.gen)).setCell ⟨w.heap.size, 1, none⟩ (.int .i64 0)).setCell ⟨w.heap.size, 2, none⟩ (.int .i64 J.recs)).setCell ⟨w.heap.size, 3, none⟩ (.int .i64 J.l0.length)).setCell ⟨w.heap.size, 4, none⟩ (.int .i64 J.waiting)).setCell ⟨w.heap.size, 5, none⟩ (.int .i64 d) := ⟨_, rfl⟩
  have hos : OneSet w.heap.size W1 V := by rw [hV]; exact ((((((OneSet.refl _ _).setCell 0 _).setCell 1 _).setCell 2 _).setCell 3 _).setCell 4 _).setCell 5 _
  have hbx : V.heap[w.heap.size]? = some (.cells #[.int .u64 J.gen, .int .i64 0, .int .i64 J.recs, .int .i64 J.l0.length, .int .i64 J.waiting, .int .i64 d] 89 (0, 0)) := by
    rw [hV]
    exact heap_setCell_at _ (heap_setCell_at _ (heap_setCell_at _ (heap_setCell_at _ (heap_setCell_at _ (heap_setCell_at _ HR1.out)))))
  rw [← hV]
  clear hV
  obtain ⟨U, hU⟩ : ∃ U, U = V.drew.drew := ⟨_, rfl⟩
  have hbu : U.heap[w.heap.size]? = some (.cells #[.int .u64 J.gen, .int .i64 0, .int .i64 J.recs, .int .i64 J.l0.length, .int .i64 J.waiting, .int .i64 d] 89 (0, 0)) := by rw [hU]; exact hbx
  have hou : OneSet w.heap.size W1 U := by rw [hU]; exact hos.drew.drew
  rw [← hU]
  refine bodyPost_ret (results_stat rfl _ _ _ _ rfl hbu rfl) rfl ?_
  exact ⟨rfl, HB1.out.trans (hou.below (Nat.le_refl _))⟩
set_option maxRecDepth 100000 in
set_option maxHeartbeats 4000000 in
theorem stat_1 (w : World) (lo hi j : Nat) (J : JL) (s0 s1 : SV) (hJ : JAt w lo hi j J s0 s1) (hu : J.use = 1) (hm : J.l1.length ≤ 1000000000) (hs : J.synced ≤ J.l1.length) : Calls Tryd.prog 43 #[.pointer (some ⟨j, 0, none⟩)] w fun e w' =>
    e = .returned (.agg #[.int .u64 J.gen, .int .i64 1, .int .i64 J.recs, .int .i64 J.l1.length, .int .i64 J.waiting, .int .i64 (J.l1.length - J.synced : Nat)]) ∧ Below w.heap.size w w' := by
  obtain ⟨A1, n1, c1⟩ := s1
  obtain ⟨hl, _, _, _⟩ := OwnB.reads hJ.own1
  subst hl
  have hbox := hJ.box
  have hjw : j < w.heap.size := (Array.getElem?_eq_some_iff.1 hbox).1
  have HAL := hid (fun (o : Obj) => alive_live (w.alloc o) j J _ _ (((Below.refl w.heap.size w).alloc (Nat.le_refl _) o).block j hjw |>.trans hbox))
  obtain ⟨d, hd⟩ : ∃ d, d = J.l1.length - J.synced := ⟨_, rfl⟩
  have hw1 : IntKind.i64.wrap ((J.l1.length : Int) - (J.synced : Int)) = (d : Int) := by rw [wrap_small _ (by omega) (by omega)]; omega
  rw [← hd]
  clear hd
  obtain ⟨W1, hW1⟩ : ∃ W, W = w.alloc (.cells #[.int .u64 0, .int .i64 0, .int .i64 0, .int .i64 0, .int .i64 0, .int .i64 0] 89) := ⟨_, rfl⟩
  have hb1 : Below w.heap.size w W1 := by rw [hW1]; exact (Below.refl _ w).alloc (Nat.le_refl _) _
  have hr1 : W1.heap[w.heap.size]? = some (.cells #[.int .u64 0, .int .i64 0, .int .i64 0, .int .i64 0, .int .i64 0, .int .i64 0] 89 (0, 0)) := by rw [hW1]; exact heap_alloc_new w _
  obtain ⟨x0, x1, x2, x3, x4, x5, x6, x7, x8, x9⟩ := jcells (hJ.below hb1).box
  rw [hu] at x3
  have y0 := box_cell hr1 0
  have y1 := box_cell hr1 1
  have y2 := box_cell hr1 2
  have y3 := box_cell hr1 3
  have y4 := box_cell hr1 4
  have y5 := box_cell hr1 5
  have HB1 := hid hb1
  have HR1 := hid hr1
  have f0 := box_fz hr1 0
  have f1 := box_fz hr1 1
  have f2 := box_fz hr1 2
  have f3 := box_fz hr1 3
  have f4 := box_fz hr1 4
  have f5 := box_fz hr1 5
  clear hbox hJ hb1 hr1 hjw hu hm hs
  go_enter Tryd.func43, Tryd.ntmps43
  go_wp2_with fail
  refine (HAL.out _).mono ?_
  rintro e w1 ⟨rfl, hw1⟩
  subst hw1
  clear HAL
  rw [← hW1]
  clear hW1
  go_wp2_with fail
  go_region
  all_goals go_wp2_with fail
  go_region
  all_goals go_wp2_with fail
  obtain ⟨V, hV⟩ : ∃ V, V = (((((W1.setCell ⟨w.heap.size, 0, none⟩ (.int .u64 J.gen)).setCell ⟨w.heap.size, 1, none⟩ (.int .i64 1)).setCell ⟨w.heap.size, 2, none⟩ (.int .i64 J.recs)).setCell ⟨w.heap.size, 3, none⟩ (.int .i64 J.l1.length)).setCell ⟨w.heap.size, 4, none⟩ (.int .i64 J.waiting)).setCell ⟨w.heap.size, 5, none⟩ (.int .i64 d) := ⟨_, rfl⟩
  have hos : OneSet w.heap.size W1 V := by rw [hV]; exact ((((((OneSet.refl _ _).setCell 0 _).setCell 1 _).setCell 2 _).setCell 3 _).setCell 4 _).setCell 5 _
  have hbx : V.heap[w.heap.size]? = some (.cells #[.int .u64 J.gen, .int .i64 1, .int .i64 J.recs, .int .i64 J.l1.length, .int .i64 J.waiting, .int .i64 d] 89 (0, 0)) := by
    rw [hV]
    exact heap_setCell_at _ (heap_setCell_at _ (heap_setCell_at _ (heap_setCell_at _ (heap_setCell_at _ (heap_setCell_at _ HR1.out)))))
  rw [← hV]
  clear hV
  obtain ⟨U, hU⟩ : ∃ U, U = V.drew.drew := ⟨_, rfl⟩
  have hbu : U.heap[w.heap.size]? = some (.cells #[.int .u64 J.gen, .int .i64 1, .int .i64 J.recs, .int .i64 J.l1.length, .int .i64 J.waiting, .int .i64 d] 89 (0, 0)) := by rw [hU]; exact hbx
  have hou : OneSet w.heap.size W1 U := by rw [hU]; exact hos.drew.drew
  rw [← hU]
  refine bodyPost_ret (results_stat rfl _ _ _ _ rfl hbu rfl) rfl ?_
  exact ⟨rfl, HB1.out.trans (hou.below (Nat.le_refl _))⟩
end Go.Proofs.YtfcgmlofiaehkaaDoor
