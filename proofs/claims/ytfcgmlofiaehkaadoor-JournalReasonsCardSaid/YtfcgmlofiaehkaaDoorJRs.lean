/- journal.Reason. -/
import Derived.Test.YtfcgmlofiaehkaaDoorJAr
import Derived.Test.YtfcgmlofiaehkaaDoorJK
namespace Go.Proofs.YtfcgmlofiaehkaaDoor
open Go.RowKit

theorem reason_nil (w : World) : Calls Tryd.prog 18 #[.nilIface] w fun e w' => e = .returned (.tuple #[.int .i64 0, .int .i64 0, .int .i64 0]) ∧ w' = w := by
  go_enter Tryd.func18, Tryd.ntmps18
  go_wp2_with fail
  go_ret3
  exact ⟨rfl, rfl⟩
/-- of a fault -/
theorem reason_fault (w : World) (g : Nat) (slot at' why : Int) (hg : ErrT w) (h : w.heap[g]? = some (.cells #[.int .i64 slot, .int .i64 at', .int .i64 why] 57 (0, 0))) :
    Calls Tryd.prog 18 #[.iface 55 (.pointer (some ⟨g, 0, none⟩))] w fun e w' => e = .returned (.tuple #[.int .i64 slot, .int .i64 at', .int .i64 why]) ∧ Below w.heap.size w w' := by
  obtain ⟨W1, hW1⟩ : ∃ W, W = w.alloc (.cells #[.pointer none] 55) := ⟨_, rfl⟩
  have hb1 : Below w.heap.size w W1 := by rw [hW1]; exact (Below.refl _ w).alloc (Nat.le_refl _) _
  have hx1 : W1.heap[w.heap.size]? = some (.cells #[.pointer none] 55 (0, 0)) := by rw [hW1]; exact heap_alloc_new w _
  have HA := hid (as_hitF' (some ⟨g, 0, none⟩) ⟨w.heap.size, 0, none⟩ (.pointer none) W1 (hg.below hb1 hg.pos) (by simp [World.cell?, hx1]) (by simp [World.frozen?, hx1]))
  have HB1 := hid hb1
  have HX1 := hid hx1
  have HG := hid h
  clear hb1 hx1 h hg
  go_enter Tryd.func18, Tryd.ntmps18
  go_wp2_with fail
  rw [← hW1]
  clear hW1
  refine HA.out.mono ?_
  rintro e w2 ⟨rfl, W2, hb2, rfl⟩
  have hx2 := box_below HX1.out hb2
  obtain ⟨U, hU⟩ : ∃ U, U = W2.setCell ⟨w.heap.size, 0, none⟩ (.pointer (some ⟨g, 0, none⟩)) := ⟨_, rfl⟩
  have hxU : U.heap[w.heap.size]? = some (.cells #[.pointer (some ⟨g, 0, none⟩)] 55 (0, 0)) := by
    rw [hU]
    exact set10 0 hx2 rfl
  have hbU : Below w.heap.size w U := by rw [hU]; exact (HB1.out.trans (hb2.mono HB1.out.size)).setCell (Nat.le_refl _) _
  have hgU := box_below HG.out hbU
  have x0 : U.cell? ⟨w.heap.size, 0, none⟩ = some (.pointer (some ⟨g, 0, none⟩)) := by simp [World.cell?, hxU]
  obtain ⟨y0, y1, y2⟩ : U.cell? ⟨g, 0, none⟩ = some (.int .i64 slot) ∧ U.cell? ⟨g, 1, none⟩ = some (.int .i64 at') ∧ U.cell? ⟨g, 2, none⟩ = some (.int .i64 why) := by
    refine ⟨?_, ?_, ?_⟩ <;> simp [World.cell?, hgU]
  have HBU := hid hbU
  rw [← hU]
  clear hU hx2 hxU hbU hgU hb2 HA
  go_wp2_with fail
  go_quiet (fail)
  go_wp2_with fail
  go_ret3
  exact ⟨rfl, HBU.out.trans (below_drewN' (Below.refl _ _) _)⟩
/-- of a nil fault: none -/
theorem reason_nilfault (w : World) (hg : ErrT w) : Calls Tryd.prog 18 #[.iface 55 (.pointer none)] w fun e w' => e = .returned (.tuple #[.int .i64 (-1), .int .i64 0, .int .i64 2]) ∧ Below w.heap.size w w' := by
  obtain ⟨W1, hW1⟩ : ∃ W, W = w.alloc (.cells #[.pointer none] 55) := ⟨_, rfl⟩
  have hb1 : Below w.heap.size w W1 := by rw [hW1]; exact (Below.refl _ w).alloc (Nat.le_refl _) _
  have hx1 : W1.heap[w.heap.size]? = some (.cells #[.pointer none] 55 (0, 0)) := by rw [hW1]; exact heap_alloc_new w _
  have HA := hid (as_hitF' none ⟨w.heap.size, 0, none⟩ (.pointer none) W1 (hg.below hb1 hg.pos) (by simp [World.cell?, hx1]) (by simp [World.frozen?, hx1]))
  have HB1 := hid hb1
  have HX1 := hid hx1
  have HE := hid hg
  clear hb1 hx1 hg
  go_enter Tryd.func18, Tryd.ntmps18
  go_wp2_with fail
  rw [← hW1]
  clear hW1
  refine HA.out.mono ?_
  rintro e w2 ⟨rfl, W2, hb2, rfl⟩
  have hx2 := box_below HX1.out hb2
  obtain ⟨U, hU⟩ : ∃ U, U = W2.setCell ⟨w.heap.size, 0, none⟩ (.pointer none) := ⟨_, rfl⟩
  have hxU : U.heap[w.heap.size]? = some (.cells #[.pointer none] 55 (0, 0)) := by
    rw [hU]
    exact set10 0 hx2 rfl
  have hbU : Below w.heap.size w U := by rw [hU]; exact (HB1.out.trans (hb2.mono HB1.out.size)).setCell (Nat.le_refl _) _
  have x0 : U.cell? ⟨w.heap.size, 0, none⟩ = some (.pointer none) := by simp [World.cell?, hxU]
  obtain ⟨W3, hW3⟩ : ∃ W, W = U.alloc (.cells #[.int .i64 0] 45) := ⟨_, rfl⟩
  have hb3 : Below w.heap.size w W3 := by rw [hW3]; exact hbU.alloc hbU.size _
  have HM := hid (as_miss_FN ⟨U.heap.size, 0, none⟩ W3 (HE.out.below hb3 HE.out.pos))
  have HB3 := hid hb3
  rw [← hU]
  clear hU hx2 hxU hbU hb2 HA hb3
  go_wp2_with fail
  rw [← hW3]
  clear hW3
  refine HM.out.mono ?_
  rintro e w4 ⟨rfl, hb4⟩
  have HB4 := hid (HB3.out.trans (hb4.mono HB3.out.size))
  clear hb4
  go_wp2_with fail
  go_ret3
  exact ⟨rfl, HB4.out⟩
/-- of a bare Errno -/
theorem reason_errno (w : World) (x : Int) (hg : ErrT w) : Calls Tryd.prog 18 #[.iface 45 (.int .i64 x)] w fun e w' => e = .returned (.tuple #[.int .i64 (-1), .int .i64 0, .int .i64 x]) ∧ Below w.heap.size w w' := by
  obtain ⟨W1, hW1⟩ : ∃ W, W = w.alloc (.cells #[.pointer none] 55) := ⟨_, rfl⟩
  have hb1 : Below w.heap.size w W1 := by rw [hW1]; exact (Below.refl _ w).alloc (Nat.le_refl _) _
  have HA := hid (as_miss_NF x ⟨w.heap.size, 0, none⟩ W1 (hg.below hb1 hg.pos))
  have HB1 := hid hb1
  have HE := hid hg
  clear hb1 hg
  go_enter Tryd.func18, Tryd.ntmps18
  go_wp2_with fail
  rw [← hW1]
  clear hW1
  refine HA.out.mono ?_
  rintro e w2 ⟨rfl, hb2⟩
  have hb2w : Below w.heap.size w w2 := HB1.out.trans (hb2.mono HB1.out.size)
  obtain ⟨W3, hW3⟩ : ∃ W, W = w2.alloc (.cells #[.int .i64 0] 45) := ⟨_, rfl⟩
  have hb3 : Below w.heap.size w W3 := by rw [hW3]; exact hb2w.alloc hb2w.size _
  have hx3 : W3.heap[w2.heap.size]? = some (.cells #[.int .i64 0] 45 (0, 0)) := by rw [hW3]; exact heap_alloc_new w2 _
  have HH := hid (as_hitN' x ⟨w2.heap.size, 0, none⟩ (.int .i64 0) W3 (HE.out.below hb3 HE.out.pos) (by simp [World.cell?, hx3]) (by simp [World.frozen?, hx3]))
  have HB3 := hid hb3
  have HX3 := hid hx3
  have HZ := hid (show w.heap.size ≤ w2.heap.size from hb2w.size)
  clear hb2 hb2w hb3 hx3 HA
  go_wp2_with fail
  rw [← hW3]
  clear hW3
  refine HH.out.mono ?_
  rintro e w4 ⟨rfl, W4, hb4, rfl⟩
  have hx4 := box_below HX3.out hb4
  obtain ⟨U, hU⟩ : ∃ U, U = W4.setCell ⟨w2.heap.size, 0, none⟩ (.int .i64 x) := ⟨_, rfl⟩
  have hxU : U.heap[w2.heap.size]? = some (.cells #[.int .i64 x] 45 (0, 0)) := by
    rw [hU]
    exact set10 0 hx4 rfl
  have hbU : Below w.heap.size w U := by rw [hU]; exact (HB3.out.trans (hb4.mono HB3.out.size)).setCell HZ.out _
  have x0 : U.cell? ⟨w2.heap.size, 0, none⟩ = some (.int .i64 x) := by simp [World.cell?, hxU]
  have HBU := hid hbU
  rw [← hU]
  clear hU hx4 hxU hbU hb4 HH
  go_wp2_with fail
  go_quiet (fail)
  go_wp2_with fail
  go_ret3
  exact ⟨rfl, HBU.out.trans (below_drewN' (Below.refl _ _) _)⟩
end Go.Proofs.YtfcgmlofiaehkaaDoor
