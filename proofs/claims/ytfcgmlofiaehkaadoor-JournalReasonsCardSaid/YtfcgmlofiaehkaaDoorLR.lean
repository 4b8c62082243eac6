/- Layer 9: JournalReasons: what a fault wraps, and what Reason tells: the walk. -/
import Derived.Test.YtfcgmlofiaehkaaDoorJRs
import Derived.Test.YtfcgmlofiaehkaaDoorOpenV
namespace Go.Proofs.YtfcgmlofiaehkaaDoor
open Go.RowKit

theorem error_nil (w : World) : Calls Tryd.prog 23 #[.pointer none] w fun e w' => e = .returned (.string { data := #[] }) ∧ w' = w := by
  go_enter Tryd.func23, Tryd.ntmps23
  go_wp2
  go_ret
  exact ⟨rfl, rfl⟩
set_option maxRecDepth 100000 in
set_option maxHeartbeats 4000000 in
theorem reasons_walk (w : World) (slot at' why : Int) (hg : ErrT w) : Calls Tryd.prog 5 #[.int .i64 slot, .int .i64 at', .int .i64 why] w fun e w' => e = .returned (.bool true) ∧ Below w.heap.size w w' := by
  obtain ⟨W1, hW1⟩ : ∃ W, W = w.alloc (.cells #[.int .i64 slot, .int .i64 at', .int .i64 why] 57) := ⟨_, rfl⟩
  have hb1 : Below w.heap.size w W1 := by rw [hW1]; exact (Below.refl _ w).alloc (Nat.le_refl _) _
  have hx1 : W1.heap[w.heap.size]? = some (.cells #[.int .i64 slot, .int .i64 at', .int .i64 why] 57 (0, 0)) := by rw [hW1]; exact heap_alloc_new w _
  have HN := hid (fun W x => num_any W x)
  have HU := hid (unwrap_any W1 w.heap.size why (by simp [World.cell?, hx1]))
  have HRN := hid (reason_nilfault W1 (hg.below hb1 hg.pos))
  have HG := hid hg
  have HB1 := hid hb1
  have w1 : IntKind.i64.wrap 1 = 1 := by decide
  clear hb1 hx1 hg
  by_cases hw : why = 0
  · subst hw
    rw [if_pos rfl] at HU
    go_enter Tryd.func5, Tryd.ntmps5
    go_wp2_with fail
    rw [← hW1]
    clear hW1
    refine HU.out.mono ?_
    rintro e wx ⟨rfl, hwx⟩
    obtain rfl : W1 = wx := hwx.symm
    go_wp2_with fail
    refine (unwrap_nil _).mono ?_
    rintro e wx ⟨rfl, hwx⟩
    obtain rfl : W1 = wx := hwx.symm
    go_wp2_with fail
    refine (error_nil _).mono ?_
    rintro e wx ⟨rfl, hwx⟩
    obtain rfl : W1 = wx := hwx.symm
    go_wp2_with fail
    refine (reason_nil _).mono ?_
    rintro e wx ⟨rfl, hwx⟩
    obtain rfl : W1 = wx := hwx.symm
    go_wp2_with fail
    refine HRN.out.mono ?_
    rintro e w2 ⟨rfl, hb2⟩
    have HB2 := hid (HB1.out.trans (hb2.mono HB1.out.size))
    clear hb2 HRN HU
    go_wp2_with (go_at_call 19; refine (HN.out _ _).mono ?_; rintro e wh ⟨rfl, hwh⟩; obtain rfl : w2 = wh := hwh.symm)
    go_quiet ((go_at_call 19; exact Calls.quiet_of_same (HN.out _ _)))
    go_wp2_with fail
    refine (reason_nil _).mono ?_
    rintro e w3 ⟨rfl, hw3⟩
    have HB3 : Hid (Below w.heap.size w w3) := hid (by rw [hw3]; exact HB2.out.trans (below_drewN' (Below.refl _ _) _))
    clear hw3
    go_wp2_with fail
    go_ret
    exact ⟨rfl, HB3.out⟩
  · have d0 : (why == 0) = false := by simpa using hw
    rw [if_neg hw] at HU
    go_enter Tryd.func5, Tryd.ntmps5
    go_wp2_with fail
    rw [← hW1]
    clear hW1
    refine HU.out.mono ?_
    rintro e wx ⟨rfl, hwx⟩
    obtain rfl : W1 = wx := hwx.symm
    go_wp2_with fail
    refine (unwrap_nil _).mono ?_
    rintro e wx ⟨rfl, hwx⟩
    obtain rfl : W1 = wx := hwx.symm
    go_wp2_with fail
    refine (error_nil _).mono ?_
    rintro e wx ⟨rfl, hwx⟩
    obtain rfl : W1 = wx := hwx.symm
    go_wp2_with fail
    refine (reason_nil _).mono ?_
    rintro e wx ⟨rfl, hwx⟩
    obtain rfl : W1 = wx := hwx.symm
    go_wp2_with fail
    refine HRN.out.mono ?_
    rintro e w2 ⟨rfl, hb2⟩
    have HB2 := hid (HB1.out.trans (hb2.mono HB1.out.size))
    clear hb2 HRN HU
    go_wp2_with (go_at_call 19; refine (HN.out _ _).mono ?_; rintro e wh ⟨rfl, hwh⟩; obtain rfl : w2 = wh := hwh.symm)
    go_quiet ((go_at_call 19; exact Calls.quiet_of_same (HN.out _ _)))
    have HE := hid (fun (nq : Nat) => reason_errno (w2.drewN nq) why (HG.out.below (HB2.out.trans (below_drewN' (Below.refl _ _) nq)) HG.out.pos))
    go_wp2_with fail
    refine (HE.out _).mono ?_
    rintro e w3 ⟨rfl, hb3⟩
    have HB3 : Hid (Below w.heap.size w w3) := hid ((HB2.out.trans (below_drewN' (Below.refl _ _) _)).trans (hb3.mono (HB2.out.trans (below_drewN' (Below.refl _ _) _)).size))
    clear hb3
    go_wp2_with fail
    go_ret
    exact ⟨rfl, HB3.out⟩
theorem journalReasons_row (w : World) (slot at' why : Int) (_ : (Lit.int .i64 slot).wf = true) (_ : (Lit.int .i64 at').wf = true) (_ : (Lit.int .i64 why).wf = true) (hg : ErrT w) :
    Calls Tryd.prog 5 #[.int .i64 slot, .int .i64 at', .int .i64 why] w fun e w' => e = .returned (.bool true) ∧ Below w.heap.size w w' := reasons_walk w slot at' why hg
end Go.Proofs.YtfcgmlofiaehkaaDoor
