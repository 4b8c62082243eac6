/- Layer 6: New, Len, Cost, Assign and the small ones. -/
import Derived.Test.YtefdbhmjbfpeoaaRngC
import Derived.Test.YtefdbhmjbfpeoaaTab
import Derived.Deep.RegionHeld3
import Derived.Deep.RegionWith
namespace Go.Proofs.Ytefdbhmjbfpeoaa
open Go.RowKit

theorem num6_any (w : World) (x : Int) : Calls Try.prog 9 #[.int .i64 x] w fun e w' => e = .returned (.int .i64 x) ∧ w = w' := by
  go_enter Try.func9, Try.ntmps9
  go_wp2
  go_ret
  exact ⟨rfl, rfl⟩

set_option maxHeartbeats 400000 in
theorem len_any (w : World) (T : Nat) (limit : Int) (l : List Seg) (h : IsTab w T limit l) :
    Calls Try.prog 10 #[.pointer (some ⟨T, 0, none⟩)] w fun e w' => e = .returned (.int .i64 (l.length : Nat)) ∧ w = w' := by
  obtain ⟨b, off, c, h1, h2, h3, h4, h5⟩ := h.segs
  go_enter Try.func10, Try.ntmps10
  go_wp2
  go_ret
  exact ⟨rfl, rfl⟩

def costL (l : List Seg) (lo hi owner : Int) : Int × Int :=
  if hi < lo then (0, 60) else if 16 ≤ owner then (0, 2) else (((Rng.withL l lo hi owner).length : Int) - l.length, 0)

set_option maxHeartbeats 1000000 in
theorem cost_any (w : World) (T : Nat) (limit : Int) (l : List Seg) (lo hi owner : Int) (h : IsTab w T limit l) (hW : Rng.WF l) (hm : l.length ≤ 1000000000) (h0 : 0 ≤ lo) (h2 : hi ≤ maxK) (h3 : 0 ≤ owner) :
    Calls Try.prog 11 #[.pointer (some ⟨T, 0, none⟩), .int .u64 lo, .int .u64 hi, .int .u8 owner] w fun e w' =>
      e = .returned (.tuple #[.int .i64 (costL l lo hi owner).1, .int .i64 (costL l lo hi owner).2]) ∧ Below w.heap.size w w' := by
  have hT := h.lt
  obtain ⟨b, off, c, h1, hc, hne, hbl, hR⟩ := h.segs
  have hpos : Hid (0 < l.length) := hW.pos
  have hnz : ((l.length : Int) == 0) = false := by have := hpos.out; rw [beq_eq_false_iff_ne]; omega
  by_cases hlh : hi < lo
  · have e : Hid (costL l lo hi owner = (0, 60)) := by show _ = _; unfold costL; rw [if_pos hlh]
    clear hR
    go_enter Try.func11, Try.ntmps11
    go_wp2
    go_ret2
    exact ⟨by rw [e.out]; rfl, Below.refl _ _⟩
  by_cases ho : 16 ≤ owner
  · have e : Hid (costL l lo hi owner = (0, 2)) := by show _ = _; unfold costL; rw [if_neg hlh, if_pos ho]
    have hh : decide (owner < 16) = false := by simp; omega
    clear hR
    go_enter Try.func11, Try.ntmps11
    go_wp2_with (go_at_call 26; refine (isHost_any _ _).mono ?_; rintro e w' ⟨rfl, rfl⟩)
    go_ret2
    exact ⟨by rw [e.out]; rfl, Below.refl _ _⟩
  have e : Hid (costL l lo hi owner = (((Rng.withL l lo hi owner).length : Int) - l.length, 0)) := by show _ = _; unfold costL; rw [if_neg hlh, if_neg ho]
  have hh : decide (owner < 16) = true := by simp; omega
  have HS := hid (Rng.withL_spec hW h0 (by omega : lo ≤ hi) h2 h3 (by omega)).2.2
  have hlh' : lo ≤ hi := by omega
  have hsub : IntKind.i64.wrap (((Rng.withL l lo hi owner).length : Int) - l.length) = ((Rng.withL l lo hi owner).length : Int) - l.length := IntWalk.i64_in _ (by have := HS.out; omega)
  go_enter Try.func11, Try.ntmps11
  go_wp2_with (go_at_call 26; refine (isHost_any _ _).mono ?_; rintro e w' ⟨rfl, rfl⟩)
  go_region_with (go_at_call 27; go_loud (refine (with_any w.drew T _ l.length c l lo hi owner rfl hc hm h1 hR hW h0 hlh' h2).mono ?_); rintro e w' ⟨v, rfl, hown, hb⟩; have hs := HS.out; obtain ⟨_, A', c', rfl, _, _, _⟩ := owns_reads encSeg_len hown (by decide); have h1' := Tfact hb hT h1; go_wp2)
  all_goals go_wp2
  all_goals go_ret2
  all_goals refine ⟨?_, ⟨hb.os, hb.tape, hb.output, hb.size, hb.block⟩⟩
  all_goals rw [e.out]
  all_goals rfl
end Go.Proofs.Ytefdbhmjbfpeoaa
