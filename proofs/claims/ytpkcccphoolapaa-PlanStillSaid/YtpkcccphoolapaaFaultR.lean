/- Layer 6: the reference's Fault. -/
import Derived.Test.YtpkcccphoolapaaRngJ
namespace Go.Proofs.Ytpkcccphoolapaa
open Go.RowKit

theorem isHostRef_any (w : World) (h : Int) : Calls Try.prog 77 #[.int .u8 h] w fun e w' => e = .returned (.bool (decide (h ≤ 15))) ∧ w = w' := by
  go_enter Try.func77, Try.ntmps77
  go_wp2
  go_ret
  exact ⟨rfl, rfl⟩

set_option maxHeartbeats 2000000 in
theorem faultRef_any (w : World) (A : Option Addr) (n c : Nat) (l : List Seg) (hl : l.length = n) (hbytes : n * 24 ≤ 140737488351232) (hR : Segs w.heap.size w A l) :
    Calls Try.prog 60 #[.slice A n c] w fun e w' =>
      e = .returned (.tuple #[.int .i64 ((Rng.faultL l).1 : Nat), .int .i64 (Rng.faultL l).2]) ∧ ∃ q, w' = w.drewN q := by
  subst hl
  go_enter Try.func60, Try.ntmps60
  go_wp2
  go_loopw [4, 5, 6] (fun nx fu i wr => ∃ (k : Nat) (next : Int) (full : Bool), k ≤ l.length ∧ i = .int .i64 k ∧ nx = .int .u64 next ∧ fu = .bool full ∧ Hid (Rng.faultL l = Rng.fault next full k (l.drop k)) ∧ ∃ q, wr = w.drewN q) (fun _ _ i _ => l.length - (intOf i).toNat)
  case atStart => exact ⟨0, 0, false, Nat.zero_le _, rfl, rfl, rfl, by show _ = _; rfl, 0, rfl⟩
  case round =>
    obtain ⟨k, next, full, hk, rfl, rfl, rfl, HF, q, rfl⟩ := hrel
    by_cases hlt : k < l.length
    · obtain ⟨b, off, s, hs, rfl, hb, c0, c1, c2⟩ := Segs.at3 hR k hlt
      have hkn : (k : Int) < l.length := by omega
      have HS := hid (fault_stop (next := next) (full := full) hs.out)
      by_cases h1 : full = true ∨ s.lo ≠ next
      · have e : Hid (Rng.faultL l = (k, 62)) := by show _ = _; rw [HF.out, HS.out, if_pos h1]
        cases full with
        | true =>
          go_wp2
          go_ret2
          exact ⟨by rw [e.out]; rfl, by first | exact ⟨_, rfl⟩ | exact ⟨_, World.drewN_drewN ..⟩⟩
        | false =>
          have hne : (s.lo != next) = true := by simpa using h1
          go_wp2
          go_ret2
          exact ⟨by rw [e.out]; rfl, by first | exact ⟨_, rfl⟩ | exact ⟨_, World.drewN_drewN ..⟩⟩
      have hf : full = false := by cases full <;> simp_all
      have hlo : s.lo = next := Classical.byContradiction fun e => h1 (.inr e)
      subst hf
      have hne : (s.lo != next) = false := by simp [hlo]
      by_cases h2 : s.hi < s.lo
      · have e : Hid (Rng.faultL l = (k, 60)) := by show _ = _; rw [HF.out, HS.out, if_neg h1, if_pos h2]
        clear hlo h1
        go_wp2
        go_quiet (fail)
        go_wp2
        go_ret2
        exact ⟨by rw [e.out]; rfl, by first | exact ⟨_, rfl⟩ | exact ⟨_, World.drewN_drewN ..⟩⟩
      by_cases h3 : 16 ≤ s.host
      · have e : Hid (Rng.faultL l = (k, 2)) := by show _ = _; rw [HF.out, HS.out, if_neg h1, if_neg h2, if_pos h3]
        have hh : decide (s.host ≤ 15) = false := by simp; omega
        clear hlo h1
        go_wp2
        go_quiet (fail)
        go_wp2_with (go_at_call 77; refine (isHostRef_any _ _).mono ?_; rintro e w' ⟨rfl, rfl⟩)
        go_ret2
        exact ⟨by rw [e.out]; rfl, by first | exact ⟨_, rfl⟩ | exact ⟨_, World.drewN_drewN ..⟩⟩
      have e : Hid (Rng.faultL l = Rng.fault (IntKind.u64.wrap (s.hi + 1)) (decide (s.hi = maxK)) (k + 1) (l.drop (k + 1))) := by show _ = _; rw [HF.out, HS.out, if_neg h1, if_neg h2, if_neg h3]
      have hh : decide (s.host ≤ 15) = true := by simp; omega
      clear hlo h1 h3
      go_wp2
      go_quiet (fail)
      go_wp2_with (go_at_call 77; refine (isHostRef_any _ _).mono ?_; rintro e w' ⟨rfl, rfl⟩)
      go_roundw
      case rel => exact ⟨k + 1, _, _, by omega, by go_num, rfl, by rw [beq_maxK], e, by first | exact ⟨_, rfl⟩ | exact ⟨_, World.drewN_drewN ..⟩⟩
      case measure => simp [intOf]; omega
    · obtain rfl : k = l.length := by omega
      have hd : Hid (l.drop l.length = []) := by show _ = _; simp
      cases full with
      | true =>
        have e : Hid (Rng.faultL l = (0, 0)) := by show _ = _; rw [HF.out, hd.out]; rfl
        go_wp2
        go_ret2
        exact ⟨by rw [e.out]; rfl, by first | exact ⟨_, rfl⟩ | exact ⟨_, World.drewN_drewN ..⟩⟩
      | false =>
        have e : Hid (Rng.faultL l = (l.length, 62)) := by show _ = _; rw [HF.out, hd.out]; rfl
        go_wp2
        go_ret2
        exact ⟨by rw [e.out]; rfl, by first | exact ⟨_, rfl⟩ | exact ⟨_, World.drewN_drewN ..⟩⟩

end Go.Proofs.Ytpkcccphoolapaa
