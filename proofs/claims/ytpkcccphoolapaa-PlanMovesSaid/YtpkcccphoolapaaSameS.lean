/- Layer 15: sameSegments. -/
import Derived.Test.YtpkcccphoolapaaRngJ
namespace Go.Proofs.Ytpkcccphoolapaa
open Go.RowKit

set_option maxHeartbeats 2000000 in
/-- two slices that read alike are the same. -/
theorem sameSegments_any (B B' : Nat) (w : World) (A A' : Option Addr) (n c n' c' : Nat) (l : List Seg) (hl : l.length = n) (hl' : l.length = n') (hm : n ≤ 9223372036854775807) (hR : Segs B w A l) (hR' : Segs B' w A' l) :
    Calls Try.prog 19 #[.slice A n c, .slice A' n' c'] w fun e w' => e = .returned (.bool true) ∧ ∃ q, w' = w.drewN q := by
  subst hl
  subst hl'
  go_enter Try.func19, Try.ntmps19
  go_wp2
  go_loopw [5] (fun i wr => ∃ k : Nat, k ≤ l.length ∧ i = .int .i64 k ∧ ∃ q, wr = w.drewN q) (fun i _ => l.length - (intOf i).toNat)
  case atStart => exact ⟨0, Nat.zero_le _, rfl, 0, rfl⟩
  case round =>
    obtain ⟨k, hk, rfl, q, rfl⟩ := hrel
    by_cases hlt : k < l.length
    · obtain ⟨b, off, s, hs, rfl, hb, c0, c1, c2⟩ := Segs.at3 hR k hlt
      obtain ⟨b', off', s', hs', rfl, hb', d0, d1, d2⟩ := Segs.at3 hR' k hlt
      obtain rfl : s' = s := by have := hs.out.symm.trans hs'.out; injection this with this; exact this.symm
      have hi : (k : Int) < (l.length : Int) := by omega
      go_wp2
      go_quiet (fail)
      go_wp2
      go_roundw
      case rel => exact ⟨k + 1, by omega, by go_num, by first | exact ⟨_, rfl⟩ | exact ⟨_, World.drewN_drewN ..⟩⟩
      case measure => simp [intOf]; omega
    · go_wp2
      go_ret
      exact ⟨rfl, _, rfl⟩
end Go.Proofs.Ytpkcccphoolapaa
