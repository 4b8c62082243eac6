/- Layer 15: the reference's greatest. -/
import Derived.Test.YtpkcccphoolapaaMvQ
import Derived.Test.YtpkcccphoolapaaCount
namespace Go.Proofs.Ytpkcccphoolapaa
open Go.RowKit

def bestZ (o : Option Nat) : Int := match o with | none => -1 | some b => (b : Int)
theorem best_low {i : Nat} {d : Nat → Int} (h : d i ≤ 0) : best (i + 1) d = best i d := by
  rw [best]
  cases e : best i d with
  | none => simp only; rw [if_neg (by omega)]
  | some b => have := (best_some e).2.1; simp only; rw [if_neg (by omega)]

set_option maxHeartbeats 2000000 in
theorem greatest_any (B : Nat) (w : World) (A : Option Addr) (n c : Nat) (l : List Int) (d : Nat → Int) (hl : l.length = n) (hm : n ≤ 1000000000) (hd : ∀ i, i < n → l[i]? = some (d i)) (hR : Ints B w A l) :
    Calls Try.prog 58 #[.slice A n c] w fun e w' => e = .returned (.int .i64 (bestZ (best n d))) ∧ ∃ q, w' = w.drewN q := by
  subst hl
  have HR := hid hR
  have HD := hid hd
  clear hR hd
  go_enter Try.func58, Try.ntmps58
  go_wp2_with fail
  go_loopg [3, 4] l.length (fun gx sb si wr => ∃ i : Nat, si = .int .i64 i ∧ sb = .int .i64 (bestZ (best i d)) ∧ i ≤ l.length ∧ l.length - i ≤ gx ∧ ∃ q, wr = w.drewN q)
  case atStart => exact ⟨0, rfl, rfl, Nat.zero_le _, Nat.le_refl _, 0, rfl⟩
  case round =>
    obtain ⟨i, rfl, rfl, hil, hgx, q, rfl⟩ := hrel
    by_cases hlt : i < l.length
    · have hii : (i : Int) < (l.length : Int) := by omega
      have hi0 : (0 : Int) ≤ (i : Int) := by omega
      have hwi : IntKind.i64.wrap ((i : Int) + 1) = (i : Int) + 1 := wrap_small _ (by omega) (by omega)
      obtain ⟨b, off, x, hx, rfl, hb, c0⟩ := Ints.at' HR.out i hlt
      obtain rfl : d i = x := by have := (HD.out i hlt).symm.trans hx.out; injection this
      by_cases h0 : 0 < d i
      · have d0 : decide (d i > 0) = true := by simpa using h0
        have d0' : decide (0 < d i) = true := by simpa using h0
        cases e : best i d with
        | none =>
          have HE : Hid (best (i + 1) d = some i) := hid (by rw [best, e]; simp only; rw [if_pos h0])
          clear e h0
          simp only [bestZ]
          go_wp2_with fail
          go_quiet (fail)
          go_wp2_with fail
          go_roundg (l.length - (i + 1))
          case measure => omega
          case rel => exact ⟨i + 1, by go_num, (by rw [HE.out]; first | rfl | skip), hlt, Nat.le_refl _, by first | exact ⟨_, rfl⟩ | exact ⟨_, World.drewN_drewN ..⟩⟩
        | some g =>
          obtain ⟨g1, g2, _⟩ := best_some e
          have hg0 : decide ((g : Int) < 0) = false := by simp
          have hgl : (g : Int) < (l.length : Int) := by omega
          have hg00 : (0 : Int) ≤ (g : Int) := by omega
          obtain ⟨b', off', y, hy, e2, _, c1⟩ := Ints.at' HR.out g (by omega)
          cases e2
          obtain rfl : d g = y := by have := (HD.out g (by omega)).symm.trans hy.out; injection this
          by_cases h1 : d g < d i
          · have d1 : decide (d i > d g) = true := by simpa using h1
            have d1' : decide (d g < d i) = true := by simpa using h1
            have HE : Hid (best (i + 1) d = some i) := hid (by rw [best, e]; simp only; rw [if_pos h1])
            clear e h0 h1 g2
            simp only [bestZ]
            go_wp2_with fail
            go_quiet (fail)
            go_wp2_with fail
            go_roundg (l.length - (i + 1))
            case measure => omega
            case rel => exact ⟨i + 1, by go_num, (by rw [HE.out]; first | rfl | skip), hlt, Nat.le_refl _, by first | exact ⟨_, rfl⟩ | exact ⟨_, World.drewN_drewN ..⟩⟩
          · have d1 : decide (d i > d g) = false := by simpa using h1
            have d1' : decide (d g < d i) = false := by simpa using h1
            have HE : Hid (best (i + 1) d = some g) := hid (by rw [best, e]; simp only; rw [if_neg h1])
            clear e h0 h1 g2
            simp only [bestZ]
            go_wp2_with fail
            go_quiet (fail)
            go_wp2_with fail
            go_roundg (l.length - (i + 1))
            case measure => omega
            case rel => exact ⟨i + 1, by go_num, (by rw [HE.out]; first | rfl | skip), hlt, Nat.le_refl _, by first | exact ⟨_, rfl⟩ | exact ⟨_, World.drewN_drewN ..⟩⟩
      · have d0 : decide (d i > 0) = false := by simpa using h0
        have d0' : decide (0 < d i) = false := by simpa using h0
        have HE := hid (best_low (d := d) (i := i) (by omega))
        clear h0
        go_wp2_with fail
        go_quiet (fail)
        go_wp2_with fail
        go_roundg (l.length - (i + 1))
        case measure => omega
        case rel => exact ⟨i + 1, by go_num, (by rw [HE.out]; first | rfl | skip), hlt, Nat.le_refl _, by first | exact ⟨_, rfl⟩ | exact ⟨_, World.drewN_drewN ..⟩⟩
    · obtain rfl : i = l.length := by omega
      have hii : ¬ (l.length : Int) < (l.length : Int) := by omega
      go_wp2_with fail
      go_ret
      exact ⟨rfl, _, rfl⟩
end Go.Proofs.Ytpkcccphoolapaa
