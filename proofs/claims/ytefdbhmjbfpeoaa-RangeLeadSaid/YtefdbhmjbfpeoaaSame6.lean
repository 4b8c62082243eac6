/- Layer 6: same, of any two lists. -/
import Derived.Test.YtefdbhmjbfpeoaaFaultR
namespace Go.Proofs.Ytefdbhmjbfpeoaa
open Go.RowKit

set_option maxHeartbeats 2000000 in
theorem sameGen_any (B B' : Nat) (w : World) (A A' : Option Addr) (n c n' c' : Nat) (l l' : List Seg) (hl : l.length = n) (hl' : l'.length = n') (hm : n ≤ 9223372036854775807) (hm' : n' ≤ 9223372036854775807) (hR : Segs B w A l) (hR' : Segs B' w A' l') :
    Calls Try.prog 20 #[.slice A n c, .slice A' n' c'] w fun e w' => ∃ v, e = .returned v ∧ Hid ((v = .bool true ∧ l = l') ∨ (v = .bool false ∧ l ≠ l')) ∧ ∃ q, w' = w.drewN q := by
  subst hl
  subst hl'
  by_cases hn : l.length = l'.length
  case neg =>
    have hnb : ((l.length : Int) != (l'.length : Int)) = true := by simpa using fun e : (l.length : Int) = l'.length => hn (by omega)
    have HF := hid (show l ≠ l' from fun h => absurd (by rw [h]) hn)
    clear hn
    go_enter Try.func20, Try.ntmps20
    go_wp2
    refine bodyPost_ret (results_tmp rfl _ _ _) rfl ?_
    exact ⟨.bool false, rfl, hid (.inr ⟨rfl, HF.out⟩), 0, rfl⟩
  case pos =>
  have hnb : ((l.length : Int) != (l'.length : Int)) = false := by simp [hn]
  have hlen := hid hn
  have hle1 : l.length ≤ l'.length := by omega
  clear hn
  go_enter Try.func20, Try.ntmps20
  go_wp2
  go_loopw [5] (fun i wr => ∃ k : Nat, k ≤ l.length ∧ i = .int .i64 k ∧ Hid (l.take k = l'.take k) ∧ ∃ q, wr = w.drewN q) (fun i _ => l.length - (intOf i).toNat)
  case atStart => exact ⟨0, Nat.zero_le _, rfl, hid (by simp), 0, rfl⟩
  case round =>
    obtain ⟨k, hk, rfl, hall, q, rfl⟩ := hrel
    by_cases hlt : k < l.length
    · obtain ⟨b, off, s, hs, rfl, hb, c0, c1, c2⟩ := Segs.at3 hR k hlt
      obtain ⟨b', off', s', hs', rfl, hb', d0, d1, d2⟩ := Segs.at3 hR' k (by omega)
      have hi : (k : Int) < (l.length : Int) := by omega
      have hi' : (k : Int) < (l'.length : Int) := by omega
      obtain ⟨x0, x1, x2⟩ := s
      obtain ⟨y0, y1, y2⟩ := s'
      simp only at c0 c1 c2 d0 d1 d2
      have HNE : Hid (¬ (x0 = y0 ∧ x1 = y1 ∧ x2 = y2) → l ≠ l') := fun h e => absurd (by
        have h1 := hs.out
        rw [e, hs'.out] at h1
        injection h1 with h1
        injection h1 with h1 h2 h3
        exact ⟨h1.symm, h2.symm, h3.symm⟩) h
      by_cases e0 : x0 = y0
      case neg =>
        have t0 : (x0 == y0) = false := by simpa using e0
        have HF := hid (HNE.out (fun h => e0 h.1))
        clear e0
        go_wp2
        go_quiet (fail)
        go_wp2
        refine bodyPost_ret (results_tmp rfl _ _ _) rfl ?_
        exact ⟨.bool false, rfl, hid (.inr ⟨rfl, HF.out⟩), by first | exact ⟨_, rfl⟩ | exact ⟨_, World.drewN_drewN ..⟩⟩
      case pos =>
      subst e0
      by_cases e1 : x1 = y1
      case neg =>
        have t0 : (x1 == y1) = false := by simpa using e1
        have HF := hid (HNE.out (fun h => e1 h.2.1))
        clear e1
        go_wp2
        go_quiet (fail)
        go_wp2
        refine bodyPost_ret (results_tmp rfl _ _ _) rfl ?_
        exact ⟨.bool false, rfl, hid (.inr ⟨rfl, HF.out⟩), by first | exact ⟨_, rfl⟩ | exact ⟨_, World.drewN_drewN ..⟩⟩
      case pos =>
      subst e1
      by_cases e2 : x2 = y2
      case neg =>
        have t0 : (x2 == y2) = false := by simpa using e2
        have HF := hid (HNE.out (fun h => e2 h.2.2))
        clear e2
        go_wp2
        go_quiet (fail)
        go_wp2
        refine bodyPost_ret (results_tmp rfl _ _ _) rfl ?_
        exact ⟨.bool false, rfl, hid (.inr ⟨rfl, HF.out⟩), by first | exact ⟨_, rfl⟩ | exact ⟨_, World.drewN_drewN ..⟩⟩
      case pos =>
      subst e2
      go_wp2
      go_quiet (fail)
      go_wp2
      go_roundw
      case rel => exact ⟨k + 1, by omega, by go_num, hid (by rw [List.take_add_one, List.take_add_one, hall.out, hs.out, hs'.out]), by first | exact ⟨_, rfl⟩ | exact ⟨_, World.drewN_drewN ..⟩⟩
      case measure => simp [intOf]; omega
    · have HT := hid (show l = l' from by
        have h := hall.out
        have h2 := hlen.out
        rw [List.take_of_length_le (by omega), List.take_of_length_le (by omega)] at h
        exact h)
      go_wp2
      refine bodyPost_ret (results_tmp rfl _ _ _) rfl ?_
      exact ⟨.bool true, rfl, hid (.inl ⟨rfl, HT.out⟩), q, rfl⟩
end Go.Proofs.Ytefdbhmjbfpeoaa
