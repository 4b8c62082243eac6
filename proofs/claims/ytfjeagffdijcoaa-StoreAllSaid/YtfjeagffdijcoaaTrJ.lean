/- Layer 7: the walk of bounded; lemmas on a map's list. -/
import Derived.Test.YtfjeagffdijcoaaTrI
namespace Go.Proofs.Ytfjeagffdijcoaa

section
variable {κ ν : Type} {c : κ → κ → Int}
theorem up_part (ho : WOrd c) {l : List (κ × ν)} (h : Up c l) {p : κ × ν} (hp : p ∈ l) : ∃ a b, l = a ++ p :: b ∧ ∀ x ∈ a, 0 < c p.1 x.1 := by
  obtain ⟨a, b, rfl⟩ := List.append_of_mem hp
  obtain ⟨_, _, u3, _, _⟩ := up_mid.1 h
  exact ⟨a, b, rfl, fun x hx => (ho.anti x.1 p.1).1 (u3 x hx)⟩
theorem getL_mem (ho : WOrd c) {l : List (κ × ν)} (h : Up c l) {p : κ × ν} (hp : p ∈ l) : getL c p.1 l = some p.2 := by
  obtain ⟨a, b, rfl, ha⟩ := up_part ho h hp
  exact getL_mid p.1 a b p.1 p.2 (ho.refl _) ha
theorem cutP_len (ho : WOrd c) {l : List (κ × ν)} (h : Up c l) {p : κ × ν} (hp : p ∈ l) : (cutP c p.1 l).length + 1 = l.length := by
  obtain ⟨a, b, rfl, ha⟩ := up_part ho h hp
  rw [cutP_mid p.1 a b p.1 p.2 (ho.refl _) ha]
  simp; omega
end

namespace Tr
variable {κ ν : Type} {c : κ → κ → Int}
theorem put_pos (key : κ) (val : ν) (nb : Nat) (t : Tr κ ν) : 1 ≤ (put c key val nb t).many := by
  cases t with
  | nil => simp [put, many]
  | node b l k v r =>
    rw [← blocks_many]
    rcases put_blocks (c := c) key val nb (t := node b l k v r) with h | h
    · rw [h.length_eq]; simp [blocks]
    · rw [h.length_eq]; simp
theorem high_zero {t : Tr κ ν} (h : t.many = 0) : t.high = 0 := by have := t.high_many; omega
end Tr

namespace TI
open Go.RowKit Go.Shelf

set_option maxHeartbeats 1000000 in
theorem bounded_any (w : World) (n h : Nat) (hn : n ≤ 3000) (h1 : 2 ^ h ≤ (n + 1) * (n + 1)) (h2 : n < 2 ^ h) :
    Calls Try.prog 31 #[.int .i64 n, .int .i64 h] w fun e w' => e = .returned (.bool true) ∧ w' = w := by
  have hm : (n + 1) * (n + 1) ≤ 9006001 := Nat.mul_le_mul (show n + 1 ≤ 3001 by omega) (show n + 1 ≤ 3001 by omega)
  have hh : h < 2 ^ h := Nat.lt_two_pow_self
  obtain ⟨m, hm2⟩ : ∃ m, m = (n + 1) * (n + 1) := ⟨_, rfl⟩
  have e1 : ((n : Int) + 1) * ((n : Int) + 1) = (m : Int) := by rw [hm2]; simp
  obtain ⟨q, hq⟩ : ∃ q, q = 2 ^ h := ⟨_, rfl⟩
  rw [← hm2] at hm h1
  rw [← hq] at h1 h2 hh
  have HQ := hid hq
  have w1 : IntKind.i64.wrap ((n : Int) + 1) = (n : Int) + 1 := wrap_small _ (by omega) (by omega)
  have w2 : IntKind.i64.wrap (m : Int) = (m : Int) := wrap_small _ (by omega) (by omega)
  clear hm2 hq
  go_enter Try.func31, Try.ntmps31
  go_wp2_with fail
  go_loopg [5, 6] h (fun gx sp si wr => ∃ (k p : Nat), sp = .int .i64 p ∧ si = .int .i64 k ∧ k ≤ h ∧ Hid (p = 2 ^ k) ∧ p ≤ q ∧ h - k ≤ gx ∧ wr = w)
  case atStart => exact ⟨0, 1, rfl, rfl, Nat.zero_le _, hid rfl, by omega, by omega, rfl⟩
  case round =>
    obtain ⟨k, p, rfl, rfl, hk, HP, hpq, hg, rfl⟩ := hrel
    by_cases hlt : k < h
    · have hp2 : Hid (p * 2 = 2 ^ (k + 1)) := by show _ = _; rw [HP.out, Nat.pow_succ]
      have hp3 : p * 2 ≤ q := by rw [hp2.out, HQ.out]; exact Nat.pow_le_pow_right (by omega) hlt
      have hw : IntKind.i64.wrap (2 * (p : Int)) = 2 * (p : Int) := wrap_small _ (by omega) (by omega)
      have hw2 : IntKind.i64.wrap ((k : Int) + 1) = (k : Int) + 1 := wrap_small _ (by omega) (by omega)
      have hki : (k : Int) < h := by omega
      have hpi : (p : Int) ≤ 1099511627776 := by omega
      go_wp2_with fail
      go_roundg (h - (k + 1))
      case measure => omega
      case rel => exact ⟨k + 1, p * 2, by first | (congr 1; omega) | go_num, by first | (congr 1; omega) | go_num, hlt, hp2, hp3, Nat.le_refl _, rfl⟩
    · obtain rfl : k = h := by omega
      have hpq2 : p = q := by rw [HP.out, HQ.out]
      have b1 : decide (n < p) = true := by simp; omega
      have b2 : decide ((p : Int) ≤ (m : Int)) = true := by simp; omega
      have b3 : decide (p ≤ m) = true := by simp; omega
      clear hpq2
      go_wp2_with fail
      refine bodyPost_ret (results_tmp rfl _ _ _) rfl ?_
      exact ⟨rfl, rfl⟩
end TI
end Go.Proofs.Ytfjeagffdijcoaa
