/- Layer 15, small functions: goodLoads, total, Skew and the document's. -/
import Derived.Test.YtpkcccphoolapaaProg
import Derived.Test.YtpkcccphoolapaaMem
namespace Go.Proofs.Ytpkcccphoolapaa
open Go.RowKit

def okLoad (x : Int) : Prop := 0 ≤ x ∧ x ≤ 1073741824
instance (x : Int) : Decidable (okLoad x) := by unfold okLoad; exact inferInstance
def goodLoads (l : List Int) : Bool := decide (1 ≤ l.length ∧ l.length ≤ 16 ∧ ∀ x ∈ l, okLoad x)

theorem all_take_succ {l : List Int} {k : Nat} {x : Int} {p : Int → Prop} (hx : l[k]? = some x) (h : ∀ y ∈ l.take k, p y) (hp : p x) : ∀ y ∈ l.take (k + 1), p y := by
  intro y hy
  rw [List.take_add_one, hx] at hy
  simp at hy
  rcases hy with hy | hy
  · exact h y hy
  · rw [hy]; exact hp

set_option maxHeartbeats 400000 in
theorem goodLoads_any (B : Nat) (w : World) (A : Option Addr) (n c : Nat) (l : List Int) (hl : l.length = n) (hm : n ≤ 9223372036854775807) (hR : Ints B w A l) :
    Calls Try.prog 37 #[.slice A n c] w fun e w' => e = .returned (.bool (goodLoads l)) ∧ w = w' := by
  subst hl
  by_cases h0 : (l.length : Int) < 1
  · have hg : Hid (goodLoads l = false) := by
      show _ = _
      unfold goodLoads; simp; omega
    go_enter Try.func37, Try.ntmps37
    go_wp2
    go_ret
    exact ⟨ret_bool hg.out.symm, rfl⟩
  by_cases h1 : (16 : Int) < (l.length : Int)
  · have hg : Hid (goodLoads l = false) := by
      show _ = _
      unfold goodLoads; simp; omega
    go_enter Try.func37, Try.ntmps37
    go_wp2
    go_ret
    exact ⟨ret_bool hg.out.symm, rfl⟩
  go_enter Try.func37, Try.ntmps37
  go_wp2
  go_loop [15] (fun i => ∃ k : Nat, k ≤ l.length ∧ i = .int .i64 k ∧ Hid (∀ x ∈ l.take k, okLoad x)) (fun i => l.length - (intOf i).toNat)
  case atStart => exact ⟨0, Nat.zero_le _, rfl, hid (by simp)⟩
  case round =>
    obtain ⟨k, hk, rfl, hall⟩ := hrel
    by_cases hlt : k < l.length
    · obtain ⟨b, off, x, hx, rfl, hb, hc⟩ := Ints.at' hR k hlt
      by_cases hx0 : x < 0
      · have hg : Hid (goodLoads l = false) := by
          show _ = _
          have hm := List.mem_of_getElem? hx.out
          unfold goodLoads; simp
          intro _ _
          exact ⟨x, hm, by unfold okLoad; omega⟩
        go_wp2
        go_ret
        exact ⟨ret_bool hg.out.symm, rfl⟩
      by_cases hx1 : 1073741824 < x
      · have hg : Hid (goodLoads l = false) := by
          show _ = _
          have hm := List.mem_of_getElem? hx.out
          unfold goodLoads; simp
          intro _ _
          exact ⟨x, hm, by unfold okLoad; omega⟩
        go_wp2
        go_ret
        exact ⟨ret_bool hg.out.symm, rfl⟩
      go_wp2
      go_round
      case rel => exact ⟨k + 1, by omega, by go_num, hid (all_take_succ hx.out hall.out (by unfold okLoad; omega))⟩
      case measure => simp [intOf]; omega
    · have hg : Hid (goodLoads l = true) := by
        show _ = _
        have h := hall.out
        rw [List.take_of_length_le (by omega)] at h
        unfold goodLoads; simp
        exact ⟨by omega, by omega, h⟩
      go_wp2
      go_ret
      exact ⟨ret_bool hg.out.symm, rfl⟩
end Go.Proofs.Ytpkcccphoolapaa
