/- Layer 15: total, Skew, the document's Total and Skew, sameInts, num. -/
import Derived.Test.YtpkcccphoolapaaPlanA
import Derived.Test.YtpkcccphoolapaaFloat
namespace Go.Proofs.Ytpkcccphoolapaa
open Go.RowKit

theorem sum_take_succ {l : List Int} {k : Nat} {x : Int} (hx : l[k]? = some x) : (l.take (k + 1)).sum = (l.take k).sum + x := by
  rw [List.take_add_one, hx]; simp

theorem sum_bound (l : List Int) (h : ∀ x ∈ l, okLoad x) : 0 ≤ l.sum ∧ l.sum ≤ l.length * 1073741824 := by
  induction l with
  | nil => simp
  | cons x l ih =>
    have h1 := ih fun y hy => h y (List.mem_cons_of_mem _ hy)
    have h2 := h x (List.mem_cons_self ..)
    unfold okLoad at h2
    rw [List.sum_cons, List.length_cons]
    omega

theorem goodLoads_iff {l : List Int} (h : goodLoads l = true) : 1 ≤ l.length ∧ l.length ≤ 16 ∧ ∀ x ∈ l, okLoad x := by
  unfold goodLoads at h; exact of_decide_eq_true h

theorem total_bound {l : List Int} (h : goodLoads l = true) : 0 ≤ l.sum ∧ l.sum ≤ 17179869184 := by
  have h1 := goodLoads_iff h
  have h2 := sum_bound l h1.2.2
  omega

/-- the greatest load, 0 at least -/
def topLoad (l : List Int) : Int := l.foldl (fun a x => if x > a then x else a) 0
theorem topLoad_succ {l : List Int} {k : Nat} {x : Int} (hx : l[k]? = some x) : topLoad (l.take (k + 1)) = if x > topLoad (l.take k) then x else topLoad (l.take k) := by
  rw [List.take_add_one, hx]; simp [topLoad]
theorem topLoad_bound (l : List Int) (h : ∀ x ∈ l, okLoad x) : 0 ≤ topLoad l ∧ topLoad l ≤ 1073741824 := by
  have key : ∀ (l : List Int) (a : Int), 0 ≤ a → a ≤ 1073741824 → (∀ x ∈ l, okLoad x) → 0 ≤ l.foldl (fun a x => if x > a then x else a) a ∧ l.foldl (fun a x => if x > a then x else a) a ≤ 1073741824 := by
    intro l
    induction l with
    | nil => intro a h0 h1 _; exact ⟨h0, h1⟩
    | cons x l ih =>
      intro a h0 h1 h
      have h2 := h x (List.mem_cons_self ..)
      unfold okLoad at h2
      rw [List.foldl_cons]
      refine ih _ ?_ ?_ (fun y hy => h y (List.mem_cons_of_mem _ hy)) <;> split <;> omega
  exact key l 0 (by omega) (by omega) h

set_option maxHeartbeats 400000 in
theorem total_any (B : Nat) (w : World) (A : Option Addr) (n c : Nat) (l : List Int) (hl : l.length = n) (hR : Ints B w A l) (hg : goodLoads l = true) :
    Calls Try.prog 38 #[.slice A n c] w fun e w' => e = .returned (.int .i64 l.sum) ∧ w = w' := by
  subst hl
  have HG := hid hg
  have hn := goodLoads_iff hg
  have hn1 := hn.2.1
  clear hg hn
  go_enter Try.func38, Try.ntmps38
  go_wp2
  go_loop [3, 8] (fun s i => ∃ k : Nat, k ≤ l.length ∧ i = .int .i64 k ∧ s = .int .i64 (l.take k).sum) (fun _ i => l.length - (intOf i).toNat)
  case atStart => exact ⟨0, Nat.zero_le _, rfl, rfl⟩
  case round =>
    obtain ⟨k, hk, rfl, rfl⟩ := hrel
    by_cases hlt : k < l.length
    · obtain ⟨b, off, x, hx, rfl, hb, hc⟩ := Ints.at' hR k hlt
      have hs := sum_bound (l.take k) (fun y hy => (goodLoads_iff HG.out).2.2 y (List.mem_of_mem_take hy))
      have hx1 := (goodLoads_iff HG.out).2.2 x (List.mem_of_getElem? hx.out)
      have hlen : (l.take k).length ≤ k := List.length_take_le _ _
      have hs1 := hs.1
      have hs2 : (l.take k).sum ≤ 17179869184 := by omega
      have hx2 := hx1.1
      have hx3 := hx1.2
      have HS := hid (sum_take_succ hx.out)
      clear hs hx1 hlen
      generalize (l.take k).sum = S at hs1 hs2 HS ⊢
      go_wp2
      go_round
      case rel => exact ⟨k + 1, by omega, by go_num, by rw [HS.out]⟩
      case measure => simp [intOf]; omega
    · go_wp2
      go_ret
      exact ⟨ret_i (by rw [List.take_of_length_le (by omega)]), rfl⟩

/-- Skew, as the program says it: the value's bits, the error. -/
def skewBits (l : List Int) : Nat :=
  if goodLoads l = true then
    if l.sum = 0 then 4607182418800017408 else (floatBits .quo .f64 (floatOfInt .f64 (topLoad l * l.length)) (floatOfInt .f64 l.sum)).getD 0
  else 0

set_option maxHeartbeats 400000 in
theorem skew_any (B : Nat) (w : World) (A : Option Addr) (n c : Nat) (l : List Int) (hl : l.length = n) (hm : n ≤ 9223372036854775807) (hR : Ints B w A l) :
    Calls Try.prog 13 #[.slice A n c] w fun e w' => e = .returned (.tuple #[.float .f64 (skewBits l), .int .i64 (if goodLoads l = true then 0 else 150)]) ∧ w = w' := by
  subst hl
  have hG := goodLoads_any B w A l.length c l rfl hm hR
  cases hg : goodLoads l with
  | false =>
    rw [hg] at hG
    have HS : Hid (skewBits l = 0) := by show _ = _; unfold skewBits; rw [hg]; rfl
    clear hg
    go_enter Try.func13, Try.ntmps13
    go_wp2_with (go_at_call 37; refine hG.mono ?_; rintro e w' ⟨rfl, rfl⟩)
    go_ret2
    exact ⟨by rw [HS.out]; rfl, rfl⟩
  | true =>
    rw [hg] at hG
    have HG := hid hg
    have hT := total_any B w A l.length c l rfl hR hg
    have hn1 : l.length ≤ 16 := (goodLoads_iff hg).2.1
    have htb := total_bound hg
    clear hg
    by_cases h0 : l.sum = 0
    · have HS : Hid (skewBits l = 4607182418800017408) := by show _ = _; unfold skewBits; rw [if_pos HG.out, if_pos h0]
      rw [h0] at hT
      clear h0 htb
      go_enter Try.func13, Try.ntmps13
      go_wp2_with (first | (go_at_call 37; refine hG.mono ?_; rintro e w' ⟨rfl, rfl⟩) | (go_at_call 38; refine hT.mono ?_; rintro e w' ⟨rfl, rfl⟩))
      go_loop [5, 15] (fun s i => ∃ k : Nat, k ≤ l.length ∧ i = .int .i64 k ∧ s = .int .i64 (topLoad (l.take k))) (fun _ i => l.length - (intOf i).toNat)
      case atStart => exact ⟨0, Nat.zero_le _, rfl, rfl⟩
      case round =>
        obtain ⟨k, hk, rfl, rfl⟩ := hrel
        by_cases hlt : k < l.length
        · obtain ⟨b, off, x, hx, rfl, hb, hc⟩ := Ints.at' hR k hlt
          have HS := hid (topLoad_succ hx.out)
          generalize topLoad (l.take k) = S at HS ⊢
          go_wp2
          go_round
          case rel => exact ⟨k + 1, by omega, by go_num, by rw [HS.out]⟩
          case measure => simp [intOf]; omega
        · go_wp2
          go_ret2
          exact ⟨by rw [HS.out]; rfl, rfl⟩
    · have ht := topLoad_bound l (goodLoads_iff HG.out).2.2
      have hmul : 0 ≤ topLoad l * l.length ∧ topLoad l * (l.length : Int) ≤ 17179869184 := by
        refine ⟨Int.mul_nonneg ht.1 (by omega), ?_⟩
        have := Int.mul_le_mul ht.2 (show (l.length : Int) ≤ 16 by omega) (by omega) (by omega)
        omega
      obtain ⟨r, hr, _⟩ := quo_some (topLoad l * l.length) l.sum hmul.1 (by omega) (by omega)
      have HS : Hid (skewBits l = r) := by show _ = _; unfold skewBits; rw [if_pos HG.out, if_neg h0, hr]; rfl
      have h0b : (l.sum == 0) = false := by simpa using h0
      have hq : ∀ t w, (binOp .quo t (.float .f64 (floatOfInt .f64 (topLoad l * l.length))) (.float .f64 (floatOfInt .f64 l.sum))).run Try.prog w = .ok (.float .f64 r) w := fun t w => run_float_arith w .quo t .f64 _ _ r hr
      have hm0 := hmul.1
      have hm1 := hmul.2
      have HT : Hid (topLoad (l.take l.length) = topLoad l) := by show _ = _; rw [List.take_length]
      clear h0 htb hr hmul ht
      generalize l.sum = S at hT h0b hq
      generalize topLoad l = T at hq hm0 hm1 HT
      go_enter Try.func13, Try.ntmps13
      go_wp2_with (first | (go_at_call 37; refine hG.mono ?_; rintro e w' ⟨rfl, rfl⟩) | (go_at_call 38; refine hT.mono ?_; rintro e w' ⟨rfl, rfl⟩))
      go_loop [5, 15] (fun s i => ∃ k : Nat, k ≤ l.length ∧ i = .int .i64 k ∧ s = .int .i64 (topLoad (l.take k))) (fun _ i => l.length - (intOf i).toNat)
      case atStart => exact ⟨0, Nat.zero_le _, rfl, rfl⟩
      case round =>
        obtain ⟨k, hk, rfl, rfl⟩ := hrel
        by_cases hlt : k < l.length
        · obtain ⟨b, off, x, hx, rfl, hb, hc⟩ := Ints.at' hR k hlt
          have HS := hid (topLoad_succ hx.out)
          generalize topLoad (l.take k) = S at HS ⊢
          go_wp2
          go_round
          case rel => exact ⟨k + 1, by omega, by go_num, by rw [HS.out]⟩
          case measure => simp [intOf]; omega
        · obtain rfl : k = l.length := by omega
          rw [HT.out]
          go_wp2
          go_ret2
          exact ⟨by rw [HS.out]; rfl, rfl⟩
end Go.Proofs.Ytpkcccphoolapaa
