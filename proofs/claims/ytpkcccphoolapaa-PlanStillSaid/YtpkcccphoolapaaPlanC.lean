/- Layer 15: the document's Total and Skew, sameInts, num, and the walk of PlanSkews. -/
import Derived.Test.YtpkcccphoolapaaPlanB
namespace Go.Proofs.Ytpkcccphoolapaa
open Go.RowKit

def refTotal (l : List Int) : Int := if goodLoads l = true then l.sum else -1

set_option maxHeartbeats 400000 in
theorem refTotal_any (B : Nat) (w : World) (A : Option Addr) (n c : Nat) (l : List Int) (hl : l.length = n) (hm : n ≤ 9223372036854775807) (hR : Ints B w A l) :
    Calls Try.prog 39 #[.slice A n c] w fun e w' => e = .returned (.int .i64 (refTotal l)) ∧ ∃ q, w' = w.drewN q := by
  subst hl
  by_cases h0 : (l.length : Int) < 1
  · have hg : Hid (refTotal l = -1) := by
      show _ = _
      unfold refTotal goodLoads; simp; omega
    go_enter Try.func39, Try.ntmps39
    go_wp2
    go_ret
    exact ⟨ret_i hg.out.symm, 0, rfl⟩
  by_cases h1 : (16 : Int) < (l.length : Int)
  · have hg : Hid (refTotal l = -1) := by
      show _ = _
      unfold refTotal goodLoads; simp; omega
    go_enter Try.func39, Try.ntmps39
    go_wp2
    go_ret
    exact ⟨ret_i hg.out.symm, 0, rfl⟩
  go_enter Try.func39, Try.ntmps39
  go_wp2
  go_loopw [3, 4] (fun s i wr => ∃ k : Nat, k ≤ l.length ∧ i = .int .i64 k ∧ s = .int .i64 (l.take k).sum ∧ Hid (∀ x ∈ l.take k, okLoad x) ∧ ∃ q, wr = w.drewN q) (fun _ i _ => l.length - (intOf i).toNat)
  case atStart => exact ⟨0, Nat.zero_le _, rfl, rfl, hid (by simp), 0, rfl⟩
  case round =>
    obtain ⟨k, hk, rfl, rfl, hall, q, rfl⟩ := hrel
    by_cases hlt : k < l.length
    · obtain ⟨b, off, x, hx, rfl, hb, hc⟩ := Ints.at' hR k hlt
      have hi : (k : Int) < (l.length : Int) := by omega
      by_cases hx0 : x < 0
      · have hg : Hid (refTotal l = -1) := by
          show _ = _
          have hm := List.mem_of_getElem? hx.out
          unfold refTotal
          rw [if_neg]
          intro hg
          have := (goodLoads_iff hg).2.2 x hm
          unfold okLoad at this; omega
        go_wp2
        try go_quiet (fail)
        go_wp2
        go_ret
        exact ⟨ret_i hg.out.symm, _, rfl⟩
      have hx0b : decide (x < 0) = false := by simpa using hx0
      by_cases hx1 : 1073741824 < x
      · have hg : Hid (refTotal l = -1) := by
          show _ = _
          have hm := List.mem_of_getElem? hx.out
          unfold refTotal
          rw [if_neg]
          intro hg
          have := (goodLoads_iff hg).2.2 x hm
          unfold okLoad at this; omega
        go_wp2
        try go_quiet (fail)
        go_wp2
        go_ret
        exact ⟨ret_i hg.out.symm, _, rfl⟩
      have hs := sum_bound (l.take k) hall.out
      have hlen : (l.take k).length ≤ k := List.length_take_le _ _
      have hs1 := hs.1
      have hs2 : (l.take k).sum ≤ 17179869184 := by omega
      have HS := hid (sum_take_succ hx.out)
      have hx2 : 0 ≤ x := by omega
      have hx3 : x ≤ 1073741824 := by omega
      clear hs hlen hx0 hx1
      generalize (l.take k).sum = S at hs1 hs2 HS ⊢
      go_wp2
      try go_quiet (fail)
      go_wp2
      go_roundw
      case rel => exact ⟨k + 1, by omega, by go_num, by rw [HS.out], hid (all_take_succ hx.out hall.out ⟨hx2, hx3⟩), _, rfl⟩
      case measure => simp [intOf]; omega
    · have hg : Hid (refTotal l = (l.take k).sum) := by
        show _ = _
        have h := hall.out
        rw [List.take_of_length_le (by omega)] at h ⊢
        unfold refTotal
        rw [if_pos]
        unfold goodLoads; simp
        exact ⟨by omega, by omega, h⟩
      go_wp2
      go_ret
      exact ⟨ret_i hg.out.symm, q, rfl⟩

def refSkew (l : List Int) : Int × Int × Int :=
  if goodLoads l = true then if l.sum = 0 then (1, 1, 0) else (topLoad l * l.length, l.sum, 0) else (0, 1, 150)

set_option maxHeartbeats 400000 in
theorem refSkew_any (B : Nat) (w : World) (A : Option Addr) (n c : Nat) (l : List Int) (hl : l.length = n) (hm : n ≤ 9223372036854775807) (hR : Ints B w A l) :
    Calls Try.prog 14 #[.slice A n c] w fun e w' => e = .returned (.tuple #[.int .i64 (refSkew l).1, .int .i64 (refSkew l).2.1, .int .i64 (refSkew l).2.2]) ∧ ∃ q, w' = w.drewN q := by
  subst hl
  have hT := refTotal_any B w A l.length c l rfl hm hR
  cases hg : goodLoads l with
  | false =>
    have HS : Hid (refSkew l = (0, 1, 150)) := by show _ = _; unfold refSkew; rw [hg]; rfl
    have e : refTotal l = -1 := by unfold refTotal; rw [hg]; rfl
    rw [e] at hT
    clear hg e
    go_enter Try.func14, Try.ntmps14
    go_wp2_with (go_at_call 39; refine hT.mono ?_; rintro e w' ⟨rfl, q, rfl⟩)
    go_ret3
    exact ⟨by rw [HS.out]; rfl, _, rfl⟩
  | true =>
    have HG := hid hg
    have hn1 : l.length ≤ 16 := (goodLoads_iff hg).2.1
    have htb := total_bound hg
    have e : refTotal l = l.sum := by unfold refTotal; rw [hg]; rfl
    rw [e] at hT
    clear hg e
    by_cases h0 : l.sum = 0
    · have HS : Hid (refSkew l = (1, 1, 0)) := by show _ = _; unfold refSkew; rw [if_pos HG.out, if_pos h0]
      rw [h0] at hT
      clear h0 htb
      go_enter Try.func14, Try.ntmps14
      go_wp2_with (go_at_call 39; refine hT.mono ?_; rintro e w' ⟨rfl, q, rfl⟩)
      go_ret3
      exact ⟨by rw [HS.out]; rfl, _, rfl⟩
    · have ht := topLoad_bound l (goodLoads_iff HG.out).2.2
      have hmul : 0 ≤ topLoad l * l.length ∧ topLoad l * (l.length : Int) ≤ 17179869184 := by
        refine ⟨Int.mul_nonneg ht.1 (by omega), ?_⟩
        have := Int.mul_le_mul ht.2 (show (l.length : Int) ≤ 16 by omega) (by omega) (by omega)
        omega
      have HS : Hid (refSkew l = (topLoad l * l.length, l.sum, 0)) := by show _ = _; unfold refSkew; rw [if_pos HG.out, if_neg h0]
      have h0b : (l.sum == 0) = false := by simpa using h0
      have h0c : 0 ≤ l.sum := htb.1
      have hm0 := hmul.1
      have hm1 := hmul.2
      have HT : Hid (topLoad (l.take l.length) = topLoad l) := by show _ = _; rw [List.take_length]
      clear h0 htb hmul ht
      generalize l.sum = S at hT h0b HS h0c
      generalize topLoad l = T at hm0 hm1 HT HS
      go_enter Try.func14, Try.ntmps14
      go_wp2_with (go_at_call 39; refine hT.mono ?_; rintro e w' ⟨rfl, q, rfl⟩)
      go_loop [6, 7] (fun s i => ∃ k : Nat, k ≤ l.length ∧ i = .int .i64 k ∧ s = .int .i64 (topLoad (l.take k))) (fun _ i => l.length - (intOf i).toNat)
      case atStart => exact ⟨0, Nat.zero_le _, rfl, rfl⟩
      case round =>
        obtain ⟨k, hk, rfl, rfl⟩ := hrel
        by_cases hlt : k < l.length
        · obtain ⟨b, off, x, hx, rfl, hb, hc⟩ := Ints.at' hR k hlt
          have HS := hid (topLoad_succ hx.out)
          generalize topLoad (l.take k) = S at HS ⊢
          by_cases hgt : S < x
          · go_wp2
            go_round
            case rel => exact ⟨k + 1, by omega, by go_num, by rw [HS.out, if_pos hgt]⟩
            case measure => simp [intOf]; omega
          · go_wp2
            go_round
            case rel => exact ⟨k + 1, by omega, by go_num, by rw [HS.out, if_neg hgt]⟩
            case measure => simp [intOf]; omega
        · obtain rfl : k = l.length := by omega
          rw [HT.out]
          go_wp2
          go_ret3
          exact ⟨by rw [HS.out]; rfl, _, rfl⟩

set_option maxHeartbeats 400000 in
theorem sameInts_any (B : Nat) (w : World) (A A' : Option Addr) (n c n' c' : Nat) (l l' : List Int) (hl : l.length = n) (hl' : l'.length = n') (hm : n ≤ 9223372036854775807) (hm' : n' ≤ 9223372036854775807) (hR : Ints B w A l) (hR' : Ints B w A' l') :
    Calls Try.prog 15 #[.slice A n c, .slice A' n' c'] w fun e w' => e = .returned (.bool (decide (l = l'))) ∧ ∃ q, w' = w.drewN q := by
  subst hl
  subst hl'
  by_cases hn : (l.length : Int) = l'.length
  · have hne : ((l.length : Int) != l'.length) = false := by simpa using hn
    have hlen := hid hn
    have hle1 : (l.length : Int) ≤ l'.length := by omega
    clear hn
    go_enter Try.func15, Try.ntmps15
    go_wp2
    go_loopw [5] (fun i wr => ∃ k : Nat, k ≤ l.length ∧ i = .int .i64 k ∧ Hid (l.take k = l'.take k) ∧ ∃ q, wr = w.drewN q) (fun i _ => l.length - (intOf i).toNat)
    case atStart => exact ⟨0, Nat.zero_le _, rfl, hid (by simp), 0, rfl⟩
    case round =>
      obtain ⟨k, hk, rfl, hall, q, rfl⟩ := hrel
      by_cases hlt : k < l.length
      · obtain ⟨b, off, x, hx, rfl, hb, hc⟩ := Ints.at' hR k hlt
        obtain ⟨b', off', x', hx', rfl, hb', hc'⟩ := Ints.at' hR' k (by omega)
        have hi : (k : Int) < (l.length : Int) := by omega
        have hi' : (k : Int) < (l'.length : Int) := by omega
        by_cases he : x = x'
        · subst he
          have hb1 : (x != x) = false := by simp
          go_wp2
          go_quiet (fail)
          go_wp2
          go_roundw
          case rel => exact ⟨k + 1, by omega, by go_num, hid (by rw [List.take_add_one, List.take_add_one, hall.out, hx.out, hx'.out]), _, rfl⟩
          case measure => simp [intOf]; omega
        · have hb1 : (x != x') = true := by simpa using he
          have hg : Hid (decide (l = l') = false) := by
            show _ = _
            rw [decide_eq_false_iff_not]
            rintro rfl
            have := hx.out.symm.trans hx'.out
            injection this with this
            exact he this
          clear he
          go_wp2
          go_quiet (fail)
          go_wp2
          go_ret
          exact ⟨ret_bool hg.out.symm, _, World.drewN_drewN ..⟩
      · have hg : Hid (decide (l = l') = true) := by
          show _ = _
          have h := hall.out
          have h2 := hlen.out
          rw [List.take_of_length_le (by omega), List.take_of_length_le (by omega)] at h
          simpa using h
        go_wp2
        go_ret
        exact ⟨ret_bool hg.out.symm, q, rfl⟩
  · have hne : ((l.length : Int) != l'.length) = true := by simpa using hn
    have hg : Hid (decide (l = l') = false) := by
      show _ = _
      rw [decide_eq_false_iff_not]
      rintro rfl
      exact hn rfl
    clear hn
    go_enter Try.func15, Try.ntmps15
    go_wp2
    go_ret
    exact ⟨ret_bool hg.out.symm, 0, rfl⟩

theorem num_any (w : World) (x : Int) : Calls Try.prog 16 #[.int .i64 x] w fun e w' => e = .returned (.int .i64 x) ∧ w = w' := by
  go_enter Try.func16, Try.ntmps16
  go_wp2
  go_ret
  exact ⟨rfl, rfl⟩
end Go.Proofs.Ytpkcccphoolapaa
