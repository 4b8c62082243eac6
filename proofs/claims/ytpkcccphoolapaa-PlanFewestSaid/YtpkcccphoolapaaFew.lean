/- Layer 15: the law's fewest. -/
import Derived.Test.YtpkcccphoolapaaFwQ
namespace Go.Proofs.Ytpkcccphoolapaa
open Go.RowKit

set_option maxHeartbeats 2000000 in
theorem fewest_any (w : World) (B : Nat) (A : Option Addr) (n c : Nat) (l : List Int) (q : Int) (hl : l.length = n) (hm : n ≤ 16) (hR : Ints B w A l) (hr : ∀ x ∈ l, 0 ≤ x ∧ x ≤ 4096) (hq : 0 ≤ q) (hq2 : q ≤ 65536) (d : Nat) :
    ∀ (i m : Nat), i + d = n → m ≤ 16 → Calls Try.prog 30 #[.slice A n c, .int .i64 (i : Int), .int .i64 q, .int .i64 (m : Int)] w fun e w' => e = .returned (.int .i64 (fewL q (l.drop i) m)) ∧ w' = w := by
  subst hl
  have HR := hid hR
  have HRG := hid hr
  clear hR hr
  induction d with
  | zero =>
    intro i m hi hm16
    obtain rfl : i = l.length := by omega
    have e1 : ((l.length : Int) == (l.length : Int)) = true := by simp
    have HD : Hid (l.drop l.length = []) := hid (List.drop_length ..)
    by_cases h0 : m = 0
    · subst h0
      have HV : Hid (fewL q (l.drop l.length) 0 = 0) := hid (by rw [HD.out]; rfl)
      go_enter Try.func30, Try.ntmps30
      go_wp2_with fail
      go_ret
      exact ⟨by rw [HV.out]; rfl, rfl⟩
    · have e2 : ((m : Int) == 0) = false := by rw [beq_eq_false_iff_ne]; omega
      have HV : Hid (fewL q (l.drop l.length) m = 1099511627776) := hid (by rw [HD.out]; unfold fewL; rw [if_neg h0])
      go_enter Try.func30, Try.ntmps30
      go_wp2_with fail
      go_ret
      exact ⟨by rw [HV.out]; rfl, rfl⟩
  | succ d ih =>
    intro i m hi hm16
    have hlt : i < l.length := by omega
    have hii : (i : Int) < (l.length : Int) := by omega
    have hi0 : (0 : Int) ≤ (i : Int) := by omega
    have e1 : ((i : Int) == (l.length : Int)) = false := by rw [beq_eq_false_iff_ne]; omega
    obtain ⟨b, off, x, hx, rfl, hb, cx⟩ := Ints.at' HR.out i hlt
    have hxr := HRG.out x (List.mem_of_getElem? hx.out)
    have hwi : IntKind.i64.wrap ((i : Int) + 1) = ((i + 1 : Nat) : Int) := by rw [IntWalk.i64_in _ ⟨by omega, by omega⟩]; omega
    have hwq : IntKind.i64.wrap (q + 1) = q + 1 := IntWalk.i64_in _ ⟨by omega, by omega⟩
    have HD : Hid (l.drop i = x :: l.drop (i + 1)) := by
      obtain ⟨h1, h2⟩ := List.getElem?_eq_some_iff.1 hx.out
      rw [← h2]; exact hid (List.drop_eq_getElem_cons h1)
    have HA := hid (ih (i + 1) m (by omega) hm16)
    have HB := hid (ih (i + 1) (m - 1) (by omega) (by omega))
    have hdl : (l.drop (i + 1)).length ≤ 16 := by rw [List.length_drop]; omega
    have hra := fewL_range (q := q) hq (l := l.drop (i + 1)) (fun y hy => HRG.out y (List.mem_of_mem_drop hy)) m
    have hrb := fewL_range (q := q) hq (l := l.drop (i + 1)) (fun y hy => HRG.out y (List.mem_of_mem_drop hy)) (m - 1)
    have HE : Hid (fewL q (l.drop i) m = fewL q (x :: l.drop (i + 1)) m) := hid (by rw [HD.out])
    rw [HE.out]
    clear ih
    have HU : Hid (fewL q (x :: l.drop (i + 1)) m = if m = 0 then fewL q (l.drop (i + 1)) m + (if q < x then x - q else 0) else
        if fewL q (l.drop (i + 1)) (m - 1) + (if q + 1 < x then x - q - 1 else 0) < fewL q (l.drop (i + 1)) m + (if q < x then x - q else 0) then fewL q (l.drop (i + 1)) (m - 1) + (if q + 1 < x then x - q - 1 else 0) else fewL q (l.drop (i + 1)) m + (if q < x then x - q else 0)) := hid (by conv => lhs; unfold fewL)
    generalize fewL q (x :: l.drop (i + 1)) m = V at *
    generalize fewL q (l.drop (i + 1)) m = a at *
    generalize fewL q (l.drop (i + 1)) (m - 1) = b' at *
    clear HE
    have hwm : m ≠ 0 → IntKind.i64.wrap ((m : Int) - 1) = ((m - 1 : Nat) : Int) := fun h => by rw [IntWalk.i64_in _ ⟨by omega, by omega⟩]; omega
    have hwa1 : IntKind.i64.wrap (a + x) = a + x := IntWalk.i64_in _ ⟨by omega, by omega⟩
    have hwa2 : IntKind.i64.wrap (a + x - q) = a + x - q := IntWalk.i64_in _ ⟨by omega, by omega⟩
    have hwb1 : IntKind.i64.wrap (b' + x) = b' + x := IntWalk.i64_in _ ⟨by omega, by omega⟩
    have hwb2 : IntKind.i64.wrap (b' + x - q) = b' + x - q := IntWalk.i64_in _ ⟨by omega, by omega⟩
    have hwb3 : IntKind.i64.wrap (b' + x - q - 1) = b' + x - q - 1 := IntWalk.i64_in _ ⟨by omega, by omega⟩
    go_enter Try.func30, Try.ntmps30
    go_wp2_with fail
    refine HA.out.mono ?_
    rintro e w1 ⟨rfl, hw1⟩
    obtain rfl : w = w1 := hw1.symm
    clear hw1
    by_cases hqx : q < x
    · have d1 : decide (x > q) = true := by simpa using hqx
      have d1' : decide (q < x) = true := by simpa using hqx
      by_cases h0 : m = 0
      · subst h0
        have HV : Hid (V = (a + x - q)) := hid (by rw [HU.out, if_pos rfl, if_pos hqx]; omega)
        clear hqx hwm HB
        go_wp2_with fail
        go_ret
        exact ⟨by rw [HV.out]; rfl, rfl⟩
      · have e2 : ((m : Int) == 0) = false := by rw [beq_eq_false_iff_ne]; omega
        have hwm' := hwm h0
        clear hwm
        have HU2 := hid (HU.out.trans (if_neg h0))
        by_cases hq1 : q + 1 < x
        · have d2 : decide (x > q + 1) = true := by simpa using hq1
          have d2' : decide (q + 1 < x) = true := by simpa using hq1
          by_cases hba : (b' + x - q - 1) < (a + x - q)
          · have d3 : decide ((b' + x - q - 1) < (a + x - q)) = true := by simpa using hba
            have HV : Hid (V = (b' + x - q - 1)) := hid (by rw [HU2.out, if_pos hqx, if_pos hq1]; split <;> omega)
            clear hqx hq1 hba h0
            go_wp2_with fail
            refine HB.out.mono ?_
            rintro e w1 ⟨rfl, hw1⟩
            obtain rfl : w = w1 := hw1.symm
            clear hw1
            go_wp2_with fail
            go_ret
            exact ⟨by rw [HV.out]; rfl, rfl⟩
          · have d3 : decide ((b' + x - q - 1) < (a + x - q)) = false := by simpa using hba
            have HV : Hid (V = (a + x - q)) := hid (by rw [HU2.out, if_pos hqx, if_pos hq1]; split <;> omega)
            clear hqx hq1 hba h0
            go_wp2_with fail
            refine HB.out.mono ?_
            rintro e w1 ⟨rfl, hw1⟩
            obtain rfl : w = w1 := hw1.symm
            clear hw1
            go_wp2_with fail
            go_ret
            exact ⟨by rw [HV.out]; rfl, rfl⟩
        · have d2 : decide (x > q + 1) = false := by simpa using hq1
          have d2' : decide (q + 1 < x) = false := by simpa using hq1
          by_cases hba : b' < (a + x - q)
          · have d3 : decide (b' < (a + x - q)) = true := by simpa using hba
            have HV : Hid (V = b') := hid (by rw [HU2.out, if_pos hqx, if_neg hq1]; split <;> omega)
            clear hqx hq1 hba h0
            go_wp2_with fail
            refine HB.out.mono ?_
            rintro e w1 ⟨rfl, hw1⟩
            obtain rfl : w = w1 := hw1.symm
            clear hw1
            go_wp2_with fail
            go_ret
            exact ⟨by rw [HV.out]; rfl, rfl⟩
          · have d3 : decide (b' < (a + x - q)) = false := by simpa using hba
            have HV : Hid (V = (a + x - q)) := hid (by rw [HU2.out, if_pos hqx, if_neg hq1]; split <;> omega)
            clear hqx hq1 hba h0
            go_wp2_with fail
            refine HB.out.mono ?_
            rintro e w1 ⟨rfl, hw1⟩
            obtain rfl : w = w1 := hw1.symm
            clear hw1
            go_wp2_with fail
            go_ret
            exact ⟨by rw [HV.out]; rfl, rfl⟩
    · have d1 : decide (x > q) = false := by simpa using hqx
      have d1' : decide (q < x) = false := by simpa using hqx
      by_cases h0 : m = 0
      · subst h0
        have HV : Hid (V = a) := hid (by rw [HU.out, if_pos rfl, if_neg hqx]; omega)
        clear hqx hwm HB
        go_wp2_with fail
        go_ret
        exact ⟨by rw [HV.out]; rfl, rfl⟩
      · have e2 : ((m : Int) == 0) = false := by rw [beq_eq_false_iff_ne]; omega
        have hwm' := hwm h0
        clear hwm
        have HU2 := hid (HU.out.trans (if_neg h0))
        have hq1 : ¬ q + 1 < x := by omega
        have d2 : decide (x > q + 1) = false := by simpa using hq1
        have d2' : decide (q + 1 < x) = false := by simpa using hq1
        by_cases hba : b' < a
        · have d3 : decide (b' < a) = true := by simpa using hba
          have HV : Hid (V = b') := hid (by rw [HU2.out, if_neg hqx, if_neg hq1]; split <;> omega)
          clear hqx hq1 hba h0
          go_wp2_with fail
          refine HB.out.mono ?_
          rintro e w1 ⟨rfl, hw1⟩
          obtain rfl : w = w1 := hw1.symm
          clear hw1
          go_wp2_with fail
          go_ret
          exact ⟨by rw [HV.out]; rfl, rfl⟩
        · have d3 : decide (b' < a) = false := by simpa using hba
          have HV : Hid (V = a) := hid (by rw [HU2.out, if_neg hqx, if_neg hq1]; split <;> omega)
          clear hqx hq1 hba h0
          go_wp2_with fail
          refine HB.out.mono ?_
          rintro e w1 ⟨rfl, hw1⟩
          obtain rfl : w = w1 := hw1.symm
          clear hw1
          go_wp2_with fail
          go_ret
          exact ⟨by rw [HV.out]; rfl, rfl⟩
end Go.Proofs.Ytpkcccphoolapaa
