/- Floats: the quotient of two small whole numbers, its rung, and that a greater dividend gives no smaller rung; the order of rungs is that of the numbers. -/
import Derived.WalkKit
import Derived.Laws.FloatArith
import Derived.WalkLawsBesides
namespace Go.Proofs.Ytpkcccphoolapaa
/-! quotients of small whole numbers as floats -/
def mant (t : Nat) : Nat := t * 2 ^ (52 - t.log2)
theorem mant_lo {t : Nat} (h0 : 0 < t) (h1 : t < 1048576) : 4503599627370496 ≤ mant t := by
  have ht : 2 ^ t.log2 ≤ t := Nat.log2_self_le (by omega)
  have hl : t.log2 < 20 := (Nat.log2_lt (by omega)).2 h1
  have h := Nat.mul_le_mul_right (2 ^ (52 - t.log2)) ht
  rw [← Nat.pow_add, show t.log2 + (52 - t.log2) = 52 by omega] at h
  exact h
theorem mant_hi {t : Nat} (h0 : 0 < t) (h1 : t < 1048576) : mant t < 9007199254740992 := by
  have ht : t < 2 ^ (t.log2 + 1) := Nat.lt_log2_self
  have hl : t.log2 < 20 := (Nat.log2_lt (by omega)).2 h1
  have h := Nat.mul_lt_mul_of_pos_right ht (Nat.two_pow_pos (52 - t.log2))
  rw [← Nat.pow_add, show t.log2 + 1 + (52 - t.log2) = 53 by omega] at h
  exact h
theorem cut_0 (z : Nat) : Ieee.Toward.even.cut false z 0 = z := by
  unfold Ieee.Toward.cut
  simp [Nat.mod_one]
theorem nearest_t {t : Nat} (h0 : 0 < t) (h1 : t < 1048576) : Ieee.double.nearest false t 0 = (1022 + t.log2) * 4503599627370496 + mant t := by
  have hi : Ieee.double.infRung = 9218868437227405312 := by decide +kernel
  have hb : Ieee.double.binade = 4503599627370496 := by decide +kernel
  have hl : Ieee.double.leastPlace = -1074 := by decide +kernel
  have hf : Ieee.double.fractionBits = 52 := rfl
  have hlog : t.log2 < 20 := (Nat.log2_lt (by omega)).2 h1
  have hlast : max ((0 : Int) + t.log2 - (52 : Nat)) (-1074) = (t.log2 : Int) - 52 := by omega
  have hz := mant_hi h0 h1
  unfold Ieee.Format.nearest
  rw [if_neg (by omega)]
  simp only [hf, hl, hlast, hb, hi]
  rw [show ((0 : Int) - ((t.log2 : Int) - 52)).toNat = 52 - t.log2 by omega, show ((t.log2 : Int) - 52 - 0).toNat = 0 by omega,
    show ((t.log2 : Int) - 52 - -1074).toNat = 1022 + t.log2 by omega, cut_0, Nat.shiftLeft_eq]
  simp only [Ieee.Format.word, Bool.false_eq_true, if_false]
  change min (_ + mant t) _ = _
  omega
/-- a rung above the subnormal ones, read -/
theorem read_normal (e m : Nat) (he1 : 1 ≤ e) (he : e < 2046) (h0 : 4503599627370496 ≤ m) (h1 : m < 9007199254740992) : Ieee.double.read ((e - 1) * 4503599627370496 + m) = .number false m (-1074 + (e - 1 : Nat)) := by
  have hi : Ieee.double.infRung = 9218868437227405312 := by decide +kernel
  have hs : Ieee.double.signWeight = 9223372036854775808 := by decide +kernel
  have hb : Ieee.double.binade = 4503599627370496 := by decide +kernel
  have hl : Ieee.double.leastPlace = -1074 := by decide +kernel
  have hm : ((e - 1) * 4503599627370496 + m) % Ieee.double.signWeight = (e - 1) * 4503599627370496 + m := Nat.mod_eq_of_lt (by omega)
  have hd : (((e - 1) * 4503599627370496 + m) / Ieee.double.signWeight % 2 == 1) = false := by
    rw [Nat.div_eq_of_lt (by omega)]; rfl
  unfold Ieee.Format.read
  simp only [hm, hd, hb, hi, hl]
  rw [if_neg (by omega), if_pos (by omega)]
  congr 1 <;> omega
def quoM (m n : Nat) : Nat := 2 * (m * 18014398509481984 / n) + (m * 18014398509481984 % n != 0).toNat
theorem sticky_mono {a b n : Nat} (h : a ≤ b) : 2 * (a / n) + (a % n != 0).toNat ≤ 2 * (b / n) + (b % n != 0).toNat := by
  have h1 : a / n ≤ b / n := Nat.div_le_div_right h
  have ea := Nat.div_add_mod a n
  have eb := Nat.div_add_mod b n
  rcases Nat.lt_or_eq_of_le h1 with h2 | h2
  · have : (a % n != 0).toNat ≤ 1 := Bool.toNat_le _
    omega
  · rw [h2] at ea ⊢
    have : a % n ≤ b % n := by omega
    by_cases hz : a % n = 0
    · rw [hz]; simp
    · have : b % n ≠ 0 := by omega
      have e1 : (a % n != 0) = true := by simpa using hz
      have e2 : (b % n != 0) = true := by simpa using this
      rw [e1, e2]; omega
/-- the rung of the quotient -/
def divR (p t : Nat) : Nat := (p.log2 + (quoM (mant p) (mant t)).log2 + 967 - t.log2) * 4503599627370496 + Ieee.Toward.even.cut false (quoM (mant p) (mant t)) ((quoM (mant p) (mant t)).log2 - 52)
theorem quoM_log {m n : Nat} (h0 : 4503599627370496 ≤ m) (h1 : m < 9007199254740992) (h2 : 4503599627370496 ≤ n) (h3 : n < 9007199254740992) : (m < n → (quoM m n).log2 = 54) ∧ (n ≤ m → (quoM m n).log2 = 55) := by
  have hp54 : (2 : Nat) ^ 54 = 18014398509481984 := by decide
  have hp55 : (2 : Nat) ^ 55 = 36028797018963968 := by decide
  have hp56 : (2 : Nat) ^ 56 = 72057594037927936 := by decide
  have hs : (m * 18014398509481984 % n != 0).toNat ≤ 1 := Bool.toNat_le _
  have hne : quoM m n ≠ 0 := by
    have : 1 ≤ m * 18014398509481984 / n := (Nat.le_div_iff_mul_le (by omega)).2 (by omega)
    unfold quoM; omega
  refine ⟨fun h => ?_, fun h => ?_⟩
  · have a1 : 9007199254740992 ≤ m * 18014398509481984 / n := (Nat.le_div_iff_mul_le (by omega)).2 (by omega)
    have a2 : m * 18014398509481984 / n < 18014398509481984 := (Nat.div_lt_iff_lt_mul (by omega)).2 (by omega)
    refine Nat.le_antisymm (Nat.lt_succ_iff.1 ((Nat.log2_lt hne).2 ?_)) ((Nat.le_log2 hne).2 ?_)
    · rw [show Nat.succ 54 = 55 from rfl, hp55]; unfold quoM; omega
    · rw [hp54]; unfold quoM; omega
  · have a1 : 18014398509481984 ≤ m * 18014398509481984 / n := (Nat.le_div_iff_mul_le (by omega)).2 (by omega)
    have a2 : m * 18014398509481984 / n < 36028797018963968 := (Nat.div_lt_iff_lt_mul (by omega)).2 (by omega)
    refine Nat.le_antisymm (Nat.lt_succ_iff.1 ((Nat.log2_lt hne).2 ?_)) ((Nat.le_log2 hne).2 ?_)
    · rw [show Nat.succ 55 = 56 from rfl, hp56]; unfold quoM; omega
    · rw [hp55]; unfold quoM; omega
theorem cut_eq (M d : Nat) (hd : d ≤ M.log2 + 2) : Ieee.Toward.even.cut false M d = M / 2 ^ d + (decide (2 ^ d < 2 * (M % 2 ^ d)) || (2 ^ d == 2 * (M % 2 ^ d) && M / 2 ^ d % 2 == 1)).toNat := by
  unfold Ieee.Toward.cut
  rw [Nat.min_eq_left hd, Nat.shiftLeft_eq, Nat.one_mul]
theorem round_mono {d M N : Nat} (h : M ≤ N) : M / 2 ^ d + (decide (2 ^ d < 2 * (M % 2 ^ d)) || (2 ^ d == 2 * (M % 2 ^ d) && M / 2 ^ d % 2 == 1)).toNat ≤ N / 2 ^ d + (decide (2 ^ d < 2 * (N % 2 ^ d)) || (2 ^ d == 2 * (N % 2 ^ d) && N / 2 ^ d % 2 == 1)).toNat := by
  have h1 : M / 2 ^ d ≤ N / 2 ^ d := Nat.div_le_div_right h
  have ea := Nat.div_add_mod M (2 ^ d)
  have eb := Nat.div_add_mod N (2 ^ d)
  rcases Nat.lt_or_eq_of_le h1 with h2 | h2
  · have := Bool.toNat_le (decide (2 ^ d < 2 * (M % 2 ^ d)) || (2 ^ d == 2 * (M % 2 ^ d) && M / 2 ^ d % 2 == 1))
    omega
  · rw [h2] at ea ⊢
    generalize 2 ^ d = D at *
    generalize M % D = r at *
    generalize N % D = s at *
    have hrs : r ≤ s := by omega
    generalize N / D = L at *
    by_cases c1 : D < 2 * r
    · have c2 : D < 2 * s := by omega
      simp [c1, c2]
    · by_cases c3 : D < 2 * s
      · simp [c3]
        exact Nat.le_trans (Bool.toNat_le _) (by omega)
      · by_cases c4 : D = 2 * r
        · have : s = r := by omega
          subst this; exact Nat.le_refl _
        · have : (D == 2 * r) = false := by simpa using c4
          simp [c1, this]
theorem round_bounds {M L : Nat} (hL : 52 ≤ L) (h0 : 2 ^ L ≤ M) (h1 : M < 2 ^ (L + 1)) : 4503599627370496 ≤ M / 2 ^ (L - 52) + (decide (2 ^ (L - 52) < 2 * (M % 2 ^ (L - 52))) || (2 ^ (L - 52) == 2 * (M % 2 ^ (L - 52)) && M / 2 ^ (L - 52) % 2 == 1)).toNat ∧ M / 2 ^ (L - 52) + (decide (2 ^ (L - 52) < 2 * (M % 2 ^ (L - 52))) || (2 ^ (L - 52) == 2 * (M % 2 ^ (L - 52)) && M / 2 ^ (L - 52) % 2 == 1)).toNat ≤ 9007199254740992 := by
  have e1 : 2 ^ L = 4503599627370496 * 2 ^ (L - 52) := by rw [show 4503599627370496 = 2 ^ 52 from rfl, ← Nat.pow_add]; congr 1; omega
  have e2 : 2 ^ (L + 1) = 9007199254740992 * 2 ^ (L - 52) := by rw [show 9007199254740992 = 2 ^ 53 from rfl, ← Nat.pow_add]; congr 1; omega
  rw [e1] at h0
  rw [e2] at h1
  have hp : 0 < 2 ^ (L - 52) := Nat.two_pow_pos _
  have a1 : 4503599627370496 ≤ M / 2 ^ (L - 52) := (Nat.le_div_iff_mul_le hp).2 h0
  have a2 : M / 2 ^ (L - 52) < 9007199254740992 := (Nat.div_lt_iff_lt_mul hp).2 h1
  have := Bool.toNat_le (decide (2 ^ (L - 52) < 2 * (M % 2 ^ (L - 52))) || (2 ^ (L - 52) == 2 * (M % 2 ^ (L - 52)) && M / 2 ^ (L - 52) % 2 == 1))
  omega
theorem log_bounds {M L : Nat} (hM : M ≠ 0) (h : M.log2 = L) : 2 ^ L ≤ M ∧ M < 2 ^ (L + 1) := by
  subst h
  exact ⟨Nat.log2_self_le hM, Nat.lt_log2_self⟩
theorem quoM_ne {m n : Nat} (h0 : 4503599627370496 ≤ m) (h2 : 4503599627370496 ≤ n) (h3 : n < 9007199254740992) : quoM m n ≠ 0 := by
  have : 1 ≤ m * 18014398509481984 / n := (Nat.le_div_iff_mul_le (by omega)).2 (by omega)
  unfold quoM; omega
theorem mant_log {m : Nat} (x : 4503599627370496 ≤ m) (y : m < 9007199254740992) : m.log2 = 52 := by
  have e1 : (2:Nat) ^ 53 = 9007199254740992 := by decide
  have e2 : (2:Nat) ^ 52 = 4503599627370496 := by decide
  have a : m.log2 < 53 := (Nat.log2_lt (by omega)).2 (by rw [e1]; exact y)
  have b : 52 ≤ m.log2 := (Nat.le_log2 (by omega)).2 (by rw [e2]; exact x)
  omega
theorem quotient_eq (m n : Nat) (i j : Int) (a1 : 4503599627370496 ≤ m) (a2 : m < 9007199254740992) (a3 : 4503599627370496 ≤ n) (a4 : n < 9007199254740992) : Ieee.Datum.quotient 54 (.number false m i) (.number false n j) = some (.number false (quoM m n) (i - j - (54 : Nat) - 1)) := by
  have e1 : (2:Nat) ^ 54 = 18014398509481984 := by decide
  unfold Ieee.Datum.quotient
  dsimp only
  rw [if_neg (by omega), mant_log a1 a2, mant_log a3 a4]
  rw [show 54 + 52 - 52 = 54 from rfl, Nat.shiftLeft_eq, e1]
  rfl
theorem nearest_L (M L : Nat) (place : Int) (a c : Nat) (hne : M ≠ 0) (hL : M.log2 = L) (hL1 : 54 ≤ L) (hL2 : L ≤ 55) (hp : place = (a : Int) - c - 55) (ha : a < 20) (hc : c < 20) :
    Ieee.double.nearest false M place = (a + L + 967 - c) * 4503599627370496 + Ieee.Toward.even.cut false M (L - 52) := by
  have hf : Ieee.double.fractionBits = 52 := rfl
  have hi : Ieee.double.infRung = 9218868437227405312 := by decide +kernel
  have hb : Ieee.double.binade = 4503599627370496 := by decide +kernel
  have hl : Ieee.double.leastPlace = -1074 := by decide +kernel
  obtain ⟨b0, b1⟩ := log_bounds hne hL
  obtain ⟨_, hrb⟩ := round_bounds (by omega) b0 b1
  rw [← cut_eq M (L - 52) (by omega)] at hrb
  have e1 : max (place + (L : Int) - (52 : Nat)) (-1074) = place + L - 52 := by omega
  have e2 : (place - (place + (L : Int) - 52)).toNat = 0 := by omega
  have e3 : (place + (L : Int) - 52 - place).toNat = L - 52 := by omega
  have e4 : (place + (L : Int) - 52 - -1074).toNat = a + L + 967 - c := by omega
  unfold Ieee.Format.nearest
  rw [if_neg hne]
  simp only [hf, hi, hb, hl, Ieee.Format.word, Bool.false_eq_true, if_false]
  rw [hL, e1, e2, e3, e4, Nat.shiftLeft_zero]
  clear b0 b1 e1 e2 e3 e4 hf hi hb hl
  generalize Ieee.Toward.even.cut false M (L - 52) = z at *
  have : a + L + 967 - c ≤ 1041 := by omega
  generalize a + L + 967 - c = q at *
  exact Nat.min_eq_left (by omega)
theorem quo_eq (p t : Nat) (hp : 0 < p) (hp1 : p < 1048576) (h0 : 0 < t) (h1 : t < 1048576) : floatBits .quo .f64 (floatOfInt .f64 p) (floatOfInt .f64 t) = some (divR p t) := by
  have hP : ∀ p : Nat, floatOfInt .f64 p = Ieee.double.nearest false p 0 := fun p => by
    unfold floatOfInt FloatKind.nearest FloatKind.encode Ieee.Format.write
    rw [show decide ((p : Int) < 0) = false by simp]; rfl
  have lp : p.log2 < 20 := (Nat.log2_lt (by omega)).2 hp1
  have lt : t.log2 < 20 := (Nat.log2_lt (by omega)).2 h1
  have r1 := read_normal (1023 + p.log2) (mant p) (by omega) (by omega) (mant_lo hp hp1) (mant_hi hp hp1)
  have r2 := read_normal (1023 + t.log2) (mant t) (by omega) (by omega) (mant_lo h0 h1) (mant_hi h0 h1)
  rw [hP, hP, nearest_t hp hp1, nearest_t h0 h1]
  rw [show 1023 + p.log2 - 1 = 1022 + p.log2 by omega] at r1
  rw [show 1023 + t.log2 - 1 = 1022 + t.log2 by omega] at r2
  have a1 := mant_lo hp hp1
  have a2 := mant_hi hp hp1
  have a3 := mant_lo h0 h1
  have a4 := mant_hi h0 h1
  have hne := quoM_ne a1 a3 a4
  have hq := quoM_log a1 a2 a3 a4
  have hLr : 54 ≤ (quoM (mant p) (mant t)).log2 ∧ (quoM (mant p) (mant t)).log2 ≤ 55 := by
    rcases Nat.lt_or_ge (mant p) (mant t) with h | h
    · rw [hq.1 h]; decide
    · rw [hq.2 h]; decide
  have hQ := quotient_eq (mant p) (mant t) (-1074 + (1022 + p.log2 : Nat)) (-1074 + (1022 + t.log2 : Nat)) a1 a2 a3 a4
  have hN := nearest_L (quoM (mant p) (mant t)) _ (-1074 + ((1022 + p.log2 : Nat) : Int) - (-1074 + (1022 + t.log2 : Nat)) - (54 : Nat) - 1) p.log2 t.log2 hne rfl hLr.1 hLr.2 (by omega) lp lt
  have hD : Ieee.double.div ((1022 + p.log2) * 4503599627370496 + mant p) ((1022 + t.log2) * 4503599627370496 + mant t) = some (divR p t) := by
    unfold Ieee.Format.div
    rw [r1, r2]
    have hf : Ieee.double.fractionBits + 2 = 54 := rfl
    rw [hf, hQ, Option.map_some]
    unfold Ieee.Format.write
    dsimp only
    rw [hN]
    rfl
  exact hD
/-! the order of the rungs -/
theorem divR_form (p t : Nat) (hp : 0 < p) (hp1 : p < 1048576) (h0 : 0 < t) (h1 : t < 1048576) : ∃ e c, divR p t = e * 4503599627370496 + c ∧ e + t.log2 = p.log2 + (quoM (mant p) (mant t)).log2 + 967 ∧ 4503599627370496 ≤ c ∧ c ≤ 9007199254740992 ∧ c = Ieee.Toward.even.cut false (quoM (mant p) (mant t)) ((quoM (mant p) (mant t)).log2 - 52) := by
  have lt : t.log2 < 20 := (Nat.log2_lt (by omega)).2 h1
  have a1 := mant_lo hp hp1
  have a2 := mant_hi hp hp1
  have a3 := mant_lo h0 h1
  have a4 := mant_hi h0 h1
  have hne := quoM_ne a1 a3 a4
  have hq := quoM_log a1 a2 a3 a4
  have hLr : 54 ≤ (quoM (mant p) (mant t)).log2 ∧ (quoM (mant p) (mant t)).log2 ≤ 55 := by
    rcases Nat.lt_or_ge (mant p) (mant t) with h | h
    · rw [hq.1 h]; decide
    · rw [hq.2 h]; decide
  obtain ⟨b0, b1⟩ := log_bounds hne rfl
  have hrb := round_bounds (by omega) b0 b1
  rw [← cut_eq _ _ (by omega)] at hrb
  exact ⟨_, _, rfl, by omega, hrb.1, hrb.2, rfl⟩
theorem bit_if (P : Prop) [Decidable P] (a b c : Nat) : (decide P || (a == b && c == 1)).toNat = if P ∨ (a = b ∧ c = 1) then 1 else 0 := by
  by_cases h1 : P <;> by_cases h2 : a = b <;> by_cases h3 : c = 1 <;> simp [h1, h2, h3]
theorem round_same (f r n c s2 s1 : Nat) (hr : r < n) (hc : c = if n ≤ 2 * r then 1 else 0) (hs : s2 = if 2 * r = 0 ∨ 2 * r = n then 0 else 1) (hs1 : s1 = if r = 0 then 0 else 1) :
    (2 * (2 * f + c) + s2) / 8 + (if 8 < 2 * ((2 * (2 * f + c) + s2) % 8) ∨ (8 = 2 * ((2 * (2 * f + c) + s2) % 8) ∧ (2 * (2 * f + c) + s2) / 8 % 2 = 1) then 1 else 0) = (2 * f + s1) / 4 + (if 4 < 2 * ((2 * f + s1) % 4) ∨ (4 = 2 * ((2 * f + s1) % 4) ∧ (2 * f + s1) / 4 % 2 = 1) then 1 else 0) := by
  by_cases h0 : r = 0
  · rw [if_pos h0] at hs1
    rw [if_neg (by omega)] at hc
    rw [if_pos (by omega)] at hs
    subst hs1 hc hs
    split <;> split <;> omega
  · rw [if_neg h0] at hs1
    subst hs1
    by_cases h1 : n ≤ 2 * r
    · rw [if_pos h1] at hc
      by_cases h2 : 2 * r = n
      · rw [if_pos (by omega)] at hs
        subst hc hs
        split <;> split <;> omega
      · rw [if_neg (by omega)] at hs
        subst hc hs
        split <;> split <;> omega
    · rw [if_neg h1] at hc
      rw [if_neg (by omega)] at hs
      subst hc hs
      split <;> split <;> omega
theorem double_div (b n : Nat) (hn : 0 < n) : 2 * b / n = 2 * (b / n) + (if n ≤ 2 * (b % n) then 1 else 0) ∧ (2 * b % n = 0 ↔ 2 * (b % n) = 0 ∨ 2 * (b % n) = n) := by
  have e := Nat.div_add_mod b n
  have hl := Nat.mod_lt b hn
  have e2 : 2 * b = 2 * (b % n) + n * (2 * (b / n)) := by
    rw [show n * (2 * (b / n)) = 2 * (n * (b / n)) by rw [Nat.mul_left_comm]]; omega
  rw [e2, Nat.add_mul_div_left _ _ hn, Nat.add_mul_mod_self_left]
  generalize b % n = r at *
  generalize b / n = q at *
  by_cases h : n ≤ 2 * r
  · rw [if_pos h]
    have h3 : 2 * r / n = 1 := Nat.div_eq_of_lt_le (by omega) (by omega)
    have h4 := Nat.div_add_mod (2 * r) n
    rw [h3] at h4
    exact ⟨by rw [h3]; omega, by omega⟩
  · rw [if_neg h]
    have h3 : 2 * r / n = 0 := Nat.div_eq_of_lt (by omega)
    have h5 : 2 * r % n = 2 * r := Nat.mod_eq_of_lt (by omega)
    exact ⟨by rw [h3]; omega, by rw [h5]; omega⟩
theorem divR_mono {p p' t : Nat} (hp : 0 < p) (hpp : p ≤ p') (hp1 : p' < 1048576) (h0 : 0 < t) (h1 : t < 1048576) : divR p t ≤ divR p' t := by
  have lt : t.log2 < 20 := (Nat.log2_lt (by omega)).2 h1
  have a1 := mant_lo hp (by omega : p < 1048576)
  have a2 := mant_hi hp (by omega : p < 1048576)
  have b1 := mant_lo (by omega : 0 < p') hp1
  have b2 := mant_hi (by omega : 0 < p') hp1
  have a3 := mant_lo h0 h1
  have a4 := mant_hi h0 h1
  obtain ⟨e, c, f1, f2, f3, f4, f5⟩ := divR_form p t hp (by omega) h0 h1
  obtain ⟨e', c', g1, g2, g3, g4, g5⟩ := divR_form p' t (by omega) hp1 h0 h1
  have hq := quoM_log a1 a2 a3 a4
  have hq' := quoM_log b1 b2 a3 a4
  have hl : p.log2 ≤ p'.log2 := by
    rw [Nat.le_log2 (by omega)]
    exact Nat.le_trans (Nat.log2_self_le (by omega)) hpp
  rw [f1, g1]
  rcases Nat.lt_or_eq_of_le hl with hl | hl
  · by_cases he : e < e'
    · have := Nat.mul_le_mul_right 4503599627370496 he
      rw [Nat.succ_mul] at this
      omega
    · -- the logs differ by one and the quotients' by one
      have k1 : ¬ (mant p < mant t) := fun h => by
        have := hq.1 h
        rcases Nat.lt_or_ge (mant p') (mant t) with h2 | h2
        · have := hq'.1 h2; omega
        · have := hq'.2 h2; omega
      have k2 : mant p' < mant t := Nat.lt_of_not_le fun h => by
        have := hq.2 (by omega)
        have := hq'.2 h
        omega
      have x1 := hq.2 (by omega)
      have x2 := hq'.1 k2
      have hee : e = e' := by omega
      have hll : p'.log2 = p.log2 + 1 := by omega
      have hm : mant p ≤ 2 * mant p' := by
        unfold mant
        rw [hll]
        have hlp : p'.log2 < 20 := (Nat.log2_lt (by omega)).2 hp1
        have : 2 ^ (52 - p.log2) = 2 * 2 ^ (52 - (p.log2 + 1)) := by
          rw [← Nat.pow_succ']; congr 1; omega
        rw [this, Nat.mul_left_comm]
        exact Nat.mul_le_mul_left 2 (Nat.mul_le_mul_right _ hpp)
      have hst := sticky_mono (n := mant t) (a := mant p * 18014398509481984) (b := 2 * (mant p' * 18014398509481984)) (by omega)
      rw [x1] at f5
      rw [x2] at g5
      rw [cut_eq _ _ (by omega), bit_if] at f5 g5
      have hr := round_mono (d := 3) hst
      rw [bit_if, bit_if] at hr
      obtain ⟨d1, d2⟩ := double_div (mant p' * 18014398509481984) (mant t) (by omega)
      have hs := round_same (mant p' * 18014398509481984 / mant t) (mant p' * 18014398509481984 % mant t) (mant t) (if mant t ≤ 2 * (mant p' * 18014398509481984 % mant t) then 1 else 0) (2 * (mant p' * 18014398509481984) % mant t != 0).toNat (mant p' * 18014398509481984 % mant t != 0).toNat (Nat.mod_lt _ (by omega)) rfl (by
        by_cases h : 2 * (mant p' * 18014398509481984) % mant t = 0
        · rw [if_pos (d2.1 h), h]; rfl
        · rw [if_neg (fun x => h (d2.2 x)), show (2 * (mant p' * 18014398509481984) % mant t != 0) = true by simpa using h]; rfl) (by
        by_cases h : mant p' * 18014398509481984 % mant t = 0
        · rw [if_pos h, h]; rfl
        · rw [if_neg h, show (mant p' * 18014398509481984 % mant t != 0) = true by simpa using h]; rfl)
      rw [d1] at hr
      rw [show (2 : Nat) ^ 3 = 8 by decide] at hr
      rw [show (2 : Nat) ^ (55 - 52) = 8 by decide] at f5
      rw [show (2 : Nat) ^ (54 - 52) = 4 by decide] at g5
      unfold quoM at f5 g5
      rw [hs, ← g5, ← f5] at hr
      rw [hee]; omega
  · have hm : mant p ≤ mant p' := by
      unfold mant; rw [hl]; exact Nat.mul_le_mul_right _ hpp
    have hst : quoM (mant p) (mant t) ≤ quoM (mant p') (mant t) := sticky_mono (by omega)
    have hll : (quoM (mant p) (mant t)).log2 ≤ (quoM (mant p') (mant t)).log2 := by
      have n1 := quoM_ne a1 a3 a4
      have n2 := quoM_ne b1 a3 a4
      rw [Nat.le_log2 n2]
      exact Nat.le_trans (Nat.log2_self_le n1) hst
    rcases Nat.lt_or_eq_of_le hll with hll | hll
    · have he : e < e' := by omega
      have := Nat.mul_le_mul_right 4503599627370496 he
      rw [Nat.succ_mul] at this
      omega
    · have he : e = e' := by omega
      rw [cut_eq _ _ (by omega)] at f5 g5
      rw [← hll] at g5
      have := round_mono (d := (quoM (mant p) (mant t)).log2 - 52) hst
      rw [← f5, ← g5] at this
      rw [he]; omega
theorem divR_self {t : Nat} (h0 : 0 < t) (h1 : t < 1048576) : divR t t = 4607182418800017408 := by
  have a3 := mant_lo h0 h1
  have a4 := mant_hi h0 h1
  have hM : quoM (mant t) (mant t) = 36028797018963968 := by
    unfold quoM
    rw [Nat.mul_div_right _ (by omega), Nat.mul_mod_right]; rfl
  have hlog : (36028797018963968 : Nat).log2 = 55 := by decide +kernel
  have hc : Ieee.Toward.even.cut false 36028797018963968 (55 - 52) = 4503599627370496 := by decide +kernel
  unfold divR
  rw [hM, hlog, hc]
  omega
theorem cmp_lt {a b : Int} (h : a < b) : compare a b = .lt := by
  show compareOfLessAndEq a b = .lt
  unfold compareOfLessAndEq
  rw [if_pos h]
theorem rung_norm (x e c : Nat) (hx : x = e * 4503599627370496 + c) (c0 : 4503599627370496 ≤ c) (c1 : c ≤ 9007199254740992) (he : e < 1100) : ∃ k m, Ieee.double.read x = .number false m (-1074 + (k : Nat)) ∧ x = k * 4503599627370496 + m ∧ 4503599627370496 ≤ m ∧ m < 9007199254740992 := by
  by_cases h : c = 9007199254740992
  · obtain ⟨b, hb⟩ : ∃ b : Nat, b = 4503599627370496 := ⟨_, rfl⟩
    have hx2 : x = (e + 1) * b + b := by rw [hx, h, hb]; omega
    have r := read_normal (e + 2) b (by omega) (by omega) (by omega) (by omega)
    rw [Nat.add_sub_assoc (by omega), show 2 - 1 = 1 from rfl, ← hb, ← hx2] at r
    refine ⟨e + 1, b, r, ?_, by omega, by omega⟩
    rw [← hb]; exact hx2
  · refine ⟨e, c, ?_, hx, c0, by omega⟩
    have := read_normal (e + 1) c (by omega) (by omega) (by omega) (by omega)
    rw [show e + 1 - 1 = e by omega] at this
    rw [hx, ← this]
/-- a greater rung is no smaller number -/
theorem order_le (x y e c e' c' : Nat) (hx : x = e * 4503599627370496 + c) (hy : y = e' * 4503599627370496 + c') (c0 : 4503599627370496 ≤ c) (c1 : c ≤ 9007199254740992) (d0 : 4503599627370496 ≤ c') (d1 : c' ≤ 9007199254740992) (he : e < 1100) (he' : e' < 1100) (hxy : x ≤ y) : Ieee.double.order x y = some (compare x y) := by
  obtain ⟨k, m, r1, e1, m0, m1⟩ := rung_norm x e c hx c0 c1 he
  obtain ⟨k', m', r2, e2, n0, n1⟩ := rung_norm y e' c' hy d0 d1 he'
  have hk : k ≤ k' := by omega
  have hmin : min (-1074 + (k : Int)) (-1074 + (k' : Int)) = -1074 + (k : Int) := by omega
  unfold Ieee.Format.order
  rw [r1, r2]
  unfold Ieee.Datum.order
  dsimp only
  rw [hmin, show (-1074 + (k : Int) - (-1074 + (k : Int))).toNat = 0 by omega, show (-1074 + (k' : Int) - (-1074 + (k : Int))).toNat = k' - k by omega]
  simp only [Ieee.signed, Bool.false_eq_true, if_false, Nat.shiftLeft_eq, Nat.pow_zero, Nat.mul_one]
  congr 1
  rcases Nat.lt_or_eq_of_le hk with h | h
  · have hpw : 2 ≤ 2 ^ (k' - k) := by
      rw [show k' - k = (k' - k - 1) + 1 by omega, Nat.pow_succ]
      have := Nat.two_pow_pos (k' - k - 1)
      omega
    have hmm : m < m' * 2 ^ (k' - k) := Nat.lt_of_lt_of_le (by omega : m < m' * 2) (Nat.mul_le_mul_left m' hpw)
    have a1 : compare (m : Int) ((m' * 2 ^ (k' - k) : Nat) : Int) = .lt := cmp_lt (by omega)
    have a2 : compare x y = .lt := by rw [Nat.compare_eq_lt]; omega
    rw [a1, a2]
  · subst h
    rw [Nat.sub_self, Nat.pow_zero, Nat.mul_one]
    rcases Nat.lt_or_eq_of_le hxy with h | h
    · have a1 : compare (m : Int) (m' : Int) = .lt := cmp_lt (by omega)
      have a2 : compare x y = .lt := by rw [Nat.compare_eq_lt]; omega
      rw [a1, a2]
    · have : m = m' := by omega
      subst this; subst h
      simp
end Go.Proofs.Ytpkcccphoolapaa
