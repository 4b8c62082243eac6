/- Floats: the quotient of two whole numbers, the lower one above 0 and below 2^40, is a number (no NaN), and equal to itself. -/
import Derived.WalkKit
import Derived.Laws.FloatArith
import Derived.WalkLawsBesides
namespace Go.Proofs.Ytpkcccphoolapaa

theorem compare_self (x : Int) : compare x x = .eq := by simp
theorem compare_selfN (x : Nat) : compare x x = .eq := by simp

/-- A word at or below infinity's rung is no NaN: it is equal to itself. -/
theorem order_self_le (r : Nat) (h : r ≤ Ieee.double.infRung) : Ieee.double.order r r = some .eq := by
  have hi : Ieee.double.infRung = 9218868437227405312 := by decide +kernel
  have hs : Ieee.double.signWeight = 9223372036854775808 := by decide +kernel
  unfold Ieee.Format.order Ieee.Format.read
  have hm : r % Ieee.double.signWeight = r := Nat.mod_eq_of_lt (by omega)
  simp only [hm]
  split
  · simp [Ieee.Datum.order]
  split
  · simp [Ieee.Datum.order]
  split
  · simp [Ieee.Datum.order]
  · omega

theorem nearest_le (mag : Nat) (place : Int) : Ieee.double.nearest false mag place ≤ Ieee.double.infRung := by
  unfold Ieee.Format.nearest
  generalize Ieee.double.infRung = R
  split
  · simp only [Ieee.Format.word, Bool.false_eq_true, if_false, Nat.zero_le]
  · simp only [Ieee.Format.word, Bool.false_eq_true, if_false]
    generalize Ieee.double.binade = b
    exact Nat.min_le_right _ _

theorem read_le (r : Nat) (h : r ≤ Ieee.double.infRung) : (∃ m p, Ieee.double.read r = .number false m p ∧ (0 < r → 0 < m)) ∨ (r = Ieee.double.infRung ∧ Ieee.double.read r = .infinity false) := by
  have hi : Ieee.double.infRung = 9218868437227405312 := by decide +kernel
  have hs : Ieee.double.signWeight = 9223372036854775808 := by decide +kernel
  have hb : Ieee.double.binade = 4503599627370496 := by decide +kernel
  have hm : r % Ieee.double.signWeight = r := Nat.mod_eq_of_lt (by omega)
  have hd : (r / Ieee.double.signWeight % 2 == 1) = false := by
    rw [Nat.div_eq_of_lt (by omega)]; rfl
  unfold Ieee.Format.read
  simp only [hm, hd]
  split
  · exact .inl ⟨_, _, rfl, fun h => h⟩
  split
  · exact .inl ⟨_, _, rfl, fun _ => by omega⟩
  split
  · exact .inr ⟨by assumption, rfl⟩
  · omega

theorem nearest_small_lt (z l : Nat) (hk : z < 9007199254740992) (hl : l < 40) :
    0 < min ((1022 + l) * 4503599627370496 + z) 9218868437227405312 ∧ min ((1022 + l) * 4503599627370496 + z) 9218868437227405312 < 9218868437227405312 := by omega

theorem shifted_lt (t : Nat) (hlog : t.log2 < 40) : t * 2 ^ (52 - t.log2) < 9007199254740992 := by
  have ht : t < 2 ^ (t.log2 + 1) := Nat.lt_log2_self
  have h := Nat.mul_lt_mul_of_pos_right ht (Nat.two_pow_pos (52 - t.log2))
  rw [← Nat.pow_add, show t.log2 + 1 + (52 - t.log2) = 53 by omega] at h
  exact h

theorem cut_zero (z : Nat) : Ieee.Toward.even.cut false z 0 = z := by
  unfold Ieee.Toward.cut
  simp [Nat.mod_one]

theorem nearest_small (t : Nat) (h0 : 0 < t) (h1 : t < 1099511627776) : 0 < Ieee.double.nearest false t 0 ∧ Ieee.double.nearest false t 0 < Ieee.double.infRung := by
  have hi : Ieee.double.infRung = 9218868437227405312 := by decide +kernel
  have hb : Ieee.double.binade = 4503599627370496 := by decide +kernel
  have hl : Ieee.double.leastPlace = -1074 := by decide +kernel
  have hf : Ieee.double.fractionBits = 52 := rfl
  have hlog : t.log2 < 40 := (Nat.log2_lt (by omega)).2 h1
  have hlast : max ((0 : Int) + t.log2 - (52 : Nat)) (-1074) = (t.log2 : Int) - 52 := by omega
  have hz := shifted_lt t hlog
  unfold Ieee.Format.nearest
  rw [if_neg (by omega)]
  simp only [hf, hl, hlast, hb, hi]
  rw [show ((0 : Int) - ((t.log2 : Int) - 52)).toNat = 52 - t.log2 by omega, show ((t.log2 : Int) - 52 - 0).toNat = 0 by omega,
    show ((t.log2 : Int) - 52 - -1074).toNat = 1022 + t.log2 by omega, cut_zero, Nat.shiftLeft_eq]
  generalize t * 2 ^ (52 - t.log2) = z at hz
  simp only [Ieee.Format.word, Bool.false_eq_true, if_false]
  exact nearest_small_lt z _ hz hlog

theorem quo_some (p t : Int) (hp : 0 ≤ p) (h0 : 0 < t) (h1 : t < 1099511627776) :
    ∃ r, floatBits .quo .f64 (floatOfInt .f64 p) (floatOfInt .f64 t) = some r ∧ (Ieee.double.order r r == some .eq) = true := by
  have hP : floatOfInt .f64 p = Ieee.double.nearest false p.natAbs 0 := by
    unfold floatOfInt FloatKind.nearest FloatKind.encode Ieee.Format.write
    rw [show decide (p < 0) = false by simp; omega]; rfl
  have hT : floatOfInt .f64 t = Ieee.double.nearest false t.natAbs 0 := by
    unfold floatOfInt FloatKind.nearest FloatKind.encode Ieee.Format.write
    rw [show decide (t < 0) = false by simp; omega]; rfl
  rw [hP, hT]
  have hs := nearest_small t.natAbs (by omega) (by omega)
  have hle := nearest_le p.natAbs 0
  have hlt := nearest_le t.natAbs 0
  generalize Ieee.double.nearest false t.natAbs 0 = y at hs hlt ⊢
  generalize Ieee.double.nearest false p.natAbs 0 = x at hle ⊢
  rcases read_le y hlt with ⟨m, q, hy, hm⟩ | ⟨hy, _⟩
  · have hm0 := hm hs.1
    rcases read_le x hle with ⟨n, s, hx, _⟩ | ⟨_, hx⟩
    · refine ⟨Ieee.double.nearest false _ _, by simp only [floatBits, FloatKind.format, Ieee.Format.div, hx, hy, Ieee.Datum.quotient]; rw [if_neg (by omega)]; rfl, ?_⟩
      rw [order_self_le _ (nearest_le _ _)]; rfl
    · refine ⟨Ieee.double.infRung, by simp only [floatBits, FloatKind.format, Ieee.Format.div, hx, hy, Ieee.Datum.quotient]; rfl, ?_⟩
      rw [order_self_le _ (Nat.le_refl _)]; rfl
  · omega
end Go.Proofs.Ytpkcccphoolapaa
