/- Layer 15: PlanStill, plain: loads that are even leave nothing to move; the skew behind the moves is no greater; the spread of any loads. -/
import Derived.Test.YtpkcccphoolapaaFwQ
import Derived.Test.YtpkcccphoolapaaFlM
import Derived.Test.YtpkcccphoolapaaPlanB
namespace Go.Proofs.Ytpkcccphoolapaa
open Rng Go.RowKit

set_option maxHeartbeats 1000000 in
/-- the spread of loads -/
theorem spread2_any (w : World) (B : Nat) (A : Option Addr) (n c : Nat) (l : List Int) (hl : l.length = n) (hm : n ≤ 9223372036854775807) (hR : Ints B w A l) (h1 : 1 ≤ n) (hq : ∀ x ∈ l, 0 ≤ x ∧ x ≤ 4096) :
    Calls Try.prog 33 #[.slice A n c] w fun e w' => ∃ a b, e = .returned (.int .i64 (b - a)) ∧ (a ∈ l ∧ b ∈ l ∧ ∀ x ∈ l, a ≤ x ∧ x ≤ b) ∧ w' = w := by
  subst hl
  have HR := hid hR
  have HQ := hid hq
  obtain ⟨b, off, x0, hx0, rfl, hb, hc0⟩ := Ints.at' hR 0 (by omega)
  have hm0 : x0 ∈ l := List.mem_of_getElem? hx0.out
  have hl0 : (0 : Int) < (l.length : Int) := by omega
  have HM0 := hid hm0
  clear hR hq hm0
  simp only [Nat.add_zero] at hc0
  go_enter Try.func33, Try.ntmps33
  go_wp2_with fail
  go_loopg [3, 4, 5] l.length (fun gx sa sb si wr => ∃ (i : Nat) (a b : Int), si = .int .i64 i ∧ sa = .int .i64 a ∧ sb = .int .i64 b ∧ i ≤ l.length ∧ l.length - i ≤ gx ∧ Hid (a ∈ l) ∧ Hid (b ∈ l) ∧ Hid (∀ x ∈ l.take i, a ≤ x ∧ x ≤ b) ∧ wr = w)
  case atStart => exact ⟨0, x0, x0, rfl, rfl, rfl, Nat.zero_le _, Nat.le_refl _, HM0, HM0, hid (by simp), rfl⟩
  case round =>
    obtain ⟨i, a, b', rfl, rfl, rfl, hil, hgx, HA, HB, HX, rfl⟩ := hrel
    by_cases hlt : i < l.length
    · have hii : (i : Int) < (l.length : Int) := by omega
      have hi0 : (0 : Int) ≤ (i : Int) := by omega
      have hwi : IntKind.i64.wrap ((i : Int) + 1) = (i : Int) + 1 := wrap_small _ (by omega) (by omega)
      obtain ⟨b2, off2, x, hx, hbe, hb2, hc⟩ := Ints.at' HR.out i hlt
      obtain ⟨rfl, rfl⟩ : b = b2 ∧ off = off2 := by
        injection hbe with e; injection e with e1 e2; exact ⟨e1, e2⟩
      have HXM := hid (List.mem_of_getElem? hx.out)
      have step : ∀ a1 b1 : Int, a1 ≤ a → b' ≤ b1 → a1 ≤ x → x ≤ b1 → Hid (∀ y ∈ l.take (i + 1), a1 ≤ y ∧ y ≤ b1) := fun a1 b1 p1 p2 p3 p4 => hid (fun y hy => by
        rw [List.take_add_one, hx.out, Option.toList_some, List.mem_append, List.mem_singleton] at hy
        rcases hy with hy | rfl
        · have := HX.out y hy; omega
        · exact ⟨p3, p4⟩)
      have HSTEP := hid step
      clear hbe step
      by_cases c1 : x < a
      · have d1 : decide (x < a) = true := by simpa using c1
        by_cases c2 : b' < x
        · have d2 : decide (x > b') = true := by simpa using c2
          have d2' : decide (b' < x) = true := by simpa using c2
          have HN := HSTEP.out x x (by omega) (by omega) (by omega) (by omega)
          clear c1 c2
          go_wp2_with fail
          go_roundg (l.length - (i + 1))
          case measure => omega
          case rel => exact ⟨i + 1, x, x, by go_num, rfl, rfl, hlt, Nat.le_refl _, HXM, HXM, HN, rfl⟩
        · have d2 : decide (x > b') = false := by simpa using c2
          have d2' : decide (b' < x) = false := by simpa using c2
          have HN := HSTEP.out x b' (by omega) (by omega) (by omega) (by omega)
          clear c1 c2
          go_wp2_with fail
          go_roundg (l.length - (i + 1))
          case measure => omega
          case rel => exact ⟨i + 1, x, b', by go_num, rfl, rfl, hlt, Nat.le_refl _, HXM, HB, HN, rfl⟩
      · have d1 : decide (x < a) = false := by simpa using c1
        by_cases c2 : b' < x
        · have d2 : decide (x > b') = true := by simpa using c2
          have d2' : decide (b' < x) = true := by simpa using c2
          have HN := HSTEP.out a x (by omega) (by omega) (by omega) (by omega)
          clear c1 c2
          go_wp2_with fail
          go_roundg (l.length - (i + 1))
          case measure => omega
          case rel => exact ⟨i + 1, a, x, by go_num, rfl, rfl, hlt, Nat.le_refl _, HA, HXM, HN, rfl⟩
        · have d2 : decide (x > b') = false := by simpa using c2
          have d2' : decide (b' < x) = false := by simpa using c2
          have HN := HSTEP.out a b' (by omega) (by omega) (by omega) (by omega)
          clear c1 c2
          go_wp2_with fail
          go_roundg (l.length - (i + 1))
          case measure => omega
          case rel => exact ⟨i + 1, a, b', by go_num, rfl, rfl, hlt, Nat.le_refl _, HA, HB, HN, rfl⟩
    · have hii : ¬ (i : Int) < (l.length : Int) := by omega
      have HE : Hid (∀ x ∈ l, a ≤ x ∧ x ≤ b') := hid (by have := HX.out; rwa [List.take_of_length_le (by omega)] at this)
      have hwd : IntKind.i64.wrap (b' - a) = b' - a := by
        have := HQ.out a HA.out
        have := HQ.out b' HB.out
        exact IntWalk.i64_in _ ⟨by omega, by omega⟩
      go_wp2_with fail
      refine bodyPost_ret (results_tmp rfl _ _ _) rfl ?_
      exact ⟨a, b', by first | rfl | (rw [hwd]; rfl), ⟨HA.out, HB.out, HE.out⟩, rfl⟩

/-! ### even loads have no surplus -/
theorem up_two {q : Int} {l : List Int} (h : ∀ x ∈ l, x = q ∨ x = q + 1) : l.sum = q * l.length + (l.countP fun x => decide (x = q + 1)) ∧ upL q l = (l.countP fun x => decide (x = q + 1)) ∧ upC q l = (l.countP fun x => decide (x = q + 1)) := by
  induction l with
  | nil => simp [upL, upC]
  | cons x r ih =>
    obtain ⟨a1, a2, a3⟩ := ih fun y hy => h y (List.mem_cons_of_mem _ hy)
    have hx := h x (List.mem_cons_self ..)
    have eL : upL q (x :: r) = (if q < x then x - q else 0) + upL q r := by unfold upL; rw [List.map_cons, List.sum_cons]
    have eC : upC q (x :: r) = upC q r + if q < x then 1 else 0 := by unfold upC; rw [List.countP_cons]; simp
    rw [eL, eC, a2, a3, List.sum_cons, a1, List.countP_cons, List.length_cons]
    have e : q * ((r.length + 1 : Nat) : Int) = q * (r.length : Int) + q := by rw [Int.natCast_add, Int.mul_add]; simp
    rcases hx with rfl | rfl
    · have d1 : (if decide (x = x + 1) = true then 1 else 0) = 0 := by rw [if_neg (by simp; omega)]
      rw [d1, if_neg (by omega), if_neg (by omega), e]
      omega
    · have d1 : (if decide (q + 1 = q + 1) = true then 1 else 0) = 1 := by rw [if_pos (by simp)]
      rw [d1, if_pos (by omega), if_pos (by omega), e]
      omega
theorem even_zero {l : List Int} (h1 : 1 ≤ l.length) (h16 : l.length ≤ 16) (hl : ∀ x ∈ l, 0 ≤ x ∧ x ≤ 4096) {q : Int} (h : ∀ x ∈ l, x = q ∨ x = q + 1) : overSum l.length (fun h => l[h]?.getD 0 - targetL l h) = 0 := by
  obtain ⟨x0, hx0⟩ : ∃ x, x ∈ l := by
    cases l with
    | nil => simp at h1
    | cons x r => exact ⟨x, List.mem_cons_self ..⟩
  have key : ∀ q : Int, 0 ≤ q → (∀ x ∈ l, x = q ∨ x = q + 1) → (l.countP fun x => decide (x = q + 1)) < l.length → overSum l.length (fun h => l[h]?.getD 0 - targetL l h) = 0 := by
    intro q hq h hc
    obtain ⟨s1, s2, s3⟩ := up_two h
    have e := over_few h1 h16 hl
    have hd : l.sum / (l.length : Int) = q := by
      rw [s1, Int.mul_comm, Int.mul_add_ediv_left _ _ (by omega), Int.ediv_eq_zero_of_lt (by omega) (by omega)]; omega
    have hm : l.sum % (l.length : Int) = (l.countP fun x => decide (x = q + 1)) := by
      rw [s1, Int.mul_comm, Int.mul_add_emod_self_left, Int.emod_eq_of_lt (by omega) (by omega)]
    rw [hd, hm, Int.toNat_natCast, (fewL_closed hq hl h16 _).1 (by omega), s2, s3, Nat.min_self] at e
    omega
  by_cases hc : (l.countP fun x => decide (x = q + 1)) < l.length
  · by_cases hq : 0 ≤ q
    · exact key q hq h hc
    · -- all are 0 = q + 1
      have hall : ∀ x ∈ l, x = q + 1 := fun x hx => by have := h x hx; have := hl x hx; omega
      have : (l.countP fun x => decide (x = q + 1)) = l.length := List.countP_eq_length.2 fun x hx => by simpa using hall x hx
      omega
  · have hall : ∀ x ∈ l, x = q + 1 := fun x hx => by
      have e : (l.countP fun x => decide (x = q + 1)) = l.length := by have := List.countP_le_length (l := l) (p := fun x => decide (x = q + 1)); omega
      simpa using List.countP_eq_length.1 e x hx
    have h0 : 0 ≤ q + 1 := by have := hl x0 hx0; have := hall x0 hx0; omega
    refine key (q + 1) h0 (fun x hx => .inl (hall x hx)) ?_
    have : (l.countP fun x => decide (x = q + 1 + 1)) = 0 := List.countP_eq_zero.2 fun x hx => by have := hall x hx; simp; omega
    omega
theorem over_counts {H : Nat} {l : List Seg} {ks : List Int} : overSum H (overL ks (wantL H l ks) l) = overSum (countsOf H l ks).length (fun h => (countsOf H l ks)[h]?.getD 0 - targetL (countsOf H l ks) h) := by
  rw [countsOf_len]
  unfold overSum
  congr 1
  refine List.map_congr_left fun h hh => ?_
  have hhH : h < H := List.mem_range.1 hh
  show (overL ks (wantL H l ks) l h).toNat = ((countsOf H l ks)[h]?.getD 0 - targetL (countsOf H l ks) h).toNat
  rw [countsOf_get hhH]
  rfl
/-- where the loads are even there is no move -/
theorem still_nil {H : Nat} {most : Int} {l : List Seg} {ks : List Int} (h1 : 1 ≤ H) (h2 : H ≤ 16) (hm : 1 ≤ most) (hI : Inc ks) (hks : ∀ k ∈ ks, 0 ≤ k ∧ k ≤ maxK) (hkn : ks.length ≤ 4096) (hl : TabOk H l) {q : Int} (hq : ∀ x ∈ countsOf H l ks, x = q ∨ x = q + 1) (f : Nat) :
    (movesL H most ks (wantL H l ks) f l).1 = [] := by
  have hz := even_zero (l := countsOf H l ks) (by rw [countsOf_len]; exact h1) (by rw [countsOf_len]; exact h2) (counts_le hkn) hq
  rw [← over_counts] at hz
  cases hms : (movesL H most ks (wantL H l ks) f l).1 with
  | nil => rfl
  | cons m r =>
    obtain ⟨T, T', m2, s, g, t, hst, hs⟩ := st_all2 h2 hm hI hks f l hl 0 (by rw [hms]; simp)
    have hpl := hst.pl
    rw [List.take_zero] at hpl
    obtain rfl : l = T := by have : playL l [] = (0, l) := rfl; rw [this] at hpl; injection hpl
    have := overSum_step hs
    have := hs.cut.one
    omega
theorem spread_two {l : List Int} {a b q : Int} (hq : ∀ x ∈ l, x = q ∨ x = q + 1) (ha : a ∈ l) (hb : b ∈ l) : b - a ≤ 1 := by
  have := hq a ha
  have := hq b hb
  omega

/-! ### the skews -/
theorem topLoad_facts (l : List Int) (_ : ∀ x ∈ l, 0 ≤ x) : (∀ x ∈ l, x ≤ topLoad l) ∧ (topLoad l = 0 ∨ topLoad l ∈ l) := by
  have key : ∀ (l : List Int) (s : Int), s ≤ l.foldl (fun a x => if x > a then x else a) s ∧ (∀ x ∈ l, x ≤ l.foldl (fun a x => if x > a then x else a) s) ∧ (l.foldl (fun a x => if x > a then x else a) s = s ∨ l.foldl (fun a x => if x > a then x else a) s ∈ l) := by
    intro l
    induction l with
    | nil => intro s; simp
    | cons y r ih =>
      intro s
      obtain ⟨a1, a2, a3⟩ := ih (if y > s then y else s)
      rw [List.foldl_cons]
      generalize r.foldl (fun a x => if x > a then x else a) (if y > s then y else s) = z at *
      refine ⟨by split at a1 <;> omega, fun x hx => ?_, ?_⟩
      · rcases List.mem_cons.1 hx with rfl | hx
        · split at a1 <;> omega
        · exact a2 x hx
      · rcases a3 with a3 | a3
        · by_cases c : y > s
          · rw [if_pos c] at a3; exact .inr (by rw [a3]; exact List.mem_cons_self ..)
          · rw [if_neg c] at a3; exact .inl a3
        · exact .inr (List.mem_cons_of_mem _ a3)
  obtain ⟨_, a2, a3⟩ := key l 0
  exact ⟨a2, a3⟩
theorem sum_le_top (l : List Int) {t : Int} (h : ∀ x ∈ l, x ≤ t) : l.sum ≤ t * l.length := by
  induction l with
  | nil => simp
  | cons x r ih =>
    have a1 := ih fun y hy => h y (List.mem_cons_of_mem _ hy)
    have a2 := h x (List.mem_cons_self ..)
    rw [List.sum_cons, List.length_cons, Int.natCast_add, Int.mul_add]
    simp; omega
theorem sum_ge_two (l : List Int) {q : Int} (h : ∀ x ∈ l, x = q ∨ x = q + 1) : q * l.length ≤ l.sum ∧ (q + 1 ∈ l → q * l.length < l.sum) := by
  obtain ⟨s1, _, _⟩ := up_two h
  refine ⟨by omega, fun hm => ?_⟩
  have : 0 < l.countP fun x => decide (x = q + 1) := List.countP_pos_iff.2 ⟨_, hm, by simp⟩
  omega
/-- a two-valued list of the same sum has no greater top -/
theorem top_le {l l' : List Int} (hlen : l'.length = l.length) (h1 : 1 ≤ l.length) (hs : l'.sum = l.sum) (h0 : ∀ x ∈ l, 0 ≤ x) (h0' : ∀ x ∈ l', 0 ≤ x) {q : Int} (hq : ∀ x ∈ l', x = q ∨ x = q + 1) : topLoad l' ≤ topLoad l := by
  obtain ⟨a1, a2⟩ := topLoad_facts l h0
  obtain ⟨b1, b2⟩ := topLoad_facts l' h0'
  have ht : 0 ≤ topLoad l := by
    cases l with
    | nil => simp at h1
    | cons x r => have := a1 x (List.mem_cons_self ..); have := h0 x (List.mem_cons_self ..); omega
  have hsum := sum_le_top l a1
  obtain ⟨c1, c2⟩ := sum_ge_two l' hq
  rcases b2 with b2 | b2
  · omega
  · rw [hs, hlen] at c1 c2
    have hn : (0 : Int) < l.length := by omega
    rcases hq _ b2 with e | e
    · rw [e]
      have := Int.le_trans c1 hsum
      exact Int.le_of_mul_le_mul_right this hn
    · rw [e]
      rw [e] at b2
      have := Int.lt_of_lt_of_le (c2 b2) hsum
      have := Int.lt_of_mul_lt_mul_right this (by omega)
      omega
structure SkewOk (l l' : List Int) (x y : Nat) : Prop where
  x1 : Ieee.double.order x 4607182418800017408 = some .gt ∨ Ieee.double.order x 4607182418800017408 = some .eq
  y1 : Ieee.double.order y 4607182418800017408 = some .gt ∨ Ieee.double.order y 4607182418800017408 = some .eq
  yx : Ieee.double.order y x = some .lt ∨ Ieee.double.order y x = some .eq
theorem order_swap (x y e c e' c' : Nat) (hx : x = e * 4503599627370496 + c) (hy : y = e' * 4503599627370496 + c') (c0 : 4503599627370496 ≤ c) (c1 : c ≤ 9007199254740992) (d0 : 4503599627370496 ≤ c') (d1 : c' ≤ 9007199254740992) (he : e < 1100) (he' : e' < 1100) (hxy : y ≤ x) : Ieee.double.order x y = some .gt ∨ Ieee.double.order x y = some .eq := by
  rcases Nat.lt_or_eq_of_le hxy with h | h
  · left
    obtain ⟨k, m, r1, e1, m0, m1⟩ := rung_norm x e c hx c0 c1 he
    obtain ⟨k', m', r2, e2, n0, n1⟩ := rung_norm y e' c' hy d0 d1 he'
    have hk : k' ≤ k := by omega
    have hmin : min (-1074 + (k : Int)) (-1074 + (k' : Int)) = -1074 + (k' : Int) := by omega
    unfold Ieee.Format.order
    rw [r1, r2]
    unfold Ieee.Datum.order
    dsimp only
    rw [hmin, show (-1074 + (k' : Int) - (-1074 + (k' : Int))).toNat = 0 by omega, show (-1074 + (k : Int) - (-1074 + (k' : Int))).toNat = k - k' by omega]
    simp only [Ieee.signed, Bool.false_eq_true, if_false, Nat.shiftLeft_eq, Nat.pow_zero, Nat.mul_one]
    congr 1
    have hgt : ∀ a b : Int, b < a → compare a b = .gt := fun a b h => by
      show compareOfLessAndEq a b = .gt
      unfold compareOfLessAndEq
      rw [if_neg (by omega), if_neg (by omega)]
    refine hgt _ _ ?_
    rcases Nat.lt_or_eq_of_le hk with h2 | h2
    · have hpw : 2 ≤ 2 ^ (k - k') := by
        rw [show k - k' = (k - k' - 1) + 1 by omega, Nat.pow_succ]
        have := Nat.two_pow_pos (k - k' - 1)
        omega
      have hmm : m' < m * 2 ^ (k - k') := Nat.lt_of_lt_of_le (by omega : m' < m * 2) (Nat.mul_le_mul_left m hpw)
      exact Int.ofNat_lt.2 hmm
    · subst h2
      rw [Nat.sub_self, Nat.pow_zero, Nat.mul_one]
      omega
  · right
    rw [h]
    have := order_le x x e c e c hx hx c0 c1 c0 c1 he he (Nat.le_refl _)
    rw [this]; simp
theorem order_one (x e c : Nat) (hx : x = e * 4503599627370496 + c) (c0 : 4503599627370496 ≤ c) (c1 : c ≤ 9007199254740992) (he : e < 1100) (h : 4607182418800017408 ≤ x) : Ieee.double.order x 4607182418800017408 = some .gt ∨ Ieee.double.order x 4607182418800017408 = some .eq := by
  obtain ⟨y, hy⟩ : ∃ y : Nat, y = 4607182418800017408 := ⟨_, rfl⟩
  obtain ⟨b, hb⟩ : ∃ b : Nat, b = 4503599627370496 := ⟨_, rfl⟩
  have hyb : y = 1022 * 4503599627370496 + b := by omega
  rw [← hy] at h ⊢
  exact order_swap x y e c 1022 b hx hyb c0 c1 (by omega) (by omega) he (by omega) h
set_option maxHeartbeats 1000000 in
theorem skew_ok {l l' : List Int} (hg : goodLoads l = true) (hg' : goodLoads l' = true) (hlen : l'.length = l.length) (hs : l'.sum = l.sum) (h0 : ∀ x ∈ l, 0 ≤ x ∧ x ≤ 4096) (h0' : ∀ x ∈ l', 0 ≤ x ∧ x ≤ 4096) {q : Int} (hq : ∀ x ∈ l', x = q ∨ x = q + 1) : SkewOk l l' (skewBits l) (skewBits l') := by
  obtain ⟨g1, g2, _⟩ := goodLoads_iff hg
  have h11 : Ieee.double.order 4607182418800017408 4607182418800017408 = some .eq := by decide +kernel
  by_cases hz : l.sum = 0
  · have e1 : skewBits l = 4607182418800017408 := by unfold skewBits; rw [if_pos hg, if_pos hz]
    have e2 : skewBits l' = 4607182418800017408 := by unfold skewBits; rw [if_pos hg', if_pos (hs.trans hz)]
    rw [e1, e2]
    exact ⟨.inr h11, .inr h11, .inr h11⟩
  · have hsum := sum_le_top l (topLoad_facts l fun x hx => (h0 x hx).1).1
    have hsum' := sum_le_top l' (topLoad_facts l' fun x hx => (h0' x hx).1).1
    have hub : ∀ l : List Int, (∀ x ∈ l, 0 ≤ x ∧ x ≤ 4096) → 0 ≤ l.sum ∧ topLoad l ≤ 4096 ∧ 0 ≤ topLoad l := fun l h => by
      refine ⟨?_, ?_, ?_⟩
      · have := upL_range (q := 0) (by omega) h
        have e : upL 0 l = l.sum := by
          unfold upL
          congr 1
          conv => rhs; rw [← List.map_id l]
          refine List.map_congr_left fun x hx => ?_
          have := (h x hx).1
          simp only [id]; split <;> omega
        omega
      · rcases (topLoad_facts l fun x hx => (h x hx).1).2 with e | e
        · omega
        · exact (h _ e).2
      · rcases (topLoad_facts l fun x hx => (h x hx).1).2 with e | e
        · omega
        · exact (h _ e).1
    obtain ⟨u1, u2, u3⟩ := hub l h0
    obtain ⟨v1, v2, v3⟩ := hub l' h0'
    have htop := top_le hlen g1 hs (fun x hx => (h0 x hx).1) (fun x hx => (h0' x hx).1) hq
    obtain ⟨T, hT⟩ : ∃ T : Nat, topLoad l = (T : Int) := ⟨(topLoad l).toNat, by omega⟩
    obtain ⟨T', hT'⟩ : ∃ T : Nat, topLoad l' = (T : Int) := ⟨(topLoad l').toNat, by omega⟩
    obtain ⟨S, hS⟩ : ∃ S : Nat, l.sum = (S : Int) := ⟨l.sum.toNat, by omega⟩
    rw [hs] at hsum'
    rw [hT, hS, ← Int.natCast_mul] at hsum
    rw [hT', hS, hlen, ← Int.natCast_mul] at hsum'
    rw [hT, hT'] at htop
    have hS0 : 0 < S := by omega
    have hTT : T' * l.length ≤ T * l.length := Nat.mul_le_mul_right _ (by omega)
    have hb1 : T * l.length ≤ 4096 * 16 := Nat.mul_le_mul (by omega) g2
    have hSb : S ≤ 65536 := by omega
    have e1 : skewBits l = divR (T * l.length) S := by
      unfold skewBits
      rw [if_pos hg, if_neg hz, hT, hS, ← Int.natCast_mul, quo_eq _ _ (by omega) (by omega) hS0 (by omega), Option.getD_some]
    have e2 : skewBits l' = divR (T' * l.length) S := by
      unfold skewBits
      rw [if_pos hg', if_neg (by rw [hs]; exact hz), hT', hs, hS, hlen, ← Int.natCast_mul, quo_eq _ _ (by omega) (by omega) hS0 (by omega), Option.getD_some]
    have m1 := divR_mono (p := S) (p' := T * l.length) (t := S) hS0 (by omega) (by omega) hS0 (by omega)
    have m2 := divR_mono (p := S) (p' := T' * l.length) (t := S) hS0 (by omega) (by omega) hS0 (by omega)
    have m3 := divR_mono (p := T' * l.length) (p' := T * l.length) (t := S) (by omega) hTT (by omega) hS0 (by omega)
    rw [divR_self hS0 (by omega)] at m1 m2
    obtain ⟨e, c, f1, f2, f3, f4, _⟩ := divR_form (T * l.length) S (by omega) (by omega) hS0 (by omega)
    obtain ⟨e', c', k1, k2, k3, k4, _⟩ := divR_form (T' * l.length) S (by omega) (by omega) hS0 (by omega)
    have lg : ∀ p : Nat, 0 < p → p < 1048576 → p.log2 < 20 := fun p h h' => (Nat.log2_lt (by omega)).2 h'
    have lq : ∀ p : Nat, 0 < p → p < 1048576 → (quoM (mant p) (mant S)).log2 ≤ 55 := fun p h h' => by
      have hqq := quoM_log (mant_lo h h') (mant_hi h h') (mant_lo hS0 (by omega)) (mant_hi hS0 (by omega))
      rcases Nat.lt_or_ge (mant p) (mant S) with hh | hh
      · rw [hqq.1 hh]; decide
      · rw [hqq.2 hh]; decide
    have he : e < 1100 := by have := lg (T * l.length) (by omega) (by omega); have := lq (T * l.length) (by omega) (by omega); omega
    have he' : e' < 1100 := by have := lg (T' * l.length) (by omega) (by omega); have := lq (T' * l.length) (by omega) (by omega); omega
    rw [e1, e2]
    refine ⟨order_one _ e c f1 f3 f4 he m1, order_one _ e' c' k1 k3 k4 he' m2, ?_⟩
    have := order_le _ _ e' c' e c k1 f1 k3 k4 f3 f4 he' he m3
    rw [this]
    rcases Nat.lt_or_eq_of_le m3 with h | h
    · left; congr 1; rw [Nat.compare_eq_lt]; exact h
    · right; rw [h]; simp
end Go.Proofs.Ytpkcccphoolapaa
