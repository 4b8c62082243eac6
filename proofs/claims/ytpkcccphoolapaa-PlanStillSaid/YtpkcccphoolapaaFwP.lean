/- Layer 15: PlanFewest, plain: the search's number in one line; what the moves add up to; no key goes twice. -/
import Derived.Test.YtpkcccphoolapaaStP
namespace Go.Proofs.Ytpkcccphoolapaa
open Rng

/-! ### the search -/
def fewL (q : Int) : List Int → Nat → Int
  | [], m => if m = 0 then 0 else 1099511627776
  | x :: r, m => if m = 0 then fewL q r m + (if q < x then x - q else 0) else
    if fewL q r (m - 1) + (if q + 1 < x then x - q - 1 else 0) < fewL q r m + (if q < x then x - q else 0) then fewL q r (m - 1) + (if q + 1 < x then x - q - 1 else 0) else fewL q r m + (if q < x then x - q else 0)
def upL (q : Int) (l : List Int) : Int := (l.map fun x => if q < x then x - q else 0).sum
def upC (q : Int) (l : List Int) : Nat := l.countP fun x => decide (q < x)
theorem upL_range {q : Int} (hq : 0 ≤ q) {l : List Int} (hl : ∀ x ∈ l, 0 ≤ x ∧ x ≤ 4096) : 0 ≤ upL q l ∧ upL q l ≤ 4096 * l.length := by
  unfold upL
  induction l with
  | nil => simp
  | cons x r ih =>
    obtain ⟨h1, h2⟩ := ih fun y hy => hl y (List.mem_cons_of_mem _ hy)
    have := hl x (List.mem_cons_self ..)
    rw [List.map_cons, List.sum_cons, List.length_cons]
    split <;> omega
theorem upC_le (q : Int) (l : List Int) : upC q l ≤ l.length := List.countP_le_length
theorem fewL_range {q : Int} (hq : 0 ≤ q) {l : List Int} (hl : ∀ x ∈ l, 0 ≤ x ∧ x ≤ 4096) (m : Nat) : 0 ≤ fewL q l m ∧ fewL q l m ≤ 1099511627776 + 4096 * l.length := by
  induction l generalizing m with
  | nil => unfold fewL; split <;> simp
  | cons x r ih =>
    have a1 := ih (fun y hy => hl y (List.mem_cons_of_mem _ hy)) m
    have a2 := ih (fun y hy => hl y (List.mem_cons_of_mem _ hy)) (m - 1)
    have := hl x (List.mem_cons_self ..)
    unfold fewL
    rw [List.length_cons]
    split
    · split <;> omega
    · split
      · split <;> omega
      · split <;> omega
theorem fewL_closed {q : Int} (hq : 0 ≤ q) {l : List Int} (hl : ∀ x ∈ l, 0 ≤ x ∧ x ≤ 4096) (h16 : l.length ≤ 16) (m : Nat) : (m ≤ l.length → fewL q l m = upL q l - (min m (upC q l) : Nat)) ∧ (l.length < m → 1099511627776 ≤ fewL q l m) := by
  induction l generalizing m with
  | nil =>
    unfold fewL
    refine ⟨fun h => ?_, fun h => ?_⟩
    · have : m = 0 := by simpa using h
      subst this; simp [upL, upC]
    · rw [if_neg (by simp at h; omega)]; exact Int.le_refl _
  | cons x r ih =>
    have hr : ∀ y ∈ r, 0 ≤ y ∧ y ≤ 4096 := fun y hy => hl y (List.mem_cons_of_mem _ hy)
    have hx := hl x (List.mem_cons_self ..)
    rw [List.length_cons] at h16
    obtain ⟨a1, a2⟩ := ih hr (by omega) m
    obtain ⟨b1, b2⟩ := ih hr (by omega) (m - 1)
    have p := upL_range hq hr
    have c := upC_le q r
    have eL : upL q (x :: r) = (if q < x then x - q else 0) + upL q r := by unfold upL; rw [List.map_cons, List.sum_cons]
    have eC : upC q (x :: r) = upC q r + if q < x then 1 else 0 := by unfold upC; rw [List.countP_cons]; simp
    unfold fewL
    rw [List.length_cons, eL, eC]
    by_cases hm : m = 0
    · subst hm
      rw [if_pos rfl, a1 (Nat.zero_le _)]
      refine ⟨fun _ => by simp; omega, fun h => by omega⟩
    · rw [if_neg hm]
      by_cases hqx : q < x
      · rw [if_pos hqx, if_pos hqx]
        have e1 : (if q + 1 < x then x - q - 1 else 0) = x - q - 1 := by split <;> omega
        rw [e1]
        refine ⟨fun h => ?_, fun h => ?_⟩
        · have b := b1 (by omega)
          rw [b]
          by_cases h2 : m ≤ r.length
          · have a := a1 h2
            rw [a]
            split <;> omega
          · have a := a2 (by omega)
            rw [if_pos (by omega)]; omega
        · have b := b2 (by omega)
          have a := a2 (by omega)
          split <;> omega
      · rw [if_neg hqx, if_neg hqx]
        have e1 : (if q + 1 < x then x - q - 1 else 0) = 0 := by split <;> omega
        rw [e1]
        refine ⟨fun h => ?_, fun h => ?_⟩
        · have b := b1 (by omega)
          rw [b]
          by_cases h2 : m ≤ r.length
          · have a := a1 h2
            rw [a]
            split <;> omega
          · have a := a2 (by omega)
            rw [if_pos (by omega)]; omega
        · have b := b2 (by omega)
          have a := a2 (by omega)
          split <;> omega

/-! ### what all hosts have too much -/
theorem top_count {l : List Int} (h1 : 1 ≤ l.length) {q : Int} {R : Nat} (hR : R ≤ l.length) : (List.range l.length).countP (fun h => decide (rankH l h < R) && decide (q < l[h]?.getD 0)) = min R (upC q l) := by
  have hI : Inhabited (Fin l.length) := ⟨⟨0, by omega⟩⟩
  have hp := orderH_perm (n := l.length) l
  have hs := orderH_sorted (n := l.length) l
  have hlen := orderH_len (n := l.length) l
  have hC : upC q l = (orderH l.length l).countP (fun h => decide (q < l[h]?.getD 0)) := by
    rw [hp.countP_eq]
    have : l = (List.range l.length).map fun h => l[h]?.getD 0 := by
      apply List.ext_getElem?
      intro i
      by_cases hi : i < l.length
      · rw [List.getElem?_map, List.getElem?_range hi, Option.map_some, List.getElem?_eq_getElem hi]; rfl
      · rw [List.getElem?_eq_none (by omega), List.getElem?_eq_none (by simp; omega)]
    unfold upC
    conv => lhs; rw [this]
    rw [List.countP_map]; rfl
  have hrk : ∀ r h, (orderH l.length l)[r]? = some h → rankH l h = r := fun r h e => orderH_rank l e
  rw [hC, ← hp.countP_eq]
  have hsp := List.take_append_drop R (orderH l.length l)
  have e1 : (orderH l.length l).countP (fun h => decide (rankH l h < R) && decide (q < l[h]?.getD 0)) = ((orderH l.length l).take R).countP (fun h => decide (q < l[h]?.getD 0)) := by
    conv => lhs; rw [← hsp]
    rw [List.countP_append]
    have z : ((orderH l.length l).drop R).countP (fun h => decide (rankH l h < R) && decide (q < l[h]?.getD 0)) = 0 := by
      rw [List.countP_eq_zero]
      intro h hh
      obtain ⟨i, hi⟩ := List.mem_iff_getElem?.1 hh
      rw [List.getElem?_drop] at hi
      rw [hrk _ _ hi]
      simp; omega
    rw [z, Nat.add_zero]
    refine List.countP_congr fun h hh => ?_
    obtain ⟨i, hi⟩ := List.mem_iff_getElem?.1 hh
    have hiR : i < R := by have := (List.getElem?_eq_some_iff.1 hi).1; simp at this; omega
    rw [List.getElem?_take, if_pos hiR] at hi
    rw [hrk _ _ hi]
    simp [hiR]
  rw [e1]
  have e2 : (orderH l.length l).countP (fun h => decide (q < l[h]?.getD 0)) = ((orderH l.length l).take R).countP (fun h => decide (q < l[h]?.getD 0)) + ((orderH l.length l).drop R).countP (fun h => decide (q < l[h]?.getD 0)) := by
    conv => lhs; rw [← hsp]
    rw [List.countP_append]
  have hle : ((orderH l.length l).take R).countP (fun h => decide (q < l[h]?.getD 0)) ≤ R := Nat.le_trans List.countP_le_length (by simp; omega)
  by_cases hall : ∀ h ∈ (orderH l.length l).take R, q < l[h]?.getD 0
  · have : ((orderH l.length l).take R).countP (fun h => decide (q < l[h]?.getD 0)) = R := by
      rw [List.countP_eq_length.2 (fun h hh => by simpa using hall h hh), List.length_take]; omega
    rw [e2, this]; omega
  · simp only [Classical.not_forall] at hall
    obtain ⟨h0, hm0, hn0⟩ := hall
    have z : ((orderH l.length l).drop R).countP (fun h => decide (q < l[h]?.getD 0)) = 0 := by
      rw [List.countP_eq_zero]
      intro h hh
      have hs2 := hs
      rw [← hsp, List.pairwise_append] at hs2
      have := aheadB_iff.1 (hs2.2.2 h0 hm0 h hh)
      simp; omega
    rw [e2, z]; omega

theorem sum_pos_rank (n : Nat) (x : Nat → Int) (p : Nat → Bool) (q : Int) : (((List.range n).map fun h => (x h - (q + if p h = true then 1 else 0)).toNat).sum : Int) = ((List.range n).map fun h => if q < x h then x h - q else 0).sum - ((List.range n).countP (fun h => p h && decide (q < x h)) : Nat) := by
  induction n with
  | zero => simp
  | succ n ih =>
    rw [List.range_succ, List.map_append, List.map_append, List.sum_append, List.sum_append, List.countP_append]
    simp only [List.map_cons, List.map_nil, List.sum_cons, List.sum_nil, List.countP_cons, List.countP_nil]
    push_cast
    rw [ih]
    cases hp : p n <;> by_cases hq : q < x n <;> simp [hq] <;> omega

/-- the loads' surplus over the targets is the search's number -/
theorem over_few {l : List Int} (h1 : 1 ≤ l.length) (h16 : l.length ≤ 16) (hl : ∀ x ∈ l, 0 ≤ x ∧ x ≤ 4096) : (overSum l.length (fun h => l[h]?.getD 0 - targetL l h) : Int) = fewL (l.sum / l.length) l (l.sum % l.length).toNat := by
  have hs0 : 0 ≤ l.sum := by
    have : ∀ l : List Int, (∀ x ∈ l, 0 ≤ x ∧ x ≤ 4096) → 0 ≤ l.sum := by
      intro l
      induction l with
      | nil => intro _; simp
      | cons x r ih =>
        intro h
        have a1 := ih fun y hy => h y (List.mem_cons_of_mem _ hy)
        have a2 := h x (List.mem_cons_self ..)
        rw [List.sum_cons]; omega
    exact this l hl
  have hn : (0 : Int) < l.length := by omega
  have hq : 0 ≤ l.sum / l.length := Int.ediv_nonneg hs0 (by omega)
  have hr0 := Int.emod_nonneg l.sum (show (l.length : Int) ≠ 0 by omega)
  have hr1 := Int.emod_lt_of_pos l.sum hn
  obtain ⟨R, hR⟩ : ∃ R : Nat, l.sum % (l.length : Int) = (R : Int) := ⟨(l.sum % (l.length : Int)).toNat, by omega⟩
  rw [hR, Int.toNat_natCast, (fewL_closed hq hl h16 R).1 (by omega)]
  have ht : ∀ h, targetL l h = l.sum / l.length + if decide (rankH l h < R) = true then 1 else 0 := fun h => by
    unfold targetL
    rw [Int.tdiv_eq_ediv_of_nonneg hs0, hR]
    by_cases hc : rankH l h < R
    · rw [if_pos (by omega), if_pos (by simpa using hc)]
    · rw [if_neg (by omega), if_neg (by simpa using hc)]
  unfold overSum
  simp only [ht]
  rw [sum_pos_rank l.length (fun h => l[h]?.getD 0) (fun h => decide (rankH l h < R)) (l.sum / l.length), top_count h1 (by omega)]
  congr 1
  unfold upL
  congr 1
  apply List.ext_getElem?
  intro i
  by_cases hi : i < l.length
  · rw [List.getElem?_map, List.getElem?_range hi, Option.map_some, List.getElem?_map, List.getElem?_eq_getElem hi]; rfl
  · rw [List.getElem?_eq_none (by simp; omega), List.getElem?_eq_none (by simp; omega)]
end Go.Proofs.Ytpkcccphoolapaa
