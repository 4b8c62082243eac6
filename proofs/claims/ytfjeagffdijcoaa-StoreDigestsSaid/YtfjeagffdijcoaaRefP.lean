/- Layer 7: the reference's map as a list of pairs, in plain Lean. -/
import Derived.Test.YtfjeagffdijcoaaTrP
namespace Go.Proofs.Ytfjeagffdijcoaa

section
variable {κ ν : Type} {c : κ → κ → Int}

theorem rank_split (ho : WOrd c) (key : κ) {l : List (κ × ν)} (h : Up c l) : ∃ a b, l = a ++ b ∧ a.length = rankL c key l ∧ (∀ x ∈ a, c x.1 key < 0) ∧ (∀ x ∈ b, 0 ≤ c x.1 key) := by
  induction l with
  | nil => exact ⟨[], [], rfl, rfl, fun _ h => (by cases h), fun _ h => (by cases h)⟩
  | cons p r ih =>
    have hp := List.pairwise_cons.1 h
    by_cases g : c p.1 key < 0
    · obtain ⟨a, b, e, hl, h1, h2⟩ := ih hp.2
      refine ⟨p :: a, b, by rw [e]; rfl, ?_, ?_, h2⟩
      · unfold rankL at hl ⊢
        rw [List.countP_cons, List.length_cons, hl]
        simp [g]
      · intro x hx
        rcases List.mem_cons.1 hx with rfl | hx
        · exact g
        · exact h1 x hx
    · have hr : ∀ x ∈ r, 0 ≤ c x.1 key := fun x hx => by
        refine Int.not_lt.1 fun hn => g (ho.lt_lt (hp.1 x hx) hn)
      refine ⟨[], p :: r, rfl, ?_, fun _ h => (by cases h), ?_⟩
      · unfold rankL
        rw [List.countP_cons, List.countP_eq_zero.2 (fun x hx => by simpa using hr x hx)]
        simp [g]
      · intro x hx
        rcases List.mem_cons.1 hx with rfl | hx
        · omega
        · exact hr x hx

/-- what lies at a key's place: the key, or one behind it (or nothing) -/
theorem rank_cases (ho : WOrd c) (key : κ) {l : List (κ × ν)} (h : Up c l) :
    (∃ a b k v, l = a ++ (k, v) :: b ∧ a.length = rankL c key l ∧ c k key = 0 ∧ (∀ val, putL c key val l = a ++ (k, val) :: b) ∧ cutP c key l = a ++ b ∧ getL c key l = some v) ∨
    (∃ a b, l = a ++ b ∧ a.length = rankL c key l ∧ (∀ x ∈ b, 0 < c x.1 key) ∧ (∀ val, putL c key val l = a ++ (key, val) :: b) ∧ cutP c key l = l ∧ getL c key l = none) := by
  obtain ⟨a, b, rfl, hl, h1, h2⟩ := rank_split ho key h
  have h1' : ∀ x ∈ a, 0 < c key x.1 := fun x hx => (ho.anti x.1 key).1 (h1 x hx)
  cases b with
  | nil =>
    refine .inr ⟨a, [], rfl, hl, fun _ h => (by cases h), fun val => ?_, ?_, ?_⟩
    · rw [putL_right key val a [] h1']; rfl
    · rw [cutP_right key a [] h1']; rfl
    · rw [getL_right key a [] h1']; rfl
  | cons p r =>
    obtain ⟨k, v⟩ := p
    have hk := h2 (k, v) (by simp)
    by_cases e : c k key = 0
    · have e' := ho.zero e
      exact .inl ⟨a, r, k, v, rfl, hl, e, fun val => putL_mid key val a r k v e' h1', cutP_mid key a r k v e' h1', getL_mid key a r k v e' h1'⟩
    · have g : c key k < 0 := (ho.anti key k).2 (by simp only at hk; omega)
      refine .inr ⟨a, (k, v) :: r, rfl, hl, fun x hx => ?_, fun val => ?_, ?_, ?_⟩
      · rcases List.mem_cons.1 hx with rfl | hx
        · simp only at hk ⊢; omega
        · have h3 := (up_mid.1 h).2.2.2.1 x hx
          exact (ho.anti key x.1).1 (ho.lt_lt g h3)
      · rw [putL_right key val a _ h1']; simp [putL, g]
      · rw [cutP_right key a _ h1']; simp [cutP, g]
      · rw [getL_right key a _ h1']; simp [getL, g]
end

/-- the reference's four orders of ints -/
def ordI (which : Int) (a b : Int) : Int :=
  let a' := if which = 2 then (a.tmod 10 + 10).tmod 10 else a
  let b' := if which = 2 then (b.tmod 10 + 10).tmod 10 else b
  let x := (a.tmod 2 + 2).tmod 2
  let y := (b.tmod 2 + 2).tmod 2
  if which = 3 ∧ x ≠ y then x - y
  else
    let c := if b' < a' then 1 else if a' < b' then -1 else 0
    if which = 1 then -c else c

theorem ordI_ord (which : Int) : WOrd (ordI which) where
  anti a b := by
    unfold ordI
    by_cases h2 : which = 2 <;> by_cases h3 : which = 3 <;> by_cases h1 : which = 1 <;> simp only [h1, h2, h3, true_and, false_and, if_true, if_false] <;> (try omega) <;> (repeat' split) <;> omega
  trans a b d := by
    unfold ordI
    by_cases h2 : which = 2 <;> by_cases h3 : which = 3 <;> by_cases h1 : which = 1 <;> simp only [h1, h2, h3, true_and, false_and, if_true, if_false] <;> (try omega) <;> (repeat' split) <;> omega
end Go.Proofs.Ytfjeagffdijcoaa
