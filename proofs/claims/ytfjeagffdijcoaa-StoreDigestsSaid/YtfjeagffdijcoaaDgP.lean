/- Layer 7: StoreDigests in plain Lean. -/
import Derived.Test.YtfjeagffdijcoaaMvX
import Derived.Test.YtfjeagffdijcoaaDig
namespace Go.Proofs.Ytfjeagffdijcoaa

/-- the pairs whose key is one of these -/
def takeK (ks : List Int) (L : List (Int × List Int)) : List (Int × List Int) := L.filter fun p => decide (p.1 ∈ ks)
theorem cmpI_cases (a b : Int) : (TI.cmpI a b < 0 ∧ a < b) ∨ (TI.cmpI a b > 0 ∧ b < a) ∨ (TI.cmpI a b = 0 ∧ a = b) := by
  simp only [TI.cmpI]
  (repeat' split) <;> omega
theorem takeK_nil (L : List (Int × List Int)) : takeK [] L = [] := by simp [takeK]
theorem takeK_all {ks : List Int} {L : List (Int × List Int)} (h : ∀ p ∈ L, p.1 ∈ ks) : takeK ks L = L := List.filter_eq_self.2 (fun p hp => by simpa using h p hp)
theorem takeK_none {key : Int} {L : List (Int × List Int)} (hu : Up TI.cmpI L) (h : getL TI.cmpI key L = none) (ks : List Int) : takeK (key :: ks) L = takeK ks L := by
  refine List.filter_congr fun p hp => ?_
  have hne : p.1 ≠ key := fun e => by
    have := (getL_iff TI.cmpI_ord cmpI_tight hu key p.2).2 (by rw [← e]; exact hp)
    rw [h] at this; cases this
  simp [hne]
theorem putL_front {key : Int} {bs : List Int} {L : List (Int × List Int)} (h : ∀ p ∈ L, key < p.1) : putL TI.cmpI key bs L = (key, bs) :: L := by
  cases L with
  | nil => rfl
  | cons p L =>
    obtain ⟨k, x⟩ := p
    have := h (k, x) (List.mem_cons_self ..)
    dsimp only at this
    simp only [putL]
    rcases cmpI_cases key k with h1 | h1 | h1
    · rw [if_pos h1.1]
    · omega
    · omega
theorem takeK_put {key : Int} {bs : List Int} {L : List (Int × List Int)} (hu : Up TI.cmpI L) (h : getL TI.cmpI key L = some bs) (ks : List Int) : putL TI.cmpI key bs (takeK ks L) = takeK (key :: ks) L := by
  induction L with
  | nil => cases h
  | cons p L ih =>
    obtain ⟨k, x⟩ := p
    obtain ⟨hk, hu'⟩ := List.pairwise_cons.1 hu
    have hk' : ∀ p ∈ L, k < p.1 := fun p hp => (List.pairwise_cons.1 (up_pair hu)).1 p hp
    simp only [getL] at h
    rcases cmpI_cases key k with h1 | h1 | h1
    · rw [if_pos h1.1] at h; cases h
    · rw [if_neg (by omega), if_pos h1.1] at h
      have ih' := ih hu' h
      have hne : k ≠ key := by omega
      unfold takeK at ih' ⊢
      by_cases hm : k ∈ ks
      · rw [List.filter_cons, List.filter_cons, if_pos (by simp [hm]), if_pos (by simp [hm])]
        simp only [putL]
        rw [if_neg (by omega), if_pos h1.1, ih']
      · rw [List.filter_cons, List.filter_cons, if_neg (by simp [hm]), if_neg (by simp [hm, hne]), ih']
    · obtain ⟨h0, rfl⟩ := h1
      rw [if_neg (by omega), if_neg (by omega)] at h
      cases h
      have e : takeK (key :: ks) L = takeK ks L := List.filter_congr fun p hp => by
        have := hk' p hp
        have hne : p.1 ≠ key := by omega
        simp [hne]
      have e2 : takeK (key :: ks) ((key, bs) :: L) = (key, bs) :: takeK ks L := by
        rw [← e]; unfold takeK; rw [List.filter_cons, if_pos (by simp)]
      rw [e2]
      unfold takeK
      by_cases hm : key ∈ ks
      · rw [List.filter_cons, if_pos (by simp [hm])]
        simp only [putL]
        rw [if_neg (by omega), if_neg (by omega)]
      · rw [List.filter_cons, if_neg (by simp [hm])]
        exact putL_front fun p hp => hk' p (List.mem_filter.1 hp).1
theorem putL_keys {key : Int} {bs : List Int} {L : List (Int × List Int)} : ∀ p ∈ putL TI.cmpI key bs L, p.1 = key ∨ p ∈ L := by
  induction L with
  | nil => intro p hp; simp [putL] at hp; exact .inl (by rw [hp])
  | cons q L ih =>
    obtain ⟨k, x⟩ := q
    intro p hp
    simp only [putL] at hp
    rcases cmpI_cases key k with h1 | h1 | h1
    · rw [if_pos h1.1] at hp
      rcases List.mem_cons.1 hp with rfl | hp
      · exact .inl rfl
      · exact .inr hp
    · rw [if_neg (by omega), if_pos h1.1] at hp
      rcases List.mem_cons.1 hp with rfl | hp
      · exact .inr (List.mem_cons_self ..)
      · exact (ih p hp).imp id (List.mem_cons_of_mem _)
    · obtain ⟨h0, rfl⟩ := h1
      rw [if_neg (by omega), if_neg (by omega)] at hp
      rcases List.mem_cons.1 hp with rfl | hp
      · exact .inl rfl
      · exact .inr (List.mem_cons_of_mem _ hp)
theorem pairB_len (p : Int × List Int) : (pairB p).length = 10 + p.2.length := by simp [pairB, head8]; omega
theorem pairB_byte (p : Int × List Int) (h : ∀ x ∈ p.2, 0 ≤ x ∧ x ≤ 255) : ∀ x ∈ pairB p, 0 ≤ x ∧ x ≤ 255 := by
  intro x hx
  unfold pairB at hx
  rcases List.mem_append.1 hx with hx | hx
  · exact head8_byte p.1 p.2.length x hx
  · exact h x hx
end Go.Proofs.Ytfjeagffdijcoaa
