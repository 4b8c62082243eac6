/- Layer 7: words in a map, in plain Lean. -/
import Derived.Test.YtfjeagffdijcoaaRefP
import Derived.Test.YtfjeagffdijcoaaTb
namespace Go.Proofs.Ytfjeagffdijcoaa

section
variable {κ ν : Type} {c : κ → κ → Int}

/-- an order in which just equal keys count as one -/
def Tight (c : κ → κ → Int) : Prop := ∀ a b, c a b = 0 → a = b

theorem getL_iff (ho : WOrd c) (ht : Tight c) {l : List (κ × ν)} (h : Up c l) (key : κ) (v : ν) : getL c key l = some v ↔ (key, v) ∈ l := by
  constructor
  · intro e
    rcases rank_cases ho key h with ⟨a, b, k, v', e0, _, e2, _, _, e5⟩ | ⟨a, b, _, _, _, _, _, e5⟩
    · rw [e5] at e
      cases e
      obtain rfl := ht k key e2
      rw [e0]
      simp
    · rw [e5] at e; cases e
  · intro hm
    exact getL_mem ho h hm

theorem getL_none (ho : WOrd c) (ht : Tight c) {l : List (κ × ν)} (h : Up c l) (key : κ) : getL c key l = none ↔ ∀ v, (key, v) ∉ l := by
  constructor
  · intro e v hm
    rw [getL_mem ho h hm] at e
    cases e
  · intro hn
    cases e : getL c key l with
    | none => rfl
    | some v => exact absurd ((getL_iff ho ht h key v).1 e) (hn v)

theorem putL_mem_iff (ho : WOrd c) (ht : Tight c) {l : List (κ × ν)} (h : Up c l) (key : κ) (val : ν) (k : κ) (v : ν) : (k, v) ∈ putL c key val l ↔ (k = key ∧ v = val) ∨ (k ≠ key ∧ (k, v) ∈ l) := by
  rcases rank_cases ho key h with ⟨a, b, k0, v0, e0, _, e2, e3, _, _⟩ | ⟨a, b, e0, _, e2, e3, _, e5⟩
  · obtain rfl := ht k0 key e2
    rw [e3, e0]
    obtain ⟨_, _, u3, u4, _⟩ := up_mid.1 (e0 ▸ h)
    have na : ∀ v, (k0, v) ∉ a := fun v hm => by have := u3 _ hm; simp only [ho.refl] at this; omega
    have nb : ∀ v, (k0, v) ∉ b := fun v hm => by have := u4 _ hm; simp only [ho.refl] at this; omega
    by_cases hk : k = k0
    · subst hk
      simp [na, nb]
    · simp [hk]
  · have hn := (getL_none ho ht h key).1 e5
    rw [e3, e0]
    by_cases hk : k = key
    · subst hk
      have h1 : ∀ v, (k, v) ∉ a := fun v hm => hn v (by rw [e0]; simp [hm])
      have h2 : ∀ v, (k, v) ∉ b := fun v hm => hn v (by rw [e0]; simp [hm])
      simp [h1, h2]
    · simp [hk]

theorem cutP_mem_iff (ho : WOrd c) (ht : Tight c) {l : List (κ × ν)} (h : Up c l) (key : κ) (k : κ) (v : ν) : (k, v) ∈ cutP c key l ↔ k ≠ key ∧ (k, v) ∈ l := by
  rcases rank_cases ho key h with ⟨a, b, k0, v0, e0, _, e2, _, e4, _⟩ | ⟨a, b, e0, _, e2, _, e4, e5⟩
  · obtain rfl := ht k0 key e2
    rw [e4, e0]
    obtain ⟨_, _, u3, u4, _⟩ := up_mid.1 (e0 ▸ h)
    have na : ∀ v, (k0, v) ∉ a := fun v hm => by have := u3 _ hm; simp only [ho.refl] at this; omega
    have nb : ∀ v, (k0, v) ∉ b := fun v hm => by have := u4 _ hm; simp only [ho.refl] at this; omega
    by_cases hk : k = k0
    · subst hk
      simp [na, nb]
    · simp [hk]
  · have hn := (getL_none ho ht h key).1 e5
    rw [e4]
    by_cases hk : k = key
    · subst hk; simp [hn]
    · simp [hk]

/-- at its own place -/
theorem own_place (ho : WOrd c) {l : List (κ × ν)} (h : Up c l) (i : Nat) (k : κ) (v : ν) (hi : l[i]? = some (k, v)) : rankL c k l = i ∧ floorL c k l = some (k, v) ∧ ceilL c k l = some (k, v) := by
  have hlt := (List.getElem?_eq_some_iff.1 hi).1
  obtain ⟨a, b, e, hl⟩ : ∃ a b, l = a ++ (k, v) :: b ∧ a.length = i := by
    refine ⟨l.take i, l.drop (i + 1), ?_, by simp; omega⟩
    have hd : l.drop i = (k, v) :: l.drop (i + 1) := by
      rw [List.drop_eq_getElem_cons hlt, (List.getElem?_eq_some_iff.1 hi).2]
    rw [← hd, List.take_append_drop]
  subst e
  obtain ⟨_, _, u3, u4, _⟩ := up_mid.1 h
  have ra : a.countP (fun x => decide (c x.1 k < 0)) = a.length := List.countP_eq_length.2 fun x hx => by simpa using u3 x hx
  have rb : b.countP (fun x => decide (c x.1 k < 0)) = 0 := List.countP_eq_zero.2 fun x hx => by
    have := (ho.anti k x.1).1 (u4 x hx)
    simp; omega
  have fb : b.filter (fun x => decide (c x.1 k ≤ 0)) = [] := List.filter_eq_nil_iff.2 fun x hx => by
    have := (ho.anti k x.1).1 (u4 x hx)
    simp; omega
  have fa : a.find? (fun x => decide (0 ≤ c x.1 k)) = none := List.find?_eq_none.2 fun x hx => by
    have := u3 x hx
    simp only at this
    simp; omega
  refine ⟨?_, ?_, ?_⟩
  · unfold rankL
    rw [List.countP_append, List.countP_cons, ra, rb, hl]
    simp [ho.refl]
  · unfold floorL
    rw [List.filter_append, List.filter_cons, if_pos (by simp [ho.refl]), fb, List.getLast?_append]
    simp
  · unfold ceilL
    rw [List.find?_append, fa, List.find?_cons]
    simp [ho.refl]

theorem up_lt {l : List (κ × ν)} (h : Up c l) (i j : Nat) (hij : i < j) (p q : κ × ν) (hi : l[i]? = some p) (hj : l[j]? = some q) : c p.1 q.1 < 0 := by
  obtain ⟨h1, rfl⟩ := List.getElem?_eq_some_iff.1 hi
  obtain ⟨h2, rfl⟩ := List.getElem?_eq_some_iff.1 hj
  exact List.pairwise_iff_getElem.1 h i j h1 h2 hij
end

section
variable {κ : Type} {c : κ → κ → Int}
/-- the map holds words of the list, each at the place that it tells -/
def Said (ws : List κ) (l : List (κ × Int)) : Prop := ∀ k v, (k, v) ∈ l → ∃ i : Nat, v = (i : Int) ∧ ws[i]? = some k

/-- how many of its values lie below a number -/
def belowN (l : List (κ × Int)) (i : Nat) : Nat := l.countP fun p => decide (p.2 < (i : Int))

theorem belowN_zero {ws : List κ} {l : List (κ × Int)} (h : Said ws l) : belowN l 0 = 0 := List.countP_eq_zero.2 fun x hx => by
  obtain ⟨j, hj, _⟩ := h x.1 x.2 hx
  simp; omega
theorem belowN_all {ws : List κ} {l : List (κ × Int)} (h : Said ws l) : belowN l ws.length = l.length := List.countP_eq_length.2 fun x hx => by
  obtain ⟨j, hj, hw⟩ := h x.1 x.2 hx
  have := (List.getElem?_eq_some_iff.1 hw).1
  simp; omega
theorem belowN_succ [DecidableEq κ] (ho : WOrd c) {ws : List κ} {l : List (κ × Int)} (hU : Up c l) (h : Said ws l) (i : Nat) (k : κ) (hi : ws[i]? = some k) : belowN l (i + 1) = belowN l i + (if (k, (i : Int)) ∈ l then 1 else 0) := by
  have key : ∀ (l : List (κ × Int)), Up c l → Said ws l → l.countP (fun p => decide (p.2 < ((i + 1 : Nat) : Int))) = l.countP (fun p => decide (p.2 < (i : Int))) + (if (k, (i : Int)) ∈ l then 1 else 0) := by
    intro l
    induction l with
    | nil => intro _ _; simp
    | cons p r ih =>
      intro hu hs
      have hp := List.pairwise_cons.1 hu
      have hr := ih hp.2 (fun k v hm => hs k v (by simp [hm]))
      rw [List.countP_cons, List.countP_cons, hr]
      obtain ⟨pk, pv⟩ := p
      obtain ⟨j, hj, hw⟩ := hs pk pv (by simp)
      subst hj
      by_cases hji : j = i
      · subst hji
        obtain rfl : pk = k := by rw [hi] at hw; cases hw; rfl
        have hn : (pk, (j : Int)) ∉ r := fun hm => by have := hp.1 _ hm; simp only [ho.refl] at this; omega
        simp [hn]
        omega
      · have hne : ¬ (k, (i : Int)) = (pk, (j : Int)) := fun e => hji (by injection e; omega)
        have e1 : ((k, (i : Int)) ∈ (pk, (j : Int)) :: r) ↔ (k, (i : Int)) ∈ r := by simp [hne]
        simp only [e1]
        have e2 : decide ((j : Int) < ((i + 1 : Nat) : Int)) = decide ((j : Int) < (i : Int)) := by
          apply decide_eq_decide.2; omega
        rw [e2]
        omega
  exact key l hU h
end
end Go.Proofs.Ytfjeagffdijcoaa
