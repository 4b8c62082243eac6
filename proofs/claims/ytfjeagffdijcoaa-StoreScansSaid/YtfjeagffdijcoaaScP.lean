/- Layer 7: StoreScans in plain Lean. -/
import Derived.Test.YtfjeagffdijcoaaMvX
namespace Go.Proofs.Ytfjeagffdijcoaa

/-- how many keys of a range there are behind a Put -/
theorem filter_put {L : List (Int × List Int)} (lo hi key : Int) (bs : List Int) : ((putL TI.cmpI key bs L).filter (inR TI.cmpI lo hi)).length = (L.filter (inR TI.cmpI lo hi)).length + (if (getL TI.cmpI key L).isSome = false ∧ lo ≤ key ∧ key ≤ hi then 1 else 0) := by
  have hb : ∀ bs : List Int, (inR TI.cmpI lo hi (key, bs) = true) ↔ (lo ≤ key ∧ key ≤ hi) := fun bs => inR_iff lo hi (key, bs)
  induction L with
  | nil =>
    simp only [putL, getL, List.filter_cons, List.filter_nil, List.length_nil, Option.isSome_none, true_and]
    by_cases h : lo ≤ key ∧ key ≤ hi
    · rw [if_pos ((hb bs).2 h), if_pos h]; rfl
    · rw [if_neg (fun x => h ((hb bs).1 x)), if_neg h]; rfl
  | cons p L ih =>
    obtain ⟨k, x⟩ := p
    simp only [putL, getL]
    split
    · rw [List.filter_cons (x := (key, bs))]
      simp only [Option.isSome_none, true_and]
      by_cases h : lo ≤ key ∧ key ≤ hi
      · rw [if_pos ((hb bs).2 h), if_pos h, List.length_cons]
      · rw [if_neg (fun x => h ((hb bs).1 x)), if_neg h]; rfl
    · split
      · rw [List.filter_cons, List.filter_cons]
        split
        · simp only [List.length_cons]; omega
        · exact ih
      · have hk : key = k := cmpI_tight key k (by omega)
        subst hk
        simp only [Option.isSome_some, Bool.true_eq_false, false_and, if_false, Nat.add_zero]
        rw [List.filter_cons, List.filter_cons]
        by_cases h : lo ≤ key ∧ key ≤ hi
        · rw [if_pos ((hb bs).2 h), if_pos ((hb x).2 h)]; rfl
        · rw [if_neg (fun y => h ((hb bs).1 y)), if_neg (fun y => h ((hb x).1 y))]

/-- what is left of a range behind its first keys -/
theorem rest_range {L : List (Int × List Int)} (hu : Up TI.cmpI L) {lo hi : Int} {m : Nat} {p : Int × List Int} (hp : (L.filter (inR TI.cmpI lo hi))[m]? = some p) :
    (L.filter (inR TI.cmpI lo hi)).drop (m + 1) = L.filter (inR TI.cmpI (p.1 + 1) hi) := by
  have hG := up_pair (List.Pairwise.filter (inR TI.cmpI lo hi) hu)
  have hpm := List.mem_filter.1 (List.mem_of_getElem? hp)
  have hlo := (inR_iff lo hi p).1 hpm.2
  have e1 : L.filter (inR TI.cmpI (p.1 + 1) hi) = (L.filter (inR TI.cmpI lo hi)).filter (fun q => decide (p.1 < q.1)) := by
    rw [List.filter_filter]
    refine List.filter_congr fun q _ => ?_
    rw [Bool.eq_iff_iff, inR_iff, Bool.and_eq_true, inR_iff, decide_eq_true_eq]
    omega
  rw [e1]
  generalize L.filter (inR TI.cmpI lo hi) = G at hG hp
  clear e1 hpm hlo hu
  induction G generalizing m with
  | nil => simp at hp
  | cons q G ih =>
    obtain ⟨h1, h2⟩ := List.pairwise_cons.1 hG
    cases m with
    | zero =>
      simp at hp
      subst hp
      rw [List.drop_succ_cons, List.drop_zero, List.filter_cons, if_neg (by simp), List.filter_eq_self.2 (fun y hy => by have := h1 y hy; simpa using this)]
    | succ m =>
      have hp' : G[m]? = some p := by simpa using hp
      rw [List.drop_succ_cons, List.filter_cons, if_neg (by have := h1 p (List.mem_of_getElem? hp'); simp; omega)]
      exact ih h2 hp'
end Go.Proofs.Ytfjeagffdijcoaa
