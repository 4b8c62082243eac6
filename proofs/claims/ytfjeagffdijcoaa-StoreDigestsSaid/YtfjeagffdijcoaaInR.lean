/- A drawn region inside a round of a range over a function: what holds of every order outside a fence holds there. -/
import Derived.Test.YtfjeagffdijcoaaRanT
namespace Go.Proofs.Ytfjeagffdijcoaa
open Go.RowKit Go.Shelf

section region
variable {P : Program} {ops : Array Oper} {l0 n : Nat} {Q : Exit → Act → World → Prop}

theorem rows_in_round {row : String} {args : Array Value} {w : World} {R : Value → World → Prop} (h : Rows P row args w R) : RowsIn (Fence.wide.inRound l0) n P row args w R := fun c cs _ => by
  obtain ⟨v, w', r, s⟩ := h c cs
  exact ⟨v, w', r, (stepsIn_wide.2 s : StepsIn (Machine.fenced P Fence.wide) P _ _)⟩

theorem oper_in_round {o : Oper} (hd : ∀ c, o.op ≠ .defer c) {a : Act} {w : World} {K : Act → World → Prop} (h : o.wp P a w K Q) : o.wpIn (Fence.wide.inRound l0) n P a w K Q := by
  refine ⟨fun _ _ => trivial, ?_⟩
  rw [Oper.semAt_eq _ _ _ hd]
  unfold Oper.wp at h
  cases hr : (execOp a.eval o).run P w with
  | halt x w' =>
    rw [hr] at h
    cases x <;> first | exact h | exact h.elim
  | ok nx w' =>
    rw [hr] at h
    cases nx with
    | enter f args =>
      refine ⟨fun e => (by cases e), (calls_in_round h).mono ?_⟩
      intro e w'' he
      cases e <;> exact he
    | row row args => exact ⟨fun e => (by cases e), rows_in_round h⟩
    | _ => first | exact h | exact h.elim

theorem step_in_round {i : Nat} (hd : ∀ (i : Nat) (o : Oper), ops[i]? = some o → ∀ c : Call, o.op ≠ .defer c) (hL : ¬ LetsOut Q) {K : Act → World → Prop} {a : Act} {w : World} (h : wpOp P ops Q i K a w) : wpOpIn (Fence.wide.inRound l0) n P ops Q i K a w := by
  unfold wpOp at h
  unfold wpOpIn
  cases ho : ops[i]? with
  | none => rw [ho] at h; exact h
  | some o =>
    simp only [ho] at h
    by_cases hw : Region.wanted o (yielded ops a.tmps) = true
    · simp only [hw, if_true] at h ⊢
      rcases h with h | h
      · exact oper_in_round (hd i o ho) h
      · exact absurd h.2 hL
    · simp only [hw] at h ⊢
      exact ⟨fun _ _ => trivial, h⟩

theorem orders_in_round {md : Region.Mode} (hd : ∀ (i : Nat) (o : Oper), ops[i]? = some o → ∀ c : Call, o.op ≠ .defer c) (hL : ¬ LetsOut Q) :
    ∀ (fuel : Nat) (listed : Array Bool) (a : Act) (w : World), wpAny P md ops Q fuel listed a w → wpAnyIn (Fence.wide.inRound l0) n P md ops Q fuel listed a w := by
  intro fuel
  induction fuel with
  | zero => intro listed a w h; exact h
  | succ fuel ih => intro listed a w h; exact ⟨h.1, fun i hi => step_in_round hd hL (wpOp_mono (fun a' w' h' => ih _ a' w' h') (h.2 i hi))⟩

theorem region_in_round {id : Nat} {a : Act} {w : World} {l : List Oper} (hm : P.follows .mixedOrders = true) (hd : (l.all fun o : Oper => match o.op with | .defer _ => false | _ => true) = true) (hL : ¬ LetsOut Q)
    (h : wpAny P .any l.toArray Q l.toArray.size (Array.replicate l.toArray.size false) a { w with drawn := w.drawn + 1 }) : (Code.region id l.toArray true).wpIn (Fence.wide.inRound l0) n P Q a w :=
  wpIn_region_any hm (orders_in_round (fun i o ho c e => by
    have := List.all_eq_true.1 hd o (List.mem_of_getElem? (by simpa using ho))
    simp [e] at this) hL _ _ _ _ h)

/-- what is left comes in one order alone: a list -/
theorem any_list {md : Region.Mode} : ∀ (l : List Oper) (k : Nat) (listed : Array Bool) (a : Act) (w : World), (∀ j, l[j]? = ops[k + j]?) →
    Region.seqB md ops l.length k listed = true → wpList P ops Q l a w → wpAny P md ops Q l.length listed a w
  | [], _, _, _, _, _, hB, h => ⟨by simpa [Region.seqB] using hB, h⟩
  | o :: l, k, listed, a, w, hl, hB, h => by
    have h0 : ops[k]? = some o := by simpa using (hl 0).symm
    simp only [List.length_cons, Region.seqB, Bool.and_eq_true, decide_eq_true_eq] at hB
    refine ⟨fun h1 => (by rw [hB.1] at h1; cases h1), fun i hi => ?_⟩
    obtain rfl : i = k := by rw [hB.1] at hi; simpa using hi
    have hrec : ∀ a w, wpList P ops Q l a w → wpAny P md ops Q l.length (listed.setIfInBounds i true) a w := fun a' w' h' => any_list l (i + 1) _ a' w' (fun j => by have := hl (j + 1); simpa [Nat.add_assoc, Nat.add_comm 1 j] using this) hB.2 h'
    unfold wpList at h
    unfold wpOp
    simp only [h0]
    split at h
    · rename_i hw; rw [if_pos hw]
      rcases h with h | h
      · exact .inl (Oper.wp_mono hrec h)
      · exact .inr h
    · rename_i hw; rw [if_neg hw]; exact hrec _ _ h
/-- the same, from the operation number k on -/
theorem any_rest {md : Region.Mode} (k : Nat) {fuel : Nat} {listed : Array Bool} {a : Act} {w : World} (hf : (ops.toList.drop k).length = fuel) (hB : Region.seqB md ops fuel k listed = true) (h : wpList P ops Q (ops.toList.drop k) a w) : wpAny P md ops Q fuel listed a w := by
  subst hf
  exact any_list _ k listed a w (fun j => by rw [List.getElem?_drop, Array.getElem?_toList]) hB h
end region
end Go.Proofs.Ytfjeagffdijcoaa
