/- A range over a function whose iterator may lean on what the loop's body keeps; and a drawn region with a forced end, inside a round. -/
import Derived.Test.YtfjeagffdijcoaaBetw
import Derived.StillTailTactics
import Derived.Sort.QuietTacIn
namespace Go.Proofs.Ytfjeagffdijcoaa
open Go.RowKit Go.Shelf

/-! ### a drawn region whose last operations are forced, inside a round -/
section tail
variable {P : Program} {ops : Array Oper} {w : World} {l0 n : Nat}

theorem calls_in_round {f : FuncId} {args : Array Value} {R : Ending → World → Prop} (h : Calls P f args w R) : CallsIn (Fence.wide.inRound l0) n P f args w R := (callsIn_wide.2 h : CallsIn Fence.wide n P f args w R)

theorem op_in_round {o : Oper} (hd : ∀ c, o.op ≠ .defer c) {a : Act} {K : Act → Prop} {K' : Act → World → Prop} {Q : Exit → Act → World → Prop} (hK : ∀ a, K a → K' a w) (h : o.still P a w K) : o.wpIn (Fence.wide.inRound l0) n P a w K' Q := by
  refine ⟨fun _ _ => trivial, ?_⟩
  rw [Oper.semAt_eq _ _ _ hd]
  unfold Oper.still at h
  cases hr : (execOp a.eval o).run P w with
  | halt x w' => rw [hr] at h; exact h.elim
  | ok nx w' =>
    rw [hr] at h
    cases nx
    case enter f args =>
      obtain ⟨rfl, v, hc, h⟩ := h
      refine ⟨fun e => (by cases e), (calls_in_round hc).mono ?_⟩
      rintro e w'' ⟨rfl, rfl⟩
      exact hK _ h
    all_goals first | exact h.elim | (obtain ⟨rfl, h⟩ := h; exact hK _ h)

theorem pick_in_round {i : Nat} (hd : ∀ (i : Nat) (o : Oper), ops[i]? = some o → ∀ c : Call, o.op ≠ .defer c) {a : Act} {K : Act → Prop} {K' : Act → World → Prop} {Q : Exit → Act → World → Prop} (hK : ∀ a, K a → K' a w) (h : stOp P ops w i K a) : wpOpIn (Fence.wide.inRound l0) n P ops Q i K' a w := by
  unfold stOp at h
  unfold wpOpIn
  cases ho : ops[i]? with
  | none => rw [ho] at h; exact hK _ h
  | some o =>
    simp only [ho] at h
    by_cases hw : Region.wanted o (yielded ops a.tmps) = true
    · simp only [hw, if_true] at h ⊢; exact op_in_round (hd i o ho) hK h
    · simp only [hw] at h ⊢; exact ⟨fun _ _ => trivial, hK _ h⟩

theorem head_in_round {md : Region.Mode} {m g : Nat} {L : Array Bool → Act → Prop} {Q : Exit → Act → World → Prop} (hd : ∀ (i : Nat) (o : Oper), ops[i]? = some o → ∀ c : Call, o.op ≠ .defer c)
    (hL : ∀ listed a, L listed a → wpAnyIn (Fence.wide.inRound l0) n P md ops Q g listed a w) :
    ∀ (f : Nat) (listed : Array Bool) (a : Act), wpAnyL P md ops w m L f listed a → wpAnyIn (Fence.wide.inRound l0) n P md ops Q (f + g) listed a w := by
  intro f
  induction f with
  | zero => intro listed a h; rw [Nat.zero_add]; exact hL _ _ h
  | succ f ih =>
    intro listed a h
    rw [Nat.succ_add]
    exact ⟨fun h0 => absurd h0 h.1, fun i hi => pick_in_round hd (fun a' h' => ih _ a' h') (h.2 i hi).2⟩

theorem list_in_round {F : Fence} {md : Region.Mode} {Q : Exit → Act → World → Prop} : ∀ (l : List Oper) (k : Nat) (listed : Array Bool) (a : Act) (w : World), (∀ j, l[j]? = ops[k + j]?) →
    Region.seqB md ops l.length k listed = true → wpListIn F n P ops Q l a w → wpAnyIn F n P md ops Q l.length listed a w
  | [], _, _, _, _, _, hB, h => ⟨by simpa [Region.seqB] using hB, h⟩
  | o :: l, k, listed, a, w, hl, hB, h => by
    have h0 : ops[k]? = some o := by simpa using (hl 0).symm
    simp only [List.length_cons, Region.seqB, Bool.and_eq_true, decide_eq_true_eq] at hB
    refine ⟨fun h1 => (by rw [hB.1] at h1; cases h1), fun i hi => ?_⟩
    obtain rfl : i = k := by rw [hB.1] at hi; simpa using hi
    refine wpOpIn_step h0 (fun K' hK' => ?_)
    have hrec : ∀ a w, wpListIn F n P ops Q l a w → K' a w := fun a' w' h' => hK' a' w' (list_in_round l (i + 1) _ a' w' (fun j => by have := hl (j + 1); simpa [Nat.add_assoc, Nat.add_comm 1 j] using this) hB.2 h')
    unfold wpListIn at h
    split at h
    · rename_i hw; rw [if_pos hw]; exact Oper.wpIn_mono hrec h
    · rename_i hw; rw [if_neg hw]; exact ⟨h.1, hrec _ _ h.2⟩

theorem tail_in_round {id : Nat} {Q : Exit → Act → World → Prop} {a : Act} {l : List Oper} (m : Nat) (hm : P.follows .mixedOrders = true) (hB : Region.lexTailB .any l.toArray m = true) (hd : (l.all fun o : Oper => match o.op with | .defer _ => false | _ => true) = true)
    (h : wpStill P l.toArray { w with drawn := w.drawn + 1 } (fun a' => wpListIn (Fence.wide.inRound l0) n P l.toArray Q (l.drop m) a' { w with drawn := w.drawn + 1 }) (l.take m) a) : (Code.region id l.toArray true).wpIn (Fence.wide.inRound l0) n P Q a w := by
  simp only [Region.lexTailB, Bool.and_eq_true, decide_eq_true_eq] at hB
  obtain ⟨⟨⟨⟨hsel, hn⟩, hs⟩, hc⟩, hlex⟩ := hB
  have hn' : m < l.length := by simpa using hn
  have htl : (l.take m).length = m := by simp; omega
  have hdl : (l.drop m).length = l.toArray.size - m := by simp
  have hnd : ∀ (i : Nat) (o : Oper), l.toArray[i]? = some o → ∀ c : Call, o.op ≠ .defer c := fun i o ho c e => by
    have := List.all_eq_true.1 hd o (List.mem_of_getElem? (by simpa using ho))
    simp [e] at this
  have inv0 : HeadInv .any l.toArray m (Array.replicate l.toArray.size false) :=
    ⟨by simp, fun j oj _ hl => (by rw [getD_replicate_false] at hl; cases hl), fun t _ ht => getD_in (by simpa using ht) (getD_replicate_false _ _)⟩
  have H := wpAnyL_lex (md := .any) (g := l.toArray.size - m) hsel hs hc hn (l.take m) 0 _ a (fun j hj => by
    rw [htl] at hj
    simp [hj]) (by simpa using htl) inv0 (by rw [htl]; exact hlex) h
  refine wpIn_region_any hm ?_
  have key := head_in_round (l0 := l0) (n := n) (Q := Q) (g := l.toArray.size - m) hnd (fun listed a' hL => by
    have h2 := list_in_round (F := Fence.wide.inRound l0) (n := n) (md := .any) (Q := Q) (l.drop m) m listed a' { w with drawn := w.drawn + 1 } (fun j => by simp [List.getElem?_drop]) (by rw [hdl]; exact hL.1) hL.2
    rwa [hdl] at h2) _ _ _ H
  rw [htl, show m + (l.toArray.size - m) = l.toArray.size by omega] at key
  exact key
theorem any_in_round {md : Region.Mode} {Qs : Act → Prop} {Q : Exit → Act → World → Prop} (hd : ∀ (i : Nat) (o : Oper), ops[i]? = some o → ∀ c : Call, o.op ≠ .defer c) (hQ : ∀ a, Qs a → Q .normal a w) :
    ∀ (fuel : Nat) (listed : Array Bool) (a : Act), wpAnyS P md ops w Qs fuel listed a → wpAnyIn (Fence.wide.inRound l0) n P md ops Q fuel listed a w := by
  intro fuel
  induction fuel with
  | zero => intro listed a h; exact ⟨h.1, hQ _ h.2⟩
  | succ fuel ih => intro listed a h; exact ⟨fun h0 => hQ _ (h.1 h0), fun i hi => pick_in_round hd (fun a' h' => ih _ a' h') (h.2 i hi)⟩

theorem still_in_round {id : Nat} {Q : Exit → Act → World → Prop} {a : Act} {l : List Oper} (hm : P.follows .mixedOrders = true) (hB : Region.lexB .any l.toArray = true) (hd : (l.all fun o : Oper => match o.op with | .defer _ => false | _ => true) = true)
    (h : wpStill P l.toArray { w with drawn := w.drawn + 1 } (fun a' => Q .normal a' { w with drawn := w.drawn + 1 }) l a) : (Code.region id l.toArray true).wpIn (Fence.wide.inRound l0) n P Q a w := by
  simp only [Region.lexB, Bool.and_eq_true] at hB
  have hnd : ∀ (i : Nat) (o : Oper), l.toArray[i]? = some o → ∀ c : Call, o.op ≠ .defer c := fun i o ho c e => by
    have := List.all_eq_true.1 hd o (List.mem_of_getElem? (by simpa using ho))
    simp [e] at this
  refine wpIn_region_any hm (any_in_round (Qs := fun a' => Q .normal a' { w with drawn := w.drawn + 1 }) hnd (fun _ h => h) _ _ _ ?_)
  have := wpAnyS_lex (md := .any) hB.1 l 0 (Array.replicate l.toArray.size false) a (by simp) (by simpa using hB.2) h
  simpa using this
end tail

/-! ### the law -/
section law
variable {P : Program}

theorem range_law {α : Type} {g : Operand} {ps : Array Tmp} {assign body : Code} {Q : Exit → Act → World → Prop} {a : Act} {w : World} {gf : Nat} {lb : Array Value}
    (hg : a.eval g = .func (.func gf) #[] lb) (eg : ∀ args w, (callFunc gf args).run P w = .ok (.enter gf args) w) (encs : α → Array Value) (hps : ∀ x, (encs x).size = ps.size)
    (I : List α → World → Prop) (Ix : Code → List α → World → Prop) (X : List α → α → World → Prop) (S Sp : List α → Prop)
    (hI : OwnFrom w.heap.size I) (hIx : ∀ c, OwnFrom w.heap.size (Ix c)) (hX : ∀ pre x, OwnFrom w.heap.size (fun (_ : Unit) W => X pre x W)) (h0 : I [] w)
    (hseq : ∀ (l : Nat) (J Jx : List α → World → Prop) (W : World), Below w.heap.size w W → AbidesFrom W.heap.size J → AbidesFrom W.heap.size Jx → (∀ pre W', J pre W' → I pre W') →
      (∀ pre x W1, J pre W1 → X pre x W1 → YieldAt Fence.wide 2 P l (encs x) W1 fun e W' => (e = .returned (.bool true) ∧ J (pre ++ [x]) W') ∨ (e = .returned (.bool false) ∧ Jx (pre ++ [x]) W')) →
      J [] W → CallsIn Fence.wide 3 P gf (#[.func (.yield l) #[] #[]] ++ lb) W fun e W' => (∃ v, e = .returned v) ∧ ((∃ xs, S xs ∧ J xs W') ∨ (∃ pre, Sp pre ∧ Jx pre W')))
    (a₁ : α → Act)
    (hassign : ∀ (l : Nat) (x : α) (W : World) (K : Act → World → Prop), K (a₁ x) W → assign.wpIn (Fence.wide.inRound l) 2 P (Exit.then K (fun _ _ _ => False)) { tmps := (ps.zip (encs x)).foldl (fun t (p, v) => t.setIfInBounds p v) a.tmps, defers := [] } W)
    (hbody : ∀ (l : Nat) (pre : List α) (x : α) (W : World), I pre W → X pre x W → body.wpIn (Fence.wide.inRound l) 2 P (ownPostG w.heap.size (fun _ _ => True) I Ix (pre ++ [x]) W) (a₁ x) W)
    (hdone : ∀ (D : Nat) (xs : List α) (W : World), w.heap.size ≤ D → S xs → I xs W → W.heap[D]? = some (.deferred (some [])) → Q .normal { a with defers := { target := .collected D, args := #[] } :: a.defers } W)
    (hstop : ∀ (D : Nat) (c : Code) (pre : List α) (W : World), w.heap.size ≤ D → Sp pre → Ix c pre W → W.heap[D]? = some (.deferred (some [])) → c.wpIn Fence.wide 4 P Q { a with defers := { target := .collected D, args := #[] } :: a.defers } W) :
    (Code.rangeFunc g ps assign body).wpIn Fence.wide 4 P Q a w := by
  refine wpIn_rangeFunc fun fn hfn => ?_
  -- the loop's record, and the two blocks of its book-keeping
  obtain ⟨rc, hrc⟩ : ∃ rc : LoopState → Option Code → Loop, rc = fun st pe => { state := st, pending := pe, fn, tmps := a.tmps, params := ps, assign, body, defers := w.heap.size } := ⟨_, rfl⟩
  obtain ⟨W1, hW1⟩ : ∃ W1, W1 = (w.alloc (.deferred (some []))).alloc (.loop (rc .ready none)) := ⟨_, rfl⟩
  have bkL : W1.heap[w.heap.size + 1]? = some (.loop (rc .ready none)) := by
    rw [hW1]
    have := World.alloc_heap_new (w.alloc (.deferred (some []))) (.loop (rc .ready none))
    rwa [World.size_alloc] at this
  have bkD : W1.heap[w.heap.size]? = some (.deferred (some [])) := by rw [hW1]; exact (Below.heap_alloc _ _ _ (by simp)).trans (World.alloc_heap_new w _)
  have sz1 : W1.heap.size = w.heap.size + 1 + 1 := by rw [hW1]; simp
  have i1 : I [] W1 := by rw [hW1]; exact hI.alloc _ (hI.alloc _ h0)
  have b1 : Below w.heap.size w W1 := by rw [hW1]; exact ((Below.refl _ w).alloc (Nat.le_refl _) _).alloc (by simp) _
  refine ⟨w.heap.size + 1, [{ target := .collected w.heap.size, args := #[] }], W1, { target := .fn (.func gf) lb, args := #[.func (.yield (w.heap.size + 1)) #[] #[]] }, W1, gf, #[.func (.yield (w.heap.size + 1)) #[] #[]] ++ lb, W1, ?_, ?_, fun _ _ => trivial, ?_, fun _ => by omega, ?_⟩
  · rw [hW1, hrc]; exact run_enterLoop_outer _ _ _ _ _
  · simp only [resolve, hg]; simp [go_sem]
  · simp [invoke, go_sem, eg]
  -- what the loop's book-keeping is at a time
  obtain ⟨Bk, hBk⟩ : ∃ Bk : LoopState → Option Code → World → Prop, Bk = fun st pe W => W.heap[w.heap.size + 1]? = some (.loop (rc st pe)) ∧ W.heap[w.heap.size]? = some (.deferred (some [])) := ⟨_, rfl⟩
  have bkAb : ∀ st pe {A B : World} {row : Option Nat}, Bk st pe A → A.grownBy B row → (∀ r, row = some r → W1.heap.size ≤ r ∧ ∃ o : Obj, A.heap[r]? = some o ∧ o.isWalk = true) → Bk st pe B := fun st pe A B row hb hg' hr => by
    rw [hBk] at hb ⊢
    exact ⟨(grownBy_keeps hg' (fun r e => (hr r e).2) hb.1 rfl).trans hb.1, (grownBy_keeps hg' (fun r e => (hr r e).2) hb.2 rfl).trans hb.2⟩
  have nw : ∀ {A : World} {row : Option Nat}, (∀ r, row = some r → W1.heap.size ≤ r ∧ ∃ o : Obj, A.heap[r]? = some o ∧ o.isWalk = true) → (∀ r, row = some r → w.heap.size ≤ r ∧ ∃ o : Obj, A.heap[r]? = some o ∧ o.isCells = false) := fun hr r e => by
    obtain ⟨hB, o, ho, hw⟩ := hr r e
    exact ⟨by omega, o, ho, Obj.not_cells_of_walk hw⟩
  have turn : ∀ {st pe st' pe'} {A : World}, Bk st pe A → Bk st' pe' (A.putObj (w.heap.size + 1) (.loop (rc st' pe'))) := fun {st pe st' pe' A} hb => by
    rw [hBk] at hb ⊢
    exact ⟨World.putObj_heap_same (Array.getElem?_eq_some_iff.1 hb.1).1, (World.putObj_heap_other (by omega)).trans hb.2⟩
  have loopAt : ∀ {st pe} {A : World}, Bk st pe A → A.heap[w.heap.size + 1]? = some (.loop (rc st pe)) := fun hb => by rw [hBk] at hb; exact hb.1
  have defAt : ∀ {st pe} {A : World}, Bk st pe A → A.heap[w.heap.size]? = some (.deferred (some [])) := fun hb => by rw [hBk] at hb; exact hb.2
  have bk1 : Bk .ready none W1 := by rw [hBk]; exact ⟨bkL, bkD⟩
  have bkMk : ∀ {st pe} {A : World} {o : Obj}, A.heap[w.heap.size + 1]? = some o → A.heap[w.heap.size]? = some (.deferred (some [])) → Bk st pe (A.putObj (w.heap.size + 1) (.loop (rc st pe))) := fun {st pe A o} h1 h2 => by
    rw [hBk]
    exact ⟨World.putObj_heap_same (Array.getElem?_eq_some_iff.1 h1).1, (World.putObj_heap_other (by omega)).trans h2⟩
  clear hBk
  refine (hseq (w.heap.size + 1) (fun pre W => I pre W ∧ Bk .ready none W) (fun pre W => ∃ c, Ix c pre W ∧ Bk .done (some c) W) W1 b1
    (fun s A B row hs hg' hr => ⟨hI s A B row hs.1 hg' (nw hr), bkAb _ _ hs.2 hg' hr⟩)
    (fun s A B row hs hg' hr => by obtain ⟨c, h1, h2⟩ := hs; exact ⟨c, hIx c s A B row h1 hg' (nw hr), bkAb _ _ h2 hg' hr⟩)
    (fun _ _ h => h.1) ?_ ⟨i1, bk1⟩).mono ?_
  · -- one round
    rintro pre x W ⟨hi, hb⟩ hx
    have hl := loopAt hb
    have hy := run_yield (P := P) (args := encs x) hl (by rw [hrc]; exact hps x)
    rw [hrc] at hy
    refine ⟨fn, _, assign, body, hy, roundIn_of_wpIn trivial (hassign _ x W _ ⟨_, run_beginRound hl (by rw [hrc]), ?_⟩)⟩
    clear hy
    have hbusy : ({ rc .ready none with state := .busy } : Loop) = rc .busy none := by rw [hrc]
    rw [hbusy]
    have hb2 : Bk .busy none (W.putObj (w.heap.size + 1) (.loop (rc .busy none))) := turn hb
    refine wpIn_mono (hbody _ pre x _ (hI.putObj _ hi (by omega) hl rfl) ((hX pre x).putObj (s := ()) _ hx (by omega) hl rfl)) ?_
    have fin : ∀ (jump : Option Code) (V : World), KeepsFrom w.heap.size (W.putObj (w.heap.size + 1) (.loop (rc .busy none))) V →
        (Instr.endRound (w.heap.size + 1) jump).run P V = .ok (.bool jump.isNone) (V.putObj (w.heap.size + 1) (.loop (rc (if jump.isNone then .ready else .done) jump))) ∧ V.heap[w.heap.size + 1]? = some (.loop (rc .busy none)) ∧
          Bk (if jump.isNone then .ready else .done) jump (V.putObj (w.heap.size + 1) (.loop (rc (if jump.isNone then .ready else .done) jump))) := fun jump V hk => by
      have e1 := hk.same _ _ (by omega) (loopAt hb2) rfl
      have e2 := hk.same _ _ (Nat.le_refl _) (defAt hb2) rfl
      have e3 := run_endRound (P := P) jump e1
      refine ⟨by rw [hrc] at e3 ⊢; exact e3, e1, ?_⟩
      exact bkMk e1 e2
    rintro e a3 V hp
    cases e with
    | normal =>
      obtain ⟨hk, -, hi3⟩ := hp
      obtain ⟨hr, hl3, hb3⟩ := fin none V hk
      exact ⟨_, _, hr, .inl ⟨rfl, hI.putObj _ hi3 (by omega) hl3 rfl, hb3⟩⟩
    | ret =>
      obtain ⟨hk, hi3⟩ := hp
      obtain ⟨hr, hl3, hb3⟩ := fin (some .ret) V hk
      exact ⟨_, _, hr, .inr ⟨rfl, .ret, (hIx _).putObj _ hi3 (by omega) hl3 rfl, hb3⟩⟩
    | exit id =>
      obtain ⟨hk, hi3⟩ := hp
      obtain ⟨hr, hl3, hb3⟩ := fin (some (.exit id)) V hk
      exact ⟨_, _, hr, .inr ⟨rfl, .exit id, (hIx _).putObj _ hi3 (by omega) hl3 rfl, hb3⟩⟩
    | goto t =>
      obtain ⟨hk, hi3⟩ := hp
      obtain ⟨hr, hl3, hb3⟩ := fin (some (.goto t)) V hk
      exact ⟨_, _, hr, .inr ⟨rfl, .goto t, (hIx _).putObj _ hi3 (by omega) hl3 rfl, hb3⟩⟩
    | panic ch => exact hp.elim
    | outgrown => exact hp.elim
  · -- behind the iterator
    rintro e V ⟨⟨v, rfl⟩, (⟨xs, hS, hi, hb⟩ | ⟨pre, hSp, c, hi, hb⟩)⟩
    · have hl := loopAt hb
      exact ⟨none, _, by have := run_endLoop (P := P) hl (by rw [hrc]; simp); rw [hrc] at this; exact this, hdone _ xs _ (Nat.le_refl _) hS (hI.putObj _ hi (by omega) hl rfl) ((World.putObj_heap_other (by omega)).trans (defAt hb))⟩
    · have hl := loopAt hb
      exact ⟨some c, _, by have := run_endLoop (P := P) hl (by rw [hrc]; simp); rw [hrc] at this; exact this, hstop _ c pre _ (Nat.le_refl _) hSp ((hIx c).putObj _ hi (by omega) hl rfl) ((World.putObj_heap_other (by omega)).trans (defAt hb))⟩
/-- the same, where the loop is left by 'break' alone, if at all: what stands behind it is walked once -/
theorem range_law2 {α : Type} {g : Operand} {ps : Array Tmp} {assign body : Code} {Q : Exit → Act → World → Prop} {a : Act} {w : World} {gf : Nat} {lb : Array Value}
    (hg : a.eval g = .func (.func gf) #[] lb) (eg : ∀ args w, (callFunc gf args).run P w = .ok (.enter gf args) w) (encs : α → Array Value) (hps : ∀ x, (encs x).size = ps.size) (id : Nat) (Post : World → Prop)
    (I : List α → World → Prop) (Ix : Code → List α → World → Prop) (X : List α → α → World → Prop) (S Sp : List α → Prop)
    (hI : OwnFrom w.heap.size I) (hIx : ∀ c, OwnFrom w.heap.size (Ix c)) (hX : ∀ pre x, OwnFrom w.heap.size (fun (_ : Unit) W => X pre x W)) (h0 : I [] w)
    (hseq : ∀ (l : Nat) (J Jx : List α → World → Prop) (W : World), Below w.heap.size w W → AbidesFrom W.heap.size J → AbidesFrom W.heap.size Jx → (∀ pre W', J pre W' → I pre W') →
      (∀ pre x W1, J pre W1 → X pre x W1 → YieldAt Fence.wide 2 P l (encs x) W1 fun e W' => (e = .returned (.bool true) ∧ J (pre ++ [x]) W') ∨ (e = .returned (.bool false) ∧ Jx (pre ++ [x]) W')) →
      J [] W → CallsIn Fence.wide 3 P gf (#[.func (.yield l) #[] #[]] ++ lb) W fun e W' => (∃ v, e = .returned v) ∧ ((∃ xs, S xs ∧ J xs W') ∨ (∃ pre, Sp pre ∧ Jx pre W')))
    (a₁ : α → Act)
    (hassign : ∀ (l : Nat) (x : α) (W : World) (K : Act → World → Prop), K (a₁ x) W → assign.wpIn (Fence.wide.inRound l) 2 P (Exit.then K (fun _ _ _ => False)) { tmps := (ps.zip (encs x)).foldl (fun t (p, v) => t.setIfInBounds p v) a.tmps, defers := [] } W)
    (hbody : ∀ (l : Nat) (pre : List α) (x : α) (W : World), I pre W → X pre x W → body.wpIn (Fence.wide.inRound l) 2 P (ownPostG w.heap.size (fun _ _ => True) I Ix (pre ++ [x]) W) (a₁ x) W)
    (hp1 : ∀ xs W, S xs → I xs W → Post W) (hp2 : ∀ c pre W, Sp pre → Ix c pre W → c = .exit id ∧ Post W) (hx : ∀ a W, Q .normal a W → Q (.exit id) a W)
    (hafter : ∀ (D : Nat) (W : World), w.heap.size ≤ D → Post W → W.heap[D]? = some (.deferred (some [])) → Q .normal { a with defers := { target := .collected D, args := #[] } :: a.defers } W) :
    (Code.rangeFunc g ps assign body).wpIn Fence.wide 4 P Q a w :=
  range_law hg eg encs hps I Ix X S Sp hI hIx hX h0 hseq a₁ hassign hbody (fun D xs W hD hs hi hk => hafter D W hD (hp1 xs W hs hi) hk) fun D c pre W hD hs hi hk => by
    obtain ⟨rfl, hp⟩ := hp2 c pre W hs hi
    exact wpIn_exit (hx _ _ (hafter D W hD hp hk))
end law
end Go.Proofs.Ytfjeagffdijcoaa
