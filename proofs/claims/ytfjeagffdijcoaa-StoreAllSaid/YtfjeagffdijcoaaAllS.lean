/- Layer 7: StoreAll: where its things lie. -/
import Derived.Test.YtfjeagffdijcoaaSameT
import Derived.Test.YtfjeagffdijcoaaNoWalk
namespace Go.Proofs.Ytfjeagffdijcoaa
open Go.RowKit Go.Shelf

/-- where the things of StoreAll lie: two maps that hold the same pairs, keys as at first; the boxes apart from them -/
structure ASt (w W : World) (N3 M R : Nat) (stop ahead told : Int) (T0 : Tr Int Int) (n : Nat) (bx Ds : List Nat) (E : Nat) : Prop where
  ex : ∃ T kv vv l, Both W (w.heap.size + 3) M 76 #[] T R 0 kv vv l ∧ Tr.Same T0 T ∧ ∀ x, footB M T R kv vv x → x ∉ bx
  stp : Boxed W w.heap.size 3 (.int .i64 stop)
  ah : Boxed W (w.heap.size + 1) 3 (.int .i64 ahead)
  res : Boxed W (w.heap.size + 1 + 1) 4 (.bool false)
  bm : Boxed W N3 22 (.pointer (some ⟨M, 0, none⟩))
  br : Boxed W (N3 + 1) 32 (.pointer (some ⟨R, 0, none⟩))
  bt : Boxed W (N3 + 1 + 1) 3 (.int .i64 told)
  bel : Below w.heap.size w W
  ds : ∀ d ∈ Ds, W.heap[d]? = some (.deferred (some []))
  hN : w.heap.size + 3 ≤ N3
  b0 : N3 ∈ bx
  b1 : N3 + 1 ∈ bx
  b2 : N3 + 1 + 1 ∈ bx
  hn : T0.many = n
  nD : ∀ d ∈ Ds, N3 + 1 + 1 < d
  nd : Ds.Nodup
  dE : ∀ d ∈ Ds, d < E
  bl : ∀ b ∈ bx, b < W.heap.size

namespace ASt
variable {w W W' : World} {N3 M R : Nat} {stop ahead told : Int} {T0 : Tr Int Int} {n : Nat} {bx Ds : List Nat} {E : Nat}
theorem below (h : ASt w W N3 M R stop ahead told T0 n bx Ds E) (hb : Below W.heap.size W W') (nb : List Nat) (hnb : ∀ b ∈ nb, W.heap.size ≤ b ∧ b < W'.heap.size) : ASt w W' N3 M R stop ahead told T0 n (nb ++ bx) Ds E := by
  obtain ⟨T, kv, vv, l, h1, h2, h3⟩ := h.ex
  refine ⟨⟨T, kv, vv, l, h1.below hb, h2, fun x hx hm => ?_⟩, (hb.block _ h.stp.lt).trans h.stp, (hb.block _ h.ah.lt).trans h.ah, (hb.block _ h.res.lt).trans h.res, (hb.block _ h.bm.lt).trans h.bm, (hb.block _ h.br.lt).trans h.br, (hb.block _ h.bt.lt).trans h.bt, h.bel.trans (hb.mono h.bel.size),
    fun d hd => (hb.block _ (Array.getElem?_eq_some_iff.1 (h.ds d hd)).1).trans (h.ds d hd), h.hN, List.mem_append_right _ h.b0, List.mem_append_right _ h.b1, List.mem_append_right _ h.b2, h.hn, h.nD, h.nd, h.dE, fun b hb' => ?_⟩
  · rcases List.mem_append.1 hm with hm | hm
    · have := (hnb x hm).1; have := h1.lt x hx; omega
    · exact h3 x hx hm
  · rcases List.mem_append.1 hb' with hm | hm
    · exact (hnb b hm).2
    · exact Nat.lt_of_lt_of_le (h.bl b hm) hb.size
theorem drewN (h : ASt w W N3 M R stop ahead told T0 n bx Ds E) (q : Nat) : ASt w (W.drewN q) N3 M R stop ahead told T0 n bx Ds E := by
  have := h.below (below_drewN' (Below.refl _ W) q) [] (fun _ h => (by cases h))
  simpa using this
/-- another box is written -/
theorem other (h : ASt w W N3 M R stop ahead told T0 n bx Ds E) {b : Nat} (hb : b ∈ bx) (hN : N3 + 1 + 1 < b) (hD : b ∉ Ds) (u : Value) : ASt w (W.setCell ⟨b, 0, none⟩ u) N3 M R stop ahead told T0 n bx Ds E := by
  obtain ⟨T, kv, vv, l, h1, h2, h3⟩ := h.ex
  have hh := h.hN
  refine ⟨⟨T, kv, vv, l, h1.wrote (S := fun x => x = b) ((Wrote.refl (fun x => x = b) W).setCell (p := ⟨b, 0, none⟩) (.inl rfl) u) (fun x hx e => h3 x hx (e ▸ hb)), h2, h3⟩, h.stp.other (by omega) _, h.ah.other (by omega) _, h.res.other (by omega) _, h.bm.other (by omega) _, h.br.other (by omega) _, h.bt.other (by omega) _,
    h.bel.setCell (p := ⟨b, 0, none⟩) (by show w.heap.size ≤ b; omega) _, fun d hd => (Below.heap_setCell _ _ _ _ (fun e => hD (by have e' : d = b := e; rw [← e']; exact hd))).trans (h.ds d hd), h.hN, h.b0, h.b1, h.b2, h.hn, h.nD, h.nd, h.dE, fun b hb' => by simpa [World.setCell] using h.bl b hb'⟩
theorem told' (h : ASt w W N3 M R stop ahead told T0 n bx Ds E) (u : Int) : ASt w (W.setCell ⟨N3 + 1 + 1, 0, none⟩ (.int .i64 u)) N3 M R stop ahead u T0 n bx Ds E := by
  obtain ⟨T, kv, vv, l, h1, h2, h3⟩ := h.ex
  have hh := h.hN
  refine ⟨⟨T, kv, vv, l, h1.wrote (S := fun x => x = N3 + 1 + 1) ((Wrote.refl (fun x => x = N3 + 1 + 1) W).setCell (p := ⟨N3 + 1 + 1, 0, none⟩) (.inl rfl) _) (fun x hx e => h3 x hx (e ▸ h.b2)), h2, h3⟩, h.stp.other (by omega) _, h.ah.other (by omega) _, h.res.other (by omega) _, h.bm.other (by omega) _, h.br.other (by omega) _, h.bt.set _,
    h.bel.setCell (p := ⟨N3 + 1 + 1, 0, none⟩) (by show w.heap.size ≤ N3 + 1 + 1; omega) _, fun d hd => (Below.heap_setCell _ _ _ _ (fun e => by have e' : d = N3 + 1 + 1 := e; have := h.nD d hd; omega)).trans (h.ds d hd), h.hN, h.b0, h.b1, h.b2, h.hn, h.nD, h.nd, h.dE, fun b hb' => by simpa [World.setCell] using h.bl b hb'⟩
theorem abides (h : ASt w W N3 M R stop ahead told T0 n bx Ds E) {row : Option Nat} (hg : W.grownBy W' row) (hr : ∀ r, row = some r → E ≤ r ∧ ∃ o : Obj, W.heap[r]? = some o ∧ o.isCells = false) (hE : w.heap.size ≤ E) : ASt w W' N3 M R stop ahead told T0 n bx Ds E := by
  obtain ⟨T, kv, vv, l, h1, h2, h3⟩ := h.ex
  have bk : ∀ {b : Nat} {t : TypeId} {v : Value}, Boxed W b t v → Boxed W' b t v := fun {b t v} hb => hb.kept hg (fun e => by
    obtain ⟨_, o, ho, hc⟩ := hr b e.symm
    rw [show W.heap[b]? = _ from hb] at ho
    cases ho
    cases hc)
  exact ⟨⟨T, kv, vv, l, h1.abides hg (fun r e => (hr r e).2), h2, h3⟩, bk h.stp, bk h.ah, bk h.res, bk h.bm, bk h.br, bk h.bt, h.bel.grown hg h.bel.size (fun k hk => Nat.le_trans hE (hr k hk).1),
    fun d hd => (hg.block d (Array.getElem?_eq_some_iff.1 (h.ds d hd)).1 (fun e => by have := (hr d e.symm).1; have := h.dE d hd; omega)).trans (h.ds d hd), h.hN, h.b0, h.b1, h.b2, h.hn, h.nD, h.nd, h.dE, fun b hb' => Nat.lt_of_lt_of_le (h.bl b hb') hg.size⟩
/-- behind a Put into both -/
theorem puts (h : ASt w W N3 M R stop ahead told T0 n bx Ds E) {T T' : Tr Int Int} {kv vv kv' vv' : Value} {l l' : List (Int × Int)} (_ : Both W (w.heap.size + 3) M 76 #[] T R 0 kv vv l) (h3 : ∀ x, footB M T R kv vv x → x ∉ bx)
    (h1' : Both W' (w.heap.size + 3) M 76 #[] T' R 0 kv' vv' l') (h2' : Tr.Same T0 T') (hw : Wrote (footB M T R kv vv) W W') (hf : ∀ x, footB M T' R kv' vv' x → footB M T R kv vv x ∨ W.heap.size ≤ x) (hds : ∀ d ∈ Ds, ¬ footB M T R kv vv d) (hge : ∀ x, footB M T R kv vv x → w.heap.size + 3 ≤ x) :
    ASt w W' N3 M R stop ahead told T0 n bx Ds E := by
  have hh := h.hN
  have bk : ∀ {b : Nat} {t : TypeId} {v : Value}, ¬ footB M T R kv vv b → Boxed W b t v → Boxed W' b t v := fun {b t v} hn hb => (hw.block b hb.lt hn).trans hb
  have lo : ∀ b, b < w.heap.size + 3 → ¬ footB M T R kv vv b := fun b hb hx => by have := hge b hx; omega
  refine ⟨⟨T', kv', vv', l', h1', h2', fun x hx hm => ?_⟩, bk (lo _ (by omega)) h.stp, bk (lo _ (by omega)) h.ah, bk (lo _ (by omega)) h.res, bk (fun hx => h3 _ hx h.b0) h.bm, bk (fun hx => h3 _ hx h.b1) h.br, bk (fun hx => h3 _ hx h.b2) h.bt, ?_,
    fun d hd => (hw.block d (Array.getElem?_eq_some_iff.1 (h.ds d hd)).1 (hds d hd)).trans (h.ds d hd), h.hN, h.b0, h.b1, h.b2, h.hn, h.nD, h.nd, h.dE, fun b hb' => Nat.lt_of_lt_of_le (h.bl b hb') hw.size⟩
  · rcases hf x hx with e | e
    · exact h3 x e hm
    · have := h.bl x hm; omega
  · exact h.bel.trans (hw.toBelow' h.bel.size (fun x hx => by have := hge x hx; omega))
theorem more (h : ASt w W N3 M R stop ahead told T0 n bx Ds E) {D E' : Nat} (hD : W.heap[D]? = some (.deferred (some []))) (hN : N3 + 1 + 1 < D) (hn : ∀ d ∈ Ds, d < D) (hE : D < E') : ASt w W N3 M R stop ahead told T0 n bx (D :: Ds) E' :=
  ⟨h.ex, h.stp, h.ah, h.res, h.bm, h.br, h.bt, h.bel, fun d hd => by
    rcases List.mem_cons.1 hd with rfl | hd
    · exact hD
    · exact h.ds d hd, h.hN, h.b0, h.b1, h.b2, h.hn, fun d hd => by
    rcases List.mem_cons.1 hd with rfl | hd
    · exact hN
    · exact h.nD d hd, List.nodup_cons.2 ⟨fun hd => by have := hn D hd; omega, h.nd⟩, fun d hd => by
    rcases List.mem_cons.1 hd with rfl | hd
    · exact hE
    · have := hn d hd; omega, h.bl⟩
end ASt

section quiet
variable {P : Program} {ops : Array Oper} {l0 n : Nat} {C : World → Prop}
theorem quiet_op_in_round {o : Oper} (hd : ∀ c : Call, o.op ≠ .defer c) {a : Act} {w : World} {K : Act → Prop} {K' : Act → World → Prop} {Q : Exit → Act → World → Prop} (hw : C w) (hK : ∀ a w', C w' → K a → K' a w') (h : o.quiet P a C K) : o.wpIn (Fence.wide.inRound l0) n P a w K' Q := by
  obtain ⟨v, h1, h2⟩ := h
  have h3 := h1 w hw
  refine ⟨fun _ _ => trivial, ?_⟩
  rw [Oper.semAt_eq _ _ _ hd]
  unfold Oper.quietAt at h3
  cases hr : (execOp a.eval o).run P w with
  | halt x w' => rw [hr] at h3; exact h3.elim
  | ok nx w' =>
    rw [hr] at h3
    cases nx
    case value u => obtain ⟨rfl, rfl⟩ := h3; exact hK _ _ hw h2
    case skip => obtain ⟨rfl, rfl⟩ := h3; exact hK _ _ hw h2
    case enter f args =>
      obtain ⟨rfl, hc⟩ := h3
      refine ⟨fun e => (by cases e), (calls_in_round hc).mono ?_⟩
      rintro e w'' ⟨rfl, hw''⟩
      exact hK _ _ hw'' h2
    all_goals exact h3.elim

theorem quiet_pick_in_round {i : Nat} (hd : ∀ (i : Nat) (o : Oper), ops[i]? = some o → ∀ c : Call, o.op ≠ .defer c) {a : Act} {w : World} {K : Act → Prop} {K' : Act → World → Prop} {Q : Exit → Act → World → Prop} (hw : C w) (hK : ∀ a w', C w' → K a → K' a w') (h : qOp P ops C i K a) : wpOpIn (Fence.wide.inRound l0) n P ops Q i K' a w := by
  unfold qOp at h
  unfold wpOpIn
  cases ho : ops[i]? with
  | none => rw [ho] at h; exact hK _ _ hw h
  | some o =>
    simp only [ho] at h
    by_cases hwt : Region.wanted o (yielded ops a.tmps) = true
    · simp only [hwt, if_true] at h ⊢; exact quiet_op_in_round (hd i o ho) hw hK h
    · simp only [hwt] at h ⊢; exact ⟨fun _ _ => trivial, hK _ _ hw h⟩

theorem quiet_any_in_round {md : Region.Mode} {Qs : Act → Prop} {Q : Exit → Act → World → Prop} (hd : ∀ (i : Nat) (o : Oper), ops[i]? = some o → ∀ c : Call, o.op ≠ .defer c) (hQ : ∀ a w, C w → Qs a → Q .normal a w) :
    ∀ (fuel : Nat) (listed : Array Bool) (a : Act) (w : World), C w → wpAnyQ P md ops C Qs fuel listed a → wpAnyIn (Fence.wide.inRound l0) n P md ops Q fuel listed a w := by
  intro fuel
  induction fuel with
  | zero => intro listed a w hw h; exact ⟨h.1, hQ _ _ hw h.2⟩
  | succ fuel ih => intro listed a w hw h; exact ⟨fun h0 => hQ _ _ hw (h.1 h0), fun i hi => quiet_pick_in_round hd hw (fun a' w' hw' h' => ih _ a' w' hw' h') (h.2 i hi)⟩

theorem quiet_in_round {id : Nat} {Q : Exit → Act → World → Prop} {a : Act} {w : World} {l : List Oper} (hm : P.follows .mixedOrders = true) (hB : Region.lexB .any l.toArray = true) (hd : (l.all fun o : Oper => match o.op with | .defer _ => false | _ => true) = true)
    (h : wpQuiet P l.toArray (fun w' => ∃ n, w' = w.drewN n) (fun a' => ∀ w', (∃ n, w' = w.drewN n) → Q .normal a' w') l a) : (Code.region id l.toArray true).wpIn (Fence.wide.inRound l0) n P Q a w := by
  simp only [Region.lexB, Bool.and_eq_true] at hB
  have hnd : ∀ (i : Nat) (o : Oper), l.toArray[i]? = some o → ∀ c : Call, o.op ≠ .defer c := fun i o ho c e => by
    have := List.all_eq_true.1 hd o (List.mem_of_getElem? (by simpa using ho))
    simp [e] at this
  refine wpIn_region_any hm (quiet_any_in_round (C := fun w' => ∃ n, w' = w.drewN n) (Qs := fun a' => ∀ w', (∃ n, w' = w.drewN n) → Q .normal a' w') hnd (fun _ w' hw' h => h w' hw') _ _ _ _ ⟨1, rfl⟩ ?_)
  have := wpAnyQ_lex (C := fun w' => ∃ n, w' = w.drewN n) (md := .any) hB.1 l 0 (Array.replicate l.toArray.size false) a (by simp) (by simpa using hB.2) h
  simpa using this
theorem wpQuiet_skip {Q : Act → Prop} {a : Act} {o : Oper} {rest : List Oper} (hw : Region.wanted o (yielded ops a.tmps) = false) (h : wpQuiet P ops C Q rest (a.put o.dst undef)) : wpQuiet P ops C Q (o :: rest) a := by
  unfold wpQuiet
  rw [if_neg (by rw [hw]; decide)]
  exact h
end quiet

theorem wpStill_skip {P : Program} {ops : Array Oper} {w : World} {Q : Act → Prop} {a : Act} {o : Oper} {rest : List Oper} (hw : Region.wanted o (yielded ops a.tmps) = false) (h : wpStill P ops w Q rest (a.put o.dst undef)) : wpStill P ops w Q (o :: rest) a := by
  unfold wpStill
  rw [if_neg (by rw [hw]; decide)]
  exact h

theorem keepsOthers_wrote {S : Nat → Prop} {W W' : World} (h : Wrote S W W') (hS : ∀ x, S x → ∃ o : Obj, W.heap[x]? = some o ∧ o.isCells = true) : KeepsOthers W W' :=
  ⟨h.size, fun k o hk ho => (h.block k (Array.getElem?_eq_some_iff.1 hk).1 (fun hs => by
    obtain ⟨o', h1, h2⟩ := hS k hs
    rw [hk] at h1
    cases h1
    rw [h2] at ho
    cases ho)).trans hk⟩
end Go.Proofs.Ytfjeagffdijcoaa
