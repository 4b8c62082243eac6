/- Layer 9: an open journal in memory. -/
import Derived.Test.YtfcgmlofiaehkaaDoorJS
import Derived.Test.YtfcgmlofiaehkaaDoorJI
namespace Go.Proofs.YtfcgmlofiaehkaaDoor
open Go.RowKit

/-- a journal, plainly: the limit, which slot is in use, the two slots' bytes, how many bytes are synced, the generation, the running sum, the records, those that wait -/
structure JL where
  limit : Int
  use : Nat
  l0 : List Int
  l1 : List Int
  synced : Nat
  gen : Int
  sum : Int
  recs : Nat
  waiting : Nat
/-- its cells -/
def jCells (J : JL) (s0 s1 : SV) : Array Value := #[.int .i64 J.limit, .slice s0.1 s0.2.1 s0.2.2, .slice s1.1 s1.2.1 s1.2.2, .int .i64 J.use, .int .i64 J.synced, .int .u64 J.gen, .int .u32 J.sum, .int .i64 J.recs, .int .i64 J.waiting, .bool false]
/-- the journal J in the box j, all its memory from lo to below hi -/
structure JAt (w : World) (lo hi : Nat) (j : Nat) (J : JL) (s0 s1 : SV) : Prop where
  box : w.heap[j]? = some (.cells (jCells J s0 s1) 120 (0, 0))
  jlo : lo ≤ j
  jhi : j < hi
  own0 : OwnB w lo s0.v J.l0
  own1 : OwnB w lo s1.v J.l1
  hi0 : ∀ k, s0.v.ownBlock = some k → k < hi
  hi1 : ∀ k, s1.v.ownBlock = some k → k < hi
  apart : ∀ k, s0.v.ownBlock = some k → s1.v.ownBlock ≠ some k
/-- a list of lists of bytes, all its memory from lo to below hi -/
def HoldsIn (w : World) (lo hi : Nat) (V : Value) (ls : List (List Int)) : Prop :=
  ∃ vs : List SV, vs.length = ls.length ∧ w.ownsRow lo 22 1 V vs.length (vs.flatMap svE) ∧ (∀ (i : Nat) (s : SV) (l : List Int), vs[i]? = some s → ls[i]? = some l → OwnB w lo s.v l) ∧
    (∀ (i j : Nat) (s t : SV) (k : Nat), i < j → vs[i]? = some s → vs[j]? = some t → s.v.ownBlock = some k → t.v.ownBlock ≠ some k) ∧
    (∀ k, V.ownBlock = some k → k < hi) ∧ ∀ (i : Nat) (s : SV) (k : Nat), vs[i]? = some s → s.v.ownBlock = some k → k < hi
theorem HoldsIn.holds {w : World} {lo hi : Nat} {V : Value} {ls : List (List Int)} (h : HoldsIn w lo hi V ls) : Holds w lo V ls := by
  obtain ⟨vs, h1, h2, h3, h4, _⟩ := h
  exact ⟨vs, h1, h2, h3, h4⟩
theorem Holds.in {w : World} {lo : Nat} {V : Value} {ls : List (List Int)} (h : Holds w lo V ls) : HoldsIn w lo w.heap.size V ls := by
  obtain ⟨vs, h1, h2, h3, h4⟩ := h
  refine ⟨vs, h1, h2, h3, h4, fun k e => (h2.lt k e).2, fun i s k hs e => ?_⟩
  have hi : i < ls.length := by have := (List.getElem?_eq_some_iff.1 hs).1; omega
  exact ((h3 i s _ hs (List.getElem?_eq_getElem hi)).lt k e).2
theorem HoldsIn.keep {w w' : World} {lo hi : Nat} {V : Value} {ls : List (List Int)} (h : HoldsIn w lo hi V ls) (hk : KeepRows w w') : HoldsIn w' lo hi V ls := by
  obtain ⟨vs, h1, h2, h3, h4, h5, h6⟩ := h
  exact ⟨vs, h1, ownB_keep row_bs h2 hk, fun i s l hs hl => ownB_keep row_u8 (h3 i s l hs hl) hk, h4, h5, h6⟩
theorem HoldsIn.wide {w : World} {lo hi hi' : Nat} {V : Value} {ls : List (List Int)} (h : HoldsIn w lo hi V ls) (hh : hi ≤ hi') : HoldsIn w lo hi' V ls := by
  obtain ⟨vs, h1, h2, h3, h4, h5, h6⟩ := h
  exact ⟨vs, h1, h2, h3, h4, fun k e => Nat.lt_of_lt_of_le (h5 k e) hh, fun i s k hs e => Nat.lt_of_lt_of_le (h6 i s k hs e) hh⟩
theorem JAt.keep {w w' : World} {lo hi j : Nat} {J : JL} {s0 s1 : SV} (h : JAt w lo hi j J s0 s1) (hk : KeepRows w w') (hj : w'.heap[j]? = w.heap[j]?) : JAt w' lo hi j J s0 s1 :=
  ⟨hj.trans h.box, h.jlo, h.jhi, ownB_keep row_u8 h.own0 hk, ownB_keep row_u8 h.own1 hk, h.hi0, h.hi1, h.apart⟩
theorem JAt.below {w w' : World} {lo hi j : Nat} {J : JL} {s0 s1 : SV} (h : JAt w lo hi j J s0 s1) (hb : Below w.heap.size w w') : JAt w' lo hi j J s0 s1 :=
  h.keep (keep_below hb) (hb.block j (Array.getElem?_eq_some_iff.1 h.box).1)

/-! ### which disks open -/
def useOf (s0 s1 : SlotL) : Nat := if s0.whole = true ∧ s1.whole = true then (if s0.gen < s1.gen then 1 else 0) else if s1.whole = true then 1 else 0
def heldAt (s0 s1 : SlotL) (i : Nat) : SlotL := if i = 0 then s0 else s1
structure OkOpen (b0 b1 : List Int) (limit : Int) : Prop where
  lim : goodLim limit = true
  len0 : (b0.length : Int) ≤ limit
  len1 : (b1.length : Int) ≤ limit
  rot0 : (scanL b0 0).2.2 = false
  rot1 : (scanL b1 1).2.2 = false
  some' : (scanL b0 0).1.whole = true ∨ (scanL b1 1).1.whole = true
  next : (scanL b0 0).1.whole = true → (scanL b1 1).1.whole = true → (heldAt (scanL b0 0).1 (scanL b1 1).1 (useOf (scanL b0 0).1 (scanL b1 1).1)).gen - 1 = (heldAt (scanL b0 0).1 (scanL b1 1).1 (1 - useOf (scanL b0 0).1 (scanL b1 1).1)).gen
/-- the journal that Open gives -/
def openJ (b0 b1 : List Int) (limit : Int) : JL :=
  let s0 := (scanL b0 0).1
  let s1 := (scanL b1 1).1
  let s := heldAt s0 s1 (useOf s0 s1)
  ⟨limit, useOf s0 s1, b0.take s0.good, b1.take s1.good, s.good, s.gen, s.sum, s.recs.length, 0⟩
def openTorn (b0 b1 : List Int) : Nat := (b0.length - (scanL b0 0).1.good) + (b1.length - (scanL b1 1).1.good)

theorem recsL_good {b : List Int} (hb : ∀ x ∈ b, isB x) (f : Nat) (acc : List (List Int)) (good : Nat) (sum : Int) (h : good ≤ b.length) : (recsL b f acc good sum).1.2.1 ≤ b.length ∧ good ≤ (recsL b f acc good sum).1.2.1 := by
  induction f generalizing acc good sum with
  | zero => exact ⟨h, Nat.le_refl _⟩
  | succ f ih =>
    unfold recsL
    cases e : recStep b good sum with
    | inl e => exact ⟨h, Nat.le_refl _⟩
    | inr p =>
      obtain ⟨r, g, s⟩ := p
      obtain ⟨g1, g2, _⟩ := recStep_good hb e
      have := ih (acc ++ [r]) g s g2
      exact ⟨this.1, Nat.le_trans (by omega) this.2⟩
theorem scanL_good {b : List Int} (hb : ∀ x ∈ b, isB x) (which : Int) : (scanL b which).1.good ≤ b.length := by
  unfold scanL
  cases headBad b which with
  | some r => exact Nat.zero_le _
  | none =>
    dsimp only
    by_cases h1 : (b.length : Int) - 20 < lenB b + 4
    · rw [if_pos h1]; exact Nat.zero_le _
    · rw [if_neg h1]
      by_cases h2 : get4 (b.drop (20 + (lenB b).toNat)) ≠ stateSum b
      · rw [if_pos h2]; exact Nat.zero_le _
      · rw [if_neg h2]
        have := (lenB_W hb).1
        exact (recsL_good hb _ _ _ _ (by omega)).1
theorem scanL_state {b : List Int} (_ : ∀ x ∈ b, isB x) (which : Int) : (scanL b which).1.state.length ≤ b.length := by
  unfold scanL
  cases headBad b which with
  | some r => exact Nat.zero_le _
  | none =>
    dsimp only
    by_cases h1 : (b.length : Int) - 20 < lenB b + 4
    · rw [if_pos h1]; exact Nat.zero_le _
    · rw [if_neg h1]
      by_cases h2 : get4 (b.drop (20 + (lenB b).toNat)) ≠ stateSum b
      · rw [if_pos h2]; exact Nat.zero_le _
      · rw [if_neg h2]
        show (stateB b).length ≤ b.length
        unfold stateB
        rw [List.length_take, List.length_drop]; omega
theorem scanL_gen {b : List Int} (hb : ∀ x ∈ b, isB x) (which : Int) (h : (scanL b which).1.whole = true) : 1 ≤ (scanL b which).1.gen ∧ (scanL b which).1.gen ≤ 18446744073709551615 := by
  unfold scanL at h ⊢
  cases hbad : headBad b which with
  | some r => rw [hbad] at h; cases h
  | none =>
    rw [hbad] at h
    dsimp only at h ⊢
    by_cases h1 : (b.length : Int) - 20 < lenB b + 4
    · rw [if_pos h1] at h; cases h
    · rw [if_neg h1] at h ⊢
      by_cases h2 : get4 (b.drop (20 + (lenB b).toNat)) ≠ stateSum b
      · rw [if_pos h2] at h; cases h
      · rw [if_neg h2]
        dsimp only
        have hr := genB_range hb
        have : headRot b which = false := by
          unfold headBad at hbad
          by_cases h3 : b.length < 20
          · rw [if_pos h3] at hbad; cases hbad
          · rw [if_neg h3] at hbad
            cases h4 : headRot b which with
            | false => rfl
            | true => rw [h4] at hbad; cases hbad
        unfold headRot at this
        simp only [decide_eq_false_iff_not, not_or] at this
        exact ⟨by have := this.2.2.1; omega, hr.2⟩
theorem box_cell {W : World} {g : Nat} {cs : Array Value} {e : TypeId} (h : W.heap[g]? = some (.cells cs e (0, 0))) (i : Nat) : W.cell? ⟨g, i, none⟩ = cs[i]? := by simp [World.cell?, h]
theorem box_fz {W : World} {g : Nat} {cs : Array Value} {e : TypeId} (h : W.heap[g]? = some (.cells cs e (0, 0))) (i : Nat) : W.frozen? ⟨g, i, none⟩ = false := by simp [World.frozen?, h]
theorem box_lt {W : World} {g : Nat} {o : Obj} (h : W.heap[g]? = some o) : g < W.heap.size := (Array.getElem?_eq_some_iff.1 h).1
theorem box_below {W W' : World} {g : Nat} {o : Obj} (h : W.heap[g]? = some o) (hb : Below W.heap.size W W') : W'.heap[g]? = some o := (hb.block g (box_lt h)).trans h
theorem two_alloc (W : World) (o1 o2 : Obj) : ((W.alloc o1).alloc o2).heap[W.heap.size]? = some o1 ∧ ((W.alloc o1).alloc o2).heap[W.heap.size + 1]? = some o2 ∧ Below W.heap.size W ((W.alloc o1).alloc o2) := by
  refine ⟨((World.grownBy_alloc _ _ none).block W.heap.size (by simp) (by simp)).trans (heap_alloc_new W _), ?_, ((Below.refl _ W).alloc (Nat.le_refl _) _).alloc (by simp) _⟩
  have := heap_alloc_new (W.alloc o1) o2
  simpa using this
theorem arr_index0 (A0 : Option Addr) (n0 c0 : Nat) (A1 : Option Addr) (n1 c1 : Nat) (W : World) : (Instr.index 23 (.agg #[.slice A0 n0 c0, .slice A1 n1 c1]) (.int .i64 0)).run Tryd.prog W = .ok (.slice A0 n0 c0) W := by
  obtain ⟨i0, hi, hzz⟩ := Option.map_eq_some_iff.1 infoBs
  simp only [Prod.mk.injEq] at hzz
  simp [Instr.index, asIntOf, sizeOf, typeInfo, hi, Result.andThen, part, isAgg, underlying, Tryd.underlying22]
theorem arr_index1 (A0 : Option Addr) (n0 c0 : Nat) (A1 : Option Addr) (n1 c1 : Nat) (W : World) : (Instr.index 23 (.agg #[.slice A0 n0 c0, .slice A1 n1 c1]) (.int .i64 1)).run Tryd.prog W = .ok (.slice A1 n1 c1) W := by
  obtain ⟨i0, hi, hzz⟩ := Option.map_eq_some_iff.1 infoBs
  simp only [Prod.mk.injEq] at hzz
  simp [Instr.index, asIntOf, sizeOf, typeInfo, hi, Result.andThen, part, hzz.2.1, isAgg, underlying, Tryd.underlying22]
end Go.Proofs.YtfcgmlofiaehkaaDoor
