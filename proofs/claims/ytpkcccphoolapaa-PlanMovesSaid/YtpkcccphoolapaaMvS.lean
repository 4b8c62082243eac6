/- Layer 15: the reference's Moves: its five rows; what a round does to them, plain. -/
import Derived.Test.YtpkcccphoolapaaTk
import Derived.Test.YtpkcccphoolapaaMvE
namespace Go.Proofs.Ytpkcccphoolapaa
open Go.RowKit

/-! ### greatest, of numbers that agree where they count -/
theorem best_eq {n : Nat} {d d' : Nat → Int} (h : ∀ k, k < n → d k = d' k ∨ (d k ≤ 0 ∧ d' k ≤ 0)) : best n d = best n d' := by
  induction n with
  | zero => rfl
  | succ n ih =>
    have e := ih fun k hk => h k (by omega)
    have hn := h n (by omega)
    rw [best, best, ← e]
    cases e1 : best n d with
    | none => simp only; by_cases h0 : 0 < d n
              · rw [if_pos h0, if_pos (by omega)]
              · rw [if_neg h0, if_neg (by omega)]
    | some b =>
      obtain ⟨b1, b2, _⟩ := best_some e1
      have hb := h b (by omega)
      have hb' := (best_some (e.symm.trans e1)).2.1
      simp only
      by_cases h0 : d b < d n
      · rw [if_pos h0, if_pos (by omega)]
      · rw [if_neg h0, if_neg (by omega)]

/-- the owners while a move's keys are handed on one by one -/
def ownAt (ks : List Int) (f : Int → Int) (T x : Nat) (t : Int) : List Int := (List.range ks.length).map fun j => if T < j + x ∧ j ≤ T then t else f (ks[j]?.getD 0)
theorem ownAt_zero (ks : List Int) (f : Int → Int) (T : Nat) (t : Int) : ownAt ks f T 0 t = ks.map f := by
  apply List.ext_getElem?
  intro j
  unfold ownAt
  by_cases hj : j < ks.length
  · rw [List.getElem?_map, List.getElem?_range hj, Option.map_some, if_neg (by omega), List.getElem?_map, List.getElem?_eq_getElem hj]
    rfl
  · rw [List.getElem?_eq_none (by simp; omega), List.getElem?_eq_none (by simp; omega)]
theorem ownAt_succ (ks : List Int) (f : Int → Int) {T x : Nat} (t : Int) (hx : x ≤ T) : (ownAt ks f T x t).set (T - x) t = ownAt ks f T (x + 1) t := by
  apply List.ext_getElem?
  intro j
  unfold ownAt
  by_cases hj : j < ks.length
  · rw [List.getElem?_set, List.getElem?_map, List.getElem?_map, List.getElem?_range hj, Option.map_some, Option.map_some]
    by_cases e : T - x = j
    · rw [if_pos e, if_pos (by simp; omega), if_pos (by omega)]
    · rw [if_neg e]
      by_cases h2 : T < j + x ∧ j ≤ T
      · rw [if_pos h2, if_pos (by omega)]
      · rw [if_neg h2, if_neg (by omega)]
  · rw [List.getElem?_eq_none (by simp; omega), List.getElem?_eq_none (by simp; omega)]
theorem ownAt_len (ks : List Int) (f : Int → Int) (T x : Nat) (t : Int) : (ownAt ks f T x t).length = ks.length := by simp [ownAt]
/-- behind the move: the owners of the new table -/
theorem ownAt_done {H : Nat} {most : Int} {ks : List Int} {want : Nat → Int} {l l' : List Seg} {m : MoveL} {g t : Nat} {s : Seg} (hl : TabOk H l) (hH : H ≤ 16) (hI : Inc ks) (hks : ∀ k ∈ ks, 0 ≤ k ∧ k ≤ maxK) (h : StepOk H most ks want l m l' g t s) {T x : Nat} (hT : cntLe ks s.hi = T + 1) (hx : (x : Int) = m.pairs) :
    ownAt ks (hostOf l) T x (t : Int) = ks.map (hostOf l') := by
  apply List.ext_getElem?
  intro j
  unfold ownAt
  by_cases hj : j < ks.length
  · have hk : ks[j]? = some (ks[j]'hj) := List.getElem?_eq_getElem hj
    obtain ⟨k0, k1⟩ := hks _ (List.mem_of_getElem? hk)
    rw [List.getElem?_map, List.getElem?_range hj, Option.map_some, List.getElem?_map, hk, Option.map_some, Option.getD_some]
    congr 1
    have c1 := h.cut.lo0
    have c2 := h.cut.le
    have c3 := h.cut.hi
    have c4 := h.cut.cnt
    have hsg := hl.wf.seg s h.mem
    have ht := (best_some h.ti).1
    have i1 := idx_lo (lo := m.lo) hI hk
    have i2 := idx_hi (hi := m.hi) hI hk
    rw [h.lay, hostOf_with hl.wf (by omega) c2 (by omega) (by omega) (by omega) k0 k1]
    rw [c3] at c4 i2
    have e : (T < j + x ∧ j ≤ T) ↔ (m.lo ≤ ks[j]'hj ∧ ks[j]'hj ≤ m.hi) := by
      rw [c3, ← i1, ← i2]; omega
    by_cases h2 : T < j + x ∧ j ≤ T
    · rw [if_pos h2, if_pos (e.1 h2)]
    · rw [if_neg h2, if_neg (fun h3 => h2 (e.2 h3))]
  · rw [List.getElem?_eq_none (by simp; omega), List.getElem?_eq_none (by simp; omega)]

/-! ### the rows -/
structure Rows5 (B : Nat) (W : World) (lv ov wv : Value) (nw gb tb H : Nat) (L : List Seg) (out : List MoveL) (o gl tl : List Int) : Prop where
  list : OwnSegs W B lv L
  out : OwnMoves W B ov out
  own : OwnInts W B wv nw o
  give : OwnInts W B (.slice (some ⟨gb, 0, none⟩) H H) H gl
  take : OwnInts W B (.slice (some ⟨tb, 0, none⟩) H H) H tl
  gt : gb ≠ tb
  lg : lv.ownBlock ≠ some gb
  lt : lv.ownBlock ≠ some tb
  og : ov.ownBlock ≠ some gb
  ot : ov.ownBlock ≠ some tb
  wg : wv.ownBlock ≠ some gb
  wt : wv.ownBlock ≠ some tb
  lo : ∀ k, lv.ownBlock = some k → ov.ownBlock ≠ some k
  lw : ∀ k, lv.ownBlock = some k → wv.ownBlock ≠ some k
  ow : ∀ k, ov.ownBlock = some k → wv.ownBlock ≠ some k

section
variable {B : Nat} {W W' : World} {lv ov wv : Value} {nw gb tb H : Nat} {L : List Seg} {out : List MoveL} {o gl tl : List Int}
theorem Rows5.gsz (h : Rows5 B W lv ov wv nw gb tb H L out o gl tl) : (B ≤ gb ∧ gb < W.heap.size) ∧ (B ≤ tb ∧ tb < W.heap.size) := ⟨h.give.lt gb rfl, h.take.lt tb rfl⟩
theorem Rows5.under (h : Rows5 B W lv ov wv nw gb tb H L out o gl tl) (hb : Below W.heap.size W W') : Rows5 B W' lv ov wv nw gb tb H L out o gl tl :=
  ⟨own_under h.list hb, own_under h.out hb, own_under h.own hb, own_under h.give hb, own_under h.take hb, h.gt, h.lg, h.lt, h.og, h.ot, h.wg, h.wt, h.lo, h.lw, h.ow⟩
theorem Rows5.drewS (h : Rows5 B W lv ov wv nw gb tb H L out o gl tl) (q : Nat) : Rows5 B (W.drewN q) lv ov wv nw gb tb H L out o gl tl :=
  ⟨h.list, h.out, h.own, h.give, h.take, h.gt, h.lg, h.lt, h.og, h.ot, h.wg, h.wt, h.lo, h.lw, h.ow⟩
theorem own_other {W : World} {B n size j : Nat} {e : TypeId} {v y : Value} {xs : List Value} {b : Nat} (h : W.ownsRow B e size v n xs) (hb : v.ownBlock ≠ some b) : (W.setCell ⟨b, j, none⟩ y).ownsRow B e size v n xs :=
  own_keep h fun g hg => Below.heap_setCell _ _ _ _ (fun e => hb (by rw [hg, e]))
theorem Rows5.setGive (h : Rows5 B W lv ov wv nw gb tb H L out o gl tl) (i : Nat) (y : Int) : Rows5 B (W.setCell ⟨gb, i, none⟩ (.int .i64 y)) lv ov wv nw gb tb H L out o (gl.set i y) tl :=
  ⟨own_other h.list h.lg, own_other h.out h.og, own_other h.own h.wg, (OwnInts.set h.give i y).1, own_other h.take (fun e => h.gt (Option.some.inj e).symm), h.gt, h.lg, h.lt, h.og, h.ot, h.wg, h.wt, h.lo, h.lw, h.ow⟩
theorem Rows5.setTake (h : Rows5 B W lv ov wv nw gb tb H L out o gl tl) (i : Nat) (y : Int) : Rows5 B (W.setCell ⟨tb, i, none⟩ (.int .i64 y)) lv ov wv nw gb tb H L out o gl (tl.set i y) :=
  ⟨own_other h.list h.lt, own_other h.out h.ot, own_other h.own h.wt, own_other h.give (fun e => h.gt (Option.some.inj e)), (OwnInts.set h.take i y).1, h.gt, h.lg, h.lt, h.og, h.ot, h.wg, h.wt, h.lo, h.lw, h.ow⟩
theorem Rows5.setOwn {wb cw : Nat} (h : Rows5 B W lv ov (.slice (some ⟨wb, 0, none⟩) nw cw) nw gb tb H L out o gl tl) (i : Nat) (y : Int) : Rows5 B (W.setCell ⟨wb, i, none⟩ (.int .i64 y)) lv ov (.slice (some ⟨wb, 0, none⟩) nw cw) nw gb tb H L out (o.set i y) gl tl :=
  ⟨own_other h.list (fun e => h.lw _ e rfl), own_other h.out (fun e => h.ow _ e rfl), (OwnInts.set h.own i y).1, own_other h.give (fun e => h.wg e.symm), own_other h.take (fun e => h.wt e.symm), h.gt, h.lg, h.lt, h.og, h.ot, h.wg, h.wt, h.lo, h.lw, h.ow⟩
theorem Rows5.newList (h : Rows5 B W lv ov wv nw gb tb H L out o gl tl) (hb : Below W.heap.size W W') {lv' : Value} {L' : List Seg} (hB : B ≤ W.heap.size) (hl : OwnSegs W' W.heap.size lv' L') : Rows5 B W' lv' ov wv nw gb tb H L' out o gl tl := by
  have h2 := h.under hb
  have hge := own_ge hl
  exact ⟨ownsRow_mono hl hB, h2.out, h2.own, h2.give, h2.take, h.gt, fun e => by have := hge _ e; have := h.gsz; omega, fun e => by have := hge _ e; have := h.gsz; omega, h.og, h.ot, h.wg, h.wt,
    fun k e e2 => by have := hge _ e; have := (h.out.lt _ e2).2; omega, fun k e e2 => by have := hge _ e; have := (h.own.lt _ e2).2; omega, h.ow⟩
theorem Rows5.more (h : Rows5 B W lv ov wv nw gb tb H L out o gl tl) {ov' : Value} {out' : List MoveL} (ho : OwnMoves W' B ov' out') (hg : W.grownBy W' ov.ownBlock) (hat : ov'.ownBlock = ov.ownBlock ∨ ∃ b, ov'.ownBlock = some b ∧ W.heap.size ≤ b) : Rows5 B W' lv ov' wv nw gb tb H L out' o gl tl := by
  have kp : ∀ {n size : Nat} {e : TypeId} {v : Value} {xs : List Value}, W.ownsRow B e size v n xs → (∀ k, v.ownBlock = some k → ov.ownBlock ≠ some k) → W'.ownsRow B e size v n xs := fun hv hk => own_keep hv fun g hg2 => hg.block g (hv.lt g hg2).2 (fun e => hk g hg2 e.symm)
  have hne : ∀ k, k < W.heap.size → ov.ownBlock ≠ some k → ov'.ownBlock ≠ some k := fun k hk h1 e => by
    rcases hat with h2 | ⟨b, h2, h3⟩
    · exact h1 (h2.symm.trans e)
    · rw [h2] at e; injection e with e; omega
  exact ⟨kp h.list h.lo, ho, kp h.own (fun k e e2 => h.ow k e2 e), kp h.give (fun k e => by injection e with e; have e : gb = k := e; rw [← e]; exact h.og), kp h.take (fun k e => by injection e with e; have e : tb = k := e; rw [← e]; exact h.ot), h.gt, h.lg, h.lt,
    hne gb h.gsz.1.2 h.og, hne tb h.gsz.2.2 h.ot, h.wg, h.wt, fun k e => hne k (h.list.lt k e).2 (h.lo k e), h.lw, fun k e e2 => hne k (h.own.lt k e2).2 (fun e3 => h.ow k e3 e2) e⟩
end

/-- what holds between two moves of the reference -/
structure RefRun (H : Nat) (most : Int) (ks : List Int) (want : Nat → Int) (L0 : List Seg) (f : Nat) (L : List Seg) (out : List MoveL) (dg dt : Nat → Int) : Prop where
  tab : TabOk H L
  sz : L.length ≤ 8192 + 2 * out.length
  fuel : out.length + f = ks.length + 1
  all : (movesL H most ks want (ks.length + 1) L0).1 = out ++ (movesL H most ks want f L).1
  dg : ∀ h, h < H → dg h = overL ks want L h ∨ (dg h ≤ 0 ∧ overL ks want L h ≤ 0)
  dt : ∀ h, h < H → dt h = - overL ks want L h ∨ (dt h ≤ 0 ∧ - overL ks want L h ≤ 0)
theorem range_set {H : Nat} (d : Nat → Int) (i : Nat) (y : Int) : ((List.range H).map d).set i y = (List.range H).map fun h => if h = i then y else d h := by
  apply List.ext_getElem?
  intro j
  by_cases hj : j < H
  · rw [List.getElem?_set, List.getElem?_map, List.getElem?_map, List.getElem?_range hj, Option.map_some, Option.map_some]
    by_cases e : i = j
    · subst e; rw [if_pos rfl, if_pos rfl, if_pos (by simp; omega)]
    · rw [if_neg e, if_neg (fun h => e h.symm)]
  · rw [List.getElem?_eq_none (by simp; omega), List.getElem?_eq_none (by simp; omega)]
theorem RefRun.step {H : Nat} {most : Int} {ks : List Int} {want : Nat → Int} {L0 : List Seg} {f : Nat} {L : List Seg} {out : List MoveL} {dg dt : Nat → Int} (hr : RefRun H most ks want L0 (f + 1) L out dg dt) {m : MoveL} {l' : List Seg} {g t : Nat} {s : Seg} (hmv : moveStep H most ks want L = some (m, l')) (h : StepOk H most ks want L m l' g t s) :
    RefRun H most ks want L0 f l' (out ++ [m]) (fun k => if k = g then dg g - m.pairs else dg k) (fun k => if k = t then dt t - m.pairs else dt k) := by
  obtain ⟨g1, g2, _⟩ := best_some h.gi
  obtain ⟨t1, t2, _⟩ := best_some h.ti
  have hp1 := h.cut.one
  have hp2 := h.cut.most
  have hne := h.ne
  refine ⟨h.ok, by have := h.len; have := hr.sz; simp; omega, by have := hr.fuel; simp; omega, ?_, fun k hk => ?_, fun k hk => ?_⟩
  · rw [hr.all]
    conv => lhs; rw [movesL]
    rw [hmv]
    simp
  · rw [h.over k]
    have a1 := hr.dg k hk
    by_cases e : k = g
    · subst e
      rw [if_pos rfl, if_neg hne, if_pos rfl]; omega
    · rw [if_neg e, if_neg e]
      by_cases e2 : k = t
      · subst e2; rw [if_pos rfl]; omega
      · rw [if_neg e2]; omega
  · rw [h.over k]
    have a1 := hr.dt k hk
    by_cases e : k = t
    · subst e
      rw [if_pos rfl, if_pos rfl, if_neg (Ne.symm hne)]; omega
    · rw [if_neg e, if_neg e]
      by_cases e2 : k = g
      · subst e2; rw [if_pos rfl]; omega
      · rw [if_neg e2]; omega
end Go.Proofs.Ytpkcccphoolapaa
