/- Layer 7: trees in memory: what lies where, and what stays when other blocks are written. -/
import Derived.Test.YtfjeagffdijcoaaTr
import Derived.Deep.RegionWith
import Derived.IntWalk
import Derived.Deep.RegionHeld3
namespace Go.Proofs.Ytfjeagffdijcoaa
open Go.RowKit

theorem wrap_mid (n : Int) (h0 : -9223372036854775808 ≤ n) (h1 : n < 9223372036854775808) : IntKind.i64.wrap n = n := IntWalk.i64_in n ⟨h0, by omega⟩

theorem run_equalIn_func_nil {P : Program} (w : World) (d : Nat) (t : TypeId) {ps rs : Array TypeId} {vd : Bool} (f : Fn) (a c : Array Value) (h : P.underlying t = some (.func ps rs vd)) : (Op.equalIn (d + 1) t (.func f a c) .nilFunc).run P w = .ok false w := by
  simp [Op.equalIn, run_underlying h]
theorem run_equal_func_nil {P : Program} (w : World) (t : TypeId) {ps rs : Array TypeId} {vd : Bool} (f : Fn) (a c : Array Value) (h : P.underlying t = some (.func ps rs vd)) : (Op.equal t (.func f a c) .nilFunc).run P w = .ok false w := run_equalIn_func_nil w 9999 t f a c h
theorem run_eql_func_nil {P : Program} (w : World) (t : TypeId) {ps rs : Array TypeId} {vd : Bool} (f : Fn) (a c : Array Value) (h : P.underlying t = some (.func ps rs vd)) : (binOp .eql t (.func f a c) .nilFunc).run P w = .ok (.bool false) w := by
  simp only [binOp]
  simp [run_equal_func_nil w t f a c h]

theorem run_equalIn_nil_func {P : Program} (w : World) (d : Nat) (t : TypeId) {ps rs : Array TypeId} {vd : Bool} (h : P.underlying t = some (.func ps rs vd)) : (Op.equalIn (d + 1) t .nilFunc .nilFunc).run P w = .ok true w := by
  simp [Op.equalIn, run_underlying h]
theorem run_equal_nil_func {P : Program} (w : World) (t : TypeId) {ps rs : Array TypeId} {vd : Bool} (h : P.underlying t = some (.func ps rs vd)) : (Op.equal t .nilFunc .nilFunc).run P w = .ok true w := run_equalIn_nil_func w 9999 t h
theorem run_eql_nil_func {P : Program} (w : World) (t : TypeId) {ps rs : Array TypeId} {vd : Bool} (h : P.underlying t = some (.func ps rs vd)) : (binOp .eql t .nilFunc .nilFunc).run P w = .ok (.bool true) w := by
  simp only [binOp]
  simp [run_equal_nil_func w t h]

/-- of the blocks that were there none but these were written -/
structure Wrote (S : Nat → Prop) (w w' : World) : Prop where
  os : w'.os = w.os
  tape : w'.tape = w.tape
  output : w'.output = w.output
  size : w.heap.size ≤ w'.heap.size
  block : ∀ k, k < w.heap.size → ¬ S k → w'.heap[k]? = w.heap[k]?
  fz : ∀ a : Addr, a.block < w.heap.size → w'.frozen? a = w.frozen? a

namespace Wrote
variable {S S' : Nat → Prop} {a w w' : World}
theorem refl (S : Nat → Prop) (w : World) : Wrote S w w := ⟨rfl, rfl, rfl, Nat.le_refl _, fun _ _ _ => rfl, fun _ _ => rfl⟩
theorem trans (h : Wrote S a w) (k : Wrote S w w') : Wrote S a w' :=
  ⟨k.os.trans h.os, k.tape.trans h.tape, k.output.trans h.output, Nat.le_trans h.size k.size, fun i hi hs => (k.block i (Nat.lt_of_lt_of_le hi h.size) hs).trans (h.block i hi hs),
    fun x hx => (k.fz x (Nat.lt_of_lt_of_le hx h.size)).trans (h.fz x hx)⟩
theorem mono (h : Wrote S w w') (hs : ∀ k, S k → S' k) : Wrote S' w w' := ⟨h.os, h.tape, h.output, h.size, fun k hk hn => h.block k hk (fun g => hn (hs k g)), h.fz⟩
/-- behind a call that writes some of these, or what is new -/
theorem step (h : Wrote S a w) (k : Wrote S' w w') (hs : ∀ x, S' x → S x ∨ a.heap.size ≤ x) : Wrote S a w' :=
  ⟨k.os.trans h.os, k.tape.trans h.tape, k.output.trans h.output, Nat.le_trans h.size k.size, fun i hi hn => (k.block i (Nat.lt_of_lt_of_le hi h.size) (fun g => by
      rcases hs i g with g | g
      · exact hn g
      · omega)).trans (h.block i hi hn),
    fun x hx => (k.fz x (Nat.lt_of_lt_of_le hx h.size)).trans (h.fz x hx)⟩
theorem drewN (h : Wrote S a w) (q : Nat) : Wrote S a (w.drewN q) := ⟨h.os, h.tape, h.output, h.size, h.block, h.fz⟩
theorem drew (h : Wrote S a w) : Wrote S a w.drew := ⟨h.os, h.tape, h.output, h.size, h.block, h.fz⟩
theorem below (h : Below w.heap.size w w') : Wrote S w w' := ⟨h.os, h.tape, h.output, h.size, fun k hk _ => h.block k hk, fun _ ha => h.frozen ha⟩
theorem alloc (h : Wrote S a w) (o : Obj) : Wrote S a (w.alloc o) := h.trans (below ((Below.refl _ _).alloc (Nat.le_refl _) o))
theorem setCell {S : Nat → Prop} {a w : World} (h : Wrote S a w) {p : Addr} (hp : S p.block ∨ a.heap.size ≤ p.block) (u : Value) : Wrote S a (w.setCell p u) :=
  ⟨h.os, h.tape, h.output, by simpa [World.setCell] using h.size, fun k hk hn => by
      rw [Below.heap_setCell _ _ _ _ (fun e => ?_)]
      · exact h.block k hk hn
      · rcases hp with hp | hp
        · exact hn (e ▸ hp)
        · omega,
    fun x hx => (World.frozen?_setCell ..).trans (h.fz x hx)⟩
theorem cell (h : Wrote S w w') {p : Addr} {v : Value} (hp : ¬ S p.block) (hc : w.cell? p = some v) : w'.cell? p = some v :=
  (World.cell?_of_block (w := w) (h.block p.block (World.block_lt_of_cell? _ _ hc) hp)).trans hc
theorem toBelow (h : Wrote S w w') (hs : ∀ x, S x → w.heap.size ≤ x) : Below w.heap.size w w' := ⟨h.os, h.tape, h.output, h.size, fun k hk => h.block k hk (fun g => by have := hs k g; omega)⟩
theorem toBelow' {B : Nat} (h : Wrote S w w') (hB : B ≤ w.heap.size) (hs : ∀ x, S x → B ≤ x) : Below B w w' := ⟨h.os, h.tape, h.output, h.size, fun k hk => h.block k (by omega) (fun g => by have := hs k g; omega)⟩
end Wrote

/-- a node: its six cells -/
structure NodeAt (w : World) (b : Nat) (k v l r : Value) (h n : Int) : Prop where
  c0 : w.cell? ⟨b, 0, none⟩ = some k
  c1 : w.cell? ⟨b, 1, none⟩ = some v
  c2 : w.cell? ⟨b, 2, none⟩ = some l
  c3 : w.cell? ⟨b, 3, none⟩ = some r
  c4 : w.cell? ⟨b, 4, none⟩ = some (.int .i64 h)
  c5 : w.cell? ⟨b, 5, none⟩ = some (.int .i64 n)
  fz : ∀ j, w.frozen? ⟨b, j, none⟩ = false

namespace NodeAt
variable {w w' : World} {b : Nat} {k v l r : Value} {h n : Int} {S : Nat → Prop}
theorem lt (a : NodeAt w b k v l r h n) : b < w.heap.size := World.block_lt_of_cell? _ _ a.c0
theorem wrote (a : NodeAt w b k v l r h n) (hw : Wrote S w w') (hs : ¬ S b) : NodeAt w' b k v l r h n :=
  ⟨hw.cell hs a.c0, hw.cell hs a.c1, hw.cell hs a.c2, hw.cell hs a.c3, hw.cell hs a.c4, hw.cell hs a.c5, fun j => (hw.fz ⟨b, j, none⟩ a.lt).trans (a.fz j)⟩
theorem drewN (a : NodeAt w b k v l r h n) (q : Nat) : NodeAt (w.drewN q) b k v l r h n := ⟨a.c0, a.c1, a.c2, a.c3, a.c4, a.c5, a.fz⟩
theorem other (a : NodeAt w b k v l r h n) {p : Addr} (hp : p.block ≠ b) (u : Value) : NodeAt (w.setCell p u) b k v l r h n :=
  a.wrote (S := fun x => x = p.block) ((Wrote.refl (fun x => x = p.block) w).setCell (p := p) (Or.inl rfl) u) (fun e => hp e.symm)
theorem set1 (a : NodeAt w b k v l r h n) (u : Value) : NodeAt (w.setCell ⟨b, 1, none⟩ u) b k u l r h n :=
  ⟨(World.cell?_setCell_other _ _ _ _ (by simp)).trans a.c0, World.cell?_setCell_same _ _ _ a.c1, (World.cell?_setCell_other _ _ _ _ (by simp)).trans a.c2, (World.cell?_setCell_other _ _ _ _ (by simp)).trans a.c3, (World.cell?_setCell_other _ _ _ _ (by simp)).trans a.c4, (World.cell?_setCell_other _ _ _ _ (by simp)).trans a.c5, fun j => (World.frozen?_setCell ..).trans (a.fz j)⟩
theorem set2 (a : NodeAt w b k v l r h n) (u : Value) : NodeAt (w.setCell ⟨b, 2, none⟩ u) b k v u r h n :=
  ⟨(World.cell?_setCell_other _ _ _ _ (by simp)).trans a.c0, (World.cell?_setCell_other _ _ _ _ (by simp)).trans a.c1, World.cell?_setCell_same _ _ _ a.c2, (World.cell?_setCell_other _ _ _ _ (by simp)).trans a.c3, (World.cell?_setCell_other _ _ _ _ (by simp)).trans a.c4, (World.cell?_setCell_other _ _ _ _ (by simp)).trans a.c5, fun j => (World.frozen?_setCell ..).trans (a.fz j)⟩
theorem set3 (a : NodeAt w b k v l r h n) (u : Value) : NodeAt (w.setCell ⟨b, 3, none⟩ u) b k v l u h n :=
  ⟨(World.cell?_setCell_other _ _ _ _ (by simp)).trans a.c0, (World.cell?_setCell_other _ _ _ _ (by simp)).trans a.c1, (World.cell?_setCell_other _ _ _ _ (by simp)).trans a.c2, World.cell?_setCell_same _ _ _ a.c3, (World.cell?_setCell_other _ _ _ _ (by simp)).trans a.c4, (World.cell?_setCell_other _ _ _ _ (by simp)).trans a.c5, fun j => (World.frozen?_setCell ..).trans (a.fz j)⟩
theorem set4 (a : NodeAt w b k v l r h n) (u : Int) : NodeAt (w.setCell ⟨b, 4, none⟩ (.int .i64 u)) b k v l r u n :=
  ⟨(World.cell?_setCell_other _ _ _ _ (by simp)).trans a.c0, (World.cell?_setCell_other _ _ _ _ (by simp)).trans a.c1, (World.cell?_setCell_other _ _ _ _ (by simp)).trans a.c2, (World.cell?_setCell_other _ _ _ _ (by simp)).trans a.c3, World.cell?_setCell_same _ _ _ a.c4, (World.cell?_setCell_other _ _ _ _ (by simp)).trans a.c5, fun j => (World.frozen?_setCell ..).trans (a.fz j)⟩
theorem set5 (a : NodeAt w b k v l r h n) (u : Int) : NodeAt (w.setCell ⟨b, 5, none⟩ (.int .i64 u)) b k v l r h u :=
  ⟨(World.cell?_setCell_other _ _ _ _ (by simp)).trans a.c0, (World.cell?_setCell_other _ _ _ _ (by simp)).trans a.c1, (World.cell?_setCell_other _ _ _ _ (by simp)).trans a.c2, (World.cell?_setCell_other _ _ _ _ (by simp)).trans a.c3, (World.cell?_setCell_other _ _ _ _ (by simp)).trans a.c4, World.cell?_setCell_same _ _ _ a.c5, fun j => (World.frozen?_setCell ..).trans (a.fz j)⟩
theorem new (w : World) (k v l r : Value) (h n : Int) (t : TypeId) : NodeAt (w.alloc (.cells #[k, v, l, r, .int .i64 h, .int .i64 n] t)) w.heap.size k v l r h n := by
  refine ⟨?_, ?_, ?_, ?_, ?_, ?_, fun j => World.frozen?_alloc_new w _ _ j⟩ <;> simp
end NodeAt

/-- a tree lies in memory -/
def Held {κ ν : Type} (ek : κ → Value) (ev : ν → Value) (w : World) : Tr κ ν → Prop
  | .nil => True
  | .node b l k v r => NodeAt w b (ek k) (ev v) l.ptr r.ptr (1 + max l.high r.high : Nat) (1 + l.many + r.many : Nat) ∧ Held ek ev w l ∧ Held ek ev w r

namespace Held
variable {κ ν : Type} {ek : κ → Value} {ev : ν → Value} {w w' : World} {t : Tr κ ν} {S : Nat → Prop}
theorem wrote (h : Held ek ev w t) (hw : Wrote S w w') (hs : ∀ x ∈ t.blocks, ¬ S x) : Held ek ev w' t := by
  induction t with
  | nil => trivial
  | node b l k v r hl hr =>
    obtain ⟨h1, h2, h3⟩ := h
    exact ⟨h1.wrote hw (hs b (by simp [Tr.blocks])), hl h2 (fun x hx => hs x (by simp [Tr.blocks, hx])), hr h3 (fun x hx => hs x (by simp [Tr.blocks, hx]))⟩
theorem drewN (h : Held ek ev w t) (q : Nat) : Held ek ev (w.drewN q) t := h.wrote (S := fun _ => False) ((Wrote.refl _ _).drewN q) (fun _ _ => id)
theorem setCell (h : Held ek ev w t) {p : Addr} (hp : p.block ∉ t.blocks) (u : Value) : Held ek ev (w.setCell p u) t :=
  h.wrote (S := fun x => x = p.block) ((Wrote.refl (fun x => x = p.block) w).setCell (p := p) (Or.inl rfl) u) (fun _ hx e => hp (e ▸ hx))
theorem below (h : Held ek ev w t) (hb : Below w.heap.size w w') : Held ek ev w' t := h.wrote (S := fun _ => False) (Wrote.below hb) (fun _ _ => id)
theorem alloc (h : Held ek ev w t) (o : Obj) : Held ek ev (w.alloc o) t := h.below ((Below.refl _ _).alloc (Nat.le_refl _) o)
theorem lt (h : Held ek ev w t) : ∀ x ∈ t.blocks, x < w.heap.size := by
  induction t with
  | nil => intro x hx; cases hx
  | node b l k v r hl hr =>
    obtain ⟨h1, h2, h3⟩ := h
    intro x hx
    simp only [Tr.blocks, List.mem_cons, List.mem_append] at hx
    rcases hx with rfl | hx | hx
    · exact h1.lt
    · exact hl h2 x hx
    · exact hr h3 x hx
end Held
end Go.Proofs.Ytfjeagffdijcoaa
