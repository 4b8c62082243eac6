/- Layer 9: which memory a journal's calls touch; a row of bytes on the way. -/
import Derived.Test.YtfcgmlofiaehkaaDoorJM
import Derived.Test.YtfcgmlofiaehkaaDoorJB
namespace Go.Proofs.YtfcgmlofiaehkaaDoor
open Go.RowKit

/-- of the memory of w nothing is touched but the blocks P -/
structure Tch (P : Nat → Prop) (w w' : World) : Prop where
  os : w'.os = w.os
  tape : w'.tape = w.tape
  output : w'.output = w.output
  size : w.heap.size ≤ w'.heap.size
  block : ∀ k, k < w.heap.size → ¬ P k → w'.heap[k]? = w.heap[k]?
theorem Tch.refl (P : Nat → Prop) (w : World) : Tch P w w := ⟨rfl, rfl, rfl, Nat.le_refl _, fun _ _ _ => rfl⟩
theorem Tch.trans {P Q : Nat → Prop} {w w1 w2 : World} (h1 : Tch P w w1) (h2 : Tch Q w1 w2) (hq : ∀ k, Q k → P k ∨ w.heap.size ≤ k) : Tch P w w2 :=
  ⟨h2.os.trans h1.os, h2.tape.trans h1.tape, h2.output.trans h1.output, Nat.le_trans h1.size h2.size, fun k hk hp => (h2.block k (Nat.lt_of_lt_of_le hk h1.size) (fun hqk => by
    rcases hq k hqk with h | h
    · exact hp h
    · omega)).trans (h1.block k hk hp)⟩
theorem Tch.mono {P Q : Nat → Prop} {w w1 : World} (h : Tch P w w1) (hq : ∀ k, P k → Q k) : Tch Q w w1 := ⟨h.os, h.tape, h.output, h.size, fun k hk hp => h.block k hk fun h2 => hp (hq k h2)⟩
theorem Tch.below {P : Nat → Prop} {w w1 : World} (h : Below w.heap.size w w1) : Tch P w w1 := ⟨h.os, h.tape, h.output, h.size, fun k hk _ => h.block k hk⟩
theorem Tch.drawn {P : Nat → Prop} {w w1 : World} (h : Drawn w w1) : Tch P w w1 := Tch.below (h.below _)
theorem Tch.grown {w w1 : World} {o : Option Nat} (h : w.grownBy w1 o) : Tch (fun k => o = some k) w w1 := ⟨h.os, h.tape, h.output, h.size, fun k hk hp => h.block k hk fun e => hp e.symm⟩
theorem Tch.toBelow {P : Nat → Prop} {w w1 : World} {B : Nat} (h : Tch P w w1) (hB : B ≤ w.heap.size) (hp : ∀ k, P k → B ≤ k) : Below B w w1 := ⟨h.os, h.tape, h.output, h.size, fun k hk => h.block k (Nat.lt_of_lt_of_le hk hB) fun h2 => by have := hp k h2; omega⟩
theorem Tch.box {P : Nat → Prop} {w w1 : World} {j : Nat} {o : Obj} (h : Tch P w w1) (hb : w.heap[j]? = some o) (hp : ¬ P j) : w1.heap[j]? = some o := (h.block j (Array.getElem?_eq_some_iff.1 hb).1 hp).trans hb
theorem Tch.cell {P : Nat → Prop} {w w1 : World} {p : Addr} (h : Tch P w w1) (hb : p.block < w.heap.size) (hp : ¬ P p.block) : w1.cell? p = w.cell? p := by
  unfold World.cell?; rw [h.block p.block hb hp]
theorem Tch.reads {P : Nat → Prop} {w w1 : World} {B : Nat} {A : Option Addr} {l : List Int} (h : Tch P w w1) (hR : U8s B w A l) (hB : B ≤ w.heap.size) (hp : l ≠ [] → ∀ p, A = some p → ¬ P p.block) : U8s B w1 A l := by
  by_cases hl : l = []
  · exact .inl hl
  rcases hR with hR | ⟨b, off, rfl, hb, hc⟩
  · exact .inl hR
  · exact .inr ⟨b, off, rfl, hb, fun i y hy j v hv => (h.cell (p := ⟨b, off + i * 1 + j, none⟩) (Nat.lt_of_lt_of_le hb hB) (hp hl ⟨b, off, none⟩ rfl)).trans (hc i y hy j v hv)⟩
theorem Tch.own {P : Nat → Prop} {w w1 : World} {base : Nat} {e : TypeId} {sz n : Nat} {v : Value} {xs : List Value} (h : Tch P w w1) (ho : w.ownsRow base e sz v n xs) (hp : ∀ k, v.ownBlock = some k → ¬ P k) : w1.ownsRow base e sz v n xs := by
  refine ⟨ho.1, ?_⟩
  rcases ho.2 with ho | ⟨g, cap, cur, rfl, h2, h3, rest⟩
  · exact .inl ho
  · exact .inr ⟨g, cap, cur, rfl, h2, h.box h3 (hp g rfl), rest⟩
theorem Tch.setCell {P : Nat → Prop} {w W : World} (h : Tch P w W) (a : Addr) (v : Value) (hp : P a.block ∨ w.heap.size ≤ a.block) : Tch P w (W.setCell a v) := by
  refine ⟨h.os, h.tape, h.output, by rw [World.size_setCell]; exact h.size, fun k hk hn => ?_⟩
  rw [Below.heap_setCell _ _ _ _ (fun ek => ?_)]
  · exact h.block k hk hn
  · rcases hp with hp | hp
    · exact hn (ek ▸ hp)
    · omega
theorem Tch.drew {P : Nat → Prop} {w W : World} (h : Tch P w W) : Tch P w W.drew := h.trans (Tch.drawn (P := fun _ => False) (Drawn.refl W).drew) (fun _ h => h.elim)
/-- a row of bytes on its way: begun in the block of v0, or in new memory -/
structure OnWay (w : World) (v0 : Value) (W : World) (v : Value) (l : List Int) : Prop where
  own : W.ownsRow 0 5 1 v l.length (l.flatMap u8s)
  tch : Tch (fun k => v0.ownBlock = some k) w W
  new : ∀ k, v.ownBlock = some k → v0.ownBlock = some k ∨ w.heap.size ≤ k
theorem OnWay.start {w : World} {v : Value} {l : List Int} (h : w.ownsRow 0 5 1 v l.length (l.flatMap u8s)) : OnWay w v w v l := ⟨h, Tch.refl _ _, fun _ hk => .inl hk⟩
theorem OnWay.drawn {w W W' : World} {v0 v : Value} {l : List Int} (h : OnWay w v0 W v l) (hd : Drawn W W') : OnWay w v0 W' v l :=
  ⟨(Tch.drawn (P := fun _ => False) hd).own h.own (fun _ _ => id), h.tch.trans (Tch.drawn (P := fun _ => False) hd) (fun _ h => h.elim), h.new⟩
theorem OnWay.lt {w W : World} {v0 v : Value} {l : List Int} (h : OnWay w v0 W v l) (k : Nat) (hk : v.ownBlock = some k) : k < W.heap.size := (h.own.lt k hk).2
theorem OnWay.be32 {w W : World} {v0 v : Value} {l : List Int} (h : OnWay w v0 W v l) (x : Int) (hx : isW x) (hn : l.length ≤ 1000000000) : ∀ W', Drawn W W' →
    Calls Tryd.prog 63 #[v, .int .u32 x] W' fun e w' => ∃ A c, e = .returned (.slice A (l.length + 4) c) ∧ OnWay w v0 w' (.slice A (l.length + 4) c) (l ++ be4 x) := fun W' hd => by
  have h1 := h.drawn hd
  refine (be32_any W' 0 v l.length l x hx rfl hn h1.own (Nat.zero_le _)).mono ?_
  rintro e w' ⟨v1, rfl, ho, hg, hb⟩
  have hlen : (l ++ be4 x).length = l.length + 4 := by rw [List.length_append, be4_len]
  obtain ⟨_, A, c, rfl, _, _, _⟩ := owns_reads u8s_len ho (by decide)
  refine ⟨A, c, rfl, by rw [hlen]; exact ho, h1.tch.trans (Tch.grown hg) (fun k hk => h1.new k hk), fun k hk => ?_⟩
  rcases hb with hb | ⟨b, hb, hle⟩
  · exact h1.new k (hb ▸ hk)
  · rw [hb] at hk; injection hk with hk; subst hk
    exact .inr (Nat.le_trans h1.tch.size hle)
/-- behind an append of a row that is read -/
theorem OnWay.push {w W W2 : World} {v0 v v1 : Value} {l r : List Int} {H : Nat} (h : OnWay w v0 W v l) (hown : W2.ownsRow 0 5 1 v1 (l.length + r.length) (l.flatMap u8s ++ r.flatMap u8s)) (hg : W.grownBy W2 v.ownBlock) (hat : v1.ownBlock = v.ownBlock ∨ v1.ownBlock = some H) (hH : W.heap.size ≤ H) : OnWay w v0 W2 v1 (l ++ r) := by
  refine ⟨by rw [List.length_append, List.flatMap_append]; exact hown, h.tch.trans (Tch.grown hg) (fun k hk => h.new k hk), fun k hk => ?_⟩
  rcases hat with hb | hb
  · exact h.new k (hb ▸ hk)
  · rw [hb] at hk; injection hk with hk; subst hk
    exact .inr (Nat.le_trans h.tch.size hH)
end Go.Proofs.YtfcgmlofiaehkaaDoor
