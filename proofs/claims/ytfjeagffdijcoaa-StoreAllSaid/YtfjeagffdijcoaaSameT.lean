/- Layer 7: trees that differ in their values alone; All as an iterator while values change. -/
import Derived.Test.YtfjeagffdijcoaaWalT
import Derived.Test.YtfjeagffdijcoaaTrM
import Derived.Test.YtfjeagffdijcoaaBoth
namespace Go.Proofs.Ytfjeagffdijcoaa
open Go.RowKit Go.Shelf

namespace Tr
variable {κ ν : Type} {c : κ → κ → Int}
/-- two trees that differ in their values alone -/
def Same : Tr κ ν → Tr κ ν → Prop
  | nil, nil => True
  | node b l k _ r, node b' l' k' _ r' => b = b' ∧ k = k' ∧ Same l l' ∧ Same r r'
  | _, _ => False
theorem Same.refl (t : Tr κ ν) : Same t t := by
  induction t with
  | nil => trivial
  | node b l k v r hl hr => exact ⟨rfl, rfl, hl, hr⟩
theorem Same.trans {a b d : Tr κ ν} (h : Same a b) (h' : Same b d) : Same a d := by
  induction a generalizing b d with
  | nil => cases b <;> cases d <;> first | trivial | exact h.elim | exact h'.elim
  | node x l k v r hl hr =>
    cases b with
    | nil => exact h.elim
    | node x2 l2 k2 v2 r2 =>
      cases d with
      | nil => exact h'.elim
      | node x3 l3 k3 v3 r3 =>
        obtain ⟨h1, h2, h3, h4⟩ := h
        obtain ⟨g1, g2, g3, g4⟩ := h'
        exact ⟨h1.trans g1, h2.trans g2, hl h3 g3, hr h4 g4⟩
theorem Same.facts {a b : Tr κ ν} (h : Same a b) : a.high = b.high ∧ a.many = b.many ∧ a.addr = b.addr ∧ a.nodes = b.nodes ∧ a.blocks = b.blocks := by
  induction a generalizing b with
  | nil =>
    cases b with
    | nil => exact ⟨rfl, rfl, rfl, rfl, rfl⟩
    | node => exact h.elim
  | node x l k v r hl hr =>
    cases b with
    | nil => exact h.elim
    | node x2 l2 k2 v2 r2 =>
      obtain ⟨rfl, rfl, h3, h4⟩ := h
      obtain ⟨a1, a2, _, a4, a5⟩ := hl h3
      obtain ⟨b1, b2, _, b4, b5⟩ := hr h4
      exact ⟨by simp only [high, a1, b1], by simp only [many, a2, b2], rfl, by simp only [nodes, a4, b4], by simp only [blocks, a5, b5]⟩
theorem level_same {b : Nat} {l : Tr κ ν} {k : κ} {v : ν} {r : Tr κ ν} (h1 : l.high ≤ r.high + 1) (h2 : r.high ≤ l.high + 1) : level b l k v r = node b l k v r := by
  unfold level
  rw [if_neg (by omega), if_neg (by omega)]
theorem put_same (key : κ) (val : ν) (nb : Nat) {t : Tr κ ν} (hb : t.bal) (hg : (get c key t).isSome = true) : Same t (put c key val nb t) := by
  induction t with
  | nil => cases hg
  | node b l k v r hl hr =>
    obtain ⟨b1, b2, b3, b4⟩ := hb
    show Same _ (if c key k < 0 then level b (put c key val nb l) k v r else if 0 < c key k then level b l k v (put c key val nb r) else node b l k val r)
    by_cases g1 : c key k < 0
    · have hs := hl b1 (by simpa [get, g1] using hg)
      have e := hs.facts.1
      rw [if_pos g1, level_same (by omega) (by omega)]
      exact ⟨rfl, rfl, hs, Same.refl r⟩
    · by_cases g2 : 0 < c key k
      · have hs := hr b2 (by simpa [get, g1, g2] using hg)
        have e := hs.facts.1
        rw [if_neg g1, if_pos g2, level_same (by omega) (by omega)]
        exact ⟨rfl, rfl, Same.refl l, hs⟩
      · rw [if_neg g1, if_neg g2]
        exact ⟨rfl, rfl, Same.refl l, Same.refl r⟩
end Tr

namespace TI
open Tr (nodes nodes_len)
theorem links_of {w : World} {t0 t : Tr Int Int} (h : Held ek ev w t) (hs : Tr.Same t0 t) : Links w t0 := by
  induction t0 generalizing t with
  | nil => trivial
  | node b l k v r hl hr =>
    cases t with
    | nil => exact hs.elim
    | node b2 l2 k2 v2 r2 =>
      obtain ⟨rfl, rfl, h3, h4⟩ := hs
      obtain ⟨g1, g2, g3⟩ := h
      have e1 : l.ptr = l2.ptr := by show Value.pointer l.addr = Value.pointer l2.addr; rw [h3.facts.2.2.1]
      have e2 : r.ptr = r2.ptr := by show Value.pointer r.addr = Value.pointer r2.addr; rw [h4.facts.2.2.1]
      exact ⟨g1.c0, by rw [e1]; exact g1.c2, by rw [e2]; exact g1.c3, ⟨v2, g1.c1⟩, hl g2 h3, hr g3 h4⟩

theorem held_at {w : World} {t : Tr Int Int} (h : Held ek ev w t) : ∀ (i b : Nat) (k : Int), t.nodes[i]? = some (b, k) → ∃ v, t.pairs[i]? = some (k, v) ∧ w.cell? ⟨b, 1, none⟩ = some (.int .i64 v) := by
  induction t with
  | nil => intro i b k hi; simp [Tr.nodes] at hi
  | node b l k v r hl hr =>
    obtain ⟨g1, g2, g3⟩ := h
    intro i b' k' hi
    have e : l.nodes.length = l.pairs.length := by rw [nodes_len, Tr.many_pairs]
    simp only [Tr.nodes] at hi
    simp only [Tr.pairs]
    rcases Nat.lt_trichotomy i l.nodes.length with hc | hc | hc
    · rw [List.getElem?_append_left hc] at hi
      rw [List.getElem?_append_left (by omega)]
      exact hl g2 i b' k' hi
    · rw [List.getElem?_append_right (by omega), hc, Nat.sub_self] at hi
      rw [List.getElem?_append_right (by omega), show i - l.pairs.length = 0 by omega]
      simp only [List.getElem?_cons_zero, Option.some.injEq, Prod.mk.injEq] at hi
      obtain ⟨rfl, rfl⟩ := hi
      exact ⟨v, rfl, g1.c1⟩
    · obtain ⟨j, hj⟩ : ∃ j, i = l.nodes.length + (j + 1) := ⟨i - l.nodes.length - 1, by omega⟩
      rw [List.getElem?_append_right (by omega), show i - l.nodes.length = j + 1 by omega, List.getElem?_cons_succ] at hi
      rw [List.getElem?_append_right (by omega), show i - l.pairs.length = j + 1 by omega, List.getElem?_cons_succ]
      exact hr g3 j b' k' hi

theorem all_now (l Bt M : Nat) (T0 : Tr Int Int) (J Jx : List (Int × Int) → World → Prop) (W : World) (hBt : W.cell? ⟨Bt, 0, none⟩ = some (.pointer (some ⟨M, 0, none⟩))) (c1 : W.cell? ⟨M, 1, none⟩ = some T0.ptr)
    (hL : ∀ pre W, J pre W → Links W T0) (hJd : ∀ pre W q, J pre W → J pre (W.drewN q))
    (hY : ∀ pre x W, J pre W → Next T0 pre x W → YieldAt Fence.wide 2 Try.prog l #[.int .i64 x.1, .int .i64 x.2] W fun e W' => (e = .returned (.bool true) ∧ J (pre ++ [x]) W') ∨ (e = .returned (.bool false) ∧ Jx (pre ++ [x]) W'))
    (h0 : J [] W) :
    CallsIn Fence.wide 3 Try.prog 78 #[.func (.yield l) #[] #[], .pointer (some ⟨Bt, 0, none⟩)] W fun e W' => (∃ v, e = .returned v) ∧ ((∃ xs : List (Int × Int), xs.length = T0.many ∧ J xs W') ∨ (∃ pre, True ∧ Jx pre W')) := by
  refine callsIn_wide.2 ?_
  have HWK := hid (callsIn_wide.1 (walkNow_in l T0 J Jx hL (fun m pre x W hj hn => yield_any rfl m (hY pre x W hj hn)) hJd T0 [] [] 0 [] W (by simp) rfl (fun _ h => h) h0))
  clear hL hJd hY h0
  go_enter Try.func78, Try.ntmps78
  go_wp2_with fail
  refine HWK.out.mono ?_
  rintro e W1 (⟨rfl, ys, hys, hj⟩ | ⟨rfl, q, hx⟩)
  · go_wp2_with fail
    go_end0
    exact ⟨⟨_, rfl⟩, .inl ⟨ys, hys, by simpa using hj⟩⟩
  · go_wp2_with fail
    go_end0
    exact ⟨⟨_, rfl⟩, .inr ⟨q, by simpa using hx⟩⟩
end TI

/-- the blocks that both are in hold cells -/
theorem cell_cells {w : World} {p : Addr} {v : Value} (h : w.cell? p = some v) : ∃ o, w.heap[p.block]? = some o ∧ o.isCells = true := by
  unfold World.cell? at h
  cases ho : w.heap[p.block]? with
  | none => simp [ho] at h
  | some o =>
    refine ⟨o, rfl, ?_⟩
    cases o <;> first | rfl | (simp [ho] at h)

namespace Both
variable {W W' : World} {B M g : Nat} {cb : Array Value} {T : Tr Int Int} {R : Nat} {which : Int} {kv vv : Value} {l : List (Int × Int)}
theorem held_cells {w : World} {t : Tr Int Int} (h : Held TI.ek TI.ev w t) : ∀ x ∈ t.blocks, ∃ o, w.heap[x]? = some o ∧ o.isCells = true := by
  induction t with
  | nil => intro x hx; cases hx
  | node b l k v r hl hr =>
    obtain ⟨g1, g2, g3⟩ := h
    intro x hx
    simp only [Tr.blocks, List.mem_cons, List.mem_append] at hx
    rcases hx with rfl | hx | hx
    · exact cell_cells g1.c0
    · exact hl g2 x hx
    · exact hr g3 x hx
theorem own_cells {w : World} {B : Nat} {e : TypeId} {size n : Nat} {v : Value} {xs : List Value} (h : w.ownsRow B e size v n xs) : ∀ x, v.ownBlock = some x → ∃ o, w.heap[x]? = some o ∧ o.isCells = true := by
  intro x hx
  rcases h.2 with ⟨rfl, _⟩ | ⟨g, cap, cur, rfl, _, hh, _⟩
  · cases hx
  · cases hx; exact ⟨_, hh, rfl⟩
theorem cells (h : Both W B M g cb T R which kv vv l) : ∀ x, footB M T R kv vv x → ∃ o, W.heap[x]? = some o ∧ o.isCells = true := by
  rintro x ((rfl | hx) | (rfl | hx | hx))
  · exact cell_cells h.mp.ord
  · exact held_cells h.mp.held x hx
  · exact cell_cells h.rf.c0
  · exact own_cells h.rf.ks x hx
  · exact own_cells h.rf.vs x hx
theorem own_keeps {w w' : World} {B : Nat} {e : TypeId} {size n : Nat} {v : Value} {xs : List Value} (h : w.ownsRow B e size v n xs) (hk : ∀ x, v.ownBlock = some x → w'.heap[x]? = w.heap[x]?) : w'.ownsRow B e size v n xs := by
  refine ⟨h.1, ?_⟩
  rcases h.2 with hz | ⟨g, cap, cur, hv, hb, hh, rest⟩
  · exact .inl hz
  · exact .inr ⟨g, cap, cur, hv, hb, (hk g (by rw [hv]; rfl)).trans hh, rest⟩
theorem keeps (h : Both W B M g cb T R which kv vv l) (hk : ∀ x, footB M T R kv vv x → W'.heap[x]? = W.heap[x]?) : Both W' B M g cb T R which kv vv l := by
  have hR := hk R (.inr (.inl rfl))
  refine ⟨IsMap_keeps (P := fun x => footB M T R kv vv x) h.mp hk (.inl (.inl rfl)) (fun x hx => .inl (.inr hx)), ⟨?_, ?_, ?_, fun j => ?_, own_keeps h.rf.ks (fun x hx => hk x (.inr (.inr (.inl hx)))), own_keeps h.rf.vs (fun x hx => hk x (.inr (.inr (.inr hx)))), h.rf.hk, h.rf.hv, h.rf.ne⟩, h.pr, h.up, h.mB, h.tB, h.rB, h.apart⟩
  · exact (World.cell?_of_block (w := W) (a := ⟨R, 0, none⟩) hR).trans h.rf.c0
  · exact (World.cell?_of_block (w := W) (a := ⟨R, 1, none⟩) hR).trans h.rf.c1
  · exact (World.cell?_of_block (w := W) (a := ⟨R, 2, none⟩) hR).trans h.rf.c2
  · exact (World.frozen?_of_block (a := ⟨R, j, none⟩) hR).trans (h.rf.fz j)
theorem abides (h : Both W B M g cb T R which kv vv l) {row : Option Nat} (hg : W.grownBy W' row) (hr : ∀ r, row = some r → ∃ o : Obj, W.heap[r]? = some o ∧ o.isCells = false) : Both W' B M g cb T R which kv vv l :=
  h.keeps fun x hx => by
    obtain ⟨o, ho, hc⟩ := h.cells x hx
    refine hg.block x (Array.getElem?_eq_some_iff.1 ho).1 (fun e => ?_)
    obtain ⟨o', ho', hc'⟩ := hr x e.symm
    rw [ho] at ho'
    cases ho'
    rw [hc] at hc'
    cases hc'
end Both
end Go.Proofs.Ytfjeagffdijcoaa
