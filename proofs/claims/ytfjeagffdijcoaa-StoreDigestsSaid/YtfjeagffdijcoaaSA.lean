/- Layer 7: the shelf: its values in memory. Layer 7: the shelf in memory; NewShelf, Len, Bytes, Get. Layer 7: the shelf: Len, Bytes, Get, Set. Layer 7: the shelf: Set. Layer 7: the shelf: Delete, Count, Nth. -/
import Derived.Test.YtfjeagffdijcoaaClo
import Derived.Test.YtfjeagffdijcoaaUb
import Derived.Test.YtfjeagffdijcoaaTo
import Derived.Test.YtfjeagffdijcoaaPlaP
import Derived.Test.YtfjeagffdijcoaaRefA
import Derived.Test.YtfjeagffdijcoaaWk
import Derived.StillTailTactics
import Derived.BigQuiet
namespace Go.Proofs.Ytfjeagffdijcoaa
open Go.RowKit TU

/-- the pairs' values lie in memory as these bytes -/
def ValsOf (w : World) (B : Nat) : List (Int × SV) → List (Int × List Int) → Prop
  | [], [] => True
  | (k, v) :: r, (k', bs) :: s => k = k' ∧ w.ownsRow B 5 1 (ev v) bs.length (bs.flatMap u8s) ∧ (∀ x ∈ bs, 0 ≤ x ∧ x ≤ 255) ∧ ValsOf w B r s
  | _, _ => False

namespace ValsOf
variable {w w' : World} {B : Nat} {r : List (Int × SV)} {s : List (Int × List Int)} {c : Int → Int → Int}
theorem keys (h : ValsOf w B r s) : r.map Prod.fst = s.map Prod.fst := by
  induction r generalizing s with
  | nil => cases s with
    | nil => rfl
    | cons => exact h.elim
  | cons p r ih =>
    cases s with
    | nil => exact h.elim
    | cons q s =>
      obtain ⟨h1, _, _, h4⟩ := h
      simp [h1, ih h4]
theorem len (h : ValsOf w B r s) : r.length = s.length := by
  have := congrArg List.length h.keys
  simpa using this
/-- they go on lying so where none of their blocks is written -/
theorem keeps (h : ValsOf w B r s) (hk : ∀ p ∈ r, ∀ g, (ev p.2).ownBlock = some g → w'.heap[g]? = w.heap[g]?) : ValsOf w' B r s := by
  induction r generalizing s with
  | nil => cases s with
    | nil => trivial
    | cons => exact h.elim
  | cons p r ih =>
    cases s with
    | nil => exact h.elim
    | cons q s =>
      obtain ⟨h1, h2, h3, h4⟩ := h
      refine ⟨h1, ?_, h3, ih h4 (fun x hx => hk x (by simp [hx]))⟩
      refine ⟨h2.1, ?_⟩
      rcases h2.2 with hz | ⟨g, cap, cur, hv, hb, hh, rest⟩
      · exact .inl hz
      · exact .inr ⟨g, cap, cur, hv, hb, (hk p (by simp) g (by rw [hv]; rfl)).trans hh, rest⟩
theorem put (h : ValsOf w B r s) (key : Int) (v : SV) (bs : List Int) (hv : w.ownsRow B 5 1 (ev v) bs.length (bs.flatMap u8s)) (hb : ∀ x ∈ bs, 0 ≤ x ∧ x ≤ 255) : ValsOf w B (putL c key v r) (putL c key bs s) := by
  induction r generalizing s with
  | nil => cases s with
    | nil => exact ⟨rfl, hv, hb, trivial⟩
    | cons => exact h.elim
  | cons p r ih =>
    cases s with
    | nil => exact h.elim
    | cons q s =>
      obtain ⟨k, x⟩ := p
      obtain ⟨k', y⟩ := q
      obtain ⟨rfl, h2, h3, h4⟩ := h
      simp only [putL]
      split
      · exact ⟨rfl, hv, hb, rfl, h2, h3, h4⟩
      · split
        · exact ⟨rfl, h2, h3, ih h4⟩
        · exact ⟨rfl, hv, hb, h4⟩
theorem cut (h : ValsOf w B r s) (key : Int) : ValsOf w B (cutP c key r) (cutP c key s) := by
  induction r generalizing s with
  | nil => cases s with
    | nil => trivial
    | cons => exact h.elim
  | cons p r ih =>
    cases s with
    | nil => exact h.elim
    | cons q s =>
      obtain ⟨k, x⟩ := p
      obtain ⟨k', y⟩ := q
      obtain ⟨rfl, h2, h3, h4⟩ := h
      simp only [cutP]
      split
      · exact ⟨rfl, h2, h3, h4⟩
      · split
        · exact ⟨rfl, h2, h3, ih h4⟩
        · exact h4
theorem get (h : ValsOf w B r s) (key : Int) : (getL c key r = none ∧ getL c key s = none) ∨ ∃ v bs, getL c key r = some v ∧ getL c key s = some bs ∧ w.ownsRow B 5 1 (ev v) bs.length (bs.flatMap u8s) ∧ (∀ x ∈ bs, 0 ≤ x ∧ x ≤ 255) := by
  induction r generalizing s with
  | nil => cases s with
    | nil => exact .inl ⟨rfl, rfl⟩
    | cons => exact h.elim
  | cons p r ih =>
    cases s with
    | nil => exact h.elim
    | cons q s =>
      obtain ⟨k, x⟩ := p
      obtain ⟨k', y⟩ := q
      obtain ⟨rfl, h2, h3, h4⟩ := h
      simp only [getL]
      split
      · exact .inl ⟨rfl, rfl⟩
      · split
        · exact ih h4
        · exact .inr ⟨x, y, rfl, rfl, h2, h3⟩
end ValsOf
end Go.Proofs.Ytfjeagffdijcoaa
namespace Go.Proofs.Ytfjeagffdijcoaa
open Go.RowKit

/-- how many bytes the values have -/
def total (L : List (Int × List Int)) : Nat := (L.map fun p => p.2.length).sum
theorem total_cons (p : Int × List Int) (L : List (Int × List Int)) : total (p :: L) = p.2.length + total L := by simp [total]
theorem total_put (c : Int → Int → Int) (key : Int) (bs : List Int) (L : List (Int × List Int)) : total (putL c key bs L) + ((getL c key L).getD []).length = total L + bs.length := by
  induction L with
  | nil => simp [putL, getL, total]
  | cons p L ih =>
    obtain ⟨k, x⟩ := p
    simp only [putL, getL]
    split
    · simp [total_cons]; omega
    · split
      · rw [total_cons, total_cons]; dsimp only; omega
      · simp [total_cons]; omega
theorem total_cut (c : Int → Int → Int) (key : Int) (L : List (Int × List Int)) : total (cutP c key L) + ((getL c key L).getD []).length = total L := by
  induction L with
  | nil => simp [cutP, getL, total]
  | cons p L ih =>
    obtain ⟨k, x⟩ := p
    simp only [cutP, getL]
    split
    · simp
    · split
      · rw [total_cons, total_cons]; dsimp only; omega
      · simp [total_cons]; omega
theorem total_le {L : List (Int × List Int)} (h : ∀ p ∈ L, p.2.length ≤ 64) : total L ≤ 64 * L.length := by
  induction L with
  | nil => simp [total]
  | cons p L ih =>
    have h1 := h p (by simp)
    have h2 := ih (fun q hq => h q (by simp [hq]))
    rw [total_cons, List.length_cons]
    omega
theorem putL_len (c : Int → Int → Int) (key : Int) (bs : List Int) (L : List (Int × List Int)) : (putL c key bs L).length = L.length + (if (getL c key L).isSome then 0 else 1) := by
  induction L with
  | nil => simp [putL, getL]
  | cons p L ih =>
    obtain ⟨k, x⟩ := p
    simp only [putL, getL]
    split
    · simp
    · split
      · rw [List.length_cons, List.length_cons, ih]; omega
      · simp
theorem cutP_mem {κ ν : Type} {c : κ → κ → Int} {key : κ} {l : List (κ × ν)} {p : κ × ν} (h : p ∈ cutP c key l) : p ∈ l := (cutP_sub key l).subset h
theorem getL_mem' {κ ν : Type} {c : κ → κ → Int} {key : κ} {l : List (κ × ν)} {v : ν} (h : getL c key l = some v) : ∃ k, c key k = 0 ∧ (k, v) ∈ l := by
  induction l with
  | nil => cases h
  | cons p l ih =>
    obtain ⟨k, x⟩ := p
    simp only [getL] at h
    split at h
    · cases h
    · split at h
      · obtain ⟨k', h1, h2⟩ := ih h
        exact ⟨k', h1, by simp [h2]⟩
      · cases h
        exact ⟨k, by omega, by simp⟩

/-- a shelf: where it lies, its map, its tree, its pairs; P: the blocks that are its own -/
structure ShelfAt (w : World) (S M : Nat) (T : Tr Int TU.SV) (most : Int) (P : Nat → Prop) (L : List (Int × List Int)) : Prop where
  c0 : w.cell? ⟨S, 0, none⟩ = some (.pointer (some ⟨M, 0, none⟩))
  c1 : w.cell? ⟨S, 1, none⟩ = some (.int .i64 most)
  c2 : w.cell? ⟨S, 2, none⟩ = some (.int .i64 (total L : Nat))
  fz : w.frozen? ⟨S, 2, none⟩ = false
  map : TU.IsMap w M 134 #[] T
  up : Up TI.cmpI T.pairs
  vals : ValsOf w 0 T.pairs L
  sm : S ≠ M
  st : S ∉ T.blocks
  own : ∀ p ∈ T.pairs, ∀ g, (TU.ev p.2).ownBlock = some g → P g ∧ g ≠ S ∧ g ≠ M ∧ g ∉ T.blocks
  pS : P S
  pM : P M
  pT : ∀ x ∈ T.blocks, P x
  lt : ∀ x, P x → x < w.heap.size
  few : (L.length : Int) ≤ most
  most : most ≤ 32768
  small : ∀ p ∈ L, p.2.length ≤ 64 ∧ 0 ≤ p.1 ∧ p.1 ≤ 18446744073709551615

def IsShelf (w : World) (S : Nat) (most : Int) (P : Nat → Prop) (L : List (Int × List Int)) : Prop := ∃ M T, ShelfAt w S M T most P L

/-- the blocks of a shelf behind a call that may have made new ones -/
def Grown (P : Nat → Prop) (w w' : World) (x : Nat) : Prop := P x ∨ (w.heap.size ≤ x ∧ x < w'.heap.size)

namespace ShelfAt
variable {w w' : World} {S M : Nat} {T : Tr Int TU.SV} {most : Int} {P Q : Nat → Prop} {L : List (Int × List Int)}
theorem wrote (h : ShelfAt w S M T most P L) (hw : Wrote Q w w') (hq : ∀ x, P x → ¬ Q x) : ShelfAt w' S M T most P L where
  c0 := hw.cell (hq S h.pS) h.c0
  c1 := hw.cell (hq S h.pS) h.c1
  c2 := hw.cell (hq S h.pS) h.c2
  fz := (hw.fz ⟨S, 2, none⟩ (h.lt S h.pS)).trans h.fz
  map := h.map.wrote hw (hq M h.pM) (fun x hx => hq x (h.pT x hx))
  up := h.up
  vals := h.vals.keeps fun p hp g hg => hw.block g (h.lt g (h.own p hp g hg).1) (hq g (h.own p hp g hg).1)
  sm := h.sm
  st := h.st
  own := h.own
  pS := h.pS
  pM := h.pM
  pT := h.pT
  lt x hx := Nat.lt_of_lt_of_le (h.lt x hx) hw.size
  few := h.few
  most := h.most
  small := h.small
theorem below (h : ShelfAt w S M T most P L) (hb : Below w.heap.size w w') : ShelfAt w' S M T most P L := h.wrote (Q := fun _ => False) (Wrote.below hb) (fun _ _ => id)
theorem drewN (h : ShelfAt w S M T most P L) (q : Nat) : ShelfAt (w.drewN q) S M T most P L := h.wrote (Q := fun _ => False) ((Wrote.refl _ w).drewN q) (fun _ _ => id)
theorem grow (h : ShelfAt w S M T most P L) (hp : ∀ x, P x → Q x) (hl : ∀ x, Q x → x < w.heap.size) : ShelfAt w S M T most Q L :=
  { h with own := fun p hp' g hg => ⟨hp g (h.own p hp' g hg).1, (h.own p hp' g hg).2⟩, pS := hp S h.pS, pM := hp M h.pM, pT := fun x hx => hp x (h.pT x hx), lt := hl }
theorem len (h : ShelfAt w S M T most P L) : T.many = L.length := by rw [Tr.many_pairs]; exact h.vals.len
theorem many (h : ShelfAt w S M T most P L) : T.many ≤ 32768 := by have := h.len; have := h.few; have := h.most; omega
theorem tot (h : ShelfAt w S M T most P L) : total L ≤ 2097152 := by
  have := total_le (fun p hp => (h.small p hp).1)
  have := h.few; have := h.most; omega
theorem get (h : ShelfAt w S M T most P L) (key : Int) : Tr.get TI.cmpI key T = getL TI.cmpI key T.pairs := Tr.get_pairs TI.cmpI_ord key h.up
/-- what Get and Put and Delete tell -/
theorem told (h : ShelfAt w S M T most P L) (key : Int) : (Tr.get TI.cmpI key T).isSome = (getL TI.cmpI key L).isSome ∧
    ((Tr.get TI.cmpI key T).getD ((none, 0, 0) : TU.SV)).2.1 = ((getL TI.cmpI key L).getD []).length ∧ w.ownsRow 0 5 1 (TU.ev ((Tr.get TI.cmpI key T).getD ((none, 0, 0) : TU.SV))) ((getL TI.cmpI key L).getD []).length (((getL TI.cmpI key L).getD []).flatMap u8s) ∧
    (∀ x ∈ (getL TI.cmpI key L).getD [], 0 ≤ x ∧ x ≤ 255) ∧ ((getL TI.cmpI key L).getD []).length ≤ 64 ∧
    (∀ g, (TU.ev ((Tr.get TI.cmpI key T).getD ((none, 0, 0) : TU.SV))).ownBlock = some g → P g) := by
  rw [h.get]
  rcases h.vals.get (c := TI.cmpI) key with ⟨e1, e2⟩ | ⟨v, bs, e1, e2, e3, e4⟩
  · rw [e1, e2]
    exact ⟨rfl, rfl, World.ownsRow_nil _ _ _ _, by simp, by simp, by simp [Value.ownBlock]⟩
  · rw [e1, e2]
    obtain ⟨k, _, hk⟩ := getL_mem' e1
    obtain ⟨k', _, hk'⟩ := getL_mem' e2
    refine ⟨rfl, ?_, e3, e4, (h.small _ hk').1, fun g hg => (h.own _ hk g hg).1⟩
    rcases e3.2 with ⟨hz, h0⟩ | ⟨g, cap, cur, hv, _⟩
    · simp only [Option.getD_some]
      have : v = (none, 0, 0) := by simpa [TU.ev, Prod.ext_iff] using hz
      rw [this]; simp [h0]
    · have : v.2.1 = bs.length := by
        have := congrArg (fun x => match x with | Value.slice _ n _ => n | _ => 0) hv
        simpa using this
      simpa using this
end ShelfAt

namespace IsShelf
variable {w w' : World} {S : Nat} {most : Int} {P Q : Nat → Prop} {L : List (Int × List Int)}
theorem wrote (h : IsShelf w S most P L) (hw : Wrote Q w w') (hq : ∀ x, P x → ¬ Q x) : IsShelf w' S most P L := by
  obtain ⟨M, T, h⟩ := h
  exact ⟨M, T, h.wrote hw hq⟩
theorem below (h : IsShelf w S most P L) (hb : Below w.heap.size w w') : IsShelf w' S most P L := h.wrote (Q := fun _ => False) (Wrote.below hb) (fun _ _ => id)
theorem drewN (h : IsShelf w S most P L) (q : Nat) : IsShelf (w.drewN q) S most P L := h.wrote (Q := fun _ => False) ((Wrote.refl _ w).drewN q) (fun _ _ => id)
theorem lt (h : IsShelf w S most P L) : ∀ x, P x → x < w.heap.size := by
  obtain ⟨M, T, h⟩ := h
  exact h.lt
theorem few (h : IsShelf w S most P L) : (L.length : Int) ≤ most ∧ most ≤ 32768 := by
  obtain ⟨M, T, h⟩ := h
  exact ⟨h.few, h.most⟩
theorem up (h : IsShelf w S most P L) : Up TI.cmpI L := by
  obtain ⟨M, T, h⟩ := h
  have h1 := h.up
  unfold Up at h1 ⊢
  have h2 : (T.pairs.map Prod.fst).Pairwise fun a b => TI.cmpI a b < 0 := List.pairwise_map.2 h1
  rw [h.vals.keys] at h2
  exact List.pairwise_map.1 h2
theorem small (h : IsShelf w S most P L) : ∀ p ∈ L, p.2.length ≤ 64 ∧ 0 ≤ p.1 ∧ p.1 ≤ 18446744073709551615 := by
  obtain ⟨M, T, h⟩ := h
  exact h.small
end IsShelf

theorem newShelf_any (w : World) (most : Int) (h0 : 0 ≤ most) (h1 : most ≤ 32768) :
    Calls Try.prog 36 #[.int .i64 most] w fun e w' => ∃ S, e = .returned (.tuple #[.pointer (some ⟨S, 0, none⟩), .int .i64 0]) ∧ IsShelf w' S most (fun x => w.heap.size ≤ x ∧ x < w'.heap.size) [] ∧ Below w.heap.size w w' := by
  have b0 : decide (most < 0) = false := by simpa using h0
  have b1 : decide (most > 32768) = false := by simpa using h1
  have b2 : decide (32768 < most) = false := by simpa using h1
  have H0 := hid h0
  have H1 := hid h1
  clear h0 h1
  go_enter Try.func36, Try.ntmps36
  go_wp2_with (go_at_call 92; refine (TU.newOrdered_any w).mono ?_; rintro e w1 ⟨rfl, hM, hb⟩; have HM := hid hM; have HB := hid hb; clear hM hb)
  go_ret2
  have hsz := HB.out.size
  have hl := HM.out.lt
  have hM2 := HM.out.below ((Below.refl _ w1).alloc (Nat.le_refl _) (.cells #[.pointer (some ⟨w.heap.size, 0, none⟩), .int .i64 most, .int .i64 0] 153))
  refine ⟨w1.heap.size, rfl, ⟨w.heap.size, .nil, ?_⟩, HB.out.alloc (by omega) _⟩
  refine ⟨by simp, by simp, by simp [total], World.frozen?_alloc_new w1 _ _ 2, hM2, List.Pairwise.nil, trivial, by omega, by simp [Tr.blocks], by simp [Tr.pairs], ⟨by omega, by simp⟩, ⟨Nat.le_refl _, by simp; omega⟩, by simp [Tr.blocks], fun x hx => hx.2, by simpa using H0.out, H1.out, by simp⟩
end Go.Proofs.Ytfjeagffdijcoaa
namespace Go.Proofs.Ytfjeagffdijcoaa
open Go.RowKit

theorem later {w wx : World} {a : Addr} {v : Value} (hb : Below w.heap.size w wx) (h : w.cell? a = some v) : wx.cell? a = some v := (hb.cell (World.block_lt_of_cell? _ _ h)).trans h
theorem ownsRow_zero {w : World} {B size n : Nat} {e : TypeId} {v : Value} {xs : List Value} (h : w.ownsRow B e size v n xs) : w.ownsRow 0 e size v n xs :=
  ⟨h.1, h.2.imp id fun ⟨g, cap, cur, e1, _, r⟩ => ⟨g, cap, cur, e1, Nat.zero_le _, r⟩⟩

theorem ownsRow_ev {w : World} {B : Nat} {v : TU.SV} {bs : List Int} (h : w.ownsRow B 5 1 (TU.ev v) bs.length (bs.flatMap u8s)) : ∃ A c, v = (A, bs.length, c) ∧ (A = none → bs.length = 0 ∧ c = 0) ∧ U8s w.heap.size w A bs := by
  obtain ⟨_, A, c, e, _, _, hr⟩ := owns_reads u8s_len h (by decide)
  obtain ⟨v1, v2, v3⟩ := v
  have e' : v1 = A ∧ v2 = bs.length ∧ v3 = c := by simpa [TU.ev] using e
  obtain ⟨rfl, rfl, rfl⟩ := e'
  refine ⟨v1, v3, rfl, ?_, hr⟩
  rintro rfl
  rcases h.2 with ⟨hz, h0⟩ | ⟨g, cap, cur, hv, _⟩
  · have : bs.length = 0 ∧ v3 = 0 := by simpa [TU.ev] using hz
    exact this
  · simp [TU.ev] at hv

namespace ShelfAt
variable {w w' : World} {S M : Nat} {T : Tr Int TU.SV} {most : Int} {P Q : Nat → Prop} {L : List (Int × List Int)}
theorem told2 (h : ShelfAt w S M T most P L) (key : Int) : ∃ A c, (Tr.get TI.cmpI key T).getD ((none, 0, 0) : TU.SV) = (A, ((getL TI.cmpI key L).getD []).length, c) ∧
    (A = none → ((getL TI.cmpI key L).getD []).length = 0 ∧ c = 0) ∧ U8s w.heap.size w A ((getL TI.cmpI key L).getD []) := by
  obtain ⟨A, c, h1, h2, h3⟩ := ownsRow_ev (h.told key).2.2.1
  exact ⟨A, c, h1, h2, h3⟩

/-- behind Set -/
theorem set (h : ShelfAt w S M T most P L) {W2 W3 : World} {nb : Nat} {v : TU.SV} {key : Int} {bs : List Int} (hb : Below w.heap.size w W2) (hv : W2.ownsRow w.heap.size 5 1 (TU.ev v) bs.length (bs.flatMap u8s))
    (hbs : ∀ x ∈ bs, 0 ≤ x ∧ x ≤ 255) (hl : bs.length ≤ 64) (hk : 0 ≤ key ∧ key ≤ 18446744073709551615) (hnb : W2.heap.size ≤ nb) (hM : TU.IsMap W3 M 134 #[] (Tr.put TI.cmpI key v nb T))
    (hw : Wrote (fun x => x = M ∨ x ∈ T.blocks) W2 W3) (hroom : (getL TI.cmpI key L).isSome ∨ (L.length : Int) < most) :
    ShelfAt (W3.setCell ⟨S, 2, none⟩ (.int .i64 (total (putL TI.cmpI key bs L) : Nat))) S M (Tr.put TI.cmpI key v nb T) most (Grown P w W3) (putL TI.cmpI key bs L) ∧
      Wrote P w (W3.setCell ⟨S, 2, none⟩ (.int .i64 (total (putL TI.cmpI key bs L) : Nat))) := by
  have hsz := hb.size
  have hsz3 := hw.size
  have h2 := h.below hb
  have hMlt := h.lt M h.pM
  have hSlt := h.lt S h.pS
  have hn : ¬ (S = M ∨ S ∈ T.blocks) := by
    rintro (e | e)
    · exact h.sm e
    · exact h.st e
  have hT : ∀ x ∈ (Tr.put TI.cmpI key v nb T).blocks, x = nb ∨ x ∈ T.blocks := Tr.put_mem key v nb T
  have hTlt := hM.held.lt
  have c2 := hw.cell (p := ⟨S, 2, none⟩) hn h2.c2
  have hST : S ∉ (Tr.put TI.cmpI key v nb T).blocks := fun hx => by
    rcases hT S hx with e | e
    · omega
    · exact h.st e
  have hvb : ∀ g, (TU.ev v).ownBlock = some g → w.heap.size ≤ g ∧ g < W2.heap.size := hv.lt
  have hpp : (Tr.put TI.cmpI key v nb T).pairs = putL TI.cmpI key v T.pairs := Tr.put_pairs TI.cmpI_ord key v nb h.up
  have hown : ∀ p ∈ (Tr.put TI.cmpI key v nb T).pairs, ∀ g, (TU.ev p.2).ownBlock = some g → Grown P w W3 g ∧ g ≠ S ∧ g ≠ M ∧ g ∉ (Tr.put TI.cmpI key v nb T).blocks := by
    rw [hpp]
    intro p hp g hg
    rcases (putL_mem hp).2 with e | e
    · rw [e] at hg
      have := hvb g hg
      refine ⟨.inr (by omega), by omega, by omega, fun hx => ?_⟩
      rcases hT g hx with e | e
      · omega
      · have := h.lt g (h.pT g e); omega
    · obtain ⟨g1, g2, g3, g4⟩ := h.own p e g hg
      have := h.lt g g1
      refine ⟨.inl g1, g2, g3, fun hx => ?_⟩
      rcases hT g hx with e | e
      · omega
      · exact g4 e
  have hvals : ValsOf W3 0 T.pairs L := h2.vals.keeps fun p hp g hg => hw.block g (h2.lt g (h2.own p hp g hg).1) (by
    obtain ⟨_, _, g3, g4⟩ := h2.own p hp g hg
    rintro (e | e)
    · exact g3 e
    · exact g4 e)
  have hv3 : W3.ownsRow 0 5 1 (TU.ev v) bs.length (bs.flatMap u8s) := ownsRow_zero (ownsRow_wrote hv hw (fun g hg => by
    have := hvb g hg
    rintro (e | e)
    · omega
    · have := h.lt g (h.pT g e); omega))
  have hwS : Wrote (fun x => x = S) W3 (W3.setCell ⟨S, 2, none⟩ (.int .i64 (total (putL TI.cmpI key bs L) : Nat))) := Wrote.setCell (S := fun x => x = S) (p := ⟨S, 2, none⟩) (Wrote.refl _ _) (.inl rfl) _
  have hlen := putL_len TI.cmpI key bs L
  have hfew := h.few
  constructor
  · refine ⟨?_, ?_, World.cell?_setCell_same _ _ _ c2, (World.frozen?_setCell ..).trans ((hw.fz ⟨S, 2, none⟩ (by show S < _; omega)).trans h2.fz), hM.wrote hwS (fun e => h.sm e.symm) (fun x hx e => hST (e ▸ hx)), ?_, ?_, h.sm, hST, hown, .inl h.pS, .inl h.pM, ?_, ?_, ?_, h.most, ?_⟩
    · exact (World.cell?_setCell_other _ _ _ _ (by simp)).trans (hw.cell (p := ⟨S, 0, none⟩) hn h2.c0)
    · exact (World.cell?_setCell_other _ _ _ _ (by simp)).trans (hw.cell (p := ⟨S, 1, none⟩) hn h2.c1)
    · rw [hpp]; exact putL_up TI.cmpI_ord key v h.up
    · rw [hpp]
      refine (hvals.put key v bs hv3 hbs).keeps fun p hp g hg => hwS.block g ?_ ?_
      · rcases (putL_mem hp).2 with e | e
        · rw [e] at hg; have := hvb g hg; omega
        · have := h.lt g (h.own p e g hg).1; omega
      · rw [← hpp] at hp
        exact (hown p hp g hg).2.1
    · intro x hx
      rcases hT x hx with rfl | e
      · exact .inr ⟨by omega, hTlt x hx⟩
      · exact .inl (h.pT x e)
    · rintro x (hx | hx)
      · have := h.lt x hx
        simp only [World.setCell, Array.size_modify]; omega
      · simp only [World.setCell, Array.size_modify]; omega
    · rw [hlen]
      rcases hroom with e | e
      · rw [e]; simpa using hfew
      · split <;> omega
    · intro p hp
      obtain ⟨e1, e2⟩ := putL_mem hp
      refine ⟨?_, ?_⟩
      · rcases e2 with e | e
        · rw [e]; exact hl
        · exact (h.small p e).1
      · rcases e1 with e | ⟨q, hq, e⟩
        · rw [e]; exact hk
        · rw [← e]; exact (h.small q hq).2
  · refine Wrote.step (Wrote.step (Wrote.below hb) hw ?_) hwS ?_
    · rintro x (rfl | hx)
      · exact .inl h.pM
      · exact .inl (h.pT x hx)
    · rintro x rfl
      exact .inl h.pS
end ShelfAt

theorem shLen_any (w : World) (S : Nat) (most : Int) (P : Nat → Prop) (L : List (Int × List Int)) (h : IsShelf w S most P L) : Calls Try.prog 43 #[.pointer (some ⟨S, 0, none⟩)] w fun e w' => e = .returned (.int .i64 (L.length : Nat)) ∧ w' = w := by
  obtain ⟨M, T, h⟩ := h
  have c0 := h.c0
  have hl := h.len
  have hm := TU.mapLen_any w M _ _ T h.map
  rw [hl] at hm
  have HM := hid hm
  clear h hl hm
  go_enter Try.func43, Try.ntmps43
  go_wp2_with fail
  refine HM.out.mono ?_
  rintro e w1 ⟨rfl, rfl⟩
  go_wp2_with fail
  refine bodyPost_ret (results_tmp rfl _ _ _) rfl ?_
  exact ⟨rfl, rfl⟩

theorem shBytes_any (w : World) (S : Nat) (most : Int) (P : Nat → Prop) (L : List (Int × List Int)) (h : IsShelf w S most P L) : Calls Try.prog 70 #[.pointer (some ⟨S, 0, none⟩)] w fun e w' => e = .returned (.int .i64 (total L : Nat)) ∧ w' = w := by
  obtain ⟨M, T, h⟩ := h
  have c2 := h.c2
  clear h
  go_enter Try.func70, Try.ntmps70
  go_wp2_with fail
  refine bodyPost_ret (results_tmp rfl _ _ _) rfl ?_
  exact ⟨rfl, rfl⟩

set_option maxHeartbeats 1000000 in
theorem shGet_any (w : World) (S : Nat) (most : Int) (P : Nat → Prop) (L : List (Int × List Int)) (key : Int) (h : IsShelf w S most P L) :
    Calls Try.prog 37 #[.pointer (some ⟨S, 0, none⟩), .int .u64 key] w fun e w' =>
      ∃ v, e = .returned (.tuple #[v, .bool (getL TI.cmpI key L).isSome]) ∧ w'.ownsRow w.heap.size 5 1 v ((getL TI.cmpI key L).getD []).length (((getL TI.cmpI key L).getD []).flatMap u8s) ∧ Below w.heap.size w w' := by
  obtain ⟨M, T, h⟩ := h
  have c0 := h.c0
  have ht := h.told key
  obtain ⟨A, c, e1, e2, e3⟩ := h.told2 key
  have hg := TU.mapGet_any _ _ _ _ _ TU.cmp_fn w M T key h.map trivial
  rw [e1, ht.1] at hg
  have HG := hid hg
  have HA := hid e2
  have HR := hid e3
  have hl64 := ht.2.2.2.2.1
  have HL := hid hl64
  clear h ht hg e1 e2 e3 hl64
  generalize (getL TI.cmpI key L).getD [] = bs at *
  generalize (getL TI.cmpI key L).isSome = had at *
  go_enter Try.func37, Try.ntmps37
  go_wp2_with fail
  refine HG.out.mono ?_
  rintro e w1 ⟨rfl, q, rfl⟩
  go_wp2_with fail
  refine (clone_any (w.drewN q) A bs.length c bs rfl (by have := HL.out; omega) HA.out (HR.out.drewN q)).mono ?_
  rintro e w2 ⟨v, rfl, hv, hb⟩
  go_wp2_with fail
  go_ret2
  exact ⟨v, rfl, hv, Below.trans (below_drewN' (Below.refl _ w) q) hb⟩

theorem shSet_long (w : World) (S : Nat) (A : Option Addr) (n c : Nat) (key : Int) (hn : 64 < n) :
    Calls Try.prog 38 #[.pointer (some ⟨S, 0, none⟩), .int .u64 key, .slice A n c] w fun e w' => e = .returned (.tuple #[.bool false, .int .i64 70]) ∧ w' = w := by
  have b0 : decide ((n : Int) > 64) = true := by simp; omega
  have b1 : decide (64 < (n : Int)) = true := by simp; omega
  have b2 : decide (64 < n) = true := by simpa using hn
  clear hn
  go_enter Try.func38, Try.ntmps38
  go_wp2_with fail
  go_ret2
  exact ⟨rfl, rfl⟩

set_option maxHeartbeats 1000000 in
theorem shSet_full (w : World) (S : Nat) (most : Int) (P : Nat → Prop) (L : List (Int × List Int)) (A : Option Addr) (n c : Nat) (key : Int) (h : IsShelf w S most P L) (hn : n ≤ 64) (hg : (getL TI.cmpI key L).isSome = false) (hf : most ≤ L.length) :
    Calls Try.prog 38 #[.pointer (some ⟨S, 0, none⟩), .int .u64 key, .slice A n c] w fun e w' => e = .returned (.tuple #[.bool false, .int .i64 71]) ∧ ∃ q, w' = w.drewN q := by
  have b0 : decide ((n : Int) > 64) = false := by simp; omega
  have b1 : decide (64 < (n : Int)) = false := by simp; omega
  have b2 : decide (64 < n) = false := by simpa using hn
  obtain ⟨M, T, h⟩ := h
  have c0 := h.c0
  have c1 := h.c1
  have hG := TU.mapGet_any _ _ _ _ _ TU.cmp_fn w M T key h.map trivial
  obtain ⟨A', c', e1, _⟩ := h.told2 key
  rw [e1, (h.told key).1, hg] at hG
  have HG := hid hG
  have HM := hid h.map
  have hlen := h.len
  have b3 : decide (most ≤ (T.many : Int)) = true := by rw [hlen]; simpa using hf
  have b4 : decide ((T.many : Int) ≥ most) = true := b3
  clear h hn hG e1 hf hlen hg
  generalize ((getL TI.cmpI key L).getD []).length = m at *
  go_enter Try.func38, Try.ntmps38
  go_wp2_with fail
  refine HG.out.mono ?_
  rintro e w1 ⟨rfl, q, rfl⟩
  have c0' : (w.drewN q).cell? ⟨S, 0, none⟩ = some (.pointer (some ⟨M, 0, none⟩)) := c0
  have c1' : (w.drewN q).cell? ⟨S, 1, none⟩ = some (.int .i64 most) := c1
  have HM' := hid (HM.out.drewN q)
  have HQ : Hid (∃ q', w.drewN q = w.drewN q') := ⟨q, rfl⟩
  generalize w.drewN q = W1 at *
  clear HG HM c0 c1
  go_wp2_with fail
  go_quiet (refine Calls.quiet_of_same (TU.mapLen_any _ _ _ _ _ (HM'.out.drewN _)))
  go_wp2_with fail
  go_ret2
  obtain ⟨q', rfl⟩ := HQ.out
  exact ⟨rfl, _, World.drewN_drewN ..⟩
end Go.Proofs.Ytfjeagffdijcoaa
namespace Go.Proofs.Ytfjeagffdijcoaa
open Go.RowKit

theorem clone_below {w W2 : World} {A : Option Addr} {n c : Nat} {bs : List Int} (hb : Below w.heap.size w W2)
    (h : Calls Try.prog 94 #[.slice A n c] W2 fun e w' => ∃ v, e = .returned v ∧ w'.ownsRow W2.heap.size 5 1 v bs.length (bs.flatMap u8s) ∧ Below W2.heap.size W2 w') :
    Calls Try.prog 94 #[.slice A n c] W2 fun e w' => ∃ vA vc, e = .returned (.slice vA bs.length vc) ∧ w'.ownsRow w.heap.size 5 1 (.slice vA bs.length vc) bs.length (bs.flatMap u8s) ∧ Below w.heap.size w w' := by
  refine h.mono ?_
  rintro e W3 ⟨v, rfl, hv, hb3⟩
  obtain ⟨_, A', c', e, _⟩ := owns_reads u8s_len hv (by decide)
  subst e
  exact ⟨A', c', rfl, ⟨hv.1, hv.2.imp id fun ⟨g, cap, cur, e1, hge, r⟩ => ⟨g, cap, cur, e1, Nat.le_trans hb.size hge, r⟩⟩, hb.trans (hb3.mono hb.size)⟩

set_option maxRecDepth 100000 in
set_option maxHeartbeats 2000000 in
theorem shSet_ok (w : World) (S : Nat) (most : Int) (P : Nat → Prop) (L : List (Int × List Int)) (A : Option Addr) (n c : Nat) (key : Int) (bs : List Int) (h : IsShelf w S most P L) (hl : bs.length = n) (hn : n ≤ 64)
    (hroom : (getL TI.cmpI key L).isSome = true ∨ (L.length : Int) < most) (hA : A = none → n = 0 ∧ c = 0) (hR : U8s w.heap.size w A bs) (hbs : ∀ x ∈ bs, 0 ≤ x ∧ x ≤ 255) (hk : 0 ≤ key ∧ key ≤ 18446744073709551615) :
    Calls Try.prog 38 #[.pointer (some ⟨S, 0, none⟩), .int .u64 key, .slice A n c] w fun e w' =>
      e = .returned (.tuple #[.bool (!(getL TI.cmpI key L).isSome), .int .i64 0]) ∧ IsShelf w' S most (Grown P w w') (putL TI.cmpI key bs L) ∧ Wrote P w w' := by
  have b0 : decide ((n : Int) > 64) = false := by simp; omega
  have b1 : decide (64 < (n : Int)) = false := by simp; omega
  have b2 : decide (64 < n) = false := by simpa using hn
  obtain ⟨M, T, h⟩ := h
  have c0 := h.c0
  have c1 := h.c1
  have c2 := h.c2
  have fz := h.fz
  have hG := TU.mapGet_any _ _ _ _ _ TU.cmp_fn w M T key h.map trivial
  obtain ⟨A', c', e1, _⟩ := h.told2 key
  have hput : ∀ (W2 : World) (v : TU.SV), Below w.heap.size w W2 → Calls Try.prog 96 #[.pointer (some ⟨M, 0, none⟩), .int .u64 key, .slice v.1 v.2.1 v.2.2] W2 fun e w' =>
      ∃ nb, W2.heap.size ≤ nb ∧ e = .returned (.tuple #[.slice A' ((getL TI.cmpI key L).getD []).length c', .bool (getL TI.cmpI key L).isSome]) ∧ TU.IsMap w' M 134 #[] (Tr.put TI.cmpI key v nb T) ∧ Wrote (fun x => x = M ∨ x ∈ T.blocks) W2 w' := fun W2 v hb => by
    have := TU.mapPut_any _ _ _ _ _ TU.cmp_fn W2 M T key v (h.map.below hb) (by have := h.many; omega) trivial (fun _ _ => id) id
    rw [e1, (h.told key).1] at this
    exact this.mono (by rintro e w' ⟨nb, g1, g2, g3, g4, _⟩; exact ⟨nb, g1, g2, g3, g4⟩)
  have hset := fun W2 W3 nb v hb hv hnb hM hw => h.set (W2 := W2) (W3 := W3) (nb := nb) (v := v) (key := key) (bs := bs) hb hv hbs (by omega) hk hnb hM hw hroom
  rw [e1, (h.told key).1] at hG
  have ht64 := (h.told key).2.2.2.2.1
  have htot := h.tot
  have hsum := total_put TI.cmpI key bs L
  have w1 : IntKind.i64.wrap ((n : Int) - (((getL TI.cmpI key L).getD []).length : Int)) = (n : Int) - (((getL TI.cmpI key L).getD []).length : Int) := wrap_mid _ (by omega) (by omega)
  have w2 : IntKind.i64.wrap ((total L : Int) + ((n : Int) - (((getL TI.cmpI key L).getD []).length : Int))) = ((total (putL TI.cmpI key bs L) : Nat) : Int) := by
    rw [wrap_mid _ (by omega) (by omega)]; omega
  have HG := hid hG
  have HP := hid hput
  have HS := hid hset
  have HRd := hid hR
  have HA := hid hA
  have HN := hid hn
  have HB := hid hl
  have hM0 : ∀ q n, _ := fun q n => TU.mapLen_any ((w.drewN q).drewN n) M _ _ T ((h.map.drewN q).drewN n)
  rw [h.len] at hM0
  have HL := hid hM0
  have hST : S ≠ M ∧ S ∉ T.blocks := ⟨h.sm, h.st⟩
  have HST := hid hST
  have hSlt := h.lt S h.pS
  have HSL := hid hSlt
  clear h hG hput hset hR hA hn hl e1 hsum hM0 hST ht64 htot hbs hk hSlt
  generalize ((getL TI.cmpI key L).getD []).length = m at *
  generalize hT2 : total (putL TI.cmpI key bs L) = tt at *
  have HT2 := hid hT2
  clear hT2
  obtain ⟨had, hhad⟩ : ∃ had, (getL TI.cmpI key L).isSome = had := ⟨_, rfl⟩
  rw [hhad] at HG HP hroom
  rw [hhad]
  clear hhad
  go_enter Try.func38, Try.ntmps38
  go_wp2_with fail
  refine HG.out.mono ?_
  rintro e W1 ⟨rfl, q, rfl⟩
  have hbW : Below w.heap.size w (w.drewN q) := below_drewN' (Below.refl _ w) q
  have c0' : (w.drewN q).cell? ⟨S, 0, none⟩ = some (.pointer (some ⟨M, 0, none⟩)) := c0
  have c1' : (w.drewN q).cell? ⟨S, 1, none⟩ = some (.int .i64 most) := c1
  have HL' := hid (HL.out q)
  have HBW := hid hbW
  clear hbW HG HL c1
  cases had with
  | true =>
    clear hroom HL'
    generalize w.drewN q = W1 at *
    go_wp2_with fail
    go_quiet (fail)
    have HB2 := hid (below_drewN' HBW.out nq)
    have d0 : (W1.drewN nq).cell? ⟨S, 0, none⟩ = some (.pointer (some ⟨M, 0, none⟩)) := c0'
    clear HBW c0' c1'
    generalize W1.drewN nq = W2 at *
    have hcl := clone_below HB2.out.drew (clone_any W2.drew A n c bs HB.out (by have := HN.out; omega) HA.out (((HRd.out.below HB2.out).mono HB2.out.size).drewN 1))
    have HC := hid hcl
    clear hcl
    go_wp2_with fail
    have HB2' := hid (HB2.out.drew)
    clear HB2
    go_region_with (first
      | (go_at_call 94; refine HC.out.mono ?_; rintro e W3 ⟨vA, vc, rfl, hv, hb3⟩; have d1 := later hb3 c0; have HBW3 := hid hb3; have HV := hid hv; clear hv hb3)
      | (go_at_call 96; refine (HP.out _ (vA, bs.length, vc) HBW3.out).mono ?_; rintro e W4 ⟨nb, hnb, rfl, hM4, hw4⟩
         have e2 := hw4.cell (p := ⟨S, 2, none⟩) (fun e => e.elim HST.out.1 HST.out.2) (later HBW3.out c2)
         have f2 := (hw4.fz ⟨S, 2, none⟩ (Nat.lt_of_lt_of_le HSL.out HBW3.out.size)).trans ((HBW3.out.frozen (p := ⟨S, 2, none⟩) HSL.out).trans fz)
         have HS4 := hid (HS.out W3 W4 nb (vA, bs.length, vc) HBW3.out HV.out hnb hM4 hw4)
         clear hM4 hw4 hnb))
    all_goals
      go_wp2_with fail
      go_ret2
      refine ⟨rfl, ⟨M, _, HS4.out.1.grow (fun x hx => ?_) (fun x hx => ?_)⟩, HS4.out.2⟩
      · rcases hx with hx | hx
        · exact .inl hx
        · exact .inr ⟨hx.1, by simpa [World.setCell] using hx.2⟩
      · rcases hx with hx | hx
        · have := HS4.out.1.lt x (.inl hx); exact this
        · exact hx.2
  | false =>
    have b3 : decide (most ≤ (L.length : Int)) = false := by simpa using hroom
    have b4 : decide ((L.length : Int) ≥ most) = false := b3
    clear hroom
    generalize w.drewN q = W1 at *
    go_wp2_with fail
    go_quiet (refine Calls.quiet_of_same (HL'.out _))
    have HB2 := hid (below_drewN' HBW.out nq)
    have d0 : (W1.drewN nq).cell? ⟨S, 0, none⟩ = some (.pointer (some ⟨M, 0, none⟩)) := c0'
    clear HBW c0' c1' HL'
    generalize W1.drewN nq = W2 at *
    have hcl := clone_below HB2.out.drew (clone_any W2.drew A n c bs HB.out (by have := HN.out; omega) HA.out (((HRd.out.below HB2.out).mono HB2.out.size).drewN 1))
    have HC := hid hcl
    clear hcl
    go_wp2_with fail
    have HB2' := hid (HB2.out.drew)
    clear HB2
    go_region_with (first
      | (go_at_call 94; refine HC.out.mono ?_; rintro e W3 ⟨vA, vc, rfl, hv, hb3⟩; have d1 := later hb3 c0; have HBW3 := hid hb3; have HV := hid hv; clear hv hb3)
      | (go_at_call 96; refine (HP.out _ (vA, bs.length, vc) HBW3.out).mono ?_; rintro e W4 ⟨nb, hnb, rfl, hM4, hw4⟩
         have e2 := hw4.cell (p := ⟨S, 2, none⟩) (fun e => e.elim HST.out.1 HST.out.2) (later HBW3.out c2)
         have f2 := (hw4.fz ⟨S, 2, none⟩ (Nat.lt_of_lt_of_le HSL.out HBW3.out.size)).trans ((HBW3.out.frozen (p := ⟨S, 2, none⟩) HSL.out).trans fz)
         have HS4 := hid (HS.out W3 W4 nb (vA, bs.length, vc) HBW3.out HV.out hnb hM4 hw4)
         clear hM4 hw4 hnb))
    all_goals
      go_wp2_with fail
      go_ret2
      refine ⟨rfl, ⟨M, _, HS4.out.1.grow (fun x hx => ?_) (fun x hx => ?_)⟩, HS4.out.2⟩
      · rcases hx with hx | hx
        · exact .inl hx
        · exact .inr ⟨hx.1, by simpa [World.setCell] using hx.2⟩
      · rcases hx with hx | hx
        · have := HS4.out.1.lt x (.inl hx); exact this
        · exact hx.2
end Go.Proofs.Ytfjeagffdijcoaa
namespace Go.Proofs.Ytfjeagffdijcoaa
open Go.RowKit

theorem getL_above {ν : Type} {key : Int} {l : List (Int × ν)} (h : ∀ x ∈ l, TI.cmpI key x.1 < 0) : getL TI.cmpI key l = none := by
  cases l with
  | nil => rfl
  | cons p r =>
    obtain ⟨k, v⟩ := p
    exact if_pos (h (k, v) (by simp))
theorem cmpI_neg (a b : Int) : TI.cmpI a b < 0 ↔ a < b := by unfold TI.cmpI; (repeat' split) <;> omega
theorem cmpI_pos (a b : Int) : 0 < TI.cmpI a b ↔ b < a := by unfold TI.cmpI; (repeat' split) <;> omega
theorem cmpI_le (a b : Int) : TI.cmpI a b ≤ 0 ↔ a ≤ b := by unfold TI.cmpI; (repeat' split) <;> omega
theorem cmpI_ge (a b : Int) : 0 ≤ TI.cmpI a b ↔ b ≤ a := by unfold TI.cmpI; (repeat' split) <;> omega
theorem inR_iff {ν : Type} (lo hi : Int) (p : Int × ν) : inR TI.cmpI lo hi p = true ↔ lo ≤ p.1 ∧ p.1 ≤ hi := by
  simp [inR, cmpI_le, cmpI_ge]
/-- what Count tells -/
theorem count_law {ν : Type} {lo hi : Int} (h : lo ≤ hi) {l : List (Int × ν)} (hU : Up TI.cmpI l) : rankL TI.cmpI lo l + (l.filter (inR TI.cmpI lo hi)).length = rankL TI.cmpI hi l + (if (getL TI.cmpI hi l).isSome then 1 else 0) := by
  induction l with
  | nil => simp [rankL, getL]
  | cons p r ih =>
    obtain ⟨k, v⟩ := p
    have hp := List.pairwise_cons.1 hU
    have ih := ih hp.2
    have key : ∀ b1 b2 b3 : Bool, ∀ o : Option ν, decide (TI.cmpI k lo < 0) = b1 → decide (TI.cmpI k hi < 0) = b2 → inR TI.cmpI lo hi (k, v) = b3 → getL TI.cmpI hi ((k, v) :: r) = o →
        rankL TI.cmpI lo ((k, v) :: r) = rankL TI.cmpI lo r + (if b1 = true then 1 else 0) ∧ rankL TI.cmpI hi ((k, v) :: r) = rankL TI.cmpI hi r + (if b2 = true then 1 else 0) ∧
          (((k, v) :: r).filter (inR TI.cmpI lo hi)).length = (r.filter (inR TI.cmpI lo hi)).length + (if b3 = true then 1 else 0) ∧ getL TI.cmpI hi ((k, v) :: r) = o := by
      rintro b1 b2 b3 o rfl rfl rfl rfl
      refine ⟨List.countP_cons, List.countP_cons, ?_, rfl⟩
      rw [List.filter_cons]
      split <;> simp
    have hg : ∀ b1 b2 : Bool, decide (TI.cmpI hi k < 0) = b1 → decide (0 < TI.cmpI hi k) = b2 → getL TI.cmpI hi ((k, v) :: r) = if b1 = true then none else if b2 = true then getL TI.cmpI hi r else some v := by
      rintro b1 b2 rfl rfl
      simp [getL]
    rcases Int.lt_trichotomy k hi with g | g | g
    · have hg := hg false true (by simp [cmpI_neg]; omega) (by simp [cmpI_pos]; omega)
      by_cases g2 : lo ≤ k
      · obtain ⟨e1, e2, e3, e4⟩ := key false true true _ (by simp [cmpI_neg]; omega) (by simp [cmpI_neg]; omega) ((inR_iff lo hi (k, v)).2 ⟨g2, by dsimp only; omega⟩) hg
        rw [e1, e2, e3, e4]
        simp only [if_true, Bool.false_eq_true, if_false]
        omega
      · obtain ⟨e1, e2, e3, e4⟩ := key true true false _ (by simp [cmpI_neg]; omega) (by simp [cmpI_neg]; omega) (Bool.eq_false_iff.2 fun e => g2 ((inR_iff lo hi (k, v)).1 e).1) hg
        rw [e1, e2, e3, e4]
        simp only [if_true, Bool.false_eq_true, if_false]
        omega
    · have hg := hg false false (by simp [cmpI_neg]; omega) (by simp [cmpI_pos]; omega)
      have hn : getL TI.cmpI hi r = none := getL_above fun x hx => by
        rw [← g]; exact hp.1 x hx
      rw [hn] at ih
      obtain ⟨e1, e2, e3, e4⟩ := key false false true _ (by simp [cmpI_neg]; omega) (by simp [cmpI_neg]; omega) ((inR_iff lo hi (k, v)).2 ⟨by dsimp only; omega, by dsimp only; omega⟩) hg
      rw [e1, e2, e3, e4]
      simp only [if_true, Bool.false_eq_true, if_false, Option.isSome_some, Option.isSome_none] at ih ⊢
      omega
    · have hg := hg true false (by simp [cmpI_neg]; omega) (by simp [cmpI_pos]; omega)
      have hn : getL TI.cmpI hi r = none := getL_above fun x hx => by
        have := hp.1 x hx
        rw [cmpI_neg] at this ⊢
        dsimp only at this
        omega
      rw [hn] at ih
      obtain ⟨e1, e2, e3, e4⟩ := key false false false _ (by simp [cmpI_neg]; omega) (by simp [cmpI_neg]; omega) (Bool.eq_false_iff.2 fun e => by have := ((inR_iff lo hi (k, v)).1 e).2; dsimp only at this; omega) hg
      rw [e1, e2, e3, e4]
      simp only [if_true, Bool.false_eq_true, if_false, Option.isSome_none] at ih ⊢
      omega
theorem filter_prefix {ν : Type} (hi : Int) {l : List (Int × ν)} (hU : Up TI.cmpI l) : (l.filter fun x => decide (x.1 ≤ hi)) <+: l := by
  induction l with
  | nil => simp
  | cons p r ih =>
    have hp := List.pairwise_cons.1 hU
    rw [List.filter_cons]
    split
    · exact (List.prefix_cons_inj p).2 (ih hp.2)
    · rename_i g
      have g' : hi < p.1 := by simpa using g
      rw [List.filter_eq_nil_iff.2 (fun x hx => by
        have := hp.1 x hx
        rw [cmpI_neg] at this
        simp; omega)]
      exact List.nil_prefix
/-- what Nth tells -/
theorem nth_law {ν : Type} {lo hi : Int} {l : List (Int × ν)} (hU : Up TI.cmpI l) {i : Nat} {p : Int × ν} (h : (l.filter (inR TI.cmpI lo hi))[i]? = some p) : l[rankL TI.cmpI lo l + i]? = some p := by
  obtain ⟨a, b, rfl, hl, h1, h2⟩ := rank_split TI.cmpI_ord lo hU
  rw [← hl]
  have ha : a.filter (inR TI.cmpI lo hi) = [] := List.filter_eq_nil_iff.2 fun x hx => by
    rw [inR_iff]
    have := h1 x hx
    rw [cmpI_neg] at this
    omega
  have hb : b.filter (inR TI.cmpI lo hi) = b.filter fun x => decide (x.1 ≤ hi) := List.filter_congr fun x hx => by
    have := h2 x hx
    rw [cmpI_ge] at this
    rw [Bool.eq_iff_iff, inR_iff]
    simp [this]
  rw [List.filter_append, ha, hb, List.nil_append] at h
  obtain ⟨t, ht⟩ := filter_prefix hi (up_append.1 hU).2.1
  rw [List.getElem?_append_right (by omega), show a.length + i - a.length = i by omega, ← ht, List.getElem?_append_left (List.getElem?_eq_some_iff.1 h).1]
  exact h
theorem inR_none {ν : Type} {lo hi : Int} (h : hi < lo) (l : List (Int × ν)) : l.filter (inR TI.cmpI lo hi) = [] := List.filter_eq_nil_iff.2 fun x _ => by
  rw [inR_iff]; omega

namespace ShelfAt
variable {w w' : World} {S M : Nat} {T : Tr Int TU.SV} {most : Int} {P Q : Nat → Prop} {L : List (Int × List Int)}
/-- behind Delete -/
theorem delete (h : ShelfAt w S M T most P L) {W3 : World} {key : Int} (hM : TU.IsMap W3 M 134 #[] (Tr.cut TI.cmpI key T)) (hw : Wrote (fun x => x = M ∨ x ∈ T.blocks) w W3) :
    ShelfAt (W3.setCell ⟨S, 2, none⟩ (.int .i64 (total (cutP TI.cmpI key L) : Nat))) S M (Tr.cut TI.cmpI key T) most P (cutP TI.cmpI key L) ∧
      Wrote P w (W3.setCell ⟨S, 2, none⟩ (.int .i64 (total (cutP TI.cmpI key L) : Nat))) := by
  have hsz3 := hw.size
  have hSlt := h.lt S h.pS
  have hn : ¬ (S = M ∨ S ∈ T.blocks) := by
    rintro (e | e)
    · exact h.sm e
    · exact h.st e
  have hT : ∀ x ∈ (Tr.cut TI.cmpI key T).blocks, x ∈ T.blocks := Tr.cut_blocks key h.map.bal
  have c2 := hw.cell (p := ⟨S, 2, none⟩) hn h.c2
  have hST : S ∉ (Tr.cut TI.cmpI key T).blocks := fun hx => h.st (hT S hx)
  have hpp : (Tr.cut TI.cmpI key T).pairs = cutP TI.cmpI key T.pairs := Tr.cut_pairs TI.cmpI_ord key h.map.bal h.up
  have hvals : ValsOf W3 0 T.pairs L := h.vals.keeps fun p hp g hg => hw.block g (h.lt g (h.own p hp g hg).1) (by
    obtain ⟨_, _, g3, g4⟩ := h.own p hp g hg
    rintro (e | e)
    · exact g3 e
    · exact g4 e)
  have hwS : Wrote (fun x => x = S) W3 (W3.setCell ⟨S, 2, none⟩ (.int .i64 (total (cutP TI.cmpI key L) : Nat))) := Wrote.setCell (S := fun x => x = S) (p := ⟨S, 2, none⟩) (Wrote.refl _ _) (.inl rfl) _
  constructor
  · refine ⟨?_, ?_, World.cell?_setCell_same _ _ _ c2, (World.frozen?_setCell ..).trans ((hw.fz ⟨S, 2, none⟩ (by show S < _; omega)).trans h.fz), hM.wrote hwS (fun e => h.sm e.symm) (fun x hx e => hST (e ▸ hx)), ?_, ?_, h.sm, hST, ?_, h.pS, h.pM, fun x hx => h.pT x (hT x hx), ?_, ?_, h.most, fun p hp => h.small p (cutP_mem hp)⟩
    · exact (World.cell?_setCell_other _ _ _ _ (by simp)).trans (hw.cell (p := ⟨S, 0, none⟩) hn h.c0)
    · exact (World.cell?_setCell_other _ _ _ _ (by simp)).trans (hw.cell (p := ⟨S, 1, none⟩) hn h.c1)
    · rw [hpp]; exact cutP_up key h.up
    · rw [hpp]
      refine (hvals.cut key).keeps fun p hp g hg => hwS.block g ?_ ?_
      · have := h.lt g (h.own p (cutP_mem hp) g hg).1; omega
      · exact (h.own p (cutP_mem hp) g hg).2.1
    · rw [hpp]
      intro p hp g hg
      obtain ⟨g1, g2, g3, g4⟩ := h.own p (cutP_mem hp) g hg
      exact ⟨g1, g2, g3, fun hx => g4 (hT g hx)⟩
    · intro x hx
      have := h.lt x hx
      simp only [World.setCell, Array.size_modify]; omega
    · have := (cutP_sub (c := TI.cmpI) key L).length_le
      have := h.few
      omega
  · refine Wrote.step (hw.mono ?_) hwS ?_
    · rintro x (rfl | hx)
      · exact h.pM
      · exact h.pT x hx
    · rintro x rfl
      exact .inl h.pS
end ShelfAt

set_option maxHeartbeats 1000000 in
theorem shDelete_any (w : World) (S : Nat) (most : Int) (P : Nat → Prop) (L : List (Int × List Int)) (key : Int) (h : IsShelf w S most P L) :
    Calls Try.prog 111 #[.pointer (some ⟨S, 0, none⟩), .int .u64 key] w fun e w' =>
      e = .returned (.bool (getL TI.cmpI key L).isSome) ∧ IsShelf w' S most P (cutP TI.cmpI key L) ∧ Wrote P w w' := by
  obtain ⟨M, T, h⟩ := h
  have c0 := h.c0
  have ht := h.told key
  obtain ⟨A, c, e1, e2, e3⟩ := h.told2 key
  have hg := TU.mapDelete_any _ _ _ _ _ TU.cmp_fn w M T key h.map (by have := h.many; omega) trivial (fun _ _ => id) id
  rw [e1, ht.1] at hg
  have hl64 := ht.2.2.2.2.1
  have htot := h.tot
  have hsum := total_cut TI.cmpI key L
  have w1 : IntKind.i64.wrap ((total L : Int) - (((getL TI.cmpI key L).getD []).length : Int)) = ((total (cutP TI.cmpI key L) : Nat) : Int) := by rw [wrap_mid _ (by omega) (by omega)]; omega
  have hdel : ∀ W3, TU.IsMap W3 M 134 #[] (Tr.cut TI.cmpI key T) → Wrote (fun x => x = M ∨ x ∈ T.blocks) w W3 → W3.cell? ⟨S, 0, none⟩ = some (.pointer (some ⟨M, 0, none⟩)) ∧ W3.cell? ⟨S, 2, none⟩ = some (.int .i64 (total L : Nat)) ∧ W3.frozen? ⟨S, 2, none⟩ = false ∧ _ := fun W3 hM hw => by
    have hn : ¬ (S = M ∨ S ∈ T.blocks) := by
      rintro (e | e)
      · exact h.sm e
      · exact h.st e
    exact ⟨hw.cell (p := ⟨S, 0, none⟩) hn h.c0, hw.cell (p := ⟨S, 2, none⟩) hn h.c2, (hw.fz ⟨S, 2, none⟩ (h.lt S h.pS)).trans h.fz, h.delete hM hw⟩
  have HG := hid hg
  have HD := hid hdel
  clear h ht hg e1 e2 e3 hl64 hdel htot hsum
  generalize ((getL TI.cmpI key L).getD []).length = m at *
  generalize (getL TI.cmpI key L).isSome = had at *
  generalize hT2 : total (cutP TI.cmpI key L) = tt at *
  clear hT2
  go_enter Try.func111, Try.ntmps111
  go_wp2_with fail
  refine HG.out.mono ?_
  rintro e w1 ⟨rfl, hM, hw, _⟩
  obtain ⟨d0, d2, f2, hs, hw2⟩ := HD.out w1 hM hw
  have HS := hid hs
  have HW := hid hw2
  clear hM hw hs hw2
  go_wp2_with fail
  refine bodyPost_ret (results_tmp rfl _ _ _) rfl ?_
  exact ⟨rfl, ⟨M, _, HS.out⟩, HW.out⟩

set_option maxRecDepth 100000 in
set_option maxHeartbeats 1000000 in
theorem shCount_any (w : World) (S : Nat) (most : Int) (P : Nat → Prop) (L : List (Int × List Int)) (lo hi : Int) (h : IsShelf w S most P L) :
    Calls Try.prog 62 #[.pointer (some ⟨S, 0, none⟩), .int .u64 lo, .int .u64 hi] w fun e w' =>
      e = .returned (.int .i64 ((L.filter (inR TI.cmpI lo hi)).length : Nat)) ∧ ∃ q, w' = w.drewN q := by
  by_cases hle : hi < lo
  · have b0 : decide (lo > hi) = true := by simpa using hle
    have b1 : decide (hi < lo) = true := by simpa using hle
    rw [inR_none hle]
    clear h hle
    go_enter Try.func62, Try.ntmps62
    go_wp2_with fail
    refine bodyPost_ret (results_tmp rfl _ _ _) rfl ?_
    exact ⟨rfl, 0, rfl⟩
  · have b0 : decide (lo > hi) = false := by simpa using hle
    have b1 : decide (hi < lo) = false := by simpa using hle
    have hlaw := count_law (by omega : lo ≤ hi) h.up
    obtain ⟨M, T, h⟩ := h
    have c0 := h.c0
    have hrk : ∀ key, Tr.rank TI.cmpI key T = rankL TI.cmpI key L := fun key => by
      rw [Tr.rank_pairs TI.cmpI_ord key h.up]
      unfold rankL
      have e : ∀ {ν : Type} (l : List (Int × ν)), l.countP (fun x => decide (TI.cmpI x.1 key < 0)) = (l.map Prod.fst).countP fun x => decide (TI.cmpI x key < 0) := fun l => by
        rw [List.countP_map]; rfl
      rw [e, e, h.vals.keys]
    have hR : ∀ key n, _ := fun key n => TU.mapRank_any _ _ _ _ _ TU.cmp_fn (w.drewN n) M T key (h.map.drewN n) (by have := h.many; omega) trivial
    have hg := fun q => TU.mapGet_any _ _ _ _ _ TU.cmp_fn (w.drewN q) M T hi (h.map.drewN q) trivial
    obtain ⟨A, c, e1, e2, e3⟩ := h.told2 hi
    rw [e1, (h.told hi).1] at hg
    simp only [hrk] at hR
    have hlen : (L.filter (inR TI.cmpI lo hi)).length ≤ 32768 := by
      have := List.length_filter_le (inR TI.cmpI lo hi) L
      have := h.few; have := h.most; omega
    have hr2 : ∀ key, rankL TI.cmpI key L ≤ 32768 := fun key => by
      have : rankL TI.cmpI key L ≤ L.length := List.countP_le_length
      have := h.few; have := h.most; omega
    have q1 := hr2 lo
    have q2 := hr2 hi
    generalize (L.filter (inR TI.cmpI lo hi)).length = N at *
    obtain ⟨rk, hrk2⟩ : ∃ rk : Int → Nat, ∀ key, rankL TI.cmpI key L = rk key := ⟨_, fun _ => rfl⟩
    simp only [hrk2] at hR hlaw q1 q2
    have HR := hid hR
    have HG := hid hg
    clear h hrk hR hg e1 e2 e3 hr2 hle hrk2
    generalize ((getL TI.cmpI hi L).getD []).length = m at *
    obtain ⟨had, hhad⟩ : ∃ had, (getL TI.cmpI hi L).isSome = had := ⟨_, rfl⟩
    rw [hhad] at HG hlaw
    clear hhad
    have w1 : IntKind.i64.wrap ((rk hi : Int) - (rk lo : Int)) = (rk hi : Int) - (rk lo : Int) := wrap_mid _ (by omega) (by omega)
    have HL := hid hlaw
    clear hlaw q1 q2
    go_enter Try.func62, Try.ntmps62
    go_wp2_with fail
    go_quiet (refine Calls.quiet_of (HR.out _ _))
    go_wp2_with fail
    refine (HG.out _).mono ?_
    rintro e w1 ⟨rfl, q, rfl⟩
    cases had with
    | true =>
      have hw2 : IntKind.i64.wrap ((rk hi : Int) - (rk lo : Int) + 1) = (N : Int) := by
        have := HL.out
        simp at this
        rw [wrap_mid _ (by omega) (by omega)]; omega
      go_wp2_with fail
      refine bodyPost_ret (results_tmp rfl _ _ _) rfl ?_
      exact ⟨rfl, _, rfl⟩
    | false =>
      have hw2 : (rk hi : Int) - (rk lo : Int) = (N : Int) := by
        have := HL.out
        simp at this
        omega
      go_wp2_with fail
      refine bodyPost_ret (results_tmp rfl _ _ _) rfl ?_
      exact ⟨rfl, _, rfl⟩

set_option maxRecDepth 100000 in
set_option maxHeartbeats 1000000 in
theorem shNth_out (w : World) (S : Nat) (most : Int) (P : Nat → Prop) (L : List (Int × List Int)) (lo hi i : Int) (h : IsShelf w S most P L) (hi0 : i < 0 ∨ ((L.filter (inR TI.cmpI lo hi)).length : Int) ≤ i) :
    Calls Try.prog 61 #[.pointer (some ⟨S, 0, none⟩), .int .u64 lo, .int .u64 hi, .int .i64 i] w fun e w' =>
      e = .returned (.tuple #[.int .u64 0, .bool false]) ∧ ∃ q, w' = w.drewN q := by
  have HC := hid (shCount_any w S most P L lo hi h)
  by_cases h0 : i < 0
  · have b0 : decide (i < 0) = true := by simpa using h0
    clear h hi0 h0
    go_enter Try.func61, Try.ntmps61
    go_wp2_with fail
    go_ret2
    exact ⟨rfl, 0, rfl⟩
  · have h1 := hi0.resolve_left h0
    have b0 : decide (i < 0) = false := by simpa using h0
    have b1 : decide (((L.filter (inR TI.cmpI lo hi)).length : Int) ≤ i) = true := by simpa using h1
    have b2 : decide (i ≥ ((L.filter (inR TI.cmpI lo hi)).length : Int)) = true := b1
    clear h hi0 h0 h1
    generalize (L.filter (inR TI.cmpI lo hi)).length = N at *
    go_enter Try.func61, Try.ntmps61
    go_wp2_with (go_at_call 62; refine HC.out.mono ?_; rintro e w1 ⟨rfl, q, rfl⟩)
    go_ret2
    exact ⟨rfl, _, rfl⟩

set_option maxRecDepth 100000 in
set_option maxHeartbeats 1000000 in
theorem shNth_in (w : World) (S : Nat) (most : Int) (P : Nat → Prop) (L : List (Int × List Int)) (lo hi : Int) (i : Nat) (p : Int × List Int) (h : IsShelf w S most P L) (hp : (L.filter (inR TI.cmpI lo hi))[i]? = some p) :
    Calls Try.prog 61 #[.pointer (some ⟨S, 0, none⟩), .int .u64 lo, .int .u64 hi, .int .i64 i] w fun e w' =>
      e = .returned (.tuple #[.int .u64 p.1, .bool true]) ∧ ∃ q, w' = w.drewN q := by
  have HC := hid (shCount_any w S most P L lo hi h)
  have hU := h.up
  have hnl := nth_law hU hp
  obtain ⟨M, T, h⟩ := h
  have c0 := h.c0
  have hrk : Tr.rank TI.cmpI lo T = rankL TI.cmpI lo L := by
    rw [Tr.rank_pairs TI.cmpI_ord lo h.up]
    unfold rankL
    have e : ∀ {ν : Type} (l : List (Int × ν)), l.countP (fun x => decide (TI.cmpI x.1 lo < 0)) = (l.map Prod.fst).countP fun x => decide (TI.cmpI x lo < 0) := fun l => by
      rw [List.countP_map]; rfl
    rw [e, e, h.vals.keys]
  have hR := fun n => TU.mapRank_any _ _ _ _ _ TU.cmp_fn (w.drewN n) M T lo (h.map.drewN n) (by have := h.many; omega) trivial
  rw [hrk] at hR
  have hlt := (List.getElem?_eq_some_iff.1 hp).1
  have hlt2 := (List.getElem?_eq_some_iff.1 hnl).1
  have hlen : L.length ≤ 32768 := by have := h.few; have := h.most; omega
  have hT : ∃ v, T.pairs[rankL TI.cmpI lo L + i]? = some (p.1, v) := by
    have e := congrArg (fun l : List Int => l[rankL TI.cmpI lo L + i]?) h.vals.keys
    simp only [List.getElem?_map, hnl, Option.map_some] at e
    cases hx : T.pairs[rankL TI.cmpI lo L + i]? with
    | none => rw [hx] at e; cases e
    | some q => rw [hx] at e; exact ⟨q.2, by have : q.1 = p.1 := by simpa using e
                                             rw [← this]⟩
  obtain ⟨v, hT⟩ := hT
  have hA := fun n => TU.mapAt_any (w.drewN n) M _ _ T (h.map.drewN n) (by have := h.many; omega) _ _ _ hT
  have b0 : decide ((i : Int) < 0) = false := by simp
  have b1 : decide (((L.filter (inR TI.cmpI lo hi)).length : Int) ≤ (i : Int)) = false := by simp; omega
  have b2 : decide ((i : Int) ≥ ((L.filter (inR TI.cmpI lo hi)).length : Int)) = false := b1
  have b3 : decide ((L.filter (inR TI.cmpI lo hi)).length ≤ i) = false := by simp; omega
  have hmm : L.length = T.many := h.len.symm
  have w1 : IntKind.i64.wrap ((rankL TI.cmpI lo L : Int) + (i : Int)) = ((rankL TI.cmpI lo L + i : Nat) : Int) := by rw [wrap_mid _ (by omega) (by omega)]; omega
  have HR := hid hR
  have HA := hid hA
  clear h hp hU hnl hrk hR hA hT hlt hlt2 hlen hmm
  generalize (L.filter (inR TI.cmpI lo hi)).length = N at *
  generalize rankL TI.cmpI lo L = r1 at *
  generalize r1 + i = r2 at *
  go_enter Try.func61, Try.ntmps61
  go_wp2_with (go_at_call 62; refine HC.out.mono ?_; rintro e w1 ⟨rfl, q, rfl⟩)
  have HR2 : Hid (∀ n, Calls Try.prog 110 #[.pointer (some ⟨M, 0, none⟩), .int .u64 lo] ((w.drewN q).drewN n) fun e w' => e = .returned (.int .i64 (r1 : Nat)) ∧ ∃ m, w' = ((w.drewN q).drewN n).drewN m) := fun n => by rw [World.drewN_drewN]; exact HR.out _
  have HA2 : Hid (∀ n, Calls Try.prog 109 #[.pointer (some ⟨M, 0, none⟩), .int .i64 r2] ((w.drewN q).drewN n) fun e w' => e = .returned (.tuple #[.int .u64 p.1, .slice v.1 v.2.1 v.2.2, .bool true]) ∧ ∃ m, w' = ((w.drewN q).drewN n).drewN m) := fun n => by rw [World.drewN_drewN]; exact HA.out _
  have c0' : (w.drewN q).cell? ⟨S, 0, none⟩ = some (.pointer (some ⟨M, 0, none⟩)) := c0
  have HQ : Hid (∃ q', w.drewN q = w.drewN q') := ⟨q, rfl⟩
  clear c0 HR HA HC
  generalize w.drewN q = W1 at *
  go_quiet (first | (go_at_call 110; refine Calls.quiet_of (HR2.out _)) | (go_at_call 109; refine Calls.quiet_of (HA2.out _)))
  go_wp2_with fail
  go_ret2
  obtain ⟨q', rfl⟩ := HQ.out
  exact ⟨rfl, _, World.drewN_drewN ..⟩
end Go.Proofs.Ytfjeagffdijcoaa
