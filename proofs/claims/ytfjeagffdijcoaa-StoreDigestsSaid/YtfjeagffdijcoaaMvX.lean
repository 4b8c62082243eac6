/- Layer 7: StoreMoves in plain Lean: the last place of each key; pairs that go from one list to another. Layer 7: StoreMoves: what lies where. Layer 7: StoreMoves: bytes as strings; the values' cells. -/
import Derived.Test.YtfjeagffdijcoaaSB
import Derived.Lib.SlBytesRow
import Derived.Laws.IdiomStrings
import Derived.Lib.BufferRead
namespace Go.Proofs.Ytfjeagffdijcoaa

theorem cmpI_tight : Tight TI.cmpI := fun a b e => by unfold TI.cmpI at e; (repeat' split at e) <;> omega

/-- a key's value by its place -/
def valL (keys : List Int) (i : Nat) : List Int := [(i : Int) % 256, (i : Int) / 256 % 256, keys.getD i 0 % 256]
theorem valL_byte (keys : List Int) (i : Nat) : ∀ x ∈ valL keys i, 0 ≤ x ∧ x ≤ 255 := by
  intro x hx
  simp only [valL, List.mem_cons, List.not_mem_nil, or_false] at hx
  rcases hx with rfl | rfl | rfl <;> omega
theorem valL_len (keys : List Int) (i : Nat) : (valL keys i).length = 3 := rfl

/-- behind the first i keys: the places that count, and what lies on the shelf -/
structure MvInv (keys : List Int) (i : Nat) (last : List Nat) (L : List (Int × List Int)) : Prop where
  lt : ∀ j ∈ last, j < i
  nd : (last.map fun j => keys.getD j 0).Nodup
  mem : ∀ k v, (k, v) ∈ L ↔ ∃ j ∈ last, k = keys.getD j 0 ∧ v = valL keys j
  len : L.length = last.length
  few : last.length ≤ i

theorem MvInv.start (keys : List Int) : MvInv keys 0 [] [] := ⟨by simp, by simp, by simp, rfl, Nat.le_refl _⟩

theorem MvInv.isNew {keys : List Int} {i : Nat} {last : List Nat} {L : List (Int × List Int)} (h : MvInv keys i last L) (hu : Up TI.cmpI L) (hn : (getL TI.cmpI (keys.getD i 0) L).isSome = false) :
    MvInv keys (i + 1) (last ++ [i]) (putL TI.cmpI (keys.getD i 0) (valL keys i) L) := by
  have hg : getL TI.cmpI (keys.getD i 0) L = none := by simpa using hn
  have hno : ∀ j ∈ last, keys.getD j 0 ≠ keys.getD i 0 := fun j hj e => (getL_none TI.cmpI_ord cmpI_tight hu _).1 hg (valL keys j) ((h.mem _ _).2 ⟨j, hj, e.symm, rfl⟩)
  refine ⟨fun j hj => ?_, ?_, fun k v => ?_, ?_, by have := h.few; simp; omega⟩
  · rcases List.mem_append.1 hj with hj | hj
    · have := h.lt j hj; omega
    · have : j = i := by simpa using hj
      omega
  · rw [List.map_append, List.nodup_append]
    refine ⟨h.nd, by simp, fun a ha b hb => ?_⟩
    obtain ⟨j, hj, rfl⟩ := List.mem_map.1 ha
    have : b = keys.getD i 0 := by simpa using hb
    rw [this]; exact hno j hj
  · rw [putL_mem_iff TI.cmpI_ord cmpI_tight hu, h.mem]
    constructor
    · rintro (⟨rfl, rfl⟩ | ⟨_, j, hj, h1, h2⟩)
      · exact ⟨i, by simp, rfl, rfl⟩
      · exact ⟨j, by simp [hj], h1, h2⟩
    · rintro ⟨j, hj, h1, h2⟩
      rcases List.mem_append.1 hj with hj | hj
      · exact .inr ⟨by rw [h1]; exact hno j hj, j, hj, h1, h2⟩
      · have : j = i := by simpa using hj
        subst this
        exact .inl ⟨h1, h2⟩
  · rw [putL_len, hn, h.len, List.length_append]; simp

/-- the place of the key that comes again -/
def turnTo (keys : List Int) (i : Nat) (j : Nat) : Nat := if keys.getD j 0 = keys.getD i 0 then i else j
theorem turnTo_key (keys : List Int) (i j : Nat) : keys.getD (turnTo keys i j) 0 = keys.getD j 0 := by
  unfold turnTo
  split
  · rename_i h; exact h.symm
  · rfl

theorem MvInv.again {keys : List Int} {i : Nat} {last : List Nat} {L : List (Int × List Int)} (h : MvInv keys i last L) (hu : Up TI.cmpI L) (hn : (getL TI.cmpI (keys.getD i 0) L).isSome = true) :
    MvInv keys (i + 1) (last.map (turnTo keys i)) (putL TI.cmpI (keys.getD i 0) (valL keys i) L) := by
  obtain ⟨v0, hv0⟩ := Option.isSome_iff_exists.1 hn
  obtain ⟨j0, hj0, e0, _⟩ := (h.mem _ _).1 ((getL_iff TI.cmpI_ord cmpI_tight hu _ _).1 hv0)
  refine ⟨fun j hj => ?_, ?_, fun k v => ?_, ?_, by have := h.few; simp; omega⟩
  · obtain ⟨j', hj', rfl⟩ := List.mem_map.1 hj
    have := h.lt j' hj'
    unfold turnTo
    split <;> omega
  · rw [List.map_map]
    have : ((fun j => keys.getD j 0) ∘ turnTo keys i) = fun j => keys.getD j 0 := by
      funext j; exact turnTo_key keys i j
    rw [this]; exact h.nd
  · rw [putL_mem_iff TI.cmpI_ord cmpI_tight hu, h.mem]
    constructor
    · rintro (⟨rfl, rfl⟩ | ⟨hne, j, hj, h1, h2⟩)
      · exact ⟨i, List.mem_map.2 ⟨j0, hj0, by unfold turnTo; rw [if_pos e0.symm]⟩, rfl, rfl⟩
      · exact ⟨j, List.mem_map.2 ⟨j, hj, by unfold turnTo; rw [if_neg (by rw [← h1]; exact hne)]⟩, h1, h2⟩
    · rintro ⟨j, hj, h1, h2⟩
      obtain ⟨j', hj', rfl⟩ := List.mem_map.1 hj
      unfold turnTo at h1 h2
      split at h1
      · rename_i he
        rw [if_pos he] at h2
        exact .inl ⟨h1, h2⟩
      · rename_i he
        rw [if_neg he] at h2
        exact .inr ⟨by rw [h1]; exact he, j', hj', h1, h2⟩
  · rw [putL_len, hn, h.len, List.length_map]; simp

/-- between the two shelves -/
structure MvTwo (keys : List Int) (last : List Nat) (La Lb : List (Int × List Int)) : Prop where
  nd : (last.map fun j => keys.getD j 0).Nodup
  ua : Up TI.cmpI La
  ub : Up TI.cmpI Lb
  mem : ∀ k v, ((k, v) ∈ La ∨ (k, v) ∈ Lb) ↔ ∃ j ∈ last, k = keys.getD j 0 ∧ v = valL keys j
  apart : ∀ k v v', (k, v) ∈ La → (k, v') ∉ Lb
  len : La.length + Lb.length = last.length

theorem MvTwo.swap {keys : List Int} {last : List Nat} {La Lb : List (Int × List Int)} (h : MvTwo keys last La Lb) : MvTwo keys last Lb La :=
  ⟨h.nd, h.ub, h.ua, fun k v => by rw [← h.mem]; exact or_comm, fun k v v' h1 h2 => h.apart k v' v h2 h1, by rw [← h.len]; omega⟩

theorem mem_putAll {L : List (Int × List Int)} (h : Up TI.cmpI L) {PL : List (Int × List Int)} (hr : PL.Pairwise fun a b => a.1 < b.1) (hn : ∀ p ∈ PL, ∀ v, (p.1, v) ∉ L) (k : Int) (v : List Int) : (k, v) ∈ putAll PL L ↔ (k, v) ∈ PL ∨ (k, v) ∈ L := by
  induction PL generalizing L with
  | nil => simp [putAll]
  | cons q PL ih =>
    obtain ⟨h1, h2⟩ := List.pairwise_cons.1 hr
    show (k, v) ∈ putAll PL (putL TI.cmpI q.1 q.2 L) ↔ _
    rw [ih (putL_up TI.cmpI_ord q.1 q.2 h) h2 (fun p hp v' hm => by
      rw [putL_mem_iff TI.cmpI_ord cmpI_tight h] at hm
      rcases hm with ⟨e, _⟩ | ⟨_, hm⟩
      · have := h1 p hp; omega
      · exact hn p (by simp [hp]) v' hm), putL_mem_iff TI.cmpI_ord cmpI_tight h, List.mem_cons]
    have hq := hn q (by simp)
    constructor
    · rintro (hm | ⟨rfl, rfl⟩ | ⟨_, hm⟩)
      · exact .inl (.inr hm)
      · exact .inl (.inl rfl)
      · exact .inr hm
    · rintro ((hm | hm) | hm)
      · exact .inr (.inl ⟨by rw [← hm], by rw [← hm]⟩)
      · exact .inl hm
      · exact .inr (.inr ⟨fun e => hq v (by rw [← e]; exact hm), hm⟩)

theorem up_pair {L : List (Int × List Int)} (h : Up TI.cmpI L) : L.Pairwise fun a b => a.1 < b.1 := h.imp (fun {a b} hab => by
  simp only [TI.cmpI] at hab
  (repeat' split at hab) <;> omega)

theorem ris_up {L : List (Int × List Int)} (h : Up TI.cmpI L) : Ris L := fun j p q hp hq => by
  have := (List.pairwise_iff_getElem.1 (up_pair h)) j (j + 1) (List.getElem?_eq_some_iff.1 hp).1 (List.getElem?_eq_some_iff.1 hq).1 (by omega)
  rwa [(List.getElem?_eq_some_iff.1 hp).2, (List.getElem?_eq_some_iff.1 hq).2] at this

theorem MvTwo.small {keys : List Int} {last : List Nat} {La Lb : List (Int × List Int)} (h : MvTwo keys last La Lb) : ∀ p ∈ La, p.2.length = 3 := fun p hp => by
  obtain ⟨j, _, _, e⟩ := (h.mem p.1 p.2).1 (.inl hp)
  rw [e]; rfl

theorem filter_split {α : Type} (f : α → Bool) (l : List α) : (l.filter f).length + (l.filter fun p => !f p).length = l.length := by
  induction l with
  | nil => rfl
  | cons p l ih =>
    rw [List.filter_cons, List.filter_cons]
    cases f p <;> simp <;> omega

/-- a range goes over: Lay takes it -/
theorem MvTwo.go {keys : List Int} {last : List Nat} {La Lb : List (Int × List Int)} (h : MvTwo keys last La Lb) (lo hi most : Int) (hm : (last.length : Int) ≤ most) {res : Int} (hr : LayOut most Lb (La.filter (inR TI.cmpI lo hi)) res) :
    res = 0 ∧ MvTwo keys last (La.filter fun p => !inR TI.cmpI lo hi p) (putAll (La.filter (inR TI.cmpI lo hi)) Lb) ∧ (La.filter fun p => !inR TI.cmpI lo hi p).filter (inR TI.cmpI lo hi) = [] := by
  have hF : Up TI.cmpI (La.filter (inR TI.cmpI lo hi)) := List.Pairwise.filter _ h.ua
  have hnm : ∀ p ∈ La.filter (inR TI.cmpI lo hi), ∀ v, (p.1, v) ∉ Lb := fun p hp v => h.apart p.1 p.2 v (List.mem_filter.1 hp).1
  have hnt : ∀ p ∈ La.filter (inR TI.cmpI lo hi), ¬ There Lb p := fun p hp ht => by
    obtain ⟨v, hv⟩ := Option.isSome_iff_exists.1 ht
    exact hnm p hp v ((getL_iff TI.cmpI_ord cmpI_tight h.ub _ _).1 hv)
  have hsplit : (La.filter (inR TI.cmpI lo hi)).length + (La.filter fun p => !inR TI.cmpI lo hi p).length = La.length := by
    have hl := filter_split (inR TI.cmpI lo hi) La
    exact hl
  have hput := putAll_len h.ub (up_pair hF) hnt
  have hlen := h.len
  have h3 : ∀ p ∈ La.filter (inR TI.cmpI lo hi), p.2.length ≤ 64 := fun p hp => by have := h.small p (List.mem_filter.1 hp).1; omega
  refine ⟨?_, ⟨h.nd, List.Pairwise.filter _ h.ua, putAll_up _ h.ub, fun k v => ?_, fun k v v' h1 h2 => ?_, by omega⟩, ?_⟩
  · rcases hr with ⟨h1, _⟩ | ⟨_, ⟨p, hp, h2⟩, _⟩ | ⟨_, _, ⟨p, hp, h2⟩, _⟩ | ⟨_, _, _, h2, _⟩ | ⟨_, _, _, _, h2⟩
    · exact absurd (ris_up hF) h1
    · have := h3 p hp; omega
    · exact absurd h2 (hnt p hp)
    · omega
    · exact h2
  · rw [mem_putAll h.ub (up_pair hF) hnm, ← h.mem, List.mem_filter, List.mem_filter]
    cases inR TI.cmpI lo hi (k, v) <;> simp
  · rw [mem_putAll h.ub (up_pair hF) hnm] at h2
    have h1' := List.mem_filter.1 h1
    rcases h2 with h2 | h2
    · have h2' := List.mem_filter.1 h2
      have e1 : inR TI.cmpI lo hi (k, v) = true := h2'.2
      have e2 := h1'.2
      rw [e1] at e2
      cases e2
    · exact h.apart k v v' h1'.1 h2
  · rw [List.filter_filter, List.filter_eq_nil_iff]
    intro p _
    simp

/-- where a key lies in the end -/
theorem MvTwo.one {keys : List Int} {last : List Nat} {La Lb : List (Int × List Int)} (h : MvTwo keys last La Lb) {j : Nat} (hj : j ∈ last) :
    (getL TI.cmpI (keys.getD j 0) La = some (valL keys j) ∧ getL TI.cmpI (keys.getD j 0) Lb = none) ∨ (getL TI.cmpI (keys.getD j 0) La = none ∧ getL TI.cmpI (keys.getD j 0) Lb = some (valL keys j)) := by
  have key : ∀ {A B : List (Int × List Int)}, Up TI.cmpI A → Up TI.cmpI B → (∀ k v v', (k, v) ∈ A → (k, v') ∉ B) → (keys.getD j 0, valL keys j) ∈ A → getL TI.cmpI (keys.getD j 0) A = some (valL keys j) ∧ getL TI.cmpI (keys.getD j 0) B = none := fun ha hb hap hm =>
    ⟨(getL_iff TI.cmpI_ord cmpI_tight ha _ _).2 hm, (getL_none TI.cmpI_ord cmpI_tight hb _).2 fun v hv => hap _ _ _ hm hv⟩
  rcases (h.mem (keys.getD j 0) (valL keys j)).2 ⟨j, hj, rfl, rfl⟩ with hm | hm
  · exact .inl (key h.ua h.ub h.apart hm)
  · exact .inr (And.symm (key h.ub h.ua (fun k v v' h1 h2 => h.apart k v' v h2 h1) hm))

theorem total_three {L : List (Int × List Int)} (h : ∀ p ∈ L, p.2.length = 3) : total L = 3 * L.length := by
  induction L with
  | nil => rfl
  | cons p L ih => rw [total_cons, h p (by simp), ih (fun q hq => h q (by simp [hq])), List.length_cons]; omega
theorem MvInv.two {keys : List Int} {i : Nat} {last : List Nat} {L : List (Int × List Int)} (h : MvInv keys i last L) (hu : Up TI.cmpI L) : MvTwo keys last L [] :=
  ⟨h.nd, hu, List.Pairwise.nil, fun k v => by rw [← h.mem]; simp, fun _ _ _ _ h => (by cases h), by simp [h.len]⟩
end Go.Proofs.Ytfjeagffdijcoaa
namespace Go.Proofs.Ytfjeagffdijcoaa
open Go.RowKit Go.Shelf

def u6s (x : Int) : List Value := [.int .u64 x]
theorem u6s_len (x : Int) : (u6s x).length = 1 := rfl
abbrev U64s (B : Nat) (w : World) (A : Option Addr) (l : List Int) : Prop := Reads B w u6s 1 A l
theorem U64s.at' {B : Nat} {w : World} {A : Option Addr} {l : List Int} (h : U64s B w A l) (i : Nat) (hi : i < l.length) :
    ∃ b off, A = some ⟨b, off, none⟩ ∧ b < B ∧ w.cell? ⟨b, off + i, none⟩ = some (.int .u64 (l.getD i 0)) := by
  obtain ⟨b, off, x, hx, hA, hb, hc⟩ := h.at i hi
  have e : l.getD i 0 = x := by rw [List.getD_eq_getElem?_getD, hx]; rfl
  exact ⟨b, off, hA, hb, by rw [e]; simpa using hc 0 _ rfl⟩

theorem cell_of_heap {A B : World} {p : Addr} (h : B.heap[p.block]? = A.heap[p.block]?) : B.cell? p = A.cell? p := World.cell?_of_block (w := A) h

theorem ShelfAt.kept {w w' : World} {S M : Nat} {T : Tr Int TU.SV} {most : Int} {P : Nat → Prop} {L : List (Int × List Int)} (h : ShelfAt w S M T most P L) (hk : ∀ x, P x → w'.heap[x]? = w.heap[x]?) (hs : w.heap.size ≤ w'.heap.size) : ShelfAt w' S M T most P L where
  c0 := (cell_of_heap (p := ⟨S, 0, none⟩) (hk S h.pS)).trans h.c0
  c1 := (cell_of_heap (p := ⟨S, 1, none⟩) (hk S h.pS)).trans h.c1
  c2 := (cell_of_heap (p := ⟨S, 2, none⟩) (hk S h.pS)).trans h.c2
  fz := (World.frozen?_of_block (a := ⟨S, 2, none⟩) (hk S h.pS)).trans h.fz
  map := ⟨(cell_of_heap (p := ⟨M, 0, none⟩) (hk M h.pM)).trans h.map.ord, (cell_of_heap (p := ⟨M, 1, none⟩) (hk M h.pM)).trans h.map.root, (World.frozen?_of_block (a := ⟨M, 1, none⟩) (hk M h.pM)).trans h.map.fz, h.map.held.keeps (P := P) hk h.pT, h.map.nodup, h.map.bal, h.map.out⟩
  up := h.up
  vals := h.vals.keeps fun p hp g hg => hk g (h.own p hp g hg).1
  sm := h.sm
  st := h.st
  own := h.own
  pS := h.pS
  pM := h.pM
  pT := h.pT
  lt x hx := Nat.lt_of_lt_of_le (h.lt x hx) hs
  few := h.few
  most := h.most
  small := h.small
theorem IsShelf.kept {w w' : World} {S : Nat} {most : Int} {P : Nat → Prop} {L : List (Int × List Int)} (h : IsShelf w S most P L) (hk : ∀ x, P x → w'.heap[x]? = w.heap[x]?) (hs : w.heap.size ≤ w'.heap.size) : IsShelf w' S most P L := by
  obtain ⟨M, T, h⟩ := h
  exact ⟨M, T, h.kept hk hs⟩

/-- Cut, whatever the range -/
theorem shCut_all (w : World) (S : Nat) (most : Int) (P : Nat → Prop) (L : List (Int × List Int)) (lo hi : Int) (h : IsShelf w S most P L) :
    Calls Try.prog 68 #[.pointer (some ⟨S, 0, none⟩), .int .u64 lo, .int .u64 hi] w fun e w' =>
      ∃ v, e = .returned (.tuple #[v, .int .i64 (if lo ≤ hi then 0 else 74)]) ∧ PairsAt w' w.heap.size v (L.filter (inR TI.cmpI lo hi)) ∧ IsShelf w' S most P (L.filter fun p => !inR TI.cmpI lo hi p) ∧ Wrote P w w' := by
  by_cases hle : lo ≤ hi
  · rw [if_pos hle]; exact shCut_any w S most P L lo hi h hle
  · rw [if_neg hle]
    refine (shCut_span w S lo hi (by omega)).mono ?_
    rintro e w' ⟨rfl, rfl⟩
    have h0 : L.filter (inR TI.cmpI lo hi) = [] := inR_none (show hi < lo by omega) L
    have h1 : (L.filter fun p => !inR TI.cmpI lo hi p) = L := by
      rw [List.filter_eq_self]
      intro p hp
      have := List.filter_eq_nil_iff.1 h0 p hp
      simpa using this
    rw [h0, h1]
    exact ⟨_, rfl, ⟨[], World.ownsRow_nil _ _ _ _, trivial⟩, h, Wrote.refl _ _⟩

/-- two shelves and the list of places -/
structure MvSt (w wr : World) (Sa Sb : Nat) (most : Int) (Pa Pb : Nat → Prop) (La Lb : List (Int × List Int)) (lv : Value) (last : List Nat) : Prop where
  a : IsShelf wr Sa most Pa La
  b : IsShelf wr Sb most Pb Lb
  ab : ∀ x, Pa x → ¬ Pb x
  wa : ∀ x, Pa x → w.heap.size ≤ x
  wb : ∀ x, Pb x → w.heap.size ≤ x
  own : ∀ g, lv.ownBlock = some g → ¬ Pa g ∧ ¬ Pb g
  row : wr.ownsRow w.heap.size 3 1 lv last.length ((last.map fun (j : Nat) => (j : Int)).flatMap i64)
  bel : Below w.heap.size w wr

namespace MvSt
variable {w wr w' : World} {Sa Sb : Nat} {most : Int} {Pa Pb Pa' : Nat → Prop} {La Lb La' : List (Int × List Int)} {lv lv' : Value} {last last' : List Nat}
theorem swap (h : MvSt w wr Sa Sb most Pa Pb La Lb lv last) : MvSt w wr Sb Sa most Pb Pa Lb La lv last :=
  ⟨h.b, h.a, fun x hb ha => h.ab x ha hb, h.wb, h.wa, fun g hg => (h.own g hg).symm, h.row, h.bel⟩
theorem below (h : MvSt w wr Sa Sb most Pa Pb La Lb lv last) (hb : Below wr.heap.size wr w') : MvSt w w' Sa Sb most Pa Pb La Lb lv last :=
  ⟨h.a.below hb, h.b.below hb, h.ab, h.wa, h.wb, h.own, ownsRow_wrote h.row (Wrote.below hb : Wrote (fun _ => False) wr w') (fun _ _ => id), h.bel.trans (hb.mono h.bel.size)⟩
theorem drewN (h : MvSt w wr Sa Sb most Pa Pb La Lb lv last) (q : Nat) : MvSt w (wr.drewN q) Sa Sb most Pa Pb La Lb lv last := h.below (below_drewN' (Below.refl _ wr) q)
/-- behind a call of the first shelf -/
theorem call (h : MvSt w wr Sa Sb most Pa Pb La Lb lv last) (ha : IsShelf w' Sa most Pa' La') (hw : Wrote Pa wr w') (hP : ∀ x, Pa' x → Pa x ∨ wr.heap.size ≤ x) : MvSt w w' Sa Sb most Pa' Pb La' Lb lv last where
  a := ha
  b := h.b.wrote hw fun x hb ha => h.ab x ha hb
  ab x hx hb := by
    rcases hP x hx with hx | hx
    · exact h.ab x hx hb
    · have := h.b.lt x hb; omega
  wa x hx := by
    rcases hP x hx with hx | hx
    · exact h.wa x hx
    · exact Nat.le_trans h.bel.size hx
  wb := h.wb
  own g hg := ⟨fun hx => by
    rcases hP g hx with hx | hx
    · exact (h.own g hg).1 hx
    · have := (h.row.lt g hg).2; omega, (h.own g hg).2⟩
  row := ownsRow_wrote h.row hw fun g hg => (h.own g hg).1
  bel := (Wrote.step (S := fun _ => False) (Wrote.below h.bel) hw (fun x hx => .inr (h.wa x hx))).toBelow (fun _ h => h.elim)
/-- behind a change of the list of places -/
theorem list (h : MvSt w wr Sa Sb most Pa Pb La Lb lv last) (hr : w'.ownsRow w.heap.size 3 1 lv' last'.length ((last'.map fun (j : Nat) => (j : Int)).flatMap i64)) (hg : wr.grownBy w' lv.ownBlock)
    (hb : lv'.ownBlock = lv.ownBlock ∨ ∃ b, lv'.ownBlock = some b ∧ wr.heap.size ≤ b) : MvSt w w' Sa Sb most Pa Pb La Lb lv' last' where
  a := h.a.kept (fun x hx => hg.block x (h.a.lt x hx) (fun e => (h.own x e.symm).1 hx)) hg.size
  b := h.b.kept (fun x hx => hg.block x (h.b.lt x hx) (fun e => (h.own x e.symm).2 hx)) hg.size
  ab := h.ab
  wa := h.wa
  wb := h.wb
  own g hg := by
    rcases hb with hb | ⟨b, hb, hbs⟩
    · exact h.own g (hb ▸ hg)
    · have e : b = g := by rw [hb] at hg; simpa using hg
      exact ⟨fun hx => by have := h.a.lt g hx; omega, fun hx => by have := h.b.lt g hx; omega⟩
  row := hr
  bel := h.bel.grown hg h.bel.size (fun k e => (h.row.lt k e).1)
end MvSt

set_option maxHeartbeats 1000000 in
theorem valueOf_any (w : World) (A : Option Addr) (n c : Nat) (keys : List Int) (i : Nat) (hl : keys.length = n) (hi : i < n) (hn : n ≤ 1000000000) (hR : U64s w.heap.size w A keys) :
    Calls Try.prog 67 #[.slice A n c, .int .i64 i] w fun e w' => e = .returned (.slice (some ⟨w.heap.size, 0, none⟩) 3 3) ∧ w' = w.alloc (.cells #[.int .u8 ((i : Int) % 256), .int .u8 ((i : Int) / 256 % 256), .int .u8 (keys.getD i 0 % 256)] 5) := by
  obtain ⟨b, off, rfl, hb, hc⟩ := hR.at' i (by omega)
  have hii : (i : Int) < (n : Int) := by omega
  have hi0 : (0 : Int) ≤ (i : Int) := by omega
  clear hR
  generalize keys.getD i 0 = kx at *
  go_enter Try.func67, Try.ntmps67
  go_wp2_with fail
  refine bodyPost_ret (results_tmp rfl _ _ _) rfl ?_
  exact ⟨rfl, rfl⟩
end Go.Proofs.Ytfjeagffdijcoaa
namespace Go.Proofs.Ytfjeagffdijcoaa
open Go.RowKit Go.Shelf

def toStr (bs : List Int) : ByteArray := ⟨(bs.map fun x => UInt8.ofNat x.toNat).toArray⟩
theorem toStr_append (a b : List Int) : toStr a ++ toStr b = toStr (a ++ b) := by
  apply ByteArray.ext
  simp [toStr]
theorem toStr_size (bs : List Int) : (toStr bs).size = bs.length := by simp [toStr, ByteArray.size]
theorem toStr_inj {a b : List Int} (ha : ∀ x ∈ a, 0 ≤ x ∧ x ≤ 255) (hb : ∀ x ∈ b, 0 ≤ x ∧ x ≤ 255) (h : toStr a = toStr b) : a = b := by
  have h1 : (a.map fun x => UInt8.ofNat x.toNat) = (b.map fun x => UInt8.ofNat x.toNat) := by
    have := congrArg (fun s : ByteArray => s.data.toList) h
    simpa [toStr] using this
  clear h
  induction a generalizing b with
  | nil => cases b with
    | nil => rfl
    | cons => cases h1
  | cons x a ih =>
    cases b with
    | nil => cases h1
    | cons y b =>
      simp only [List.map_cons, List.cons.injEq] at h1
      obtain ⟨e1, e2⟩ := h1
      have hx := ha x (by simp)
      have hy := hb y (by simp)
      have : x = y := by
        have e3 := congrArg UInt8.toNat e1
        simp only [UInt8.toNat_ofNat'] at e3
        omega
      rw [this, ih (fun z hz => ha z (by simp [hz])) (fun z hz => hb z (by simp [hz])) e2]

theorem conv_bytes (w : World) (A : Option Addr) (c : Nat) (bs : List Int) (hA : A = none → bs.length = 0 ∧ c = 0) (hR : U8s w.heap.size w A bs) (hb : ∀ x ∈ bs, 0 ≤ x ∧ x ≤ 255) :
    (convert 65 9 (.slice A bs.length c)).run Try.prog w = .ok (.string (toStr bs)) w := by
  cases A with
  | none =>
    obtain ⟨h1, h2⟩ := hA rfl
    obtain rfl : bs = [] := List.eq_nil_of_length_eq_zero h1
    subst h2
    have := Go.Lib.run_convert_nil_bytes (P := Try.prog) w 65 9 5 0 Try.underlying65 Try.underlying5 Try.underlying9
    exact this
  | some a =>
    have h := run_convert_bytes_back (P := Try.prog) w 65 9 5 a c (bs.map fun x => UInt8.ofNat x.toNat) Try.underlying65 Try.underlying5 Try.underlying9 (fun j hj => by
      have hj' : j < bs.length := by simpa using hj
      obtain ⟨b, off, x, hx, e, _, hc⟩ := hR.at' j hj'
      cases e
      rw [addr_add, hc]
      have hx' : bs[j] = x := (List.getElem?_eq_some_iff.1 hx.out).2
      have := hb x (List.mem_of_getElem? hx.out)
      simp only [List.getElem_map, hx', UInt8.toNat_ofNat']
      congr 2
      omega)
    rw [List.length_map] at h
    exact h

theorem val_reads (w : World) (keys : List Int) (i : Nat) (B : Nat) (hB : w.heap.size < B) :
    U8s B (w.alloc (.cells #[.int .u8 ((i : Int) % 256), .int .u8 ((i : Int) / 256 % 256), .int .u8 (keys.getD i 0 % 256)] 5)) (some ⟨w.heap.size, 0, none⟩) (valL keys i) :=
  .inr ⟨w.heap.size, 0, rfl, hB, fun k x hx j v hv => by
    have hj : j = 0 := by
      have := (List.getElem?_eq_some_iff.1 hv).1
      simp [u8s] at this; exact this
    subst hj
    have hv' : v = .int .u8 x := by simpa [u8s] using hv.symm
    subst hv'
    have hk := (List.getElem?_eq_some_iff.1 hx).1
    simp only [valL_len] at hk
    rcases k with _ | _ | _ | k
    · simp [valL] at hx; subst hx; simp
    · simp [valL] at hx; subst hx; simp
    · simp [valL] at hx; subst hx; simp
    · omega⟩
end Go.Proofs.Ytfjeagffdijcoaa
