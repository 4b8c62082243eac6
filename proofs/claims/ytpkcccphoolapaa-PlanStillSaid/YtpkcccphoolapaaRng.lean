/- Tables of segments, in plain Lean: what giving a range to a host makes of one; such a table is fixed by whose each key is. -/
namespace Go.Proofs.Ytpkcccphoolapaa

structure Seg where
  lo : Int
  hi : Int
  host : Int
deriving DecidableEq

def maxK : Int := 18446744073709551615
theorem maxK_eq : maxK = 18446744073709551615 := rfl

namespace Rng

/-- 'l' tiles the keys from 'a' up to (not with) 'b'. -/
def tile : Int → List Seg → Int → Prop
  | a, [], b => a = b
  | a, s :: r, b => s.lo = a ∧ s.lo ≤ s.hi ∧ tile (s.hi + 1) r b

/-- no two neighbours of one host -/
def coal : List Seg → Prop
  | [] => True
  | [_] => True
  | s :: t :: r => s.host ≠ t.host ∧ coal (t :: r)

def push (out : List Seg) (s : Seg) : List Seg :=
  match out.getLast? with
  | some p => if p.host = s.host then out.dropLast ++ [⟨p.lo, s.hi, p.host⟩] else out ++ [s]
  | none => [s]

/-- the number of the segment in which a key lies: how many end below it -/
def at' (l : List Seg) (key : Int) : Nat := l.countP (fun s => decide (s.hi < key))

def pre (s : Seg) (lo : Int) : List Seg := if s.lo < lo then [⟨s.lo, lo - 1, s.host⟩] else []
def post (s : Seg) (hi : Int) : List Seg := if hi < s.hi then [⟨hi + 1, s.hi, s.host⟩] else []

def raw (l : List Seg) (lo hi owner : Int) (first last : Seg) : List Seg :=
  l.take (at' l lo) ++ pre first lo ++ [⟨lo, hi, owner⟩] ++ post last hi ++ l.drop (at' l hi + 1)

/-- some element has this key for this host -/
def Has (l : List Seg) (key h : Int) : Prop := ∃ s ∈ l, s.lo ≤ key ∧ key ≤ s.hi ∧ s.host = h

theorem tile_append {x y : List Seg} {a c : Int} : tile a (x ++ y) c ↔ ∃ b, tile a x b ∧ tile b y c := by
  induction x generalizing a with
  | nil =>
    constructor
    · intro h; exact ⟨a, rfl, h⟩
    · rintro ⟨b, h1, h2⟩; have h1 : a = b := h1; subst h1; exact h2
  | cons s r ih =>
    show (_ ∧ _ ∧ _) ↔ ∃ b, (_ ∧ _ ∧ _) ∧ _
    constructor
    · rintro ⟨h1, h2, h3⟩
      obtain ⟨b, h4, h5⟩ := ih.1 h3
      exact ⟨b, ⟨h1, h2, h4⟩, h5⟩
    · rintro ⟨b, ⟨h1, h2, h3⟩, h4⟩
      exact ⟨h1, h2, ih.2 ⟨b, h3, h4⟩⟩

theorem tile_le {l : List Seg} {a b : Int} (h : tile a l b) : a ≤ b := by
  induction l generalizing a with
  | nil => have h : a = b := h; omega
  | cons s r ih => obtain ⟨h1, h2, h3⟩ := h; have := ih h3; omega

theorem tile_mem {l : List Seg} {a b : Int} (h : tile a l b) : ∀ s ∈ l, a ≤ s.lo ∧ s.lo ≤ s.hi ∧ s.hi < b := by
  induction l generalizing a with
  | nil => simp
  | cons s r ih =>
    obtain ⟨h1, h2, h3⟩ := h
    intro t ht
    rcases List.mem_cons.1 ht with rfl | ht
    · have := tile_le h3; omega
    · have := ih h3 t ht; omega

/-- each key of the tiled range is somebody's -/
theorem tile_has {l : List Seg} {a b : Int} (h : tile a l b) (key : Int) (h0 : a ≤ key) (h1 : key < b) : ∃ hst, Has l key hst := by
  induction l generalizing a with
  | nil => have h : a = b := h; omega
  | cons s r ih =>
    obtain ⟨h2, h3, h4⟩ := h
    by_cases hk : key ≤ s.hi
    · exact ⟨s.host, s, List.mem_cons_self .., by omega, hk, rfl⟩
    · obtain ⟨x, t, ht, hx⟩ := ih h4 (by omega)
      exact ⟨x, t, List.mem_cons_of_mem _ ht, hx⟩

theorem tile_unique {l : List Seg} {a b : Int} (h : tile a l b) {key x y : Int} (hx : Has l key x) (hy : Has l key y) : x = y := by
  induction l generalizing a with
  | nil => obtain ⟨s, hs, _⟩ := hx; cases hs
  | cons s r ih =>
    obtain ⟨h2, h3, h4⟩ := h
    obtain ⟨t, ht, t1, t2, rfl⟩ := hx
    obtain ⟨u, hu, u1, u2, rfl⟩ := hy
    rcases List.mem_cons.1 ht with e | ht'
    · rcases List.mem_cons.1 hu with e' | hu'
      · rw [e, e']
      · have := tile_mem h4 u hu'; subst e; omega
    · rcases List.mem_cons.1 hu with e' | hu'
      · have := tile_mem h4 t ht'; subst e'; omega
      · exact ih h4 ⟨t, ht', t1, t2, rfl⟩ ⟨u, hu', u1, u2, rfl⟩

theorem coal_tail {s : Seg} {r : List Seg} (h : coal (s :: r)) : coal r := by
  cases r with
  | nil => trivial
  | cons t r => exact h.2

/-- A coalesced tiling is fixed by whose each key is. -/
theorem canon {l l' : List Seg} {a b : Int} (h : tile a l b) (h' : tile a l' b) (c : coal l) (c' : coal l') (he : ∀ key, a ≤ key → key < b → ∀ x, Has l key x → Has l' key x) : l = l' := by
  induction l generalizing a l' with
  | nil =>
    cases l' with
    | nil => rfl
    | cons s' r' =>
      have h : a = b := h
      obtain ⟨h1, h2, h3⟩ := h'
      have := tile_le h3; omega
  | cons s r ih =>
    cases l' with
    | nil =>
      have h' : a = b := h'
      obtain ⟨h1, h2, h3⟩ := h
      have := tile_le h3; omega
    | cons s' r' =>
      have h0 := h
      have h0' := h'
      obtain ⟨h1, h2, h3⟩ := h
      obtain ⟨h1', h2', h3'⟩ := h'
      have hb := tile_le h3
      have hb' := tile_le h3'
      have hhost : s.host = s'.host := by
        have := he a (by omega) (by omega) s.host ⟨s, List.mem_cons_self .., by omega, by omega, rfl⟩
        exact tile_unique h0' this ⟨s', List.mem_cons_self .., by omega, by omega, rfl⟩
      have hhi : s.hi = s'.hi := by
        rcases Int.lt_trichotomy s.hi s'.hi with hlt | heq | hgt
        · -- the next of l begins within s'
          cases r with
          | nil => have h3 : s.hi + 1 = b := h3; omega
          | cons t r =>
            obtain ⟨t1, t2, t3⟩ := h3
            have htb := tile_le t3
            have := he t.lo (by omega) (by omega) t.host ⟨t, by simp, by omega, by omega, rfl⟩
            have := tile_unique h0' this ⟨s', List.mem_cons_self .., by omega, by omega, rfl⟩
            exact absurd (hhost.trans this.symm) c.1
        · exact heq
        · cases r' with
          | nil => have h3' : s'.hi + 1 = b := h3'; omega
          | cons t r' =>
            obtain ⟨t1, t2, t3⟩ := h3'
            have htb := tile_le t3
            have := he t.lo (by omega) (by omega) s.host ⟨s, List.mem_cons_self .., by omega, by omega, rfl⟩
            have := tile_unique h0' this ⟨t, by simp, by omega, by omega, rfl⟩
            exact absurd (hhost.symm.trans this) c'.1
      have hs : s = s' := by
        cases s; cases s'; simp only [Seg.mk.injEq]
        exact ⟨by simp_all, by simp_all, by simp_all⟩
      subst hs
      rw [ih h3 h3' (coal_tail c) (coal_tail c') (fun key hk1 hk2 x hx => by
        obtain ⟨t, ht, t1, t2, rfl⟩ := hx
        obtain ⟨u, hu, u1, u2, hu3⟩ := he key (by omega) hk2 _ ⟨t, List.mem_cons_of_mem _ ht, t1, t2, rfl⟩
        rcases List.mem_cons.1 hu with rfl | hu
        · omega
        · exact ⟨u, hu, u1, u2, hu3⟩)]

/-! ### push -/
theorem push_nil (s : Seg) : push [] s = [s] := rfl
theorem push_snoc (o : List Seg) (p s : Seg) : push (o ++ [p]) s = if p.host = s.host then o ++ [⟨p.lo, s.hi, p.host⟩] else o ++ [p] ++ [s] := by
  simp [push]

theorem eq_nil_or_snoc {α : Type} (l : List α) : l = [] ∨ ∃ o p, l = o ++ [p] := by
  rcases List.eq_nil_or_concat l with h | ⟨o, p, h⟩
  · exact .inl h
  · exact .inr ⟨o, p, by simpa using h⟩

theorem coal_snoc {o : List Seg} {p s : Seg} : coal (o ++ [p] ++ [s]) ↔ coal (o ++ [p]) ∧ p.host ≠ s.host := by
  induction o with
  | nil => simp [coal]
  | cons t o ih =>
    cases o with
    | nil => simp [coal]
    | cons u o =>
      show (_ ∧ coal (u :: o ++ [p] ++ [s])) ↔ (_ ∧ coal (u :: o ++ [p])) ∧ _
      rw [ih]
      constructor
      · rintro ⟨h1, h2, h3⟩; exact ⟨⟨h1, h2⟩, h3⟩
      · rintro ⟨⟨h1, h2⟩, h3⟩; exact ⟨h1, h2, h3⟩

theorem coal_last_eq {o : List Seg} {p q : Seg} (h : coal (o ++ [p])) (e : p.host = q.host) : coal (o ++ [q]) := by
  rcases eq_nil_or_snoc o with rfl | ⟨o, t, rfl⟩
  · trivial
  · rw [coal_snoc] at h ⊢
    exact ⟨h.1, by rw [← e]; exact h.2⟩

theorem coal_left {x y : List Seg} (h : coal (x ++ y)) : coal x := by
  induction x with
  | nil => trivial
  | cons s x ih =>
    cases x with
    | nil => trivial
    | cons t x => exact ⟨h.1, ih h.2⟩

theorem push_coal {o : List Seg} (h : coal o) (s : Seg) : coal (push o s) := by
  rcases eq_nil_or_snoc o with rfl | ⟨o, p, rfl⟩
  · trivial
  · rw [push_snoc]
    split
    · exact coal_last_eq h rfl
    · exact coal_snoc.2 ⟨h, by assumption⟩

theorem push_tile {o : List Seg} {a b : Int} (h : tile a o b) (s : Seg) (h1 : s.lo = b) (h2 : s.lo ≤ s.hi) : tile a (push o s) (s.hi + 1) := by
  rcases eq_nil_or_snoc o with rfl | ⟨o, p, rfl⟩
  · have h : a = b := h
    exact ⟨by rw [h1, h], h2, rfl⟩
  · obtain ⟨c, g1, g2, g3, g4⟩ := tile_append.1 h
    have g4 : p.hi + 1 = b := g4
    rw [push_snoc]
    split
    · exact tile_append.2 ⟨c, g1, g2, by show p.lo ≤ s.hi; omega, rfl⟩
    · exact tile_append.2 ⟨b, h, h1, h2, rfl⟩

theorem push_has {o : List Seg} {a b : Int} (h : tile a o b) (s : Seg) (h1 : s.lo = b) (h2 : s.lo ≤ s.hi) (key x : Int) : Has (push o s) key x ↔ Has (o ++ [s]) key x := by
  rcases eq_nil_or_snoc o with rfl | ⟨o, p, rfl⟩
  · simp [push_nil]
  · obtain ⟨c, g1, g2, g3, g4⟩ := tile_append.1 h
    have g4 : p.hi + 1 = b := g4
    rw [push_snoc]
    split
    · rename_i hh
      constructor
      · rintro ⟨t, ht, t1, t2, rfl⟩
        rcases List.mem_append.1 ht with ht | ht
        · exact ⟨t, by simp [ht], t1, t2, rfl⟩
        · simp only [List.mem_singleton] at ht
          subst ht
          by_cases hk : key ≤ p.hi
          · exact ⟨p, by simp, t1, hk, rfl⟩
          · exact ⟨s, by simp, by omega, t2, hh.symm⟩
      · rintro ⟨t, ht, t1, t2, rfl⟩
        simp only [List.append_assoc, List.mem_append, List.mem_cons, List.not_mem_nil, or_false] at ht
        rcases ht with ht | rfl | rfl
        · exact ⟨t, by simp [ht], t1, t2, rfl⟩
        · exact ⟨⟨t.lo, s.hi, t.host⟩, by simp, t1, by show key ≤ s.hi; omega, rfl⟩
        · exact ⟨⟨p.lo, t.hi, p.host⟩, by simp, by show p.lo ≤ key; omega, t2, hh⟩
    · exact Iff.rfl

theorem push_length (o : List Seg) (s : Seg) : (push o s).length ≤ o.length + 1 ∧ 1 ≤ (push o s).length := by
  rcases eq_nil_or_snoc o with rfl | ⟨o, p, rfl⟩
  · simp [push_nil]
  · rw [push_snoc]; split <;> simp

theorem has_append {x y : List Seg} {key h : Int} : Has (x ++ y) key h ↔ Has x key h ∨ Has y key h := by
  constructor
  · rintro ⟨t, ht, r⟩
    rcases List.mem_append.1 ht with ht | ht
    · exact .inl ⟨t, ht, r⟩
    · exact .inr ⟨t, ht, r⟩
  · rintro (⟨t, ht, r⟩ | ⟨t, ht, r⟩)
    · exact ⟨t, List.mem_append_left _ ht, r⟩
    · exact ⟨t, List.mem_append_right _ ht, r⟩

/-- many pushes behind a coalesced list -/
theorem pushes {o r : List Seg} {a b c : Int} (h : tile a o b) (hc : coal o) (hr : tile b r c) :
    tile a (r.foldl push o) c ∧ coal (r.foldl push o) ∧ (∀ key x, Has (r.foldl push o) key x ↔ Has (o ++ r) key x) ∧ (r.foldl push o).length ≤ o.length + r.length ∧ o.length ≤ (r.foldl push o).length := by
  induction r generalizing o b with
  | nil => have hr : b = c := hr; subst hr; simpa using ⟨h, hc⟩
  | cons s r ih =>
    obtain ⟨h1, h2, h3⟩ := hr
    obtain ⟨g1, g2, g3, g4, g5⟩ := ih (push_tile h s h1 h2) (push_coal hc s) h3
    have hl := push_length o s
    have hl2 : o.length ≤ (push o s).length := by
      rcases eq_nil_or_snoc o with rfl | ⟨o, p, rfl⟩
      · simp
      · rw [push_snoc]; split <;> simp
    refine ⟨g1, g2, fun key x => ?_, by simp only [List.foldl_cons, List.length_cons]; omega, by simp only [List.foldl_cons]; omega⟩
    rw [List.foldl_cons, g3, has_append, push_has h s h1 h2, has_append, has_append, or_assoc]
    have : Has (s :: r) key x ↔ Has [s] key x ∨ Has r key x := has_append (x := [s])
    rw [this]

/-- pushed one by one a coalesced list is itself -/
theorem foldl_push_coal {o r : List Seg} (h : coal (o ++ r)) : r.foldl push o = o ++ r := by
  induction r generalizing o with
  | nil => simp
  | cons s r ih =>
    have e : push o s = o ++ [s] := by
      rcases eq_nil_or_snoc o with rfl | ⟨o, p, rfl⟩
      · rfl
      · rw [push_snoc, if_neg]
        have : coal (o ++ [p] ++ [s]) := coal_left (y := r) (by simpa using h)
        exact (coal_snoc.1 this).2
    rw [List.foldl_cons, e, ih (by simpa using h)]
    simp

/-- A table: it tiles all keys, is coalesced, its hosts are hosts. -/
structure WF (l : List Seg) : Prop where
  tiles : tile 0 l (maxK + 1)
  coal : coal l
  hosts : ∀ s ∈ l, 0 ≤ s.host ∧ s.host < 16

theorem WF.ne {l : List Seg} (h : WF l) : l ≠ [] := by
  rintro rfl
  have : (0 : Int) = maxK + 1 := h.tiles
  rw [maxK_eq] at this; omega
theorem WF.pos {l : List Seg} (h : WF l) : 0 < l.length := List.length_pos_iff.2 h.ne

theorem WF.seg {l : List Seg} (h : WF l) : ∀ s ∈ l, 0 ≤ s.lo ∧ s.lo ≤ s.hi ∧ s.hi ≤ maxK ∧ 0 ≤ s.host ∧ s.host < 16 := by
  intro s hs
  have h1 := tile_mem h.tiles s hs
  have h2 := h.hosts s hs
  omega

/-- Where the segments of a tiling are parted by a key: those below it, that in which it lies, those above. -/
theorem at_split {l : List Seg} {a b : Int} (h : tile a l b) {key : Int} (h0 : a ≤ key) (h1 : key < b) :
    ∃ s, l[at' l key]? = some s ∧ s.lo ≤ key ∧ key ≤ s.hi ∧ l = l.take (at' l key) ++ s :: l.drop (at' l key + 1) ∧ (∀ t ∈ l.take (at' l key), t.hi < key) ∧ (∀ t ∈ l.drop (at' l key + 1), key < t.lo) := by
  induction l generalizing a with
  | nil => have h : a = b := h; omega
  | cons s r ih =>
    obtain ⟨h2, h3, h4⟩ := h
    by_cases hk : s.hi < key
    · obtain ⟨t, g1, g2, g3, g4, g5, g6⟩ := ih h4 (by omega)
      have e : at' (s :: r) key = at' r key + 1 := by
        unfold at'; rw [List.countP_cons_of_pos (by simpa using hk)]
      rw [e]
      refine ⟨t, by simpa using g1, g2, g3, by simp only [List.take_succ_cons, List.cons_append, List.drop_succ_cons]; rw [← g4], ?_, by simpa using g6⟩
      intro u hu
      simp only [List.take_succ_cons, List.mem_cons] at hu
      rcases hu with rfl | hu
      · exact hk
      · exact g5 u hu
    · have e : at' (s :: r) key = 0 := by
        unfold at'
        rw [List.countP_eq_zero]
        intro t ht
        simp only [decide_eq_true_eq]
        rcases List.mem_cons.1 ht with rfl | ht
        · exact hk
        · have := tile_mem h4 t ht; omega
      rw [e]
      refine ⟨s, rfl, by omega, by omega, by simp, by simp, fun t ht => ?_⟩
      have := tile_mem h4 t (by simpa using ht); omega

theorem at_mono {l : List Seg} {x y : Int} (h : x ≤ y) : at' l x ≤ at' l y := by
  unfold at'
  apply List.countP_mono_left
  intro s _ hs
  simp only [decide_eq_true_eq] at hs ⊢
  omega

theorem at_lt {l : List Seg} {a b : Int} (h : tile a l b) {key : Int} (h0 : a ≤ key) (h1 : key < b) : at' l key < l.length := by
  obtain ⟨s, hs, _⟩ := at_split h h0 h1
  exact (List.getElem?_eq_some_iff.1 hs).1

def withL (l : List Seg) (lo hi owner : Int) : List Seg :=
  match l[at' l lo]?, l[at' l hi]? with
  | some first, some last =>
    (l.drop (at' l hi + 1)).foldl push ((post last hi).foldl push (push (l.take (at' l lo) ++ pre first lo) ⟨lo, hi, owner⟩))
  | _, _ => []

/-- What giving a range to a host makes of a table. -/
theorem withL_spec {l : List Seg} (h : WF l) {lo hi owner : Int} (h0 : 0 ≤ lo) (h1 : lo ≤ hi) (h2 : hi ≤ maxK) (h3 : 0 ≤ owner) (h4 : owner < 16) :
    WF (withL l lo hi owner) ∧ (∀ key x, Has (withL l lo hi owner) key x → (lo ≤ key ∧ key ≤ hi ∧ x = owner) ∨ (¬ (lo ≤ key ∧ key ≤ hi) ∧ Has l key x)) ∧ (withL l lo hi owner).length ≤ l.length + 2 := by
  obtain ⟨f, f1, f2, f3, f4, f5, f6⟩ := at_split h.tiles h0 (show lo < maxK + 1 by omega)
  obtain ⟨g, g1, g2, g3, g4, g5, g6⟩ := at_split h.tiles (show 0 ≤ hi by omega) (show hi < maxK + 1 by omega)
  have hij : at' l lo ≤ at' l hi := at_mono h1
  have hjl := at_lt h.tiles (show 0 ≤ hi by omega) (show hi < maxK + 1 by omega)
  generalize hi' : at' l lo = i at *
  generalize hj' : at' l hi = j at *
  have ew : withL l lo hi owner = (l.drop (j + 1)).foldl push ((post g hi).foldl push (push (l.take i ++ pre f lo) ⟨lo, hi, owner⟩)) := by
    unfold withL; rw [hi', hj', f1, g1]
  -- the left part
  have ht := h.tiles
  rw [f4] at ht
  obtain ⟨b1, t1, t2, t3, t4⟩ := tile_append.1 ht
  have hleft : tile 0 (l.take i ++ pre f lo) lo ∧ coal (l.take i ++ pre f lo) := by
    unfold pre
    split
    · refine ⟨tile_append.2 ⟨b1, t1, t2, by show f.lo ≤ lo - 1; omega, by show lo - 1 + 1 = lo; omega⟩, ?_⟩
      have hc := h.coal
      rw [f4] at hc
      have hc : coal (l.take i ++ [f]) := coal_left (y := l.drop (i + 1)) (by simpa using hc)
      exact coal_last_eq hc rfl
    · have e : lo = b1 := by omega
      refine ⟨by rw [List.append_nil, e]; exact t1, ?_⟩
      rw [List.append_nil]
      have hc := h.coal
      rw [f4] at hc
      exact coal_left hc
  -- the right part
  have ht2 := h.tiles
  rw [g4] at ht2
  obtain ⟨b2, u1, u2, u3, u4⟩ := tile_append.1 ht2
  have hmid := push_tile hleft.1 (⟨lo, hi, owner⟩ : Seg) rfl h1
  have hmidc := push_coal hleft.2 (⟨lo, hi, owner⟩ : Seg)
  have hmidh := push_has hleft.1 (⟨lo, hi, owner⟩ : Seg) rfl h1
  have hmidl := push_length (l.take i ++ pre f lo) (⟨lo, hi, owner⟩ : Seg)
  have hpost : tile (hi + 1) (post g hi) (g.hi + 1) := by
    unfold post
    split
    · exact ⟨rfl, by show hi + 1 ≤ g.hi; omega, rfl⟩
    · show hi + 1 = g.hi + 1; omega
  obtain ⟨p1, p2, p3, p4, p5⟩ := pushes hmid hmidc hpost
  obtain ⟨q1, q2, q3, q4, q5⟩ := pushes p1 p2 u4
  have hhas : ∀ key x, Has (withL l lo hi owner) key x ↔ Has (l.take i) key x ∨ Has (pre f lo) key x ∨ Has [(⟨lo, hi, owner⟩ : Seg)] key x ∨ Has (post g hi) key x ∨ Has (l.drop (j + 1)) key x := by
    intro key x
    rw [ew, q3, has_append, p3, has_append, hmidh, has_append, has_append]
    constructor
    · rintro ((((h | h) | h) | h) | h) <;> simp [h]
    · rintro (h | h | h | h | h) <;> simp [h]
  have hkeys : ∀ key x, Has (withL l lo hi owner) key x → (lo ≤ key ∧ key ≤ hi ∧ x = owner) ∨ (¬ (lo ≤ key ∧ key ≤ hi) ∧ Has l key x) := by
    intro key x hx
    have hfm : f ∈ l := List.mem_of_getElem? f1
    have hgm : g ∈ l := List.mem_of_getElem? g1
    rcases (hhas key x).1 hx with ⟨s, hs, s1, s2, rfl⟩ | ⟨s, hs, s1, s2, rfl⟩ | ⟨s, hs, s1, s2, rfl⟩ | ⟨s, hs, s1, s2, rfl⟩ | ⟨s, hs, s1, s2, rfl⟩
    · have := f5 s hs
      exact .inr ⟨by omega, s, List.mem_of_mem_take hs, s1, s2, rfl⟩
    · unfold pre at hs
      split at hs
      · simp only [List.mem_singleton] at hs
        subst hs
        have s2 : key ≤ lo - 1 := s2
        exact .inr ⟨by omega, f, hfm, s1, by omega, rfl⟩
      · cases hs
    · simp only [List.mem_singleton] at hs
      subst hs
      exact .inl ⟨s1, s2, rfl⟩
    · unfold post at hs
      split at hs
      · simp only [List.mem_singleton] at hs
        subst hs
        have s1 : hi + 1 ≤ key := s1
        exact .inr ⟨by omega, g, hgm, by omega, s2, rfl⟩
      · cases hs
    · have := g6 s hs
      exact .inr ⟨by omega, s, List.mem_of_mem_drop hs, s1, s2, rfl⟩
  have htile : tile 0 (withL l lo hi owner) (maxK + 1) := by rw [ew]; exact q1
  refine ⟨⟨htile, by rw [ew]; exact q2, fun s hs => ?_⟩, hkeys, ?_⟩
  · have hm := tile_mem htile s hs
    rcases hkeys s.lo s.host ⟨s, hs, by omega, by omega, rfl⟩ with ⟨_, _, e⟩ | ⟨_, t, ht, _, _, e⟩
    · rw [e]; exact ⟨h3, h4⟩
    · rw [← e]; exact h.hosts t ht
  · rw [ew]
    have a1 : (pre f lo).length ≤ 1 := by unfold pre; split <;> simp
    have a2 : (post g hi).length ≤ 1 := by unfold post; split <;> simp
    simp only [List.length_append, List.length_take, List.length_drop] at *
    omega

/-- 'WF' tables that say the same of each key are the same. -/
theorem WF.eq {l l' : List Seg} (h : WF l) (h' : WF l') (he : ∀ key, 0 ≤ key → key ≤ maxK → ∀ x, Has l key x → Has l' key x) : l = l' :=
  canon h.tiles h'.tiles h.coal h'.coal fun key h0 h1 x hx => he key h0 (by omega) x hx

/-- giving a host what it has changes nothing -/
theorem withL_again {l : List Seg} (h : WF l) {lo hi owner : Int} (h0 : 0 ≤ lo) (h1 : lo ≤ hi) (h2 : hi ≤ maxK) (h3 : 0 ≤ owner) (h4 : owner < 16) :
    withL (withL l lo hi owner) lo hi owner = withL l lo hi owner := by
  obtain ⟨w1, k1, _⟩ := withL_spec h h0 h1 h2 h3 h4
  obtain ⟨w2, k2, _⟩ := withL_spec w1 h0 h1 h2 h3 h4
  refine w2.eq w1 fun key _ _ x hx => ?_
  rcases k2 key x hx with ⟨a, b, c⟩ | ⟨_, hh⟩
  · obtain ⟨y, hy⟩ := tile_has w1.tiles key (by omega) (by omega)
    rcases k1 key y hy with ⟨_, _, e⟩ | ⟨g, _⟩
    · have hxy : x = y := c.trans e.symm
      rw [hxy]; exact hy
    · exact absurd ⟨a, b⟩ g
  · exact hh
end Rng
end Go.Proofs.Ytpkcccphoolapaa
