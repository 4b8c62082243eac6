/- Layer 6: Diff, in plain Lean. -/
import Derived.Test.YtefdbhmjbfpeoaaBackL
namespace Go.Proofs.Ytefdbhmjbfpeoaa

structure Chg where
  lo : Int
  hi : Int
  src : Int
  dst : Int

namespace Rng
/-- a change behind others; one that goes on the last one makes that one longer -/
def grow (o : List Chg) (c : Chg) : List Chg :=
  match o.getLast? with
  | some p => if p.hi + 1 = c.lo ∧ p.src = c.src ∧ p.dst = c.dst then o.dropLast ++ [⟨p.lo, c.hi, p.src, p.dst⟩] else o ++ [c]
  | none => [c]

theorem grow_nil (c : Chg) : grow [] c = [c] := rfl
theorem grow_snoc (o : List Chg) (p c : Chg) : grow (o ++ [p]) c = if p.hi + 1 = c.lo ∧ p.src = c.src ∧ p.dst = c.dst then o ++ [⟨p.lo, c.hi, p.src, p.dst⟩] else o ++ [p] ++ [c] := by
  unfold grow; simp

/-- two changes in a row: they rise, and are not one -/
def apart (c d : Chg) : Prop := c.hi < d.lo ∧ ¬ (c.hi + 1 = d.lo ∧ c.src = d.src ∧ c.dst = d.dst)
def chain : List Chg → Prop
  | [] => True
  | [_] => True
  | c :: d :: r => apart c d ∧ chain (d :: r)

theorem chain_snoc {o : List Chg} {p c : Chg} : chain (o ++ [p] ++ [c]) ↔ chain (o ++ [p]) ∧ apart p c := by
  induction o with
  | nil => simp [chain]
  | cons x r ih =>
    cases r with
    | nil => simp [chain]
    | cons y r =>
      have e1 : x :: y :: r ++ [p] ++ [c] = x :: (y :: r ++ [p] ++ [c]) := rfl
      have e2 : x :: y :: r ++ [p] = x :: (y :: r ++ [p]) := rfl
      rw [e1, e2]
      have h1 : chain (x :: (y :: r ++ [p] ++ [c])) ↔ apart x y ∧ chain (y :: r ++ [p] ++ [c]) := Iff.rfl
      have h2 : chain (x :: (y :: r ++ [p])) ↔ apart x y ∧ chain (y :: r ++ [p]) := Iff.rfl
      rw [h1, h2, ih, and_assoc]

theorem chain_last {o : List Chg} {p q : Chg} (h : chain (o ++ [p])) (h1 : p.lo = q.lo) (h2 : p.src = q.src) (h3 : p.dst = q.dst) : chain (o ++ [q]) := by
  induction o with
  | nil => trivial
  | cons x r ih =>
    cases r with
    | nil =>
      obtain ⟨a, _⟩ : apart x p ∧ True := h
      refine ⟨?_, trivial⟩
      unfold apart at a ⊢
      rw [← h1, ← h2, ← h3]
      exact a
    | cons y r =>
      obtain ⟨a, b⟩ : apart x y ∧ chain (y :: r ++ [p]) := h
      exact ⟨a, ih b⟩

/-- what is known of the changes when all keys below p are gone through -/
structure DInv (a b : List Seg) (o : List Chg) (p : Int) : Prop where
  each : ∀ c ∈ o, 0 ≤ c.lo ∧ c.lo ≤ c.hi ∧ c.hi < p ∧ c.src ≠ c.dst ∧ ∀ key, c.lo ≤ key → key ≤ c.hi → Has a key c.src ∧ Has b key c.dst
  row : chain o
  all : ∀ key x y, 0 ≤ key → key < p → Has a key x → Has b key y → x ≠ y → ∃ c ∈ o, c.lo ≤ key ∧ key ≤ c.hi

theorem DInv.grow {a b : List Seg} {o : List Chg} {c : Chg} (h : DInv a b o c.lo) (h0 : 0 ≤ c.lo) (h1 : c.lo ≤ c.hi) (h2 : c.src ≠ c.dst) (h3 : ∀ key, c.lo ≤ key → key ≤ c.hi → Has a key c.src ∧ Has b key c.dst) : DInv a b (grow o c) (c.hi + 1) := by
  have hc : 0 ≤ c.lo ∧ c.lo ≤ c.hi ∧ c.hi < c.hi + 1 ∧ c.src ≠ c.dst ∧ ∀ key, c.lo ≤ key → key ≤ c.hi → Has a key c.src ∧ Has b key c.dst := ⟨h0, h1, by omega, h2, h3⟩
  have hold : ∀ d ∈ o, 0 ≤ d.lo ∧ d.lo ≤ d.hi ∧ d.hi < c.hi + 1 ∧ d.src ≠ d.dst ∧ ∀ key, d.lo ≤ key → key ≤ d.hi → Has a key d.src ∧ Has b key d.dst := fun d hd => by
    obtain ⟨g1, g2, g3, g4, g5⟩ := h.each d hd
    exact ⟨g1, g2, by omega, g4, g5⟩
  rcases eq_nil_or_snoc o with rfl | ⟨o, p, rfl⟩
  · rw [grow_nil]
    refine ⟨fun d hd => ?_, trivial, fun key x y k0 k1 hx hy hn => ?_⟩
    · rw [List.mem_singleton] at hd; subst hd; exact hc
    · rcases Int.lt_or_le key c.lo with hk | hk
      · obtain ⟨d, hd, _⟩ := h.all key x y k0 hk hx hy hn; cases hd
      · exact ⟨c, by simp, hk, by omega⟩
  · have hp := h.each p (by simp)
    rw [grow_snoc]
    by_cases hg : p.hi + 1 = c.lo ∧ p.src = c.src ∧ p.dst = c.dst
    · rw [if_pos hg]
      obtain ⟨g1, g2, g3⟩ := hg
      refine ⟨fun d hd => ?_, chain_last h.row rfl rfl rfl, fun key x y k0 k1 hx hy hn => ?_⟩
      · rcases List.mem_append.1 hd with hd | hd
        · exact hold d (List.mem_append_left _ hd)
        · rw [List.mem_singleton] at hd
          subst hd
          refine ⟨hp.1, by simp only; omega, by simp only; omega, hp.2.2.2.1, fun key k1 k2 => ?_⟩
          simp only at k1 k2 ⊢
          rcases Int.lt_or_le key c.lo with hk | hk
          · exact hp.2.2.2.2 key k1 (by omega)
          · rw [g2, g3]; exact h3 key hk k2
      · rcases Int.lt_or_le key c.lo with hk | hk
        · obtain ⟨d, hd, d1, d2⟩ := h.all key x y k0 hk hx hy hn
          rcases List.mem_append.1 hd with hd | hd
          · exact ⟨d, List.mem_append_left _ hd, d1, d2⟩
          · rw [List.mem_singleton] at hd
            subst hd
            exact ⟨_, List.mem_append_right _ (List.mem_singleton.2 rfl), d1, by simp only; omega⟩
        · exact ⟨_, List.mem_append_right _ (List.mem_singleton.2 rfl), by simp only; omega, by simp only; omega⟩
    · rw [if_neg hg]
      refine ⟨fun d hd => ?_, chain_snoc.2 ⟨h.row, by unfold apart; exact ⟨hp.2.2.1, hg⟩⟩, fun key x y k0 k1 hx hy hn => ?_⟩
      · rcases List.mem_append.1 hd with hd | hd
        · exact hold d hd
        · rw [List.mem_singleton] at hd; subst hd; exact hc
      · rcases Int.lt_or_le key c.lo with hk | hk
        · obtain ⟨d, hd, d1, d2⟩ := h.all key x y k0 hk hx hy hn
          exact ⟨d, List.mem_append_left _ hd, d1, d2⟩
        · exact ⟨c, by simp, hk, by omega⟩

theorem DInv.same {a b : List Seg} {o : List Chg} {p q x : Int} (h : DInv a b o p) (hpq : p ≤ q) (ha : ∀ key z, p ≤ key → key < q → Has a key z → z = x) (hb : ∀ key z, p ≤ key → key < q → Has b key z → z = x) : DInv a b o q := by
  refine ⟨fun d hd => ?_, h.row, fun key y z k0 k1 hy hz hn => ?_⟩
  · obtain ⟨g1, g2, g3, g4, g5⟩ := h.each d hd
    exact ⟨g1, g2, by omega, g4, g5⟩
  · rcases Int.lt_or_le key p with hk | hk
    · exact h.all key y z k0 hk hy hz hn
    · exact absurd ((ha key y hk k1 hy).trans (hb key z hk k1 hz).symm) hn

/-- Diff: what is left of both tables, where it stands, what it has -/
def diffGo : List Seg → List Seg → Int → List Chg → List Chg
  | [], _, _, o => o
  | _ :: ra, [], lo, o => diffGo ra [] lo o
  | s :: ra, t :: rb, lo, o =>
    let hi := if t.hi < s.hi then t.hi else s.hi
    let o' := if s.host = t.host then o else grow o ⟨lo, hi, s.host, t.host⟩
    if hi = maxK then o' else if hi = s.hi ∧ hi < t.hi then diffGo ra (t :: rb) (hi + 1) o' else if hi = s.hi then diffGo ra rb (hi + 1) o' else diffGo (s :: ra) rb (hi + 1) o'
termination_by a b => a.length + b.length
def diffL (a b : List Seg) : List Chg := diffGo a b 0 []

theorem diffGo_spec {a b : List Seg} (ha : WF a) (hb : WF b) : ∀ (n : Nat) (s t : Seg) (ra rb : List Seg) (lo : Int) (o : List Chg), ra.length + rb.length ≤ n → (∀ u ∈ s :: ra, u ∈ a) → (∀ u ∈ t :: rb, u ∈ b) → tile s.lo (s :: ra) (maxK + 1) → tile t.lo (t :: rb) (maxK + 1) →
    0 ≤ lo → s.lo ≤ lo → lo ≤ s.hi → t.lo ≤ lo → lo ≤ t.hi → DInv a b o lo → DInv a b (diffGo (s :: ra) (t :: rb) lo o) (maxK + 1) := by
  intro n
  induction n with
  | zero =>
    intro s t ra rb lo o hn hsa htb hs ht h0 l1 l2 l3 l4 hi
    have e1 : ra = [] := by cases ra with | nil => rfl | cons _ _ => simp at hn
    have e2 : rb = [] := by cases rb with | nil => rfl | cons _ _ => simp at hn
    subst e1 e2
    have g1 : s.hi + 1 = maxK + 1 := hs.2.2
    have g2 : t.hi + 1 = maxK + 1 := ht.2.2
    have hA : ∀ key z, lo ≤ key → key < maxK + 1 → Has a key z → z = s.host := fun key z k1 k2 hz => tile_unique ha.tiles hz ⟨s, hsa s (by simp), by omega, by omega, rfl⟩
    have hB : ∀ key z, lo ≤ key → key < maxK + 1 → Has b key z → z = t.host := fun key z k1 k2 hz => tile_unique hb.tiles hz ⟨t, htb t (by simp), by omega, by omega, rfl⟩
    have eh : (if t.hi < s.hi then t.hi else s.hi) = maxK := by split <;> omega
    unfold diffGo
    simp only [eh, if_true]
    by_cases hh : s.host = t.host
    · rw [if_pos hh]; exact hi.same (by omega) hA (fun key z k1 k2 hz => (hB key z k1 k2 hz).trans hh.symm)
    · rw [if_neg hh]
      have := DInv.grow (c := ⟨lo, maxK, s.host, t.host⟩) hi h0 (by simp only; omega) hh (fun key k1 k2 => ⟨⟨s, hsa s (by simp), by simp only at k1; omega, by simp only at k2; omega, rfl⟩, ⟨t, htb t (by simp), by simp only at k1; omega, by simp only at k2; omega, rfl⟩⟩)
      exact this
  | succ n ih =>
    intro s t ra rb lo o hn hsa htb hs ht h0 l1 l2 l3 l4 hi
    have bs := ha.seg s (hsa s (by simp))
    have bt := hb.seg t (htb t (by simp))
    obtain ⟨h, hh⟩ : ∃ h, h = (if t.hi < s.hi then t.hi else s.hi) := ⟨_, rfl⟩
    have h1 : h ≤ s.hi ∧ h ≤ t.hi ∧ lo ≤ h ∧ (h = s.hi ∨ h = t.hi) := by rw [hh]; split <;> omega
    have hstep : DInv a b (if s.host = t.host then o else grow o ⟨lo, h, s.host, t.host⟩) (h + 1) := by
      by_cases he : s.host = t.host
      · rw [if_pos he]
        refine hi.same (x := s.host) (by omega) (fun key z k1 k2 hz => tile_unique ha.tiles hz ⟨s, hsa s (by simp), by omega, by omega, rfl⟩) (fun key z k1 k2 hz => ?_)
        rw [he]; exact tile_unique hb.tiles hz ⟨t, htb t (by simp), by omega, by omega, rfl⟩
      · rw [if_neg he]
        exact DInv.grow (c := ⟨lo, h, s.host, t.host⟩) hi h0 (by simp only; omega) he (fun key k1 k2 => ⟨⟨s, hsa s (by simp), by simp only at k1; omega, by simp only at k2; omega, rfl⟩, ⟨t, htb t (by simp), by simp only at k1; omega, by simp only at k2; omega, rfl⟩⟩)
    unfold diffGo
    simp only [← hh]
    generalize (if s.host = t.host then o else grow o ⟨lo, h, s.host, t.host⟩) = o' at *
    by_cases c1 : h = maxK
    · rw [if_pos c1]; rw [c1] at hstep; exact hstep
    rw [if_neg c1]
    have tsr : tile (s.hi + 1) ra (maxK + 1) := hs.2.2
    have ttr : tile (t.hi + 1) rb (maxK + 1) := ht.2.2
    by_cases c2 : h = s.hi ∧ h < t.hi
    · rw [if_pos c2]
      cases ra with
      | nil => have : s.hi + 1 = maxK + 1 := tsr; omega
      | cons s' ra =>
        have e1 : s'.lo = s.hi + 1 := tsr.1
        refine ih s' t ra rb (h + 1) o' (by simp at hn; omega) (fun u hu => hsa u (List.mem_cons_of_mem _ hu)) htb (by rw [e1]; exact tsr) ht (by omega) (by omega) (by have := tsr.2.1; omega) (by omega) (by omega) hstep
    rw [if_neg c2]
    by_cases c3 : h = s.hi
    · rw [if_pos c3]
      have c4 : h = t.hi := by omega
      cases ra with
      | nil => have : s.hi + 1 = maxK + 1 := tsr; omega
      | cons s' ra =>
        cases rb with
        | nil => have : t.hi + 1 = maxK + 1 := ttr; omega
        | cons t' rb =>
          have e1 : s'.lo = s.hi + 1 := tsr.1
          have e2 : t'.lo = t.hi + 1 := ttr.1
          refine ih s' t' ra rb (h + 1) o' (by simp at hn; omega) (fun u hu => hsa u (List.mem_cons_of_mem _ hu)) (fun u hu => htb u (List.mem_cons_of_mem _ hu)) (by rw [e1]; exact tsr) (by rw [e2]; exact ttr) (by omega) (by omega) (by have := tsr.2.1; omega) (by omega) (by have := ttr.2.1; omega) hstep
    · rw [if_neg c3]
      have c4 : h = t.hi := by omega
      cases rb with
      | nil => have : t.hi + 1 = maxK + 1 := ttr; omega
      | cons t' rb =>
        have e2 : t'.lo = t.hi + 1 := ttr.1
        refine ih s t' ra rb (h + 1) o' (by simp at hn; omega) hsa (fun u hu => htb u (List.mem_cons_of_mem _ hu)) hs (by rw [e2]; exact ttr) (by omega) (by omega) (by omega) (by omega) (by have := ttr.2.1; omega) hstep

theorem diffL_spec {a b : List Seg} (ha : WF a) (hb : WF b) : DInv a b (diffL a b) (maxK + 1) := by
  unfold diffL
  cases a with
  | nil => exact absurd rfl ha.ne
  | cons s ra =>
    cases b with
    | nil => exact absurd rfl hb.ne
    | cons t rb =>
      have e1 : s.lo = 0 := ha.tiles.1
      have e2 : t.lo = 0 := hb.tiles.1
      have g1 := (ha.seg s (by simp)).2.1
      have g2 := (hb.seg t (by simp)).2.1
      refine diffGo_spec ha hb _ s t ra rb 0 [] (Nat.le_refl _) (fun u hu => hu) (fun u hu => hu) (by rw [e1]; exact ha.tiles) (by rw [e2]; exact hb.tiles) (Int.le_refl _) (by omega) (by omega) (by omega) (by omega) ?_
      exact ⟨fun c hc => (by cases hc), trivial, fun key x y k0 k1 => absurd k1 (by omega)⟩
end Rng
end Go.Proofs.Ytefdbhmjbfpeoaa
