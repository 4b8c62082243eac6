/- Layer 15: Moves, plain: keys that rise, a host's highest segment with a key, the move out of it. -/
import Derived.Test.YtpkcccphoolapaaCnt
import Derived.Test.YtpkcccphoolapaaMoves
import Derived.Test.YtpkcccphoolapaaBackL
namespace Go.Proofs.Ytpkcccphoolapaa
open Rng

/-! ### counting rising keys -/
theorem inc_split {ks : List Int} (h : Inc ks) {i : Nat} {x : Int} (hx : ks[i]? = some x) : (∀ k ∈ ks.take i, k < x) ∧ (∀ k ∈ ks.drop (i + 1), x < k) ∧ ks = ks.take i ++ x :: ks.drop (i + 1) := by
  obtain ⟨hi, he⟩ := List.getElem?_eq_some_iff.1 hx
  refine ⟨fun k hk => ?_, fun k hk => ?_, ?_⟩
  · obtain ⟨j, hj, rfl⟩ := List.mem_iff_getElem.1 hk
    have hji : j < i := by simp at hj; omega
    exact h j i _ x hji (by rw [List.getElem_take, List.getElem?_eq_getElem]) hx
  · obtain ⟨j, hj, rfl⟩ := List.mem_iff_getElem.1 hk
    rw [List.getElem_drop]
    exact h i (i + 1 + j) x _ (by omega) hx (List.getElem?_eq_getElem _)
  · rw [← he, ← List.drop_eq_getElem_cons hi, List.take_append_drop]
theorem cntLt_at {ks : List Int} (h : Inc ks) {i : Nat} {x : Int} (hx : ks[i]? = some x) : cntLt ks x = i := by
  obtain ⟨h1, h2, h3⟩ := inc_split h hx
  have hi := (List.getElem?_eq_some_iff.1 hx).1
  unfold cntLt
  rw [h3, List.countP_append, List.countP_cons]
  rw [List.countP_eq_length.2 (fun k hk => by simpa using h1 k hk), List.countP_eq_zero.2 (fun k hk => by have := h2 k hk; simp; omega)]
  simp; omega
theorem cntLe_at {ks : List Int} (h : Inc ks) {i : Nat} {x : Int} (hx : ks[i]? = some x) : cntLe ks x = i + 1 := by
  obtain ⟨h1, h2, h3⟩ := inc_split h hx
  have hi := (List.getElem?_eq_some_iff.1 hx).1
  unfold cntLe
  rw [h3, List.countP_append, List.countP_cons]
  rw [List.countP_eq_length.2 (fun k hk => by have := h1 k hk; simp; omega), List.countP_eq_zero.2 (fun k hk => by have := h2 k hk; simp; omega)]
  simp; omega
theorem cntLt_mono (ks : List Int) {x y : Int} (h : x ≤ y) : cntLt ks x ≤ cntLt ks y := List.countP_mono_left fun k _ hk => by simp at hk ⊢; omega
theorem cntLe_mono (ks : List Int) {x y : Int} (h : x ≤ y) : cntLe ks x ≤ cntLe ks y := List.countP_mono_left fun k _ hk => by simp at hk ⊢; omega
theorem cntLe_lt (ks : List Int) {x y : Int} (h : x < y) : cntLe ks x ≤ cntLt ks y := List.countP_mono_left fun k _ hk => by simp at hk ⊢; omega
theorem cntLt_le (ks : List Int) {x y : Int} (h : x ≤ y + 1) : cntLt ks x ≤ cntLe ks y := List.countP_mono_left fun k _ hk => by simp at hk ⊢; omega
/-- which keys lie from lo on, and up to hi -/
theorem idx_lo {ks : List Int} (h : Inc ks) {i : Nat} {x lo : Int} (hx : ks[i]? = some x) : cntLt ks lo ≤ i ↔ lo ≤ x := by
  have h1 := cntLt_at h hx
  have h2 := cntLe_at h hx
  constructor
  · intro hc
    refine Classical.byContradiction fun hn => ?_
    have := cntLe_lt ks (show x < lo by omega)
    omega
  · intro hl
    have := cntLt_mono ks hl
    omega
theorem idx_hi {ks : List Int} (h : Inc ks) {i : Nat} {x hi : Int} (hx : ks[i]? = some x) : i < cntLe ks hi ↔ x ≤ hi := by
  have h1 := cntLt_at h hx
  have h2 := cntLe_at h hx
  constructor
  · intro hc
    refine Classical.byContradiction fun hn => ?_
    have := cntLe_lt ks (show hi < x by omega)
    omega
  · intro hl
    have := cntLe_mono ks hl
    omega
theorem cntLe_len (ks : List Int) (x : Int) : cntLe ks x ≤ ks.length := List.countP_le_length

/-! ### the highest segment of a host with a key -/
def hasKey (ks : List Int) (h : Int) (s : Seg) : Bool := decide (s.host = h) && decide (cntLt ks s.lo < cntLe ks s.hi)
theorem hasKey_iff {ks : List Int} {h : Int} {s : Seg} : hasKey ks h s = true ↔ s.host = h ∧ cntLt ks s.lo < cntLe ks s.hi := by simp [hasKey]
def topSeg (ks : List Int) (h : Int) (l : List Seg) : Option Seg := l.reverse.find? (hasKey ks h)
theorem topSeg_none {ks : List Int} {h : Int} {l : List Seg} : topSeg ks h l = none ↔ ∀ s ∈ l, hasKey ks h s = false := by
  unfold topSeg; simp [List.find?_eq_none]
theorem topSeg_some {ks : List Int} {h : Int} {l : List Seg} {s : Seg} (e : topSeg ks h l = some s) : s ∈ l ∧ hasKey ks h s = true :=
  ⟨List.mem_reverse.1 (List.mem_of_find?_eq_some e), List.find?_some e⟩
theorem topSeg_take {ks : List Int} {h : Int} {l : List Seg} {i : Nat} {s : Seg} (hs : l[i]? = some s) (hup : ∀ t ∈ l.drop (i + 1), hasKey ks h t = false) : topSeg ks h l = if hasKey ks h s = true then some s else topSeg ks h (l.take i) := by
  obtain ⟨hi, he⟩ := List.getElem?_eq_some_iff.1 hs
  have e : l = l.take i ++ s :: l.drop (i + 1) := by rw [← he, ← List.drop_eq_getElem_cons hi, List.take_append_drop]
  unfold topSeg
  conv => lhs; rw [e]
  rw [List.reverse_append, List.reverse_cons, List.append_assoc, List.find?_append, List.find?_eq_none.2 (fun t ht => by rw [hup t (List.mem_reverse.1 ht)]; simp)]
  simp only [Option.none_or, List.singleton_append, List.find?_cons]
  cases hasKey ks h s <;> simp

/-! ### the move -/
def cutMove (ks : List Int) (s : Seg) (h dst n : Int) : MoveL :=
  if (cntLe ks s.hi : Int) - cntLt ks s.lo ≤ n then ⟨h, dst, s.lo, s.hi, (cntLe ks s.hi : Int) - cntLt ks s.lo⟩ else ⟨h, dst, ks[cntLe ks s.hi - n.toNat]?.getD 0, s.hi, n⟩
structure CutOk (ks : List Int) (s : Seg) (h dst n : Int) (m : MoveL) : Prop where
  src : m.src = h
  dst : m.dst = dst
  lo0 : s.lo ≤ m.lo
  le : m.lo ≤ m.hi
  hi : m.hi = s.hi
  one : 1 ≤ m.pairs
  most : m.pairs ≤ n
  cnt : m.pairs = (cntLe ks m.hi : Int) - cntLt ks m.lo
theorem cutMove_ok {ks : List Int} (hI : Inc ks) {s : Seg} {h dst n : Int} (hle : s.lo ≤ s.hi) (hn : 1 ≤ n) (hk : cntLt ks s.lo < cntLe ks s.hi) : CutOk ks s h dst n (cutMove ks s h dst n) := by
  unfold cutMove
  split
  · exact ⟨rfl, rfl, Int.le_refl _, hle, rfl, by show 1 ≤ (_ : Int) - _; omega, by assumption, rfl⟩
  · rename_i hc
    have hlen := cntLe_len ks s.hi
    obtain ⟨x, hx⟩ : ∃ x, ks[cntLe ks s.hi - n.toNat]? = some x := ⟨ks[cntLe ks s.hi - n.toNat]'(by omega), List.getElem?_eq_getElem _⟩
    have h1 := (idx_lo (lo := s.lo) hI hx).1 (by omega)
    have h2 := (idx_hi (hi := s.hi) hI hx).1 (by omega)
    have h3 := cntLt_at hI hx
    rw [hx]
    exact ⟨rfl, rfl, h1, h2, rfl, hn, Int.le_refl _, by show n = (cntLe ks s.hi : Int) - cntLt ks x; omega⟩

/-! ### what a move makes of the owners and the counts -/
theorem hostOf_eq {l : List Seg} (h : WF l) {key x : Int} (h0 : 0 ≤ key) (h1 : key ≤ maxK) : Has l key x ↔ hostOf l key = x := by
  rw [← hasB_iff, hasB_full h h0 h1]; simp
theorem hostOf_with {l : List Seg} (h : WF l) {lo hi owner : Int} (h0 : 0 ≤ lo) (h1 : lo ≤ hi) (h2 : hi ≤ maxK) (h3 : 0 ≤ owner) (h4 : owner < 16) {key : Int} (k0 : 0 ≤ key) (k1 : key ≤ maxK) :
    hostOf (withL l lo hi owner) key = if lo ≤ key ∧ key ≤ hi then owner else hostOf l key := by
  obtain ⟨g1, g2, _⟩ := withL_spec h h0 h1 h2 h3 h4
  rcases g2 key _ ((hostOf_eq g1 k0 k1).2 rfl) with ⟨a, b, e⟩ | ⟨a, e⟩
  · rw [if_pos ⟨a, b⟩]; exact e
  · rw [if_neg a]; exact ((hostOf_eq h k0 k1).1 e).symm
theorem hostOf_seg {l : List Seg} (h : WF l) {s : Seg} (hs : s ∈ l) {key : Int} (h0 : s.lo ≤ key) (h1 : key ≤ s.hi) : hostOf l key = s.host := by
  have := h.seg s hs
  exact (hostOf_eq h (by omega) (by omega)).1 ⟨s, hs, h0, h1, rfl⟩

/-- how many keys a host has -/
def cntH (l : List Seg) (ks : List Int) (h : Int) : Int := (ks.countP (fun key => decide (hostOf l key = h)) : Nat)
theorem cntH_with {l : List Seg} (h : WF l) {ks : List Int} (hks : ∀ k ∈ ks, 0 ≤ k ∧ k ≤ maxK) {s : Seg} (hs : s ∈ l) {lo hi t : Int} (h0 : s.lo ≤ lo) (h1 : lo ≤ hi) (h2 : hi ≤ s.hi) (h3 : 0 ≤ t) (h4 : t < 16) (hne : t ≠ s.host) (x : Int) :
    cntH (withL l lo hi t) ks x = cntH l ks x + (if x = t then (cntLe ks hi : Int) - cntLt ks lo else 0) - (if x = s.host then (cntLe ks hi : Int) - cntLt ks lo else 0) := by
  have hsg := h.seg s hs
  have hb := cnt_between ks h1
  have e1 : ks.countP (fun key => decide (hostOf (withL l lo hi t) key = x)) = ks.countP (fun key => decide ((if lo ≤ key ∧ key ≤ hi then t else hostOf l key) = x)) :=
    List.countP_congr fun k hk => by rw [hostOf_with h (by omega) h1 (by omega) h3 h4 (hks k hk).1 (hks k hk).2]
  have hin : ∀ k, lo ≤ k ∧ k ≤ hi → hostOf l k = s.host := fun k hk => hostOf_seg h hs (by omega) (by omega)
  unfold cntH
  rw [e1]
  by_cases hx : x = t
  · subst hx
    rw [if_pos rfl, if_neg hne]
    have e2 : ks.countP (fun key => decide ((if lo ≤ key ∧ key ≤ hi then x else hostOf l key) = x)) = ks.countP (fun key => decide (hostOf l key = x) || (decide (lo ≤ key) && decide (key ≤ hi))) :=
      List.countP_congr fun k _ => by
        by_cases hk : lo ≤ k ∧ k ≤ hi
        · simp [hk.1, hk.2]
        · have : (decide (lo ≤ k) && decide (k ≤ hi)) = false := by simp; omega
          simp [hk, this]
    rw [e2, countP_or _ _ _ (fun k _ hk => by
      simp at hk
      exact hne (hk.1.symm.trans (hin k hk.2)))]
    omega
  · rw [if_neg hx]
    by_cases hg : x = s.host
    · rw [if_pos hg]
      have e2 : ks.countP (fun key => decide (hostOf l key = x)) = ks.countP (fun key => decide ((if lo ≤ key ∧ key ≤ hi then t else hostOf l key) = x) || (decide (lo ≤ key) && decide (key ≤ hi))) :=
        List.countP_congr fun k _ => by
          by_cases hk : lo ≤ k ∧ k ≤ hi
          · have := hin k hk
            simp [hk.1, hk.2, this, hg]
          · have e3 : (decide (lo ≤ k) && decide (k ≤ hi)) = false := by simp; omega
            simp [hk, e3]
      rw [e2, countP_or _ _ _ (fun k _ hk => by
        simp at hk
        have := hk.1
        rw [if_pos hk.2] at this
        exact hx this.symm)]
      omega
    · rw [if_neg hg]
      have e2 : ks.countP (fun key => decide ((if lo ≤ key ∧ key ≤ hi then t else hostOf l key) = x)) = ks.countP (fun key => decide (hostOf l key = x)) :=
        List.countP_congr fun k _ => by
          by_cases hk : lo ≤ k ∧ k ≤ hi
          · rw [if_pos hk, hin k hk]
            simp [Ne.symm hx, Ne.symm hg]
          · rw [if_neg hk]
      rw [e2]; omega

/-- a host with keys has a segment with one -/
theorem topSeg_ex {l : List Seg} (h : WF l) {ks : List Int} (hI : Inc ks) (hks : ∀ k ∈ ks, 0 ≤ k ∧ k ≤ maxK) {g : Int} (hc : 0 < cntH l ks g) : ∃ s, topSeg ks g l = some s := by
  cases e : topSeg ks g l with
  | some s => exact ⟨s, rfl⟩
  | none =>
    have hn := topSeg_none.1 e
    unfold cntH at hc
    have hc' : 0 < ks.countP (fun key => decide (hostOf l key = g)) := by omega
    obtain ⟨k, hk, hg⟩ := List.countP_pos_iff.1 hc'
    replace hg := of_decide_eq_true hg
    obtain ⟨s, s1, s2, s3, s4⟩ := (hostOf_eq h (hks k hk).1 (hks k hk).2).2 hg
    have := hn s s1
    obtain ⟨i, hi⟩ := List.mem_iff_getElem?.1 hk
    have h1 := (idx_lo (lo := s.lo) hI hi).2 s2
    have h2 := (idx_hi (hi := s.hi) hI hi).2 s3
    have h3 : hasKey ks g s = true := hasKey_iff.2 ⟨s4, by omega⟩
    rw [h3] at this; cases this
end Go.Proofs.Ytpkcccphoolapaa
