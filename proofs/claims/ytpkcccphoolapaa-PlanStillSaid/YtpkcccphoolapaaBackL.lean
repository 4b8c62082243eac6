/- Layer 6: RangeBack, in plain Lean. -/
import Derived.Test.YtpkcccphoolapaaRngL
namespace Go.Proofs.Ytpkcccphoolapaa
namespace Rng

/-- the table when all keys below p are given back -/
def backL (l : List Seg) (lo hi owner p : Int) : List Seg := if max lo p ≤ hi then withL l (max lo p) hi owner else l

theorem backL_wf {l : List Seg} (h : WF l) {lo hi owner p : Int} (h0 : 0 ≤ lo) (h2 : hi ≤ maxK) (h3 : 0 ≤ owner) (h4 : owner < 16) : WF (backL l lo hi owner p) ∧ (backL l lo hi owner p).length ≤ l.length + 2 := by
  unfold backL
  split
  · obtain ⟨w1, _, w3⟩ := withL_spec h (show 0 ≤ max lo p by omega) (by omega) h2 h3 h4
    exact ⟨w1, by omega⟩
  · exact ⟨h, by omega⟩

theorem backL_has {l : List Seg} (h : WF l) {lo hi owner p : Int} (h0 : 0 ≤ lo) (h2 : hi ≤ maxK) (h3 : 0 ≤ owner) (h4 : owner < 16) {key x : Int} (hx : Has (backL l lo hi owner p) key x) :
    (max lo p ≤ key ∧ key ≤ hi ∧ x = owner) ∨ (¬ (max lo p ≤ key ∧ key ≤ hi) ∧ Has l key x) := by
  unfold backL at hx
  split at hx
  · obtain ⟨_, w2, _⟩ := withL_spec h (show 0 ≤ max lo p by omega) (by omega) h2 h3 h4
    rcases w2 key x hx with ⟨a, b, c⟩ | ⟨a, b⟩
    · exact .inl ⟨a, b, c⟩
    · exact .inr ⟨a, b⟩
  · exact .inr ⟨by omega, hx⟩

theorem backL_step {l : List Seg} (h : WF l) {lo hi owner : Int} (h0 : 0 ≤ lo) (h1 : lo ≤ hi) (h2 : hi ≤ maxK) (h3 : 0 ≤ owner) (h4 : owner < 16) {s : Seg} (hs : s ∈ l) (hle : max s.lo lo ≤ min s.hi hi) :
    withL (backL l lo hi owner s.lo) (max s.lo lo) (min s.hi hi) s.host = backL l lo hi owner (s.hi + 1) := by
  obtain ⟨s1, s2, s3, s4, s5⟩ := h.seg s hs
  obtain ⟨wb, _⟩ := backL_wf (p := s.lo) h h0 h2 h3 h4
  obtain ⟨wb', _⟩ := backL_wf (p := s.hi + 1) h h0 h2 h3 h4
  obtain ⟨w1, w2, _⟩ := withL_spec wb (show 0 ≤ max s.lo lo by omega) hle (show min s.hi hi ≤ maxK by omega) s4 s5
  refine w1.eq wb' fun key k0 k1 x hx => ?_
  obtain ⟨y, hy⟩ := tile_has wb'.tiles key k0 (by omega)
  have hy' := backL_has h h0 h2 h3 h4 hy
  rcases w2 key x hx with ⟨a, b, rfl⟩ | ⟨a, b⟩
  · rcases hy' with ⟨c, d, e⟩ | ⟨c, d⟩
    · omega
    · have : y = s.host := tile_unique h.tiles d ⟨s, hs, by omega, by omega, rfl⟩
      exact this ▸ hy
  · have hb := backL_has h h0 h2 h3 h4 b
    rcases hb with ⟨c, d, rfl⟩ | ⟨c, d⟩
    · rcases hy' with ⟨_, _, e⟩ | ⟨f, _⟩
      · exact e ▸ hy
      · omega
    · rcases hy' with ⟨f, g, _⟩ | ⟨_, g⟩
      · omega
      · exact (tile_unique h.tiles g d) ▸ hy

theorem backL_skip {l : List Seg} {lo hi owner : Int} (h1 : lo ≤ hi) {s : Seg} (hs : s.lo ≤ s.hi) (hle : ¬ max s.lo lo ≤ min s.hi hi) : backL l lo hi owner (s.hi + 1) = backL l lo hi owner s.lo := by
  unfold backL
  by_cases h : s.hi < lo
  · rw [show max lo (s.hi + 1) = lo by omega, show max lo s.lo = lo by omega]
  · rw [if_neg (by omega), if_neg (by omega)]

theorem backL_start {l : List Seg} {lo hi owner : Int} (h0 : 0 ≤ lo) (h1 : lo ≤ hi) : backL l lo hi owner 0 = withL l lo hi owner := by
  unfold backL
  rw [show max lo 0 = lo by omega, if_pos h1]

theorem backL_end {l : List Seg} {lo hi owner : Int} (h2 : hi ≤ maxK) : backL l lo hi owner (maxK + 1) = l := by
  unfold backL
  rw [if_neg (by omega)]

/-- where the k-th piece begins -/
def edge (l : List Seg) (k : Nat) : Int := match l[k]? with | some s => s.lo | none => maxK + 1

theorem edge_end (l : List Seg) : edge l l.length = maxK + 1 := by unfold edge; simp
theorem edge_at {l : List Seg} {k : Nat} {s : Seg} (h : l[k]? = some s) : edge l k = s.lo := by unfold edge; rw [h]
theorem edge_start {l : List Seg} (h : WF l) : edge l 0 = 0 := by
  cases l with
  | nil => exact absurd rfl h.ne
  | cons s r => exact h.tiles.1
theorem edge_next {l : List Seg} (h : WF l) {k : Nat} {s : Seg} (hs : l[k]? = some s) : edge l (k + 1) = s.hi + 1 := by
  have key : ∀ (l : List Seg) (a b : Int) (k : Nat) (s : Seg), tile a l b → l[k]? = some s → (match l[k + 1]? with | some t => t.lo | none => b) = s.hi + 1 := by
    intro l
    induction l with
    | nil => intro a b k s _ h; simp at h
    | cons t r ih =>
      intro a b k s ht hk
      obtain ⟨t1, t2, t3⟩ := ht
      cases k with
      | zero =>
        simp at hk
        subst hk
        cases r with
        | nil => have t3 : t.hi + 1 = b := t3; simp [t3]
        | cons u r => simp [t3.1]
      | succ k =>
        have := ih _ _ k s t3 (by simpa using hk)
        simpa using this
  exact key l 0 (maxK + 1) k s h.tiles hs
theorem coal_right {x y : List Seg} (h : coal (x ++ y)) : coal y := by
  induction x with
  | nil => exact h
  | cons a r ih => exact ih (coal_tail h)

/-- what was given is owned: one segment holds it -/
theorem withL_owns {l : List Seg} (h : WF l) {lo hi owner : Int} (h0 : 0 ≤ lo) (h1 : lo ≤ hi) (h2 : hi ≤ maxK) (h3 : 0 ≤ owner) (h4 : owner < 16) :
    ∃ s, (withL l lo hi owner)[at' (withL l lo hi owner) lo]? = some s ∧ s.host = owner ∧ hi ≤ s.hi := by
  obtain ⟨w1, k1, _⟩ := withL_spec h h0 h1 h2 h3 h4
  obtain ⟨s, s1, s2, s3, s4, _⟩ := at_split w1.tiles h0 (show lo < maxK + 1 by omega)
  generalize withL l lo hi owner = t at *
  generalize at' t lo = i at *
  have hs : s ∈ t := List.mem_of_getElem? s1
  have ow : ∀ {u : Seg} {key : Int}, u ∈ t → u.lo ≤ key → key ≤ u.hi → lo ≤ key → key ≤ hi → u.host = owner := by
    intro u key hu a b c d
    rcases k1 key u.host ⟨u, hu, a, b, rfl⟩ with ⟨_, _, e⟩ | ⟨e, _⟩
    · exact e
    · exact absurd ⟨c, d⟩ e
  have e1 := ow hs s2 s3 (Int.le_refl _) h1
  refine ⟨s, s1, e1, Classical.byContradiction fun hn => ?_⟩
  have ht := w1.tiles
  have hc := w1.coal
  rw [s4] at ht hc
  obtain ⟨b, _, t2⟩ := tile_append.1 ht
  have hc2 := coal_right hc
  cases hd : t.drop (i + 1) with
  | nil =>
    rw [hd] at t2
    have : s.hi + 1 = maxK + 1 := t2.2.2
    omega
  | cons u r =>
    rw [hd] at t2 hc2
    have hlo : u.lo = s.hi + 1 := t2.2.2.1
    have hu : u ∈ t := List.mem_of_mem_drop (by rw [hd]; simp)
    have hle : u.lo ≤ u.hi := t2.2.2.2.1
    have := ow hu (key := u.lo) (Int.le_refl _) hle (by omega) (by omega)
    exact hc2.1 (by rw [e1, this])
end Rng
end Go.Proofs.Ytpkcccphoolapaa
