/- Layer 15: Play, in plain Lean. -/
import Derived.Test.YtpkcccphoolapaaBackL
import Derived.Test.YtpkcccphoolapaaMoves
namespace Go.Proofs.Ytpkcccphoolapaa
namespace Rng

def cutPieces (lo hi o : Int) (s : Seg) : List Seg := if s.hi < lo ∨ hi < s.lo then [s] else pre s lo ++ ([⟨lo, hi, o⟩] ++ post s hi)
def cutL (l : List Seg) (lo hi o : Int) : List Seg := (l.flatMap (cutPieces lo hi o)).foldl push []

theorem flatMap_keep {l : List Seg} {f : Seg → List Seg} (h : ∀ s ∈ l, f s = [s]) : l.flatMap f = l := by
  induction l with
  | nil => rfl
  | cons s r ih => rw [List.flatMap_cons, h s (List.mem_cons_self ..), ih (fun t ht => h t (List.mem_cons_of_mem _ ht))]; rfl

theorem cut_spec {l : List Seg} (h : WF l) {lo hi o : Int} (h0 : 0 ≤ lo) (h1 : lo ≤ hi) (h3 : 0 ≤ o) (h4 : o < 16) {s : Seg} (hs : l[at' l lo]? = some s) (hh : hi ≤ s.hi) : cutL l lo hi o = withL l lo hi o := by
  have hsm := h.seg s (List.mem_of_getElem? hs)
  obtain ⟨s', s1, s2, s3, s4, s5, s6⟩ := at_split h.tiles h0 (show lo < maxK + 1 by omega)
  obtain rfl : s' = s := by rw [hs] at s1; injection s1 with s1; exact s1.symm
  clear s1
  generalize l.take (at' l lo) = x at *
  generalize l.drop (at' l lo + 1) = y at *
  have ht := h.tiles
  rw [s4] at ht
  obtain ⟨m, t1, t2⟩ := tile_append.1 ht
  have hm : s'.lo = m := t2.1
  have e : l.flatMap (cutPieces lo hi o) = x ++ ((pre s' lo ++ ([⟨lo, hi, o⟩] ++ post s' hi)) ++ y) := by
    rw [s4, List.flatMap_append, List.flatMap_cons]
    rw [flatMap_keep (l := x) (fun t ht => by unfold cutPieces; rw [if_pos (.inl (s5 t ht))])]
    rw [flatMap_keep (l := y) (fun t ht => by
      unfold cutPieces
      have := tile_mem t2.2.2 t ht
      rw [if_pos (.inr (by omega))])]
    congr 2
    unfold cutPieces
    rw [if_neg (by omega)]
  have tl : tile 0 (l.flatMap (cutPieces lo hi o)) (maxK + 1) := by
    rw [e]
    refine tile_append.2 ⟨m, t1, tile_append.2 ⟨s'.hi + 1, ?_, t2.2.2⟩⟩
    refine tile_append.2 ⟨lo, ?_, tile_append.2 ⟨hi + 1, ⟨rfl, h1, rfl⟩, ?_⟩⟩
    · unfold pre
      split
      · exact ⟨hm, by simp only; omega, by simp only [tile]; omega⟩
      · show m = lo; omega
    · unfold post
      split
      · exact ⟨rfl, by simp only; omega, rfl⟩
      · show hi + 1 = s'.hi + 1; omega
  have hm2 : ∀ t ∈ l.flatMap (cutPieces lo hi o), (t.host = o ∧ lo ≤ t.lo ∧ t.hi ≤ hi) ∨ (∃ u ∈ l, t.host = u.host ∧ u.lo ≤ t.lo ∧ t.hi ≤ u.hi ∧ (t.hi < lo ∨ hi < t.lo)) := by
    intro t ht
    obtain ⟨u, hu, htu⟩ := List.mem_flatMap.1 ht
    unfold cutPieces at htu
    split at htu
    · rename_i hc
      rw [List.mem_singleton] at htu
      subst htu
      exact .inr ⟨t, hu, rfl, Int.le_refl _, Int.le_refl _, hc⟩
    · rcases List.mem_append.1 htu with hp | hp
      · unfold pre at hp
        split at hp
        · rw [List.mem_singleton] at hp
          subst hp
          exact .inr ⟨u, hu, rfl, Int.le_refl _, by simp only; omega, .inl (by simp only; omega)⟩
        · cases hp
      · rcases List.mem_append.1 hp with hq | hq
        · rw [List.mem_singleton] at hq
          subst hq
          exact .inl ⟨rfl, Int.le_refl _, Int.le_refl _⟩
        · unfold post at hq
          split at hq
          · rw [List.mem_singleton] at hq
            subst hq
            exact .inr ⟨u, hu, rfl, by simp only; omega, Int.le_refl _, .inr (by simp only; omega)⟩
          · cases hq
  obtain ⟨p1, p2, p3, _, _⟩ := pushes (o := []) (b := 0) rfl trivial tl
  have hW : WF (cutL l lo hi o) := by
    refine ⟨p1, p2, fun t ht => ?_⟩
    have hm3 := tile_mem p1 t ht
    obtain ⟨u, hu, _, _, e3⟩ := (p3 t.lo t.host).1 ⟨t, ht, by omega, by omega, rfl⟩
    rw [← e3]
    rcases hm2 u (by simpa using hu) with ⟨e4, _⟩ | ⟨v, hv, e4, _⟩
    · omega
    · have := h.hosts v hv; omega
  obtain ⟨w1, w2, _⟩ := withL_spec h h0 h1 (show hi ≤ maxK by omega) h3 h4
  refine hW.eq w1 fun key k0 k1 z hz => ?_
  obtain ⟨y', hy⟩ := tile_has w1.tiles key k0 (by omega)
  obtain ⟨u, hu, u1, u2, u3⟩ := (p3 key z).1 hz
  rcases w2 key y' hy with ⟨a, b, rfl⟩ | ⟨a, b⟩
  · rcases hm2 u (by simpa using hu) with ⟨e4, _⟩ | ⟨v, hv, e4, v1, v2, v3⟩
    · rw [← u3, e4]; exact hy
    · omega
  · rcases hm2 u (by simpa using hu) with ⟨e4, q1, q2⟩ | ⟨v, hv, e4, v1, v2, v3⟩
    · omega
    · have : z = y' := tile_unique h.tiles ⟨v, hv, by omega, by omega, by rw [← u3, e4]⟩ b
      rw [this]; exact hy

def ownsAll (l : List Seg) (lo hi x : Int) : Prop := ∀ t ∈ l, lo ≤ t.hi → t.lo ≤ hi → t.host = x

theorem ownsAll_iff {l : List Seg} (h : WF l) {lo hi x : Int} (h0 : 0 ≤ lo) (h1 : lo ≤ hi) (h2 : hi ≤ maxK) {s : Seg} (hs : l[at' l lo]? = some s) : ownsAll l lo hi x ↔ (s.host = x ∧ hi ≤ s.hi) := by
  have hsm := h.seg s (List.mem_of_getElem? hs)
  obtain ⟨s', s1, s2, s3, s4, s5, s6⟩ := at_split h.tiles h0 (show lo < maxK + 1 by omega)
  obtain rfl : s' = s := by rw [hs] at s1; injection s1 with s1; exact s1.symm
  have hm := List.mem_of_getElem? hs
  constructor
  · intro ho
    have e1 := ho s' hm s3 (by omega)
    refine ⟨e1, Classical.byContradiction fun hn => ?_⟩
    generalize l.take (at' l lo) = xx at *
    have ht := h.tiles
    have hc := h.coal
    rw [s4] at ht hc
    obtain ⟨b, _, t2⟩ := tile_append.1 ht
    have hc2 := coal_right hc
    cases hd : l.drop (at' l lo + 1) with
    | nil =>
      rw [hd] at t2
      have : s'.hi + 1 = maxK + 1 := t2.2.2
      omega
    | cons u r =>
      rw [hd] at t2 hc2
      have hlo : u.lo = s'.hi + 1 := t2.2.2.1
      have hle : u.lo ≤ u.hi := t2.2.2.2.1
      have hu : u ∈ l := List.mem_of_mem_drop (by rw [hd]; simp)
      have := ho u hu (by omega) (by omega)
      exact hc2.1 (by rw [e1, this])
  · rintro ⟨e1, e2⟩ t ht a b
    have ht2 := h.seg t ht
    have : t.host = s'.host := tile_unique h.tiles (key := max lo t.lo) ⟨t, ht, by omega, by omega, rfl⟩ ⟨s', hm, by omega, by omega, rfl⟩
    omega
end Rng

/-- a move that cannot be -/
def badMove (m : MoveL) : Prop := m.hi < m.lo ∨ 16 ≤ m.src ∨ 16 ≤ m.dst ∨ m.src = m.dst

open Classical in
/-- what Play answers, from a table on -/
noncomputable def playL : List Seg → List MoveL → Int × List Seg
  | t, [] => (0, t)
  | t, m :: r => if badMove m ∨ ¬ Rng.ownsAll t m.lo m.hi m.src then (152, []) else playL (Rng.withL t m.lo m.hi m.dst) r
end Go.Proofs.Ytpkcccphoolapaa
