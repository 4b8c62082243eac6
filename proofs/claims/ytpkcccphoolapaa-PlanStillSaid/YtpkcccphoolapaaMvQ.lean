/- Layer 15: Moves, plain: the moves one after the other; they come to an end. -/
import Derived.Test.YtpkcccphoolapaaMvP
import Derived.Test.YtpkcccphoolapaaHp
namespace Go.Proofs.Ytpkcccphoolapaa
open Rng

/-- the host with the greatest number above 0, of several the lowest -/
def best : Nat → (Nat → Int) → Option Nat
  | 0, _ => none
  | n + 1, d => match best n d with
    | none => if 0 < d n then some n else none
    | some b => if d b < d n then some n else some b
theorem best_none {n : Nat} {d : Nat → Int} : best n d = none ↔ ∀ h, h < n → d h ≤ 0 := by
  induction n with
  | zero => simp [best]
  | succ n ih =>
    unfold best
    cases e : best n d with
    | none =>
      have := ih.1 e
      by_cases h0 : 0 < d n
      · simp only [h0, if_true]
        constructor
        · intro h; cases h
        · intro h; have := h n (by omega); omega
      · simp only [h0, if_false, true_iff]
        intro h hh
        by_cases e2 : h = n
        · subst e2; omega
        · exact this h (by omega)
    | some b =>
      constructor
      · intro h; simp only at h; split at h <;> cases h
      · intro h
        have := ih.2 (fun k hk => h k (by omega))
        rw [e] at this; cases this
theorem best_some {n : Nat} {d : Nat → Int} {b : Nat} (h : best n d = some b) : b < n ∧ 0 < d b ∧ ∀ k, k < n → d k < d b ∨ (d k = d b ∧ b ≤ k) := by
  induction n generalizing b with
  | zero => cases h
  | succ n ih =>
    unfold best at h
    cases e : best n d with
    | none =>
      rw [e] at h
      simp only at h
      have hn := best_none.1 e
      split at h
      · injection h with h
        subst h
        refine ⟨by omega, by assumption, fun k hk => ?_⟩
        by_cases e2 : k = n
        · subst e2; omega
        · have := hn k (by omega); omega
      · cases h
    | some b' =>
      rw [e] at h
      simp only at h
      obtain ⟨h1, h2, h3⟩ := ih e
      split at h
      · injection h with h
        subst h
        refine ⟨by omega, by omega, fun k hk => ?_⟩
        by_cases e2 : k = n
        · subst e2; omega
        · have := h3 k (by omega); omega
      · injection h with h
        subst h
        refine ⟨by omega, h2, fun k hk => ?_⟩
        by_cases e2 : k = n
        · subst e2; omega
        · exact h3 k (by omega)
theorem best_unique {n : Nat} {d : Nat → Int} {b : Nat} (h1 : b < n) (h2 : 0 < d b) (h3 : ∀ k, k < n → d k < d b ∨ (d k = d b ∧ b ≤ k)) : best n d = some b := by
  cases e : best n d with
  | none => have := best_none.1 e b h1; omega
  | some b' =>
    obtain ⟨g1, g2, g3⟩ := best_some e
    have a1 := h3 b' g1
    have a2 := g3 b h1
    congr 1
    omega

section
variable (H : Nat) (most : Int) (ks : List Int) (want : Nat → Int)
/-- what a host has too much -/
def overL (l : List Seg) (h : Nat) : Int := cntH l ks (h : Int) - want h
/-- one move, if there is one -/
def moveStep (l : List Seg) : Option (MoveL × List Seg) :=
  match best H (overL ks want l), best H (fun h => - overL ks want l h) with
  | some g, some t => match topSeg ks (g : Int) l with
    | some s =>
      let m := cutMove ks s (g : Int) (t : Int) (min (min (overL ks want l g) (- overL ks want l t)) most)
      some (m, withL l m.lo m.hi (t : Int))
    | none => none
  | _, _ => none
def movesL : Nat → List Seg → List MoveL × List Seg
  | 0, l => ([], l)
  | f + 1, l => match moveStep H most ks want l with
    | none => ([], l)
    | some (m, l') => (m :: (movesL f l').1, (movesL f l').2)
/-- how much the hosts have too much, in all -/
def overSum (n : Nat) (d : Nat → Int) : Nat := ((List.range n).map fun h => (d h).toNat).sum
end

structure TabOk (H : Nat) (l : List Seg) : Prop where
  wf : WF l
  hosts : ∀ s ∈ l, s.host < (H : Int)

theorem overSum_lt {n : Nat} {d d' : Nat → Int} (hle : ∀ h, h < n → (d' h).toNat ≤ (d h).toNat) {g : Nat} (hg : g < n) (hlt : (d' g).toNat < (d g).toNat) : overSum n d' < overSum n d := by
  unfold overSum
  induction n with
  | zero => omega
  | succ n ih =>
    rw [List.range_succ, List.map_append, List.map_append, List.sum_append, List.sum_append]
    have h1 := hle n (by omega)
    by_cases e : g = n
    · subst e
      have : ∀ m, m ≤ g → ((List.range m).map fun h => (d' h).toNat).sum ≤ ((List.range m).map fun h => (d h).toNat).sum := by
        intro m
        induction m with
        | zero => intro _; simp
        | succ m ihm =>
          intro hm
          rw [List.range_succ, List.map_append, List.map_append, List.sum_append, List.sum_append]
          have a1 := ihm (by omega)
          have a2 := hle m (by omega)
          simp at a1 ⊢
          omega
      have h2 := this g (Nat.le_refl _)
      simp at h2 ⊢
      omega
    · have h2 := ih (fun h hh => hle h (by omega)) (by omega)
      simp at h2 ⊢
      omega

/-- what one move is, and what it makes -/
structure StepOk (H : Nat) (most : Int) (ks : List Int) (want : Nat → Int) (l : List Seg) (m : MoveL) (l' : List Seg) (g t : Nat) (s : Seg) : Prop where
  gi : best H (overL ks want l) = some g
  ti : best H (fun h => - overL ks want l h) = some t
  top : topSeg ks (g : Int) l = some s
  cut : CutOk ks s (g : Int) (t : Int) (min (min (overL ks want l g) (- overL ks want l t)) most) m
  mv : m = cutMove ks s (g : Int) (t : Int) (min (min (overL ks want l g) (- overL ks want l t)) most)
  lay : l' = withL l m.lo m.hi (t : Int)
  ne : g ≠ t
  mem : s ∈ l
  host : s.host = (g : Int)
  atlo : l[at' l m.lo]? = some s
  ok : TabOk H l'
  len : l'.length ≤ l.length + 2
  over : ∀ h : Nat, overL ks want l' h = overL ks want l h + (if h = t then m.pairs else 0) - (if h = g then m.pairs else 0)

section
variable {H : Nat} {most : Int} {ks : List Int} {want : Nat → Int} {l : List Seg}
theorem moveStep_some (hH : H ≤ 16) (hm : 1 ≤ most) (hI : Inc ks) (hks : ∀ k ∈ ks, 0 ≤ k ∧ k ≤ maxK) (hl : TabOk H l) {m : MoveL} {l' : List Seg} (h : moveStep H most ks want l = some (m, l')) : ∃ g t s, StepOk H most ks want l m l' g t s := by
  unfold moveStep at h
  cases e1 : best H (overL ks want l) with
  | none => rw [e1] at h; simp at h
  | some g =>
    cases e2 : best H (fun h => - overL ks want l h) with
    | none => rw [e1, e2] at h; simp at h
    | some t =>
      rw [e1, e2] at h
      simp only at h
      cases e3 : topSeg ks (g : Int) l with
      | none => rw [e3] at h; simp at h
      | some s =>
        rw [e3] at h
        simp only [Option.some.injEq, Prod.mk.injEq] at h
        obtain ⟨hmv, hlay⟩ := h
        obtain ⟨g1, g2, _⟩ := best_some e1
        obtain ⟨t1, t2, _⟩ := best_some e2
        have hne : g ≠ t := by rintro rfl; omega
        obtain ⟨s1, s2⟩ := topSeg_some e3
        obtain ⟨s3, s4⟩ := hasKey_iff.1 s2
        have hsg := hl.wf.seg s s1
        have hc := cutMove_ok (h := (g : Int)) (dst := (t : Int)) (n := min (min (overL ks want l g) (- overL ks want l t)) most) hI hsg.2.1 (by omega) s4
        rw [hmv] at hc hlay
        have c1 := hc.lo0
        have c2 := hc.le
        have c3 := hc.hi
        obtain ⟨w1, w2, w3⟩ := withL_spec hl.wf (lo := m.lo) (hi := m.hi) (owner := (t : Int)) (by omega) c2 (by omega) (by omega) (by omega)
        rw [hlay] at w1 w2 w3
        obtain ⟨s', a1, a2, a3, _⟩ := at_split hl.wf.tiles (key := m.lo) (by omega) (by rw [maxK_eq]; have := hsg.2.2.1; rw [maxK_eq] at this; omega)
        have hss : s' = s := by
          obtain ⟨i, hi⟩ := List.mem_iff_getElem?.1 s1
          refine Classical.byContradiction fun hn => ?_
          have hm' := List.mem_of_getElem? a1
          rcases Nat.lt_trichotomy (at' l m.lo) i with hlt | heq | hgt
          · have := tile_ahead hl.wf.tiles hi s' (List.mem_take_iff_getElem.2 ⟨at' l m.lo, by have := (List.getElem?_eq_some_iff.1 a1).1; omega, (List.getElem?_eq_some_iff.1 a1).2⟩)
            omega
          · rw [heq] at a1; rw [hi] at a1; injection a1 with a1; exact hn a1.symm
          · have := tile_ahead hl.wf.tiles a1 s (List.mem_take_iff_getElem.2 ⟨i, by have := (List.getElem?_eq_some_iff.1 hi).1; omega, (List.getElem?_eq_some_iff.1 hi).2⟩)
            omega
        subst hss
        refine ⟨g, t, s', e1, e2, e3, hc, hmv.symm, hlay.symm, hne, s1, s3, a1, ⟨w1, fun u hu => ?_⟩, w3, fun h => ?_⟩
        · have hu2 := w1.seg u hu
          rcases w2 u.lo u.host ⟨u, hu, Int.le_refl _, hu2.2.1, rfl⟩ with ⟨_, _, e⟩ | ⟨_, v, hv, _, _, e⟩
          · rw [e]; omega
          · rw [← e]; exact hl.hosts v hv
        · have := cntH_with hl.wf hks s1 c1 c2 (by omega) (show (0 : Int) ≤ (t : Int) by omega) (by omega) (by rw [s3]; omega) (h : Int)
          rw [hlay, ← hc.cnt, s3] at this
          unfold overL
          rw [this]
          have i1 : ((h : Int) = (t : Int)) ↔ h = t := by omega
          have i2 : ((h : Int) = (g : Int)) ↔ h = g := by omega
          simp only [i1, i2]
          omega

theorem moveStep_none (hI : Inc ks) (hks : ∀ k ∈ ks, 0 ≤ k ∧ k ≤ maxK) (hl : TabOk H l) (hw : ∀ h, 0 ≤ want h) (h : moveStep H most ks want l = none) : (∀ h, h < H → overL ks want l h ≤ 0) ∨ (∀ h, h < H → 0 ≤ overL ks want l h) := by
  unfold moveStep at h
  cases e1 : best H (overL ks want l) with
  | none => exact .inl (best_none.1 e1)
  | some g =>
    cases e2 : best H (fun h => - overL ks want l h) with
    | none => refine .inr fun h hh => ?_; have := best_none.1 e2 h hh; omega
    | some t =>
      rw [e1, e2] at h
      obtain ⟨g1, g2, _⟩ := best_some e1
      have hw' := hw g
      obtain ⟨s, hs⟩ := topSeg_ex hl.wf hI hks (g := (g : Int)) (by unfold overL at g2; omega)
      dsimp only at h
      rw [hs] at h
      simp at h

theorem StepOk.less {m : MoveL} {l' : List Seg} {g t : Nat} {s : Seg} (h : StepOk H most ks want l m l' g t s) : overSum H (overL ks want l') < overSum H (overL ks want l) := by
  obtain ⟨g1, g2, _⟩ := best_some h.gi
  obtain ⟨t1, t2, _⟩ := best_some h.ti
  have hp1 := h.cut.one
  have hp2 := h.cut.most
  have hne := h.ne
  refine overSum_lt (fun k hk => ?_) g1 ?_
  · rw [h.over k]
    by_cases e1 : k = t
    · subst e1
      rw [if_pos rfl, if_neg (Ne.symm hne)]; omega
    · rw [if_neg e1]
      by_cases e2 : k = g
      · subst e2; rw [if_pos rfl]; omega
      · rw [if_neg e2]; omega
  · rw [h.over g, if_neg hne, if_pos rfl]; omega

theorem overSum_le (hw : ∀ h, 0 ≤ want h) : overSum H (overL ks want l) ≤ ks.length := by
  have h1 : ∀ n, overSum n (overL ks want l) ≤ ((List.range n).map fun (h : Nat) => ks.countP (fun key => decide (hostOf l key = (h : Int)))).sum := by
    intro n
    unfold overSum
    induction n with
    | zero => simp
    | succ n ih =>
      rw [List.range_succ, List.map_append, List.map_append, List.sum_append, List.sum_append]
      have := hw n
      have e : (overL ks want l n).toNat ≤ ks.countP (fun key => decide (hostOf l key = (n : Int))) := by unfold overL cntH; omega
      simp at ih ⊢
      omega
  have h2 : ∀ (ks : List Int) (n : Nat), ((List.range n).map fun (h : Nat) => ks.countP (fun key => decide (hostOf l key = (h : Int)))).sum ≤ ks.length := by
    intro ks n
    induction n with
    | zero => simp
    | succ n _ =>
      have key : ∀ (m : Nat), ((List.range m).map fun (h : Nat) => ks.countP (fun key => decide (hostOf l key = (h : Int)))).sum = ks.countP (fun key => decide (0 ≤ hostOf l key ∧ hostOf l key < (m : Int))) := by
        intro m
        induction m with
        | zero =>
          simp
          rw [eq_comm, List.countP_eq_zero]
          intro a _
          simp
        | succ m ihm =>
          rw [List.range_succ, List.map_append, List.sum_append, ihm]
          have e : ks.countP (fun key => decide (0 ≤ hostOf l key ∧ hostOf l key < ((m + 1 : Nat) : Int))) = ks.countP (fun key => decide (0 ≤ hostOf l key ∧ hostOf l key < (m : Int)) || decide (hostOf l key = (m : Int))) :=
            List.countP_congr fun k _ => by simp; omega
          rw [e, countP_or _ _ _ (fun k _ hk => by simp at hk; omega)]
          simp
      rw [key]
      exact List.countP_le_length
  exact Nat.le_trans (h1 H) (h2 ks H)

theorem movesL_more {f f' : Nat} (hH : H ≤ 16) (hm : 1 ≤ most) (hI : Inc ks) (hks : ∀ k ∈ ks, 0 ≤ k ∧ k ≤ maxK) (hl : TabOk H l) (h : overSum H (overL ks want l) < f) (h' : overSum H (overL ks want l) < f') : movesL H most ks want f l = movesL H most ks want f' l := by
  induction f generalizing f' l with
  | zero => omega
  | succ f ih =>
    cases f' with
    | zero => omega
    | succ f' =>
      unfold movesL
      cases e : moveStep H most ks want l with
      | none => rfl
      | some p =>
        obtain ⟨m, l'⟩ := p
        obtain ⟨g, t, s, hs⟩ := moveStep_some hH hm hI hks hl e
        have hlt := hs.less
        simp only
        rw [ih (f' := f') hs.ok (by omega) (by omega)]
end
end Go.Proofs.Ytpkcccphoolapaa
