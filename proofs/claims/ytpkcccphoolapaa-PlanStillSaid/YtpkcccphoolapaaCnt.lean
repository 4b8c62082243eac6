/- Layer 15: how many keys each host has, in plain Lean. -/
import Derived.Test.YtpkcccphoolapaaRngL
import Derived.Test.YtpkcccphoolapaaKeys
namespace Go.Proofs.Ytpkcccphoolapaa

theorem countP_or {α : Type} (l : List α) (a b : α → Bool) (h : ∀ x ∈ l, ¬ (a x = true ∧ b x = true)) : l.countP (fun x => a x || b x) = l.countP a + l.countP b := by
  induction l with
  | nil => rfl
  | cons x r ih =>
    have hx := h x (List.mem_cons_self ..)
    rw [List.countP_cons, List.countP_cons, List.countP_cons, ih (fun y hy => h y (List.mem_cons_of_mem _ hy))]
    cases ha : a x <;> cases hb : b x <;> simp_all <;> omega

theorem cnt_between (ks : List Int) {lo hi : Int} (h : lo ≤ hi) : ks.countP (fun k => decide (lo ≤ k) && decide (k ≤ hi)) + cntLt ks lo = cntLe ks hi := by
  unfold cntLt cntLe
  rw [← countP_or]
  · congr 1
    funext k
    by_cases h1 : lo ≤ k <;> by_cases h2 : k ≤ hi <;> by_cases h3 : k < lo <;> simp [h1, h2, h3] <;> omega
  · intro k _ hk
    simp at hk
    omega

def hasB (l : List Seg) (key h : Int) : Bool := l.any (fun s => decide (s.lo ≤ key) && decide (key ≤ s.hi) && decide (s.host = h))
theorem hasB_iff {l : List Seg} {key h : Int} : hasB l key h = true ↔ Rng.Has l key h := by
  unfold hasB Rng.Has
  simp [List.any_eq_true, and_assoc]

def hostOf (l : List Seg) (key : Int) : Int := match l[Rng.at' l key]? with | some s => s.host | none => 0

theorem hasB_full {l : List Seg} (h : Rng.WF l) {key : Int} (h0 : 0 ≤ key) (h1 : key ≤ maxK) (x : Int) : hasB l key x = decide (hostOf l key = x) := by
  obtain ⟨s, s1, s2, s3, _⟩ := Rng.at_split h.tiles h0 (show key < maxK + 1 by omega)
  have e : hostOf l key = s.host := by unfold hostOf; rw [s1]
  have hh : Rng.Has l key s.host := ⟨s, List.mem_of_getElem? s1, s2, s3, rfl⟩
  rw [e]
  cases hb : hasB l key x with
  | true => have := Rng.tile_unique h.tiles hh (hasB_iff.1 hb); simp [this]
  | false =>
    symm
    rw [decide_eq_false_iff_not]
    rintro rfl
    rw [hasB_iff.2 hh] at hb
    cases hb

/-- how many of the keys the first k segments have for a host -/
def part (l : List Seg) (ks : List Int) (k : Nat) (h : Int) : Nat := ks.countP (fun key => hasB (l.take k) key h)

theorem part_zero (l : List Seg) (ks : List Int) (h : Int) : part l ks 0 h = 0 := by
  unfold part
  rw [List.countP_eq_zero]
  intro a _
  simp [hasB]

theorem tile_ahead {l : List Seg} {a b : Int} (h : Rng.tile a l b) {k : Nat} {s : Seg} (hs : l[k]? = some s) : ∀ t ∈ l.take k, t.hi < s.lo := by
  obtain ⟨hk, rfl⟩ := List.getElem?_eq_some_iff.1 hs
  have e : l = l.take k ++ l[k] :: l.drop (k + 1) := by rw [← List.drop_eq_getElem_cons hk, List.take_append_drop]
  rw [e] at h
  obtain ⟨m, h1, h2⟩ := Rng.tile_append.1 h
  intro t ht
  have := Rng.tile_mem h1 t ht
  have : l[k].lo = m := h2.1
  omega

theorem part_succ {l : List Seg} {a b : Int} (h : Rng.tile a l b) (ks : List Int) {k : Nat} {s : Seg} (hs : l[k]? = some s) (hle : s.lo ≤ s.hi) (x : Int) :
    part l ks (k + 1) x + (if s.host = x then cntLt ks s.lo else 0) = part l ks k x + (if s.host = x then cntLe ks s.hi else 0) := by
  have hta := tile_ahead h hs
  have e : ∀ key, hasB (l.take (k + 1)) key x = (hasB (l.take k) key x || (decide (s.lo ≤ key) && decide (key ≤ s.hi) && decide (s.host = x))) := by
    intro key
    unfold hasB
    rw [List.take_add_one, hs]
    simp
  have hd : ∀ key ∈ ks, ¬ (hasB (l.take k) key x = true ∧ (decide (s.lo ≤ key) && decide (key ≤ s.hi) && decide (s.host = x)) = true) := by
    rintro key _ ⟨h1, h2⟩
    obtain ⟨t, ht, _, t2, _⟩ := hasB_iff.1 h1
    have := hta t ht
    simp at h2
    omega
  unfold part
  simp only [e]
  rw [countP_or _ _ _ hd]
  by_cases hx : s.host = x
  · simp only [hx, decide_true, Bool.and_true, if_true]
    have := cnt_between ks hle
    omega
  · simp only [hx, decide_false, Bool.and_false, if_false]
    have : ks.countP (fun _ => false) = 0 := by rw [List.countP_eq_zero]; simp
    omega

theorem part_le (l : List Seg) (ks : List Int) (k : Nat) (h : Int) : part l ks k h ≤ ks.length := List.countP_le_length

/-- how many keys each host has -/
def countsOf (H : Nat) (l : List Seg) (ks : List Int) : List Int := (List.range H).map (fun (h : Nat) => ((ks.countP (fun key => decide (hostOf l key = (h : Int))) : Nat) : Int))

def partsOf (H : Nat) (l : List Seg) (ks : List Int) (k : Nat) : List Int := (List.range H).map (fun (h : Nat) => ((part l ks k (h : Int) : Nat) : Int))

theorem partsOf_zero (H : Nat) (l : List Seg) (ks : List Int) : partsOf H l ks 0 = List.replicate H 0 := by
  unfold partsOf
  apply List.ext_getElem
  · simp
  · intro i h1 h2; simp [part_zero]

theorem partsOf_len (H : Nat) (l : List Seg) (ks : List Int) (k : Nat) : (partsOf H l ks k).length = H := by simp [partsOf]

theorem partsOf_set {H : Nat} {l : List Seg} {a b : Int} (h : Rng.tile a l b) (ks : List Int) {k hh : Nat} {s : Seg} (hs : l[k]? = some s) (hle : s.lo ≤ s.hi) (hst : s.host = (hh : Int)) :
    (partsOf H l ks k).set hh ((part l ks k (hh : Int) : Nat) + (((cntLe ks s.hi : Nat) : Int) - ((cntLt ks s.lo : Nat) : Int))) = partsOf H l ks (k + 1) := by
  apply List.ext_getElem
  · simp [partsOf]
  · intro i h1 h2
    have hp := part_succ h ks hs hle (i : Int)
    rw [List.getElem_set]
    by_cases hi : hh = i
    · subst hi
      rw [if_pos hst, if_pos hst] at hp
      rw [if_pos rfl]
      simp only [partsOf, List.getElem_map, List.getElem_range]
      omega
    · rw [if_neg (by omega), if_neg (by omega)] at hp
      rw [if_neg hi]
      simp only [partsOf, List.getElem_map, List.getElem_range]
      omega

theorem partsOf_end {H : Nat} {l : List Seg} (h : Rng.WF l) {ks : List Int} (hk : ∀ k ∈ ks, 0 ≤ k ∧ k ≤ maxK) : partsOf H l ks l.length = countsOf H l ks := by
  unfold partsOf countsOf
  apply List.map_congr_left
  intro x _
  unfold part
  rw [List.take_length]
  congr 1
  apply List.countP_congr
  intro k hkm
  rw [hasB_full h (hk k hkm).1 (hk k hkm).2]
end Go.Proofs.Ytpkcccphoolapaa
