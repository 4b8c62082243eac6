/- Layer 15: Targets, plain: the hosts in the stable order of their loads; a host's place is how many come ahead of it. -/
import Derived.Sort.LotA
namespace Go.Proofs.Ytpkcccphoolapaa
open Go.Sort

/-- host k comes ahead of host h: a greater load, or the same one and a lower number -/
def aheadB (l : List Int) (k h : Nat) : Bool := decide (l[h]?.getD 0 < l[k]?.getD 0) || (decide (l[k]?.getD 0 = l[h]?.getD 0) && decide (k < h))
theorem aheadB_iff {l : List Int} {k h : Nat} : aheadB l k h = true ↔ l[h]?.getD 0 < l[k]?.getD 0 ∨ (l[k]?.getD 0 = l[h]?.getD 0 ∧ k < h) := by simp [aheadB]
theorem aheadB_not {l : List Int} {k h : Nat} : aheadB l k h = false ↔ ¬ (l[h]?.getD 0 < l[k]?.getD 0 ∨ (l[k]?.getD 0 = l[h]?.getD 0 ∧ k < h)) := by
  rw [← aheadB_iff]; simp

section
variable {n : Nat}
def ltL (l : List Int) (a b : Fin n) : Bool := decide (l[b.val]?.getD 0 < l[a.val]?.getD 0)
def ltA (l : List Int) (a b : Fin n) : Bool := aheadB l a.val b.val
theorem ltA_swo (l : List Int) : SWO (ltA (n := n) l) where
  irrefl x := by unfold ltA; rw [aheadB_not]; omega
  trans x y z h1 h2 := by unfold ltA at *; rw [aheadB_iff] at *; omega
  ntrans x y z h1 h2 := by unfold ltA at *; rw [aheadB_not] at *; omega

variable [Inhabited (Fin n)]
theorem inner_eq (l : List Int) : ∀ (j : Nat) (d : Array (Fin n)), j < d.size → (∀ k, k < j → (d[k]!).val < (d[j]!).val) → insInner (ltL l) 0 j d = insInner (ltA l) 0 j d
  | 0, d, _, _ => by unfold insInner; rfl
  | j + 1, d, hj, h => by
    have h1 := h j (by omega)
    have e : ltL l d[j + 1]! d[j]! = ltA l d[j + 1]! d[j]! := by
      unfold ltL ltA aheadB
      rw [show decide ((d[j + 1]!).val < (d[j]!).val) = false by simp; omega]
      simp
    unfold insInner
    rw [e]
    split
    · refine inner_eq l j _ (by rw [swp_size]; omega) fun k hk => ?_
      rw [swp_get d hj (by omega), swp_get d hj (by omega), if_neg (by omega), if_neg (by omega), if_pos rfl]
      exact h k (by omega)
    · rfl

theorem inner_perm (lt : Fin n → Fin n → Bool) (i : Nat) : ∀ (j : Nat) (d : Array (Fin n)), j ≤ i → i < d.size → PermIn 0 (i + 1) d (insInner lt 0 j d)
  | 0, d, _, _ => by unfold insInner; exact permIn_refl d 0 (i + 1)
  | j + 1, d, hj, hi => by
    unfold insInner
    split
    · exact permIn_trans _ _ _ _ _ (swp_permIn d 0 (i + 1) (j + 1) j (Nat.zero_le _) (by omega) (Nat.zero_le _) (by omega) (by omega)) (inner_perm lt i j _ (by omega) (by rw [swp_size]; exact hi))
    · exact permIn_refl d 0 (i + 1)

theorem outer_done (lt : Fin n → Fin n → Bool) {i : Nat} (d : Array (Fin n)) (h : ¬ i < n) : insOuter lt 0 n i d = d := by
  conv => lhs; rw [insOuter]
  rw [if_neg h]
theorem outer_step (lt : Fin n → Fin n → Bool) {i : Nat} (d : Array (Fin n)) (h : i < n) : insOuter lt 0 n i d = insOuter lt 0 n (i + 1) (insInner lt 0 i d) := by
  conv => lhs; rw [insOuter]
  rw [if_pos h]
theorem outer_eq (l : List Int) : ∀ (m i : Nat) (d : Array (Fin n)), n - i = m → i ≤ n → d.size = n → (∀ k, k < n → i ≤ k → (d[k]!).val = k) → (∀ k, k < i → (d[k]!).val < i) → insOuter (ltL l) 0 n i d = insOuter (ltA l) 0 n i d
  | 0, i, d, hm, hi, _, _, _ => by rw [outer_done _ _ (by omega), outer_done _ _ (by omega)]
  | m + 1, i, d, hm, hi, hd, h1, h2 => by
    have hlt : i < n := by omega
    rw [outer_step _ _ hlt, outer_step _ _ hlt, inner_eq l i d (by omega) (fun k hk => by rw [h1 i hlt (Nat.le_refl _)]; exact h2 k hk)]
    have hp := inner_perm (ltA l) i i d (Nat.le_refl _) (by omega)
    refine outer_eq l m (i + 1) _ (by omega) hlt (by rw [hp.1, hd]) (fun k hk hik => ?_) (fun k hk => ?_)
    · rw [hp.2.1 k (.inr hik)]; exact h1 k hk (by omega)
    · refine permIn_all d _ 0 (i + 1) (fun x => x.val < i + 1) (by omega) hp (fun t _ ht => ?_) k (Nat.zero_le _) hk
      by_cases hti : t = i
      · subst hti; rw [h1 t hlt (Nat.le_refl _)]; omega
      · have := h2 t (by omega); omega

/-- the hosts, in their numbers' order -/
def hostsA (n : Nat) : Array (Fin n) := Array.ofFn id
omit [Inhabited (Fin n)] in
theorem hostsA_size : (hostsA n).size = n := by simp [hostsA]
theorem hostsA_get {k : Nat} (hk : k < n) : ((hostsA n)[k]!).val = k := by
  simp [hostsA, hk]

def sortedH (l : List Int) : Array (Fin n) := insertionSort (ltL l) (hostsA n) 0 n
theorem sortedH_spec (l : List Int) : PermIn 0 n (hostsA n) (sortedH (n := n) l) ∧ SortedIn (ltA (n := n) l) 0 n (sortedH (n := n) l) := by
  have e : sortedH (n := n) l = insertionSort (ltA l) (hostsA n) 0 n := by
    unfold sortedH insertionSort
    by_cases h0 : n = 0
    · rw [outer_done _ _ (by omega), outer_done _ _ (by omega)]
    · exact outer_eq l (n - 1) 1 _ (by omega) (by omega) hostsA_size (fun k hk _ => hostsA_get hk) (fun k hk => by rw [hostsA_get (by omega)]; omega)
  rw [e]
  exact insertionSort_holds (ltA_swo l) (hostsA n) 0 n (Nat.zero_le _) (by rw [hostsA_size]; exact Nat.le_refl _)
theorem sortedH_size (l : List Int) : (sortedH (n := n) l).size = n := by rw [(sortedH_spec (n := n) l).1.1, hostsA_size]

/-- the order as host numbers -/
def orderH (n : Nat) [Inhabited (Fin n)] (l : List Int) : List Nat := (sortedH (n := n) l).toList.map Fin.val
theorem orderH_len (l : List Int) : (orderH n l).length = n := by simp [orderH, sortedH_size]
theorem orderH_get (l : List Int) {r : Nat} (hr : r < n) : (orderH n l)[r]? = some ((sortedH (n := n) l)[r]!).val := by
  have h := sortedH_size (n := n) l
  simp [orderH, h, hr]
theorem orderH_perm (l : List Int) : (orderH n l).Perm (List.range n) := by
  have hp := (sortedH_spec (n := n) l).1
  have h1 := hp.2.2
  rw [show (sortedH (n := n) l).extract 0 n = sortedH l by apply Array.extract_eq_self_of_le; rw [sortedH_size]; exact Nat.le_refl _,
    show (hostsA n).extract 0 n = hostsA n by apply Array.extract_eq_self_of_le; rw [hostsA_size]; exact Nat.le_refl _] at h1
  have h2 := h1.map Fin.val
  have h3 : (hostsA n).toList.map Fin.val = List.range n := by
    apply List.ext_getElem
    · simp [hostsA]
    · intro i h1 h2; simp [hostsA]
  rw [h3] at h2
  exact h2
theorem orderH_sorted (l : List Int) : (orderH n l).Pairwise fun a b => aheadB l a b = true := by
  rw [List.pairwise_iff_getElem]
  intro i j hi hj hij
  rw [orderH_len] at hi hj
  have hs := (sortedH_spec (n := n) l).2 i j (Nat.zero_le _) hij hj
  have ei := orderH_get l hi
  have ej := orderH_get l hj
  have hne : (orderH n l)[i]? ≠ (orderH n l)[j]? := by
    have hnd : (orderH n l).Nodup := (orderH_perm l).nodup_iff.2 List.nodup_range
    intro e
    have := (List.getElem?_inj (by rw [orderH_len]; exact hi) hnd).1 e
    omega
  rw [ei, ej] at hne
  rw [List.getElem?_eq_some_iff] at ei ej
  obtain ⟨h1, e1⟩ := ei
  obtain ⟨h2, e2⟩ := ej
  rw [e1, e2]
  unfold ltA at hs
  rw [aheadB_not] at hs
  rw [aheadB_iff]
  have : ((sortedH (n := n) l)[i]!).val ≠ ((sortedH (n := n) l)[j]!).val := fun e => hne (by rw [e])
  omega

/-- a host's place is how many come ahead of it -/
theorem orderH_rank (l : List Int) {r h : Nat} (hr : (orderH n l)[r]? = some h) : ((List.range n).filter fun k => aheadB l k h).length = r := by
  rw [((orderH_perm l).symm.filter _).length_eq]
  have hs := orderH_sorted (n := n) l
  obtain ⟨hlt, he⟩ := List.getElem?_eq_some_iff.1 hr
  have e : orderH n l = (orderH n l).take r ++ h :: (orderH n l).drop (r + 1) := by
    rw [← he, ← List.drop_eq_getElem_cons hlt, List.take_append_drop]
  rw [e] at hs ⊢
  rw [List.pairwise_append] at hs
  obtain ⟨_, h2, h3⟩ := hs
  rw [List.pairwise_cons] at h2
  have irr : aheadB l h h = false := aheadB_not.2 (by omega)
  rw [List.filter_append, List.filter_cons, irr, List.filter_eq_self.2 (fun k hk => h3 k hk h (List.mem_cons_self ..)), List.filter_eq_nil_iff.2 (fun k hk => ?_)]
  · simp; omega
  · have := h2.1 k hk
    rw [aheadB_iff] at this
    rw [aheadB_iff]; omega
end

/-- how many come ahead of a host -/
def rankH (l : List Int) (h : Nat) : Nat := ((List.range l.length).filter fun k => aheadB l k h).length
/-- Targets of good loads -/
def targetL (l : List Int) (h : Nat) : Int := l.sum.tdiv l.length + if (rankH l h : Int) < l.sum % l.length then 1 else 0
def targets (l : List Int) : List Int := (List.range l.length).map (targetL l)
end Go.Proofs.Ytpkcccphoolapaa
