/- Layer 15: Targets, plain: the hosts in the stable order of their loads; a host's place is how many come ahead of it. Layer 15: the reference's Targets. Layer 15: where sort.SliceStable and what it calls lie in this translation. Layer 15: the hosts sorted by their loads: sort.SliceStable by its contract. Layer 15: the program's Targets. -/
import Derived.Sort.LotA
import Derived.Test.YtpkcccphoolapaaPlanC
import Derived.Test.YtpkcccphoolapaaCount
import Derived.Shelf.GgSortMore.Stable
import Derived.Test.YtpkcccphoolapaaProg
import Derived.Deep.QuietTactic
namespace Go.Proofs.Ytpkcccphoolapaa
open Go.Sort

/-- host k comes ahead of host h: a greater load, or the same one and a lower number -/
def aheadB (l : List Int) (k h : Nat) : Bool := decide (l[h]?.getD 0 < l[k]?.getD 0) || (decide (l[k]?.getD 0 = l[h]?.getD 0) && decide (k < h))
theorem aheadB_iff {l : List Int} {k h : Nat} : aheadB l k h = true ↔ l[h]?.getD 0 < l[k]?.getD 0 ∨ (l[k]?.getD 0 = l[h]?.getD 0 ∧ k < h) := by simp [aheadB]
theorem aheadB_not {l : List Int} {k h : Nat} : aheadB l k h = false ↔ ¬ (l[h]?.getD 0 < l[k]?.getD 0 ∨ (l[k]?.getD 0 = l[h]?.getD 0 ∧ k < h)) := by
  rw [← aheadB_iff]; simp

section
variable {n : Nat}
def ltL (l : List Int) (a b : Fin n) : Bool := decide (l[b.val]?.getD 0 < l[a.val]?.getD 0)
def ltA (l : List Int) (a b : Fin n) : Bool := aheadB l a.val b.val
theorem ltA_swo (l : List Int) : SWO (ltA (n := n) l) where
  irrefl x := by unfold ltA; rw [aheadB_not]; omega
  trans x y z h1 h2 := by unfold ltA at *; rw [aheadB_iff] at *; omega
  ntrans x y z h1 h2 := by unfold ltA at *; rw [aheadB_not] at *; omega

variable [Inhabited (Fin n)]
theorem inner_eq (l : List Int) : ∀ (j : Nat) (d : Array (Fin n)), j < d.size → (∀ k, k < j → (d[k]!).val < (d[j]!).val) → insInner (ltL l) 0 j d = insInner (ltA l) 0 j d
  | 0, d, _, _ => by unfold insInner; rfl
  | j + 1, d, hj, h => by
    have h1 := h j (by omega)
    have e : ltL l d[j + 1]! d[j]! = ltA l d[j + 1]! d[j]! := by
      unfold ltL ltA aheadB
      rw [show decide ((d[j + 1]!).val < (d[j]!).val) = false by simp; omega]
      simp
    unfold insInner
    rw [e]
    split
    · refine inner_eq l j _ (by rw [swp_size]; omega) fun k hk => ?_
      rw [swp_get d hj (by omega), swp_get d hj (by omega), if_neg (by omega), if_neg (by omega), if_pos rfl]
      exact h k (by omega)
    · rfl

theorem inner_perm (lt : Fin n → Fin n → Bool) (i : Nat) : ∀ (j : Nat) (d : Array (Fin n)), j ≤ i → i < d.size → PermIn 0 (i + 1) d (insInner lt 0 j d)
  | 0, d, _, _ => by unfold insInner; exact permIn_refl d 0 (i + 1)
  | j + 1, d, hj, hi => by
    unfold insInner
    split
    · exact permIn_trans _ _ _ _ _ (swp_permIn d 0 (i + 1) (j + 1) j (Nat.zero_le _) (by omega) (Nat.zero_le _) (by omega) (by omega)) (inner_perm lt i j _ (by omega) (by rw [swp_size]; exact hi))
    · exact permIn_refl d 0 (i + 1)

theorem outer_done (lt : Fin n → Fin n → Bool) {i : Nat} (d : Array (Fin n)) (h : ¬ i < n) : insOuter lt 0 n i d = d := by
  conv => lhs; rw [insOuter]
  rw [if_neg h]
theorem outer_step (lt : Fin n → Fin n → Bool) {i : Nat} (d : Array (Fin n)) (h : i < n) : insOuter lt 0 n i d = insOuter lt 0 n (i + 1) (insInner lt 0 i d) := by
  conv => lhs; rw [insOuter]
  rw [if_pos h]
theorem outer_eq (l : List Int) : ∀ (m i : Nat) (d : Array (Fin n)), n - i = m → i ≤ n → d.size = n → (∀ k, k < n → i ≤ k → (d[k]!).val = k) → (∀ k, k < i → (d[k]!).val < i) → insOuter (ltL l) 0 n i d = insOuter (ltA l) 0 n i d
  | 0, i, d, hm, hi, _, _, _ => by rw [outer_done _ _ (by omega), outer_done _ _ (by omega)]
  | m + 1, i, d, hm, hi, hd, h1, h2 => by
    have hlt : i < n := by omega
    rw [outer_step _ _ hlt, outer_step _ _ hlt, inner_eq l i d (by omega) (fun k hk => by rw [h1 i hlt (Nat.le_refl _)]; exact h2 k hk)]
    have hp := inner_perm (ltA l) i i d (Nat.le_refl _) (by omega)
    refine outer_eq l m (i + 1) _ (by omega) hlt (by rw [hp.1, hd]) (fun k hk hik => ?_) (fun k hk => ?_)
    · rw [hp.2.1 k (.inr hik)]; exact h1 k hk (by omega)
    · refine permIn_all d _ 0 (i + 1) (fun x => x.val < i + 1) (by omega) hp (fun t _ ht => ?_) k (Nat.zero_le _) hk
      by_cases hti : t = i
      · subst hti; rw [h1 t hlt (Nat.le_refl _)]; omega
      · have := h2 t (by omega); omega

/-- the hosts, in their numbers' order -/
def hostsA (n : Nat) : Array (Fin n) := Array.ofFn id
omit [Inhabited (Fin n)] in
theorem hostsA_size : (hostsA n).size = n := by simp [hostsA]
theorem hostsA_get {k : Nat} (hk : k < n) : ((hostsA n)[k]!).val = k := by
  simp [hostsA, hk]

def sortedH (l : List Int) : Array (Fin n) := insertionSort (ltL l) (hostsA n) 0 n
theorem sortedH_spec (l : List Int) : PermIn 0 n (hostsA n) (sortedH (n := n) l) ∧ SortedIn (ltA (n := n) l) 0 n (sortedH (n := n) l) := by
  have e : sortedH (n := n) l = insertionSort (ltA l) (hostsA n) 0 n := by
    unfold sortedH insertionSort
    by_cases h0 : n = 0
    · rw [outer_done _ _ (by omega), outer_done _ _ (by omega)]
    · exact outer_eq l (n - 1) 1 _ (by omega) (by omega) hostsA_size (fun k hk _ => hostsA_get hk) (fun k hk => by rw [hostsA_get (by omega)]; omega)
  rw [e]
  exact insertionSort_holds (ltA_swo l) (hostsA n) 0 n (Nat.zero_le _) (by rw [hostsA_size]; exact Nat.le_refl _)
theorem sortedH_size (l : List Int) : (sortedH (n := n) l).size = n := by rw [(sortedH_spec (n := n) l).1.1, hostsA_size]

/-- the order as host numbers -/
def orderH (n : Nat) [Inhabited (Fin n)] (l : List Int) : List Nat := (sortedH (n := n) l).toList.map Fin.val
theorem orderH_len (l : List Int) : (orderH n l).length = n := by simp [orderH, sortedH_size]
theorem orderH_get (l : List Int) {r : Nat} (hr : r < n) : (orderH n l)[r]? = some ((sortedH (n := n) l)[r]!).val := by
  have h := sortedH_size (n := n) l
  simp [orderH, h, hr]
theorem orderH_perm (l : List Int) : (orderH n l).Perm (List.range n) := by
  have hp := (sortedH_spec (n := n) l).1
  have h1 := hp.2.2
  rw [show (sortedH (n := n) l).extract 0 n = sortedH l by apply Array.extract_eq_self_of_le; rw [sortedH_size]; exact Nat.le_refl _,
    show (hostsA n).extract 0 n = hostsA n by apply Array.extract_eq_self_of_le; rw [hostsA_size]; exact Nat.le_refl _] at h1
  have h2 := h1.map Fin.val
  have h3 : (hostsA n).toList.map Fin.val = List.range n := by
    apply List.ext_getElem
    · simp [hostsA]
    · intro i h1 h2; simp [hostsA]
  rw [h3] at h2
  exact h2
theorem orderH_sorted (l : List Int) : (orderH n l).Pairwise fun a b => aheadB l a b = true := by
  rw [List.pairwise_iff_getElem]
  intro i j hi hj hij
  rw [orderH_len] at hi hj
  have hs := (sortedH_spec (n := n) l).2 i j (Nat.zero_le _) hij hj
  have ei := orderH_get l hi
  have ej := orderH_get l hj
  have hne : (orderH n l)[i]? ≠ (orderH n l)[j]? := by
    have hnd : (orderH n l).Nodup := (orderH_perm l).nodup_iff.2 List.nodup_range
    intro e
    have := (List.getElem?_inj (by rw [orderH_len]; exact hi) hnd).1 e
    omega
  rw [ei, ej] at hne
  rw [List.getElem?_eq_some_iff] at ei ej
  obtain ⟨h1, e1⟩ := ei
  obtain ⟨h2, e2⟩ := ej
  rw [e1, e2]
  unfold ltA at hs
  rw [aheadB_not] at hs
  rw [aheadB_iff]
  have : ((sortedH (n := n) l)[i]!).val ≠ ((sortedH (n := n) l)[j]!).val := fun e => hne (by rw [e])
  omega

/-- a host's place is how many come ahead of it -/
theorem orderH_rank (l : List Int) {r h : Nat} (hr : (orderH n l)[r]? = some h) : ((List.range n).filter fun k => aheadB l k h).length = r := by
  rw [((orderH_perm l).symm.filter _).length_eq]
  have hs := orderH_sorted (n := n) l
  obtain ⟨hlt, he⟩ := List.getElem?_eq_some_iff.1 hr
  have e : orderH n l = (orderH n l).take r ++ h :: (orderH n l).drop (r + 1) := by
    rw [← he, ← List.drop_eq_getElem_cons hlt, List.take_append_drop]
  rw [e] at hs ⊢
  rw [List.pairwise_append] at hs
  obtain ⟨_, h2, h3⟩ := hs
  rw [List.pairwise_cons] at h2
  have irr : aheadB l h h = false := aheadB_not.2 (by omega)
  rw [List.filter_append, List.filter_cons, irr, List.filter_eq_self.2 (fun k hk => h3 k hk h (List.mem_cons_self ..)), List.filter_eq_nil_iff.2 (fun k hk => ?_)]
  · simp; omega
  · have := h2.1 k hk
    rw [aheadB_iff] at this
    rw [aheadB_iff]; omega
end

/-- how many come ahead of a host -/
def rankH (l : List Int) (h : Nat) : Nat := ((List.range l.length).filter fun k => aheadB l k h).length
/-- Targets of good loads -/
def targetL (l : List Int) (h : Nat) : Int := l.sum.tdiv l.length + if (rankH l h : Int) < l.sum % l.length then 1 else 0
def targets (l : List Int) : List Int := (List.range l.length).map (targetL l)
end Go.Proofs.Ytpkcccphoolapaa
namespace Go.Proofs.Ytpkcccphoolapaa
open Go.RowKit

theorem below_drewT {B : Nat} {w W : World} (h : Below B w W) (n : Nat) : Below B w (W.drewN n) := ⟨h.os, h.tape, h.output, h.size, h.block⟩
theorem OwnInts.drewT {w : World} {B n : Nat} {v : Value} {l : List Int} (h : OwnInts w B v n l) (q : Nat) : OwnInts (w.drewN q) B v n l := h

/-- how many of the first k hosts come ahead of host i -/
def aheadN (l : List Int) (i k : Nat) : Nat := ((List.range k).filter fun j => aheadB l j i).length
theorem aheadN_zero (l : List Int) (i : Nat) : aheadN l i 0 = 0 := rfl
theorem aheadN_succ (l : List Int) (i k : Nat) : aheadN l i (k + 1) = aheadN l i k + if aheadB l k i = true then 1 else 0 := by
  unfold aheadN
  rw [List.range_succ, List.filter_append, List.length_append]
  cases h : aheadB l k i <;> simp [h]
theorem aheadN_le (l : List Int) (i k : Nat) : aheadN l i k ≤ k := by
  have := List.length_filter_le (fun j => aheadB l j i) (List.range k)
  rw [List.length_range] at this
  exact this

theorem div_facts {S : Int} {n : Nat} (h0 : 0 ≤ S) (h1 : S ≤ 17179869184) (hn : 1 ≤ n) : 0 ≤ S.tdiv n ∧ S.tdiv n ≤ 17179869184 := by
  have hn' : (0 : Int) < (n : Int) := by omega
  refine ⟨Int.tdiv_nonneg h0 (by omega), ?_⟩
  rw [Int.tdiv_eq_ediv_of_nonneg h0]
  exact Int.le_trans (Int.ediv_le_self _ h0) h1

set_option maxHeartbeats 4000000 in
theorem refTargets_any (w : World) (A : Option Addr) (n c : Nat) (l : List Int) (hl : l.length = n) (hm : n ≤ 9223372036854775807) (hR : Ints w.heap.size w A l) :
    Calls Try.prog 25 #[.slice A n c] w fun e w' =>
      ∃ v, e = .returned (.tuple #[v, .int .i64 (if goodLoads l = true then 0 else 150)]) ∧ OwnInts w' w.heap.size v (if goodLoads l = true then targets l else []).length (if goodLoads l = true then targets l else []) ∧ Below w.heap.size w w' := by
  subst hl
  have hT := refTotal_any w.heap.size w A l.length c l rfl hm hR
  cases hg : goodLoads l with
  | false =>
    have e : refTotal l = -1 := by unfold refTotal; rw [hg]; rfl
    rw [e] at hT
    simp only [Bool.false_eq_true, if_false]
    clear hg e
    go_enter Try.func25, Try.ntmps25
    go_wp2_with (go_at_call 39; refine hT.mono ?_; rintro e w' ⟨rfl, q, rfl⟩)
    go_ret2
    exact ⟨_, rfl, World.ownsRow_nil _ _ _ _, below_drewT (Below.refl _ _) _⟩
  | true =>
    simp only [if_true]
    have hG := goodLoads_iff hg
    have htb := total_bound hg
    have e : refTotal l = l.sum := by unfold refTotal; rw [hg]; rfl
    rw [e] at hT
    have HR := hid hR
    have hn1 := hG.1
    have hn2 := hG.2.1
    have hs0 := htb.1
    have hs1 := htb.2
    obtain ⟨hd0, hd1⟩ := div_facts (n := l.length) htb.1 htb.2 hn1
    have hz : ((l.length : Int) == 0) = false := by rw [beq_eq_false_iff_ne]; omega
    have hwd : IntKind.i64.wrap (l.sum.tdiv l.length) = l.sum.tdiv l.length := wrap_small _ (by omega) (by omega)
    have hwd1 : IntKind.i64.wrap (l.sum.tdiv l.length + 1) = l.sum.tdiv l.length + 1 := wrap_small _ (by omega) (by omega)
    have HTG : Hid (∀ h, targetL l h = l.sum.tdiv l.length + if (aheadN l h l.length : Int) < l.sum % l.length then 1 else 0) := hid fun h => rfl
    clear hg e hG htb hR
    generalize l.sum = S at *
    go_enter Try.func25, Try.ntmps25
    go_wp2_with (go_at_call 39; refine hT.mono ?_; rintro e w' ⟨rfl, q, rfl⟩)
    go_loopg [6, 7] l.length (fun gx so si wr => ∃ (i : Nat) (oA : Option Addr) (oc : Nat), si = .int .i64 i ∧ so = .slice oA i oc ∧ i ≤ l.length ∧ l.length - i ≤ gx ∧ Hid (OwnInts wr w.heap.size (.slice oA i oc) i ((List.range i).map (targetL l))) ∧ Hid (Below w.heap.size w wr))
    case atStart => exact ⟨0, none, 0, rfl, rfl, Nat.zero_le _, Nat.le_refl _, hid (World.ownsRow_nil _ _ _ _), hid (below_drewT (Below.refl _ _) _)⟩
    case round =>
      obtain ⟨i, oA, oc, rfl, rfl, hil, hgx, HO, HB⟩ := hrel
      by_cases hlt : i < l.length
      · have hii : (i : Int) < (l.length : Int) := by omega
        have hi0 : (0 : Int) ≤ (i : Int) := by omega
        have hwi : IntKind.i64.wrap ((i : Int) + 1) = (i : Int) + 1 := wrap_small _ (by omega) (by omega)
        obtain ⟨b, off, y, hy, rfl, hb, hc⟩ := Ints.at' HR.out i hlt
        have HC := hid hc
        clear hc
        go_wp2_with fail
        go_loopg [8, 9] l.length (fun gy sa sk wq => ∃ k q : Nat, sa = .int .i64 (aheadN l i k) ∧ sk = .int .i64 k ∧ k ≤ l.length ∧ l.length - k ≤ gy ∧ wq = wr.drewN q)
        case atStart => exact ⟨0, 0, rfl, rfl, Nat.zero_le _, Nat.le_refl _, rfl⟩
        case round =>
          obtain ⟨k, q2, rfl, rfl, hkl, hgy, rfl⟩ := hrel
          by_cases hlk : k < l.length
          · have hkk : (k : Int) < (l.length : Int) := by omega
            have hk0 : (0 : Int) ≤ (k : Int) := by omega
            have hwk : IntKind.i64.wrap ((k : Int) + 1) = (k : Int) + 1 := wrap_small _ (by omega) (by omega)
            obtain ⟨b', off', x, hx, hbe, hb', hc'⟩ := Ints.at' HR.out k hlk
            obtain ⟨rfl, rfl⟩ : b' = b ∧ off' = off := by
              injection hbe with e; injection e with e1 e2; exact ⟨e1.symm, e2.symm⟩
            have x1 : wr.cell? ⟨b', off' + k, none⟩ = some (.int .i64 x) := (HB.out.cell (p := ⟨b', off' + k, none⟩) hb).trans hc'
            have x2 : wr.cell? ⟨b', off' + i, none⟩ = some (.int .i64 y) := (HB.out.cell (p := ⟨b', off' + i, none⟩) hb).trans HC.out
            have han := aheadN_le l i k
            have hwa : IntKind.i64.wrap ((aheadN l i k : Int) + 1) = (aheadN l i k : Int) + 1 := wrap_small _ (by omega) (by omega)
            have HS := hid (aheadN_succ l i k)
            have ex : l[k]?.getD 0 = x := by rw [hx.out]; rfl
            have ey : l[i]?.getD 0 = y := by rw [hy.out]; rfl
            have hab : aheadB l k i = (decide (y < x) || (decide (x = y) && decide (k < i))) := by unfold aheadB; rw [ex, ey]
            rw [hab] at HS
            clear hab ex ey hc' hbe
            generalize aheadN l i k = a at *
            by_cases hgt : y < x
            · have d0 : decide (x > y) = true := by simpa using hgt
              have d1 : decide (y < x) = true := by simpa using hgt
              rw [d1] at HS
              clear hgt
              go_wp2_with fail
              go_quiet (fail)
              go_wp2_with fail
              go_roundg (l.length - (k + 1))
              case measure => omega
              case rel => exact ⟨k + 1, _, by rw [HS.out]; simp, by go_num, hlk, Nat.le_refl _, rfl⟩
            · have d0 : decide (x > y) = false := by simpa using hgt
              have d1 : decide (y < x) = false := by simpa using hgt
              rw [d1] at HS
              by_cases heq : x = y
              · subst heq
                have e0 : (x == x) = true := by simp
                by_cases hki : k < i
                · have e1 : decide (k < i) = true := by simpa using hki
                  have HS2 : Hid (aheadN l i (k + 1) = a + 1) := hid (by rw [HS.out]; simp [hki])
                  clear hki hgt
                  go_wp2_with fail
                  go_quiet (fail)
                  go_wp2_with fail
                  go_roundg (l.length - (k + 1))
                  case measure => omega
                  case rel => exact ⟨k + 1, _, by rw [HS2.out]; rfl, by go_num, hlk, Nat.le_refl _, rfl⟩
                · have e1 : decide (k < i) = false := by simpa using hki
                  have HS2 : Hid (aheadN l i (k + 1) = a) := hid (by rw [HS.out]; simp [hki])
                  clear hki hgt
                  go_wp2_with fail
                  go_quiet (fail)
                  go_wp2_with fail
                  go_roundg (l.length - (k + 1))
                  case measure => omega
                  case rel => exact ⟨k + 1, _, by rw [HS2.out], by go_num, hlk, Nat.le_refl _, rfl⟩
              · have e0 : (x == y) = false := by simpa using heq
                have HS2 : Hid (aheadN l i (k + 1) = a) := hid (by rw [HS.out]; simp [heq])
                clear heq hgt
                go_wp2_with fail
                go_quiet (fail)
                go_wp2_with fail
                go_roundg (l.length - (k + 1))
                case measure => omega
                case rel => exact ⟨k + 1, _, by rw [HS2.out], by go_num, hlk, Nat.le_refl _, rfl⟩
          · obtain rfl : k = l.length := by omega
            have hkk : ¬ (l.length : Int) < (l.length : Int) := by omega
            have HT := hid (HTG.out i)
            have HOD : Hid (OwnInts (wr.drewN q2) w.heap.size (.slice oA i oc) i ((List.range i).map (targetL l))) := hid (HO.out.drewT q2)
            have HBD : Hid (Below w.heap.size w (wr.drewN q2)) := hid (below_drewT HB.out q2)
            have han := aheadN_le l i l.length
            have hln : ((List.range i).map (targetL l)).length = i := by simp
            have HLN := hid hln
            clear hln
            generalize aheadN l i l.length = a at *
            by_cases hr : (a : Int) < S % l.length
            · have dr : decide ((a : Int) < S % l.length) = true := by simpa using hr
              have HT2 : Hid (targetL l i = S.tdiv l.length + 1) := hid (by rw [HT.out, if_pos hr])
              go_wp2_with (at_builtin; refine wpList_append_one (enc := i64) (wr.drewN q2) w.heap.size rfl _ _ 22 3 _ 8 rfl Try.underlying22 infoInt rfl (by decide) i64_len i64_one (.slice oA i oc) ((List.range i).map (targetL l)) (S.tdiv l.length + 1) _ rfl rfl _ rfl rfl (by rw [HLN.out]; exact HOD.out) (by rw [HLN.out]; simp only [maxLen]; omega) (by rw [HLN.out]; omega) HBD.out.size ?_; intro v6 w6 hown hgr _)
              rw [← HT2.out, ← List.map_singleton, ← List.map_append, ← List.range_succ, List.length_map, List.length_range] at hown
              obtain ⟨_, A6, c6, rfl, _, _, _⟩ := owns_reads i64_len hown (by decide)
              have HO6 := hid hown
              have HB6 := hid (HBD.out.grown hgr HBD.out.size (fun k hk => own_ge HOD.out k hk))
              clear hown hgr
              go_roundg (l.length - (i + 1))
              case measure => omega
              case rel => exact ⟨i + 1, A6, c6, by go_num, rfl, hlt, Nat.le_refl _, HO6, HB6⟩
            · have dr : decide ((a : Int) < S % l.length) = false := by simpa using hr
              have HT2 : Hid (targetL l i = S.tdiv l.length) := hid (by rw [HT.out, if_neg hr]; simp)
              go_wp2_with (at_builtin; refine wpList_append_one (enc := i64) (wr.drewN q2) w.heap.size rfl _ _ 22 3 _ 8 rfl Try.underlying22 infoInt rfl (by decide) i64_len i64_one (.slice oA i oc) ((List.range i).map (targetL l)) (S.tdiv l.length) _ rfl rfl _ rfl rfl (by rw [HLN.out]; exact HOD.out) (by rw [HLN.out]; simp only [maxLen]; omega) (by rw [HLN.out]; omega) HBD.out.size ?_; intro v6 w6 hown hgr _)
              rw [← HT2.out, ← List.map_singleton, ← List.map_append, ← List.range_succ, List.length_map, List.length_range] at hown
              obtain ⟨_, A6, c6, rfl, _, _, _⟩ := owns_reads i64_len hown (by decide)
              have HO6 := hid hown
              have HB6 := hid (HBD.out.grown hgr HBD.out.size (fun k hk => own_ge HOD.out k hk))
              clear hown hgr
              go_roundg (l.length - (i + 1))
              case measure => omega
              case rel => exact ⟨i + 1, A6, c6, by go_num, rfl, hlt, Nat.le_refl _, HO6, HB6⟩
      · obtain rfl : i = l.length := by omega
        have hii : ¬ (l.length : Int) < (l.length : Int) := by omega
        go_wp2_with fail
        go_ret2
        refine ⟨_, rfl, ?_, HB.out⟩
        have h := HO.out
        unfold targets
        rw [List.length_map, List.length_range]
        exact h
end Go.Proofs.Ytpkcccphoolapaa
namespace Go.Proofs.Ytpkcccphoolapaa
open Go.Shelf
def slStable_ren : Go.Shelf.Ren := ⟨fun | 8 => 53 | 13 => 70 | 14 => 71 | 16 => 73 | 15 => 72 | 29 => 92 | 30 => 93 | 42 => 98 | 49 => 100 | n => n, fun | 20 => 20 | 26 => 98 | 36 => 125 | 0 => 0 | 38 => 127 | 42 => 131 | 3 => 3 | 4 => 4 | 47 => 119 | 17 => 17 | 33 => 122 | 34 => 123 | 89 => 162 | 12 => 12 | 56 => 154 | 82 => 155 | 5 => 5 | 83 => 156 | 84 => 157 | 85 => 158 | 86 => 159 | 87 => 160 | n => n, fun | n => n⟩
theorem slStable : Go.Proofs.LaysGt.n8 Try.prog slStable_ren := {
  mixed := by kernel_rfl
  f8 := Try.func53.trans (congrArg some (by kernel_rfl))
  f13 := Try.func70.trans (congrArg some (by kernel_rfl))
  f14 := Try.func71.trans (congrArg some (by kernel_rfl))
  f15 := Try.func72.trans (congrArg some (by kernel_rfl))
  f16 := Try.func73.trans (congrArg some (by kernel_rfl))
  f29 := Try.func92.trans (congrArg some (by kernel_rfl))
  f30 := Try.func93.trans (congrArg some (by kernel_rfl))
  f42 := Try.func98.trans (congrArg some (by kernel_rfl))
  f49 := Try.func100.trans (congrArg some (by kernel_rfl))
  t0 := Try.underlying0
  a0 := Try.isAgg0
  z0 := Try.sizeOf0
  v0 := Try.zeroValue0
  i0 := by kernel_rfl
  t3 := Try.underlying3
  a3 := Try.isAgg3
  z3 := Try.sizeOf3
  v3 := Try.zeroValue3
  i3 := by kernel_rfl
  t4 := Try.underlying4
  a4 := Try.isAgg4
  z4 := Try.sizeOf4
  v4 := Try.zeroValue4
  i4 := by kernel_rfl
  t5 := Try.underlying5
  a5 := Try.isAgg5
  z5 := Try.sizeOf5
  v5 := Try.zeroValue5
  i5 := by kernel_rfl
  t12 := Try.underlying12
  a12 := Try.isAgg12
  z12 := Try.sizeOf12
  v12 := Try.zeroValue12
  i12 := by kernel_rfl
  t17 := Try.underlying17
  a17 := Try.isAgg17
  z17 := Try.sizeOf17
  v17 := Try.zeroValue17
  i17 := by kernel_rfl
  t20 := Try.underlying20
  a20 := Try.isAgg20
  z20 := Try.sizeOf20
  v20 := Try.zeroValue20
  i20 := by kernel_rfl
  t26 := Try.underlying98
  a26 := Try.isAgg98
  z26 := Try.sizeOf98
  v26 := Try.zeroValue98
  i26 := by kernel_rfl
  t33 := Try.underlying122
  a33 := Try.isAgg122
  z33 := Try.sizeOf122
  v33 := Try.zeroValue122
  i33 := by kernel_rfl
  t34 := Try.underlying123
  a34 := Try.isAgg123
  z34 := Try.sizeOf123
  v34 := Try.zeroValue123
  i34 := by kernel_rfl
  t36 := Try.underlying125
  a36 := Try.isAgg125
  z36 := Try.sizeOf125
  v36 := Try.zeroValue125
  i36 := by kernel_rfl
  t38 := Try.underlying127
  a38 := Try.isAgg127
  z38 := Try.sizeOf127
  v38 := Try.zeroValue127
  i38 := by kernel_rfl
  t42 := Try.underlying131
  a42 := Try.isAgg131
  z42 := Try.sizeOf131
  v42 := Try.zeroValue131
  i42 := by kernel_rfl
  t47 := Try.underlying119
  a47 := Try.isAgg119
  z47 := Try.sizeOf119
  v47 := Try.zeroValue119
  i47 := by kernel_rfl
  t56 := Try.underlying154
  a56 := Try.isAgg154
  z56 := Try.sizeOf154
  v56 := Try.zeroValue154
  i56 := by kernel_rfl
  t82 := Try.underlying155
  a82 := Try.isAgg155
  z82 := Try.sizeOf155
  v82 := Try.zeroValue155
  i82 := by kernel_rfl
  t83 := Try.underlying156
  a83 := Try.isAgg156
  z83 := Try.sizeOf156
  v83 := Try.zeroValue156
  i83 := by kernel_rfl
  t84 := Try.underlying157
  a84 := Try.isAgg157
  z84 := Try.sizeOf157
  v84 := Try.zeroValue157
  i84 := by kernel_rfl
  t85 := Try.underlying158
  a85 := Try.isAgg158
  z85 := Try.sizeOf158
  v85 := Try.zeroValue158
  i85 := by kernel_rfl
  t86 := Try.underlying159
  a86 := Try.isAgg159
  z86 := Try.sizeOf159
  v86 := Try.zeroValue159
  i86 := by kernel_rfl
  t87 := Try.underlying160
  a87 := Try.isAgg160
  z87 := Try.sizeOf160
  v87 := Try.zeroValue160
  i87 := by kernel_rfl
  t89 := Try.underlying162
  a89 := Try.isAgg162
  z89 := Try.sizeOf162
  v89 := Try.zeroValue162
  i89 := by kernel_rfl }
end Go.Proofs.Ytpkcccphoolapaa
namespace Go.Proofs.Ytpkcccphoolapaa
open Go.RowKit Go.Sort Go.Lib Go.Shelf

noncomputable def siT : TypeInfo := (Try.prog.info? 22).get (by kernel_rfl)
noncomputable def siE : TypeInfo := (Try.prog.info? 3).get (by kernel_rfl)
theorem siK (n : Nat) (h2 : 2 ≤ n) : Lib.swapperK n siE 2 = 5 := by
  have a : siE.hasPointers = false := by kernel_rfl
  have b : siE.bytes = 8 := by kernel_rfl
  have c : (n == 0) = false := by simp; omega
  have d : (n == 1) = false := by simp; omega
  simp [Lib.swapperK, a, b, c, d]

set_option maxHeartbeats 2000000 in
/-- the closure: reads two host numbers and their loads -/
theorem less_tgt (W : World) (i j n b1 b3 blk b off c hx hy L : Nat) (x y : Int) (hi : i < n) (hj : j < n) (h1 : hx < L) (h2 : hy < L) (_ : n ≤ 16) (_ : L ≤ 16)
    (c1 : W.cell? ⟨b1, 0, none⟩ = some (.slice (some ⟨b, off, none⟩) L c)) (c3 : W.cell? ⟨b3, 0, none⟩ = some (.slice (some ⟨blk, 0, none⟩) n n))
    (ci : W.cell? ⟨blk, i, none⟩ = some (.int .i64 (hx : Int))) (cj : W.cell? ⟨blk, j, none⟩ = some (.int .i64 (hy : Int)))
    (cx : W.cell? ⟨b, off + hx, none⟩ = some (.int .i64 x)) (cy : W.cell? ⟨b, off + hy, none⟩ = some (.int .i64 y)) :
    Calls Try.prog 54 #[.int .i64 (i : Int), .int .i64 (j : Int), .pointer (some ⟨b1, 0, none⟩), .pointer (some ⟨b3, 0, none⟩)] W fun e w' => e = .returned (.bool (decide (y < x))) ∧ ∃ q, w' = W.drewN q := by
  go_enter Try.func54, Try.ntmps54
  go_wp2_with fail
  go_quiet (fail)
  go_wp2_with fail
  go_ret
  exact ⟨rfl, nq, rfl⟩

/-- a row of host numbers as it lies -/
def hostCells (l : List Nat) : Array Value := (l.map fun (h : Nat) => Value.int .i64 (h : Int)).toArray

theorem stableHosts_any (W : World) (l : List Int) (b off c b1 b3 blk : Nat) (h1 : 1 ≤ l.length) (h16 : l.length ≤ 16)
    (hl : ∀ (k : Nat) (x : Int), l[k]? = some x → W.cell? ⟨b, off + k, none⟩ = some (.int .i64 x))
    (c1 : W.cell? ⟨b1, 0, none⟩ = some (.slice (some ⟨b, off, none⟩) l.length c)) (c3 : W.cell? ⟨b3, 0, none⟩ = some (.slice (some ⟨blk, 0, none⟩) l.length l.length))
    (hrow : W.heap[blk]? = some (.cells (hostCells (List.range l.length)) 3 (0, 0))) (hb : b < W.heap.size ∧ b ≠ blk) (hb1 : b1 < W.heap.size ∧ b1 ≠ blk) (hb3 : b3 < W.heap.size ∧ b3 ≠ blk) :
    Calls Try.prog 53 #[.iface 22 (.slice (some ⟨blk, 0, none⟩) l.length l.length), .func (.func 54) #[] #[.pointer (some ⟨b1, 0, none⟩), .pointer (some ⟨b3, 0, none⟩)]] W fun e w' =>
      e = .returned (.tuple #[]) ∧ ∃ o : List Nat, o.length = l.length ∧ o.Perm (List.range l.length) ∧ (∀ r h, o[r]? = some h → rankH l h = r) ∧ w'.heap[blk]? = some (.cells (hostCells o) 3 (0, 0)) ∧ W.grownBy w' (some blk) := by
  obtain ⟨n, hn⟩ : ∃ n, n = l.length := ⟨_, rfl⟩
  have hblk : blk < W.heap.size := (Array.getElem?_eq_some_iff.1 hrow).1
  by_cases h2 : 2 ≤ n
  · have hI : Inhabited (Fin n) := ⟨⟨0, by omega⟩⟩
    have hH : Holds (fun x : Fin n => Value.int .i64 (x.val : Int)) W blk 0 (hostsA n) := by
      intro j hj
      rw [hostsA_size] at hj
      show W.cell? ⟨blk, 0 + j, none⟩ = some (.int .i64 (((hostsA n)[j]!).val : Int)) ∧ _
      rw [hostsA_get hj, Nat.zero_add]
      constructor
      · simp only [World.cell?, hrow]
        simp [hostCells, ← hn, hj]
      · simp [World.frozen?, hrow]
    have hless : LessReads Try.prog 54 #[.pointer (some ⟨b1, 0, none⟩), .pointer (some ⟨b3, 0, none⟩)] (fun x : Fin n => Value.int .i64 (x.val : Int)) (ltL l) blk 0 (hostsA n).size W := by
      intro m os dk hs i j hi hj
      rw [hostsA_size] at hs hi hj
      have hw : sortWorld (fun x : Fin n => Value.int .i64 (x.val : Int)) W blk 0 m dk os = putRow (fun x : Fin n => Value.int .i64 (x.val : Int)) (grow (Sort.ahead W m) os) blk 0 dk := by
        unfold sortWorld; rw [putRow_grow _ (Sort.ahead W m) _ blk 0 _ hblk]
      have hHg : Holds (fun x : Fin n => Value.int .i64 (x.val : Int)) (grow (Sort.ahead W m) os) blk 0 (hostsA n) := holds_grow _ _ _ blk 0 (hostsA n) hblk (holds_ahead _ _ _ _ _ _ hH)
      have other : ∀ a : Addr, a.block < W.heap.size → a.block ≠ blk → (sortWorld (fun x : Fin n => Value.int .i64 (x.val : Int)) W blk 0 m dk os).cell? a = W.cell? a := fun a ha hne => by
        rw [hw, cell?_putRow_other _ _ blk 0 dk _ (Or.inl hne), cell?_grow (Sort.ahead W m) os _ ha]; rfl
      have row : ∀ t, t < n → (sortWorld (fun x : Fin n => Value.int .i64 (x.val : Int)) W blk 0 m dk os).cell? ⟨blk, t, none⟩ = some (.int .i64 ((dk[t]!).val : Int)) := fun t ht => by
        have := cell?_putRow (fun x : Fin n => Value.int .i64 (x.val : Int)) _ blk 0 (hostsA n) dk hHg (by rw [hostsA_size, hs]) t (by rw [hs]; exact ht)
        rw [Nat.zero_add] at this
        rw [hw]; exact this
      have ld : ∀ f : Fin n, ∃ x, l[f.val]? = some x := fun f => ⟨l[f.val]'(by have := f.isLt; omega), List.getElem?_eq_getElem _⟩
      obtain ⟨x, hx⟩ := ld dk[i]!
      obtain ⟨y, hy⟩ := ld dk[j]!
      have e : ltL l dk[i]! dk[j]! = decide (y < x) := by unfold ltL; rw [hx, hy]; rfl
      rw [e]
      exact less_tgt _ i j n b1 b3 blk b off c (dk[i]!).val (dk[j]!).val l.length x y hi hj (by have := (dk[i]!).isLt; omega) (by have := (dk[j]!).isLt; omega) (by omega) h16
        ((other _ hb1.1 hb1.2).trans c1) ((other _ hb3.1 hb3.2).trans (by rw [hn]; exact c3)) (row i hi) (row j hj) ((other _ hb.1 hb.2).trans (hl _ _ hx)) ((other _ hb.1 hb.2).trans (hl _ _ hy))
    have hS := Any.sort_SliceStable_small slStable 22 3 siT siE (by kernel_rfl) (by kernel_rfl) (by kernel_rfl) (by kernel_rfl) 2 (fun _ => by kernel_rfl) (by kernel_rfl) (fun _ => by kernel_rfl) (fun x : Fin n => Value.int .i64 (x.val : Int)) (fun _ => rfl) (ltL l) 54 _
      (enters_of Try.func54 (by kernel_rfl) rfl) blk 0 n (hostsA n) (by rw [hostsA_size]; exact h2) (by rw [hostsA_size]; omega) 87 (by rw [siK _ (by rw [hostsA_size]; exact h2)]; kernel_rfl) true
      (fun args W => run_callFunc_extern Try.func87 (by kernel_rfl) (by kernel_rfl) (by kernel_rfl) (e := Extern.ReflectliteSwapper.swap true) (by kernel_rfl) args W) W hless hH hblk
    rw [hostsA_size] at hS
    rw [← hn]
    refine hS.mono ?_
    rintro e w' ⟨rfl, m, os, rfl⟩
    refine ⟨rfl, orderH n l, orderH_len l, orderH_perm l, fun r h hr => ?_, ?_, ⟨rfl, rfl, rfl, ?_, fun k hk hne => ?_⟩⟩
    · have := orderH_rank (n := n) l hr
      unfold rankH; rw [← hn]; exact this
    · rw [heap_grow_old _ _ (by rw [size_putRow]; exact hblk)]
      show (W.heap.modify blk (onCells (putCells (fun x : Fin n => Value.int .i64 (x.val : Int)) 0 (sortedH l))))[blk]? = _
      rw [Array.getElem?_modify, if_pos rfl, hrow]
      simp only [Option.map_some, onCells]
      congr 2
      apply Array.ext
      · simp [putCells, hostCells, orderH_len, hn]
      · intro k k1 k2
        have hk : k < n := by simpa [hostCells, orderH_len] using k2
        have hg := orderH_get (n := n) l hk
        obtain ⟨_, he⟩ := List.getElem?_eq_some_iff.1 hg
        simp only [putCells, Array.getElem_mapIdx, hostCells, List.getElem_toArray, List.getElem_map, he]
        rw [if_pos ⟨Nat.zero_le _, by rw [sortedH_size]; omega⟩, Nat.sub_zero]
    · rw [size_grow, size_putRow]
      show W.heap.size ≤ W.heap.size + os.size
      omega
    · rw [heap_grow_old _ _ (by rw [size_putRow]; exact hk)]
      show (W.heap.modify blk _)[k]? = _
      rw [Array.getElem?_modify, if_neg (fun e => hne (by rw [e]))]
  · obtain rfl : n = 1 := by omega
    have hS := Any.sort_SliceStable_tiny slStable 22 3 siT siE (by kernel_rfl) (by kernel_rfl) (by kernel_rfl) (by kernel_rfl) 2 (fun _ => by kernel_rfl) (some ⟨blk, 0, none⟩) 1 1 (Nat.le_refl _) 84 (by kernel_rfl)
      (.func 54) #[] #[.pointer (some ⟨b1, 0, none⟩), .pointer (some ⟨b3, 0, none⟩)] W
    rw [← hn] at hrow ⊢
    refine hS.mono ?_
    rintro e w' ⟨rfl, os, rfl⟩
    refine ⟨rfl, [0], rfl, List.Perm.refl _, fun r h hr => ?_, ?_, ⟨rfl, rfl, rfl, ?_, fun k hk _ => ?_⟩⟩
    · obtain ⟨rfl, rfl⟩ : r = 0 ∧ h = 0 := by
        cases r with
        | zero => simpa using hr.symm
        | succ r => simp at hr
      unfold rankH
      rw [← hn]
      simp [aheadB]
    · rw [heap_grow_old _ _ hblk]; exact hrow
    · rw [size_grow]; omega
    · rw [heap_grow_old _ _ hk]
end Go.Proofs.Ytpkcccphoolapaa
namespace Go.Proofs.Ytpkcccphoolapaa
open Go.RowKit Go.Sort

/-- what stands in out behind r rounds -/
def outP (l : List Int) (o : List Nat) (r : Nat) : List Int := (List.range l.length).map fun h => if h ∈ o.take r then targetL l h else 0
theorem outP_len (l : List Int) (o : List Nat) (r : Nat) : (outP l o r).length = l.length := by simp [outP]
theorem outP_zero (l : List Int) (o : List Nat) : outP l o 0 = List.replicate l.length 0 := by
  unfold outP
  apply List.ext_getElem
  · simp
  · intro i h1 h2; simp
theorem outP_step {l : List Int} {o : List Nat} {r h : Nat} (hr : o[r]? = some h) : (outP l o r).set h (targetL l h) = outP l o (r + 1) := by
  apply List.ext_getElem
  · simp [outP]
  · intro i h1 h2
    rw [List.getElem_set]
    simp only [outP, List.getElem_map, List.getElem_range, List.take_add_one, hr, Option.toList_some, List.mem_append, List.mem_singleton]
    by_cases e : h = i
    · subst e; simp
    · rw [if_neg e]
      by_cases e2 : i ∈ o.take r <;> simp [e2, Ne.symm e]
theorem outP_end {l : List Int} {o : List Nat} (hl : o.length = l.length) (hp : o.Perm (List.range l.length)) : outP l o l.length = targets l := by
  unfold outP targets
  rw [← hl, List.take_length, hl]
  apply List.map_congr_left
  intro h hh
  rw [if_pos (hp.mem_iff.2 hh)]

def fillL (n k : Nat) : List Nat := (List.range n).map fun h => if h < k then h else 0
theorem fillL_end (n : Nat) : fillL n n = List.range n := by
  unfold fillL
  apply List.ext_getElem
  · simp
  · intro i h1 h2
    simp at h1
    simp [h1]
theorem fillL_made (n : Nat) : madeCells #[.int .i64 0] n = hostCells (fillL n 0) := by
  apply Array.ext'
  rw [toList_madeCells_one]
  unfold hostCells fillL
  apply List.ext_getElem
  · simp
  · intro i h1 h2; simp
theorem fillL_set {n k : Nat} (_ : k < n) : (hostCells (fillL n k)).setIfInBounds k (.int .i64 (k : Int)) = hostCells (fillL n (k + 1)) := by
  apply Array.ext
  · simp [hostCells, fillL]
  · intro i h1 h2
    rw [Array.getElem_setIfInBounds (by simpa using h1)]
    simp only [hostCells, fillL, List.getElem_toArray, List.getElem_map, List.getElem_range]
    by_cases e : k = i
    · subst e; simp
    · rw [if_neg e]
      by_cases e2 : i < k
      · rw [if_pos e2, if_pos (by omega)]
      · rw [if_neg e2, if_neg (by omega)]
theorem heap_setCell_at {W : World} {g k : Nat} {cs : Array Value} {e : TypeId} {fr : Nat × Nat} (v : Value) (h : W.heap[g]? = some (.cells cs e fr)) : (W.setCell ⟨g, k, none⟩ v).heap[g]? = some (.cells (cs.setIfInBounds k v) e fr) := by
  rw [setCell_eq]
  show (W.heap.modify g _)[g]? = _
  rw [Array.getElem?_modify, if_pos rfl, h]
  rfl
theorem host_cell {W : World} {g : Nat} {o : List Nat} {e : TypeId} (h : W.heap[g]? = some (.cells (hostCells o) e (0, 0))) {k x : Nat} (hk : o[k]? = some x) : W.cell? ⟨g, k, none⟩ = some (.int .i64 (x : Int)) := by
  obtain ⟨h1, h2⟩ := List.getElem?_eq_some_iff.1 hk
  simp [World.cell?, h, hostCells, h1, h2]
theorem host_frozen {W : World} {g k : Nat} {cs : Array Value} {e : TypeId} (h : W.heap[g]? = some (.cells cs e (0, 0))) : W.frozen? ⟨g, k, none⟩ = false := by simp [World.frozen?, h]

set_option maxHeartbeats 8000000 in
theorem targets_any (w : World) (A : Option Addr) (n c : Nat) (l : List Int) (hl : l.length = n) (hm : n ≤ 9223372036854775807) (hR : Ints w.heap.size w A l) :
    Calls Try.prog 24 #[.slice A n c] w fun e w' =>
      ∃ v, e = .returned (.tuple #[v, .int .i64 (if goodLoads l = true then 0 else 150)]) ∧ OwnInts w' w.heap.size v (if goodLoads l = true then targets l else []).length (if goodLoads l = true then targets l else []) ∧ Below w.heap.size w w' := by
  subst hl
  have hB1 : Below w.heap.size w (w.alloc (.cells #[.slice A l.length c] 22)) := (Below.refl _ w).alloc (Nat.le_refl _) _
  have hg1 := goodLoads_any w.heap.size _ A l.length c l rfl hm (hR.below hB1)
  cases hg : goodLoads l with
  | false =>
    rw [hg] at hg1
    simp only [Bool.false_eq_true, if_false]
    clear hg
    go_enter Try.func24, Try.ntmps24
    go_wp2_with (go_at_call 37; refine hg1.mono ?_; rintro e w' ⟨rfl, rfl⟩)
    go_ret2
    exact ⟨_, rfl, World.ownsRow_nil _ _ _ _, hB1⟩
  | true =>
    rw [hg] at hg1
    simp only [if_true]
    have hG := goodLoads_iff hg
    have htb := total_bound hg
    have ht1 := total_any w.heap.size _ A l.length c l rfl (hR.below hB1) hg
    have HR := hid hR
    have hn1 := hG.1
    have hn2 := hG.2.1
    have hs0 := htb.1
    have hs1 := htb.2
    obtain ⟨hd0, hd1⟩ := div_facts (n := l.length) htb.1 htb.2 hn1
    have hz : ((l.length : Int) == 0) = false := by rw [beq_eq_false_iff_ne]; omega
    have hwd : IntKind.i64.wrap (l.sum.tdiv l.length) = l.sum.tdiv l.length := wrap_small _ (by omega) (by omega)
    have hwd1 : IntKind.i64.wrap (l.sum.tdiv l.length + 1) = l.sum.tdiv l.length + 1 := wrap_small _ (by omega) (by omega)
    have HTG : Hid (∀ h, targetL l h = l.sum.tdiv l.length + if (rankH l h : Int) < l.sum % l.length then 1 else 0) := hid fun h => rfl
    have hmk := makeInts_run l.length (by omega)
    obtain ⟨W3, hW3⟩ : ∃ W3, W3 = ((w.alloc (.cells #[.slice A l.length c] 22)).alloc (.cells (madeCells #[.int .i64 0] l.length) 3)).alloc (.cells #[.slice (some ⟨w.heap.size + 1, 0, none⟩) l.length l.length] 22) := ⟨_, rfl⟩
    have hB3 : Below w.heap.size w W3 := by rw [hW3]; exact (((Below.refl _ w).alloc (Nat.le_refl _) _).alloc (by simp) _).alloc (by simp; omega) _
    have hp1 : W3.cell? ⟨w.heap.size, 0, none⟩ = some (.slice A l.length c) := by
      rw [hW3, World.cell?_alloc_past _ _ _ (by simp; omega), World.cell?_alloc_past _ _ _ (by simp)]; simp
    have hp3 : W3.cell? ⟨w.heap.size + 1 + 1, 0, none⟩ = some (.slice (some ⟨w.heap.size + 1, 0, none⟩) l.length l.length) := by
      have h := (Row.new ((w.alloc (.cells #[.slice A l.length c] 22)).alloc (.cells (madeCells #[.int .i64 0] l.length) 3)) [.slice (some ⟨w.heap.size + 1, 0, none⟩) l.length l.length] 22).2 0 _ rfl
      rw [hW3]; simpa using h
    have hp2 : W3.heap[w.heap.size + 1]? = some (.cells (hostCells (fillL l.length 0)) 3 (0, 0)) := by
      have h := heap_alloc_new (w.alloc (.cells #[.slice A l.length c] 22)) (.cells (madeCells #[.int .i64 0] l.length) 3)
      have hb := ((Below.refl ((w.alloc (.cells #[.slice A l.length c] 22)).alloc (.cells (madeCells #[.int .i64 0] l.length) 3)).heap.size _).alloc (Nat.le_refl _) (.cells #[.slice (some ⟨w.heap.size + 1, 0, none⟩) l.length l.length] 22)).block (w.heap.size + 1) (by simp)
      rw [hW3, hb, ← fillL_made]
      simpa using h
    have hp4 : W3.heap.size = w.heap.size + 3 := by rw [hW3]; simp
    have HP1 := hid hp1
    have HP2 := hid hp2
    have HP3 := hid hp3
    have HB3 := hid hB3
    have HP4 := hid hp4
    clear hp1 hp2 hp3 hp4 hB3
    have HW3 := hid hW3
    clear hg hG htb hR hW3
    generalize l.sum = S at *
    go_enter Try.func24, Try.ntmps24
    go_wp2_with (first | (go_at_call 37; refine hg1.mono ?_; rintro e w' ⟨rfl, rfl⟩) | (go_at_call 38; refine ht1.mono ?_; rintro e w' ⟨rfl, rfl⟩))
    rw [← HW3.out]
    clear hmk hg1 ht1
    go_loopg [20] l.length (fun gx si wr => ∃ i : Nat, si = .int .i64 i ∧ i ≤ l.length ∧ l.length - i ≤ gx ∧ Hid (wr.cell? ⟨w.heap.size, 0, none⟩ = some (.slice A l.length c)) ∧ Hid (wr.cell? ⟨w.heap.size + 1 + 1, 0, none⟩ = some (.slice (some ⟨w.heap.size + 1, 0, none⟩) l.length l.length)) ∧ Hid (wr.heap[w.heap.size + 1]? = some (.cells (hostCells (fillL l.length i)) 3 (0, 0))) ∧ Hid (wr.heap.size = w.heap.size + 3) ∧ Hid (Below w.heap.size w wr))
    case atStart => exact ⟨0, rfl, Nat.zero_le _, Nat.le_refl _, HP1, HP3, HP2, HP4, HB3⟩
    case round =>
      obtain ⟨i, rfl, hil, hgx, H1, H3, H2, H4, HB⟩ := hrel
      have c3 := H3.out
      by_cases hlt : i < l.length
      · have hii : (i : Int) < (l.length : Int) := by omega
        have hi0 : (0 : Int) ≤ (i : Int) := by omega
        have hwi : IntKind.i64.wrap ((i : Int) + 1) = (i : Int) + 1 := wrap_small _ (by omega) (by omega)
        have c2 : wr.cell? ⟨w.heap.size + 1, i, none⟩ = some (.int .i64 ((0 : Nat) : Int)) := host_cell H2.out (by simp [fillL, hlt])
        have f2 : wr.frozen? ⟨w.heap.size + 1, i, none⟩ = false := host_frozen H2.out
        have hset := heap_setCell_at (k := i) (.int .i64 (i : Int)) H2.out
        rw [fillL_set hlt] at hset
        have HS := hid hset
        clear hset
        go_wp2_with fail
        go_roundg (l.length - (i + 1))
        case measure => omega
        case rel => exact ⟨i + 1, by go_num, hlt, Nat.le_refl _, hid ((World.cell?_of_block (a := ⟨w.heap.size, 0, none⟩) (Below.heap_setCell _ _ _ _ (by show w.heap.size ≠ w.heap.size + 1; omega))).trans H1.out), hid ((World.cell?_of_block (a := ⟨w.heap.size + 1 + 1, 0, none⟩) (Below.heap_setCell _ _ _ _ (by show w.heap.size + 1 + 1 ≠ w.heap.size + 1; omega))).trans H3.out), HS, hid (by rw [size_setCell]; exact H4.out), hid (HB.out.setCell (p := ⟨w.heap.size + 1, i, none⟩) (by show w.heap.size ≤ w.heap.size + 1; omega) _)⟩
      · obtain rfl : i = l.length := by omega
        have hii : ¬ (l.length : Int) < (l.length : Int) := by omega
        obtain ⟨b, off, x0, _, rfl, hb, _⟩ := Ints.at' HR.out 0 (by omega)
        have hst := stableHosts_any wr l b off c w.heap.size (w.heap.size + 1 + 1) (w.heap.size + 1) hn1 hn2 (fun k x hk => by
            obtain ⟨b', off', x', hx', hbe, hb', hc'⟩ := Ints.at' HR.out k (List.getElem?_eq_some_iff.1 hk).1
            obtain ⟨rfl, rfl⟩ : b' = b ∧ off' = off := by
              injection hbe with e; injection e with e1 e2; exact ⟨e1.symm, e2.symm⟩
            obtain rfl : x' = x := by have := hx'.out.symm.trans hk; injection this
            exact (HB.out.cell (p := ⟨b', off' + k, none⟩) hb').trans hc') H1.out H3.out (by rw [H2.out, fillL_end]) ⟨by rw [H4.out]; omega, by omega⟩ ⟨by rw [H4.out]; omega, by omega⟩ ⟨by rw [H4.out]; omega, by omega⟩
        have HST := hid hst
        clear hst
        go_wp2_with fail
        refine HST.out.mono ?_
        rintro e w4 ⟨rfl, o, ho1, ho2, ho3, ho4, hgr⟩
        have hs4 := hgr.size
        have hB4 : Below w.heap.size w w4 := HB.out.grown hgr HB.out.size (fun k hk => by injection hk with hk; omega)
        have c1 : w4.cell? ⟨w.heap.size, 0, none⟩ = some (.slice (some ⟨b, off, none⟩) l.length c) := (World.cell?_of_block (a := ⟨w.heap.size, 0, none⟩) (hgr.block w.heap.size (by rw [H4.out]; omega) (fun e => by injection e with e; omega))).trans H1.out
        have c3' : w4.cell? ⟨w.heap.size + 1 + 1, 0, none⟩ = some (.slice (some ⟨w.heap.size + 1, 0, none⟩) l.length l.length) := (World.cell?_of_block (a := ⟨w.heap.size + 1 + 1, 0, none⟩) (hgr.block (w.heap.size + 1 + 1) (by rw [H4.out]; omega) (fun e => by injection e with e; omega))).trans H3.out
        have hmk := makeInts_run l.length (by omega)
        have d1 : (w4.alloc (.cells (madeCells #[.int .i64 0] l.length) 3)).cell? ⟨w.heap.size, 0, none⟩ = some (.slice (some ⟨b, off, none⟩) l.length c) := (World.cell?_alloc_past _ _ _ (by have := H4.out; omega)).trans c1
        have d3 : (w4.alloc (.cells (madeCells #[.int .i64 0] l.length) 3)).cell? ⟨w.heap.size + 1 + 1, 0, none⟩ = some (.slice (some ⟨w.heap.size + 1, 0, none⟩) l.length l.length) := (World.cell?_alloc_past _ _ _ (by have := H4.out; omega)).trans c3'
        have H1' := hid d1
        have HO1 := hid ho1
        have HO2 := hid ho2
        have HO3 := hid ho3
        have HO4 := hid ho4
        have HB4 := hid hB4
        have hs5 : w.heap.size + 3 ≤ w4.heap.size := by have := H4.out; omega
        have HS5 := hid hs5
        have HON := hid (makeInts_own w4 l.length (by omega) w.heap.size HB4.out.size)
        clear ho1 ho2 ho3 ho4 hB4 hgr hs4 c3 HST hs5
        go_wp2_with fail
        clear d3 c3' c1 d1 hmk
        go_loopg [37] l.length (fun gy sr wq => ∃ r : Nat, sr = .int .i64 r ∧ r ≤ l.length ∧ l.length - r ≤ gy ∧ Hid (wq.cell? ⟨w.heap.size, 0, none⟩ = some (.slice (some ⟨b, off, none⟩) l.length c)) ∧ Hid (wq.heap[w.heap.size + 1]? = some (.cells (hostCells o) 3 (0, 0))) ∧ Hid (OwnInts wq w.heap.size (.slice (some ⟨w4.heap.size, 0, none⟩) l.length l.length) l.length (outP l o r)) ∧ Hid (RowKit.Below w.heap.size w wq))
        case atStart => exact ⟨0, rfl, Nat.zero_le _, Nat.le_refl _, H1', hid ((((Below.refl w4.heap.size w4).alloc (Nat.le_refl _) _).block _ (by have := HS5.out; omega)).trans HO4.out), hid (by rw [outP_zero]; exact HON.out), hid (HB4.out.alloc HB4.out.size _)⟩
        case round =>
          obtain ⟨r, rfl, hrl, hgy, G1, G2, G3, GB⟩ := hrel
          have g1 := G1.out
          by_cases hlr : r < l.length
          · have hrr : (r : Int) < (l.length : Int) := by omega
            have hr0 : (0 : Int) ≤ (r : Int) := by omega
            have hwr : IntKind.i64.wrap ((r : Int) + 1) = (r : Int) + 1 := wrap_small _ (by omega) (by omega)
            obtain ⟨h, hh⟩ : ∃ h, o[r]? = some h := ⟨o[r]'(by rw [HO1.out]; exact hlr), List.getElem?_eq_getElem _⟩
            have hhn : h < l.length := List.mem_range.1 (HO2.out.mem_iff.1 (List.mem_of_getElem? hh))
            have hhi : (h : Int) < (l.length : Int) := by omega
            have hh0 : (0 : Int) ≤ (h : Int) := by omega
            have g2 := host_cell G2.out hh
            have hrk := HO3.out r h hh
            have g3 : ∃ z, wr.cell? ⟨w4.heap.size, h, none⟩ = some (.int .i64 z) := ⟨(outP l o r)[h]'(by rw [outP_len]; exact hhn), OwnInts.at1 G3.out h _ (List.getElem?_eq_getElem _)⟩
            obtain ⟨z, g3⟩ := g3
            have g4 : wr.frozen? ⟨w4.heap.size, h, none⟩ = false := G3.out.frozenAt h
            have hst := OwnInts.set G3.out h (S.tdiv l.length)
            have HT := hid (HTG.out h)
            have HSTEP := hid (outP_step (l := l) hh)
            have HST2 := hid hst
            have hne1 : w.heap.size ≠ w4.heap.size := by have := HS5.out; omega
            have hne2 : w.heap.size + 1 ≠ w4.heap.size := by have := HS5.out; omega
            have HN1 := hid hne1
            have HN2 := hid hne2
            rw [hrk] at HT
            have g5 : (wr.setCell ⟨w4.heap.size, h, none⟩ (.int .i64 (S.tdiv l.length))).cell? ⟨w.heap.size, 0, none⟩ = some (.slice (some ⟨b, off, none⟩) l.length c) := (World.cell?_of_block (a := ⟨w.heap.size, 0, none⟩) (Below.heap_setCell _ _ _ _ hne1)).trans g1
            have g6 : (wr.setCell ⟨w4.heap.size, h, none⟩ (.int .i64 (S.tdiv l.length))).cell? ⟨w4.heap.size, h, none⟩ = some (.int .i64 (S.tdiv l.length)) := OwnInts.at1 hst.1 h _ (by rw [List.getElem?_set_self (by rw [outP_len]; exact hhn)])
            have g7 : (wr.setCell ⟨w4.heap.size, h, none⟩ (.int .i64 (S.tdiv l.length))).frozen? ⟨w4.heap.size, h, none⟩ = false := hst.1.frozenAt h
            clear hst hrk hne1 hne2 hh
            by_cases hr : (r : Int) < S % l.length
            · have dr : decide ((r : Int) < S % l.length) = true := by simpa using hr
              have HT2 : Hid (targetL l h = S.tdiv l.length + 1) := hid (by rw [HT.out, if_pos hr])
              have hst3 := OwnInts.set HST2.out.1 h (S.tdiv l.length + 1)
              rw [List.set_set, ← HT2.out, HSTEP.out, HT2.out] at hst3
              have HST3 := hid hst3
              clear hst3
              go_wp2_with fail
              go_roundg (l.length - (r + 1))
              case measure => omega
              case rel => exact ⟨r + 1, by go_num, hlr, Nat.le_refl _, hid ((World.cell?_of_block (a := ⟨w.heap.size, 0, none⟩) (Below.heap_setCell _ _ _ _ HN1.out)).trans ((World.cell?_of_block (a := ⟨w.heap.size, 0, none⟩) (Below.heap_setCell _ _ _ _ HN1.out)).trans G1.out)), hid ((Below.heap_setCell _ _ _ _ HN2.out).trans ((Below.heap_setCell _ _ _ _ HN2.out).trans G2.out)), hid HST3.out.1, hid ((GB.out.setCell (p := ⟨w4.heap.size, h, none⟩) HB4.out.size _).setCell (p := ⟨w4.heap.size, h, none⟩) HB4.out.size _)⟩
            · have dr : decide ((r : Int) < S % l.length) = false := by simpa using hr
              have HT2 : Hid (targetL l h = S.tdiv l.length) := hid (by rw [HT.out, if_neg hr]; simp)
              have hst3 := HST2.out
              rw [← HT2.out, HSTEP.out, HT2.out] at hst3
              have HST3 := hid hst3
              clear hst3
              go_wp2_with fail
              go_roundg (l.length - (r + 1))
              case measure => omega
              case rel => exact ⟨r + 1, by go_num, hlr, Nat.le_refl _, hid ((World.cell?_of_block (a := ⟨w.heap.size, 0, none⟩) (Below.heap_setCell _ _ _ _ HN1.out)).trans G1.out), hid ((Below.heap_setCell _ _ _ _ HN2.out).trans G2.out), hid HST3.out.1, hid (GB.out.setCell (p := ⟨w4.heap.size, h, none⟩) HB4.out.size _)⟩
          · obtain rfl : r = l.length := by omega
            have hrr : ¬ (l.length : Int) < (l.length : Int) := by omega
            go_wp2_with fail
            go_ret2
            refine ⟨_, rfl, ?_, GB.out⟩
            have h := G3.out
            rw [outP_end HO1.out HO2.out] at h
            have e : (targets l).length = l.length := by simp [targets]
            rw [e]
            exact h
end Go.Proofs.Ytpkcccphoolapaa
