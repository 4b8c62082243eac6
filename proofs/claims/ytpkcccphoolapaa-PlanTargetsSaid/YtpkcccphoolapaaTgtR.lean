/- Layer 15: the reference's Targets. -/
import Derived.Test.YtpkcccphoolapaaPlanC
import Derived.Test.YtpkcccphoolapaaCount
import Derived.Test.YtpkcccphoolapaaTgtP
namespace Go.Proofs.Ytpkcccphoolapaa
open Go.RowKit

theorem below_drewT {B : Nat} {w W : World} (h : Below B w W) (n : Nat) : Below B w (W.drewN n) := ⟨h.os, h.tape, h.output, h.size, h.block⟩
theorem OwnInts.drewT {w : World} {B n : Nat} {v : Value} {l : List Int} (h : OwnInts w B v n l) (q : Nat) : OwnInts (w.drewN q) B v n l := h

/-- how many of the first k hosts come ahead of host i -/
def aheadN (l : List Int) (i k : Nat) : Nat := ((List.range k).filter fun j => aheadB l j i).length
theorem aheadN_zero (l : List Int) (i : Nat) : aheadN l i 0 = 0 := rfl
theorem aheadN_succ (l : List Int) (i k : Nat) : aheadN l i (k + 1) = aheadN l i k + if aheadB l k i = true then 1 else 0 := by
  unfold aheadN
  rw [List.range_succ, List.filter_append, List.length_append]
  cases h : aheadB l k i <;> simp [h]
theorem aheadN_le (l : List Int) (i k : Nat) : aheadN l i k ≤ k := by
  have := List.length_filter_le (fun j => aheadB l j i) (List.range k)
  rw [List.length_range] at this
  exact this

theorem div_facts {S : Int} {n : Nat} (h0 : 0 ≤ S) (h1 : S ≤ 17179869184) (hn : 1 ≤ n) : 0 ≤ S.tdiv n ∧ S.tdiv n ≤ 17179869184 := by
  have hn' : (0 : Int) < (n : Int) := by omega
  refine ⟨Int.tdiv_nonneg h0 (by omega), ?_⟩
  rw [Int.tdiv_eq_ediv_of_nonneg h0]
  exact Int.le_trans (Int.ediv_le_self _ h0) h1

set_option maxHeartbeats 4000000 in
theorem refTargets_any (w : World) (A : Option Addr) (n c : Nat) (l : List Int) (hl : l.length = n) (hm : n ≤ 9223372036854775807) (hR : Ints w.heap.size w A l) :
    Calls Try.prog 25 #[.slice A n c] w fun e w' =>
      ∃ v, e = .returned (.tuple #[v, .int .i64 (if goodLoads l = true then 0 else 150)]) ∧ OwnInts w' w.heap.size v (if goodLoads l = true then targets l else []).length (if goodLoads l = true then targets l else []) ∧ Below w.heap.size w w' := by
  subst hl
  have hT := refTotal_any w.heap.size w A l.length c l rfl hm hR
  cases hg : goodLoads l with
  | false =>
    have e : refTotal l = -1 := by unfold refTotal; rw [hg]; rfl
    rw [e] at hT
    simp only [Bool.false_eq_true, if_false]
    clear hg e
    go_enter Try.func25, Try.ntmps25
    go_wp2_with (go_at_call 39; refine hT.mono ?_; rintro e w' ⟨rfl, q, rfl⟩)
    go_ret2
    exact ⟨_, rfl, World.ownsRow_nil _ _ _ _, below_drewT (Below.refl _ _) _⟩
  | true =>
    simp only [if_true]
    have hG := goodLoads_iff hg
    have htb := total_bound hg
    have e : refTotal l = l.sum := by unfold refTotal; rw [hg]; rfl
    rw [e] at hT
    have HR := hid hR
    have hn1 := hG.1
    have hn2 := hG.2.1
    have hs0 := htb.1
    have hs1 := htb.2
    obtain ⟨hd0, hd1⟩ := div_facts (n := l.length) htb.1 htb.2 hn1
    have hz : ((l.length : Int) == 0) = false := by rw [beq_eq_false_iff_ne]; omega
    have hwd : IntKind.i64.wrap (l.sum.tdiv l.length) = l.sum.tdiv l.length := wrap_small _ (by omega) (by omega)
    have hwd1 : IntKind.i64.wrap (l.sum.tdiv l.length + 1) = l.sum.tdiv l.length + 1 := wrap_small _ (by omega) (by omega)
    have HTG : Hid (∀ h, targetL l h = l.sum.tdiv l.length + if (aheadN l h l.length : Int) < l.sum % l.length then 1 else 0) := hid fun h => rfl
    clear hg e hG htb hR
    generalize l.sum = S at *
    go_enter Try.func25, Try.ntmps25
    go_wp2_with (go_at_call 39; refine hT.mono ?_; rintro e w' ⟨rfl, q, rfl⟩)
    go_loopg [6, 7] l.length (fun gx so si wr => ∃ (i : Nat) (oA : Option Addr) (oc : Nat), si = .int .i64 i ∧ so = .slice oA i oc ∧ i ≤ l.length ∧ l.length - i ≤ gx ∧ Hid (OwnInts wr w.heap.size (.slice oA i oc) i ((List.range i).map (targetL l))) ∧ Hid (Below w.heap.size w wr))
    case atStart => exact ⟨0, none, 0, rfl, rfl, Nat.zero_le _, Nat.le_refl _, hid (World.ownsRow_nil _ _ _ _), hid (below_drewT (Below.refl _ _) _)⟩
    case round =>
      obtain ⟨i, oA, oc, rfl, rfl, hil, hgx, HO, HB⟩ := hrel
      by_cases hlt : i < l.length
      · have hii : (i : Int) < (l.length : Int) := by omega
        have hi0 : (0 : Int) ≤ (i : Int) := by omega
        have hwi : IntKind.i64.wrap ((i : Int) + 1) = (i : Int) + 1 := wrap_small _ (by omega) (by omega)
        obtain ⟨b, off, y, hy, rfl, hb, hc⟩ := Ints.at' HR.out i hlt
        have HC := hid hc
        clear hc
        go_wp2_with fail
        go_loopg [8, 9] l.length (fun gy sa sk wq => ∃ k q : Nat, sa = .int .i64 (aheadN l i k) ∧ sk = .int .i64 k ∧ k ≤ l.length ∧ l.length - k ≤ gy ∧ wq = wr.drewN q)
        case atStart => exact ⟨0, 0, rfl, rfl, Nat.zero_le _, Nat.le_refl _, rfl⟩
        case round =>
          obtain ⟨k, q2, rfl, rfl, hkl, hgy, rfl⟩ := hrel
          by_cases hlk : k < l.length
          · have hkk : (k : Int) < (l.length : Int) := by omega
            have hk0 : (0 : Int) ≤ (k : Int) := by omega
            have hwk : IntKind.i64.wrap ((k : Int) + 1) = (k : Int) + 1 := wrap_small _ (by omega) (by omega)
            obtain ⟨b', off', x, hx, hbe, hb', hc'⟩ := Ints.at' HR.out k hlk
            obtain ⟨rfl, rfl⟩ : b' = b ∧ off' = off := by
              injection hbe with e; injection e with e1 e2; exact ⟨e1.symm, e2.symm⟩
            have x1 : wr.cell? ⟨b', off' + k, none⟩ = some (.int .i64 x) := (HB.out.cell (p := ⟨b', off' + k, none⟩) hb).trans hc'
            have x2 : wr.cell? ⟨b', off' + i, none⟩ = some (.int .i64 y) := (HB.out.cell (p := ⟨b', off' + i, none⟩) hb).trans HC.out
            have han := aheadN_le l i k
            have hwa : IntKind.i64.wrap ((aheadN l i k : Int) + 1) = (aheadN l i k : Int) + 1 := wrap_small _ (by omega) (by omega)
            have HS := hid (aheadN_succ l i k)
            have ex : l[k]?.getD 0 = x := by rw [hx.out]; rfl
            have ey : l[i]?.getD 0 = y := by rw [hy.out]; rfl
            have hab : aheadB l k i = (decide (y < x) || (decide (x = y) && decide (k < i))) := by unfold aheadB; rw [ex, ey]
            rw [hab] at HS
            clear hab ex ey hc' hbe
            generalize aheadN l i k = a at *
            by_cases hgt : y < x
            · have d0 : decide (x > y) = true := by simpa using hgt
              have d1 : decide (y < x) = true := by simpa using hgt
              rw [d1] at HS
              clear hgt
              go_wp2_with fail
              go_quiet (fail)
              go_wp2_with fail
              go_roundg (l.length - (k + 1))
              case measure => omega
              case rel => exact ⟨k + 1, _, by rw [HS.out]; simp, by go_num, hlk, Nat.le_refl _, rfl⟩
            · have d0 : decide (x > y) = false := by simpa using hgt
              have d1 : decide (y < x) = false := by simpa using hgt
              rw [d1] at HS
              by_cases heq : x = y
              · subst heq
                have e0 : (x == x) = true := by simp
                by_cases hki : k < i
                · have e1 : decide (k < i) = true := by simpa using hki
                  have HS2 : Hid (aheadN l i (k + 1) = a + 1) := hid (by rw [HS.out]; simp [hki])
                  clear hki hgt
                  go_wp2_with fail
                  go_quiet (fail)
                  go_wp2_with fail
                  go_roundg (l.length - (k + 1))
                  case measure => omega
                  case rel => exact ⟨k + 1, _, by rw [HS2.out]; rfl, by go_num, hlk, Nat.le_refl _, rfl⟩
                · have e1 : decide (k < i) = false := by simpa using hki
                  have HS2 : Hid (aheadN l i (k + 1) = a) := hid (by rw [HS.out]; simp [hki])
                  clear hki hgt
                  go_wp2_with fail
                  go_quiet (fail)
                  go_wp2_with fail
                  go_roundg (l.length - (k + 1))
                  case measure => omega
                  case rel => exact ⟨k + 1, _, by rw [HS2.out], by go_num, hlk, Nat.le_refl _, rfl⟩
              · have e0 : (x == y) = false := by simpa using heq
                have HS2 : Hid (aheadN l i (k + 1) = a) := hid (by rw [HS.out]; simp [heq])
                clear heq hgt
                go_wp2_with fail
                go_quiet (fail)
                go_wp2_with fail
                go_roundg (l.length - (k + 1))
                case measure => omega
                case rel => exact ⟨k + 1, _, by rw [HS2.out], by go_num, hlk, Nat.le_refl _, rfl⟩
          · obtain rfl : k = l.length := by omega
            have hkk : ¬ (l.length : Int) < (l.length : Int) := by omega
            have HT := hid (HTG.out i)
            have HOD : Hid (OwnInts (wr.drewN q2) w.heap.size (.slice oA i oc) i ((List.range i).map (targetL l))) := hid (HO.out.drewT q2)
            have HBD : Hid (Below w.heap.size w (wr.drewN q2)) := hid (below_drewT HB.out q2)
            have han := aheadN_le l i l.length
            have hln : ((List.range i).map (targetL l)).length = i := by simp
            have HLN := hid hln
            clear hln
            generalize aheadN l i l.length = a at *
            by_cases hr : (a : Int) < S % l.length
            · have dr : decide ((a : Int) < S % l.length) = true := by simpa using hr
              have HT2 : Hid (targetL l i = S.tdiv l.length + 1) := hid (by rw [HT.out, if_pos hr])
              go_wp2_with (at_builtin; refine wpList_append_one (enc := i64) (wr.drewN q2) w.heap.size rfl _ _ 22 3 _ 8 rfl Try.underlying22 infoInt rfl (by decide) i64_len i64_one (.slice oA i oc) ((List.range i).map (targetL l)) (S.tdiv l.length + 1) _ rfl rfl _ rfl rfl (by rw [HLN.out]; exact HOD.out) (by rw [HLN.out]; simp only [maxLen]; omega) (by rw [HLN.out]; omega) HBD.out.size ?_; intro v6 w6 hown hgr _)
              rw [← HT2.out, ← List.map_singleton, ← List.map_append, ← List.range_succ, List.length_map, List.length_range] at hown
              obtain ⟨_, A6, c6, rfl, _, _, _⟩ := owns_reads i64_len hown (by decide)
              have HO6 := hid hown
              have HB6 := hid (HBD.out.grown hgr HBD.out.size (fun k hk => own_ge HOD.out k hk))
              clear hown hgr
              go_roundg (l.length - (i + 1))
              case measure => omega
              case rel => exact ⟨i + 1, A6, c6, by go_num, rfl, hlt, Nat.le_refl _, HO6, HB6⟩
            · have dr : decide ((a : Int) < S % l.length) = false := by simpa using hr
              have HT2 : Hid (targetL l i = S.tdiv l.length) := hid (by rw [HT.out, if_neg hr]; simp)
              go_wp2_with (at_builtin; refine wpList_append_one (enc := i64) (wr.drewN q2) w.heap.size rfl _ _ 22 3 _ 8 rfl Try.underlying22 infoInt rfl (by decide) i64_len i64_one (.slice oA i oc) ((List.range i).map (targetL l)) (S.tdiv l.length) _ rfl rfl _ rfl rfl (by rw [HLN.out]; exact HOD.out) (by rw [HLN.out]; simp only [maxLen]; omega) (by rw [HLN.out]; omega) HBD.out.size ?_; intro v6 w6 hown hgr _)
              rw [← HT2.out, ← List.map_singleton, ← List.map_append, ← List.range_succ, List.length_map, List.length_range] at hown
              obtain ⟨_, A6, c6, rfl, _, _, _⟩ := owns_reads i64_len hown (by decide)
              have HO6 := hid hown
              have HB6 := hid (HBD.out.grown hgr HBD.out.size (fun k hk => own_ge HOD.out k hk))
              clear hown hgr
              go_roundg (l.length - (i + 1))
              case measure => omega
              case rel => exact ⟨i + 1, A6, c6, by go_num, rfl, hlt, Nat.le_refl _, HO6, HB6⟩
      · obtain rfl : i = l.length := by omega
        have hii : ¬ (l.length : Int) < (l.length : Int) := by omega
        go_wp2_with fail
        go_ret2
        refine ⟨_, rfl, ?_, HB.out⟩
        have h := HO.out
        unfold targets
        rw [List.length_map, List.length_range]
        exact h
end Go.Proofs.Ytpkcccphoolapaa
