/- Layer 9, plain: a slot that has begun, and what stands behind it. -/
import Derived.Test.YtfcgmlofiaehkaaDoorJB
import Derived.Test.YtfcgmlofiaehkaaDoorJP
namespace Go.Proofs.YtfcgmlofiaehkaaDoor
open Go.RowKit

theorem get4_app (x : Int) (hx : isW x) (l : List Int) : get4 (be4 x ++ l) = x := by
  have h := get4_be4 hx
  simpa [get4, be4] using h
theorem begun_shape (gen : Int) (st tl : List Int) : begunB gen st ++ tl = [83, 72, 74, 49] ++ (be4 (gen / 4294967296) ++ (be4 (gen % 4294967296) ++ (be4 st.length ++ (be4 (crcM 0 (headB gen st.length)) ++ (st ++ (be4 (begunSum gen st) ++ tl)))))) := by
  simp [begunB, headB]
theorem begun_gen {gen : Int} (hg : 0 ≤ gen ∧ gen ≤ 18446744073709551615) (st tl : List Int) : genB (begunB gen st ++ tl) = gen := by
  have h1 : (begunB gen st ++ tl).drop 4 = be4 (gen / 4294967296) ++ (be4 (gen % 4294967296) ++ (be4 st.length ++ (be4 (crcM 0 (headB gen st.length)) ++ (st ++ (be4 (begunSum gen st) ++ tl))))) := by rw [begun_shape]; rfl
  have h2 : (begunB gen st ++ tl).drop 8 = be4 (gen % 4294967296) ++ (be4 st.length ++ (be4 (crcM 0 (headB gen st.length)) ++ (st ++ (be4 (begunSum gen st) ++ tl)))) := by rw [begun_shape]; rfl
  unfold genB
  rw [h1, h2, get4_app _ ⟨by omega, by omega⟩, get4_app _ ⟨by omega, by omega⟩]
  omega
theorem begun_len {gen : Int} {st : List Int} (hn : st.length ≤ 4294967295) (tl : List Int) : lenB (begunB gen st ++ tl) = st.length := by
  have h1 : (begunB gen st ++ tl).drop 12 = be4 st.length ++ (be4 (crcM 0 (headB gen st.length)) ++ (st ++ (be4 (begunSum gen st) ++ tl))) := by rw [begun_shape]; rfl
  unfold lenB
  rw [h1, get4_app _ ⟨by omega, by omega⟩]
theorem begun_take (gen : Int) (st tl : List Int) : (begunB gen st ++ tl).take 16 = headB gen st.length := by rw [begun_shape]; rfl
theorem begun_state {gen : Int} {st : List Int} (hn : st.length ≤ 4294967295) (tl : List Int) : stateB (begunB gen st ++ tl) = st := by
  have h1 : (begunB gen st ++ tl).drop 20 = st ++ (be4 (begunSum gen st) ++ tl) := by rw [begun_shape]; rfl
  unfold stateB
  rw [begun_len hn, h1]
  simp
theorem begun_sum {gen : Int} {st : List Int} (hn : st.length ≤ 4294967295) (tl : List Int) : stateSum (begunB gen st ++ tl) = begunSum gen st := by
  unfold stateSum
  rw [begun_take, begun_state hn]
  rfl
theorem begun_head {gen : Int} (hg : 0 < gen ∧ gen ≤ 18446744073709551615) {st : List Int} (hn : st.length ≤ 4194304) {which : Int} (hw : gen % 2 ≠ which) (tl : List Int) : headBad (begunB gen st ++ tl) which = none := by
  have hl : ¬ (begunB gen st ++ tl).length < 20 := by rw [List.length_append, begunB_len]; omega
  have h4 : (begunB gen st ++ tl).take 4 = magic := by rw [begun_shape]; rfl
  have h16 : (begunB gen st ++ tl).drop 16 = be4 (crcM 0 (headB gen st.length)) ++ (st ++ (be4 (begunSum gen st) ++ tl)) := by rw [begun_shape]; rfl
  have hr : headRot (begunB gen st ++ tl) which = false := by
    unfold headRot
    rw [h4, h16, get4_app _ (crcM_W _ _), begun_take, begun_gen ⟨by omega, hg.2⟩, begun_len (by omega)]
    simp only [decide_eq_false_iff_not, not_or]
    exact ⟨fun h => h rfl, fun h => h rfl, by omega, hw, by omega⟩
  unfold headBad
  rw [if_neg hl, hr]
  rfl
theorem scanL_eq {b : List Int} {which : Int} (h1 : headBad b which = none) (h2 : ¬ (b.length : Int) - 20 < lenB b + 4) (h3 : get4 (b.drop (20 + (lenB b).toNat)) = stateSum b) :
    scanL b which = (⟨true, genB b, stateB b, (recsL b b.length [] (24 + (lenB b).toNat) (stateSum b)).1.1, (recsL b b.length [] (24 + (lenB b).toNat) (stateSum b)).1.2.1, (recsL b b.length [] (24 + (lenB b).toNat) (stateSum b)).1.2.2⟩, (recsL b b.length [] (24 + (lenB b).toNat) (stateSum b)).2) := by
  unfold scanL
  rw [h1]
  show (if _ then _ else _) = _
  rw [if_neg h2, if_neg (fun h => h h3)]
theorem begun_sumW (gen : Int) (st : List Int) : isW (begunSum gen st) := by unfold begunSum; exact crcM_W _ _
/-- a begun slot and what stands behind it: the scan goes on behind the state -/
theorem scan_begun {gen : Int} (hg : 0 < gen ∧ gen ≤ 18446744073709551615) {st : List Int} (hn : st.length ≤ 4194304) {which : Int} (hw : gen % 2 ≠ which) (tl : List Int) (acc : List (List Int)) (good : Nat) (sum : Int) (e : EndL)
    (hr : recsL (begunB gen st ++ tl) (begunB gen st ++ tl).length [] (24 + st.length) (begunSum gen st) = ((acc, good, sum), e)) :
    scanL (begunB gen st ++ tl) which = (⟨true, gen, st, acc, good, sum⟩, e) := by
  have hl : (begunB gen st ++ tl).length = 24 + st.length + tl.length := by rw [List.length_append, begunB_len]
  have hd : (begunB gen st ++ tl).drop (20 + st.length) = be4 (begunSum gen st) ++ tl := by
    have h1 : (begunB gen st ++ tl).drop 20 = st ++ (be4 (begunSum gen st) ++ tl) := by rw [begun_shape]; rfl
    rw [← List.drop_drop, h1, List.drop_left]
  have e1 := begun_len (gen := gen) (st := st) (by omega) tl
  have e2 := begun_sum (gen := gen) (st := st) (by omega) tl
  have e3 := begun_gen (gen := gen) ⟨by omega, hg.2⟩ st tl
  have e4 := begun_state (gen := gen) (st := st) (by omega) tl
  have e5 := begun_head hg hn hw tl
  have hS := begun_sumW gen st
  generalize begunB gen st ++ tl = b at *
  generalize begunSum gen st = z at *
  have h3 : get4 (b.drop (20 + (lenB b).toNat)) = stateSum b := by rw [e1, Int.toNat_natCast, hd, e2, get4_app z hS]
  rw [scanL_eq e5 (by rw [hl, e1]; omega) h3, e1, Int.toNat_natCast, e2, e3, e4, hr]
theorem recs_end (b : List Int) (f : Nat) (acc : List (List Int)) (sum : Int) : recsL b f acc b.length sum = ((acc, b.length, sum), (b.length, false)) := by
  cases f with
  | zero => rfl
  | succ f => unfold recsL recStep; rw [if_pos (by omega)]
theorem scan_nil (which : Int) : scanL [] which = (.none, (0, false)) := rfl
/-- a begun slot that is cut off: nothing, and no rot -/
theorem scan_cut {gen : Int} (hg : 0 < gen ∧ gen ≤ 18446744073709551615) {st : List Int} (hn : st.length ≤ 4194304) {which : Int} (hw : gen % 2 ≠ which) (n : Nat) (h : n < 24 + st.length) :
    ∃ at', scanL ((begunB gen st).take n) which = (.none, (at', false)) := by
  have hl : ((begunB gen st).take n).length = n := by rw [List.length_take, begunB_len]; omega
  by_cases h20 : n < 20
  · refine ⟨0, ?_⟩
    have hb : headBad ((begunB gen st).take n) which = some false := by unfold headBad; rw [if_pos (by omega)]
    unfold scanL
    rw [hb]
  · refine ⟨20, ?_⟩
    have hs : (begunB gen st).take n = [83, 72, 74, 49] ++ (be4 (gen / 4294967296) ++ (be4 (gen % 4294967296) ++ (be4 st.length ++ (be4 (crcM 0 (headB gen st.length)) ++ (st ++ be4 (begunSum gen st)).take (n - 20))))) := by
      have h0 : begunB gen st = (headB gen st.length ++ be4 (crcM 0 (headB gen st.length))) ++ (st ++ be4 (begunSum gen st)) := by simp [begunB]
      have hl0 : (headB gen st.length ++ be4 (crcM 0 (headB gen st.length))).length = 20 := rfl
      rw [h0, List.take_append, hl0, List.take_of_length_le (by rw [hl0]; omega)]
      simp [headB]
    have hL : lenB ((begunB gen st).take n) = st.length := by
      unfold lenB
      rw [hs]
      exact get4_app _ ⟨by omega, by omega⟩ _
    have hG : genB ((begunB gen st).take n) = gen := by
      have h1 : ((begunB gen st).take n).drop 4 = be4 (gen / 4294967296) ++ (be4 (gen % 4294967296) ++ (be4 st.length ++ (be4 (crcM 0 (headB gen st.length)) ++ (st ++ be4 (begunSum gen st)).take (n - 20)))) := by rw [hs]; rfl
      have h2 : ((begunB gen st).take n).drop 8 = be4 (gen % 4294967296) ++ (be4 st.length ++ (be4 (crcM 0 (headB gen st.length)) ++ (st ++ be4 (begunSum gen st)).take (n - 20))) := by rw [hs]; rfl
      unfold genB
      rw [h1, h2, get4_app _ ⟨by omega, by omega⟩, get4_app _ ⟨by omega, by omega⟩]
      omega
    have hT : ((begunB gen st).take n).take 16 = headB gen st.length := by rw [hs]; rfl
    have h4 : ((begunB gen st).take n).take 4 = magic := by rw [hs]; rfl
    have h16 : ((begunB gen st).take n).drop 16 = be4 (crcM 0 (headB gen st.length)) ++ (st ++ be4 (begunSum gen st)).take (n - 20) := by rw [hs]; rfl
    have hC := crcM_W 0 (headB gen st.length)
    generalize (begunB gen st).take n = b at *
    generalize hz : crcM 0 (headB gen st.length) = z at *
    have hr : headRot b which = false := by
      unfold headRot
      rw [h4, h16, get4_app _ hC, hT, hz, hG, hL]
      simp only [decide_eq_false_iff_not, not_or]
      exact ⟨fun h => h rfl, fun h => h rfl, by omega, hw, by omega⟩
    have hb : headBad b which = none := by unfold headBad; rw [if_neg (by omega), hr]; rfl
    unfold scanL
    rw [hb]
    show (if _ then _ else _) = _
    rw [if_pos (by rw [hl, hL]; omega)]
end Go.Proofs.YtfcgmlofiaehkaaDoor
