/- Layer 9's laws: the steps' bytes; fits; what is left behind a crash. -/
import Derived.Test.YtfcgmlofiaehkaaDoorKU
namespace Go.Proofs.YtfcgmlofiaehkaaDoor
open Go.RowKit

/-- the steps' bytes -/
theorem steps_bytes (w : World) (steps : List StepV) (h : ∀ s ∈ steps, okStep w s) : ∃ bl : List (List Int), bl.length = steps.length ∧ ∀ (i : Nat) (s : StepV) (b : List Int), steps[i]? = some s → bl[i]? = some b → okBytes w s.2.2 b ∧ okI64 s.1 ∧ okI64 s.2.1 := by
  induction steps with
  | nil => exact ⟨[], rfl, fun i s b h => by simp at h⟩
  | cons s l ih =>
    obtain ⟨bl, h1, h2⟩ := ih (fun x hx => h x (List.mem_cons_of_mem _ hx))
    obtain ⟨k1, k2, b, hb⟩ := h s (by simp)
    refine ⟨b :: bl, by simp [h1], fun i t c ht hc => ?_⟩
    cases i with
    | zero =>
      simp at ht hc
      subst ht; subst hc
      exact ⟨hb, k1, k2⟩
    | succ i =>
      simp at ht hc
      exact h2 i t c ht hc
def sumF : List (List Int) → Nat
  | [] => 0
  | b :: l => b.length + 16 + sumF l
theorem sumF_snoc (l : List (List Int)) (b : List Int) : sumF (l ++ [b]) = sumF l + (b.length + 16) := by
  induction l with
  | nil => simp [sumF]
  | cons x l ih => rw [List.cons_append, sumF, ih, sumF]; omega
theorem sumF_take (l : List (List Int)) (i : Nat) : sumF (l.take i) ≤ sumF l := by
  induction l generalizing i with
  | nil => simp
  | cons x l ih => cases i with
    | zero => simp [sumF]
    | succ i => rw [List.take_succ_cons, sumF, sumF]; have := ih i; omega
theorem logLen_filter (l : List (List Int)) : logLen (l.filter goodB) ≤ sumF l := by
  induction l with
  | nil => exact Nat.le_refl _
  | cons x l ih =>
    rw [List.filter_cons, sumF]
    split
    · rw [logLen]; omega
    · omega
theorem sumF_len (l : List (List Int)) : 16 * l.length ≤ sumF l := by
  induction l with
  | nil => exact Nat.le_refl _
  | cons x l ih => rw [sumF, List.length_cons]; omega
theorem take_snoc {l : List (List Int)} {i : Nat} {b : List Int} (h : l[i]? = some b) : l.take (i + 1) = l.take i ++ [b] := by rw [List.take_add_one, h]; rfl
set_option maxRecDepth 100000 in
set_option maxHeartbeats 4000000 in
theorem fits_any (w : World) (A : Option Addr) (n c : Nat) (steps : List StepV) (bl : List (List Int)) (hl : steps.length = n) (hbl : bl.length = steps.length) (hn : n ≤ 140737488351232) (hok : ∀ (i : Nat) (s : StepV) (b : List Int), steps[i]? = some s → bl[i]? = some b → okBytes w s.2.2 b ∧ okI64 s.1 ∧ okI64 s.2.1) (hR : Reads w.heap.size w stE 3 A steps) :
    Calls Tryd.prog 24 #[.slice A n c] w fun e w' => e = .returned (.bool (decide (sumF bl ≤ 4194304))) ∧ w' = w := by
  subst hl
  have HOK := hid hok
  have HR := hid hR
  have HBL := hid hbl
  clear hok hR hbl
  go_enter Tryd.func24, Tryd.ntmps24
  go_wp2_with fail
  go_loopg [3, 4] steps.length (fun gx sn si wr => ∃ (i m : Nat), si = .int .i64 i ∧ sn = .int .i64 m ∧ i ≤ steps.length ∧ steps.length - i ≤ gx ∧ Hid (m = sumF (bl.take i)) ∧ m ≤ 4194304 ∧ wr = w)
  case atStart => exact ⟨0, 0, rfl, rfl, Nat.zero_le _, Nat.le_refl _, hid rfl, by omega, rfl⟩
  case round =>
    obtain ⟨i, m, rfl, rfl, hi, hgx, HM, hm, rfl⟩ := hrel
    by_cases hlt : i < steps.length
    · have hii : (i : Int) < (steps.length : Int) := by omega
      have hwi : IntKind.i64.wrap ((i : Int) + 1) = (i : Int) + 1 := wrap_small _ (by omega) (by omega)
      obtain ⟨b, off, s, hs, rfl, hbk, hc⟩ := HR.out.at i hlt
      obtain ⟨bb, hbb⟩ : ∃ bb, bl[i]? = some bb := ⟨_, List.getElem?_eq_getElem (by rw [HBL.out]; exact hlt)⟩
      obtain ⟨⟨h1, h2, h3, h4, _⟩, _⟩ := HOK.out i s bb hs hbb
      obtain ⟨kind, nn, sA, sn, sc⟩ := s
      have e2 := hc 2 _ rfl
      dsimp only at e2 h1 h2 h3 h4
      subst h1
      have HS : Hid (sumF (bl.take (i + 1)) = m + (bb.length + 16)) := hid (by rw [take_snoc hbb, sumF_snoc, HM.out])
      have hq1 : IntKind.i64.wrap ((m : Int) + (bb.length : Int)) = (m : Int) + (bb.length : Int) := wrap_small _ (by omega) (by omega)
      have hq2 : IntKind.i64.wrap ((m : Int) + (bb.length : Int) + 16) = (m : Int) + (bb.length : Int) + 16 := wrap_small _ (by omega) (by omega)
      by_cases hbig : 4194304 < m + (bb.length + 16)
      · have d0 : decide ((4194304 : Int) < (m : Int) + (bb.length : Int) + 16) = true := by simp; omega
        have HF : Hid (decide (sumF bl ≤ 4194304) = false) := hid (by have := sumF_take bl (i + 1); have := HS.out; simp; omega)
        clear hs hbb hc
        go_wp2_with fail
        refine bodyPost_ret (results_tmp rfl _ _ _) rfl ?_
        exact ⟨by rw [HF.out]; rfl, rfl⟩
      · have d0 : decide ((4194304 : Int) < (m : Int) + (bb.length : Int) + 16) = false := by simp; omega
        clear hs hbb hc
        go_wp2_with fail
        go_roundg (steps.length - (i + 1))
        case measure => omega
        case rel => exact ⟨i + 1, m + (bb.length + 16), by go_num, by go_num, hlt, Nat.le_refl _, hid HS.out.symm, by omega, rfl⟩
    · have hii : ¬ (i : Int) < (steps.length : Int) := by omega
      have HF : Hid (decide (sumF bl ≤ 4194304) = true) := hid (by
        have := HM.out
        rw [List.take_of_length_le (by rw [HBL.out]; omega)] at this
        simp; omega)
      go_wp2_with fail
      refine bodyPost_ret (results_tmp rfl _ _ _) rfl ?_
      exact ⟨by rw [HF.out]; rfl, rfl⟩
/-! ### a crash, plainly -/
theorem PS.Ok.d_byte {p : PS} {limit : Int} (h : p.Ok limit) (n : Nat) : (∀ x ∈ p.d0 n, isB x) ∧ ∀ x ∈ p.d1 n, isB x := by
  unfold PS.d0 PS.d1
  have h1 : ∀ x ∈ p.cur.take n, isB x := fun x hx => h.cur_byte x (List.mem_of_mem_take hx)
  have h2 := h.old_byte
  split <;> exact ⟨by assumption, by assumption⟩
theorem PS.left_le (p : PS) {limit : Int} (h : p.Ok limit) (k : Int) : p.sy ≤ p.left k ∧ p.left k ≤ p.len := by
  have := h.sy1
  unfold PS.left
  omega
theorem open_left {p : PS} {limit : Int} (h : p.Ok limit) (hlim : goodLim limit = true) (k : Int) : OpenTo (p.d0 (p.left k)) (p.d1 (p.left k)) limit (p.cut (p.left k)) (p.torn (p.left k)) :=
  open_cut h hlim _ (p.left_le h k).1 (p.left_le h k).2
theorem PS.cut_wa {p : PS} {limit : Int} (h : p.Ok limit) {n : Nat} (hn : p.sy ≤ n) : (p.cut n).wa = 0 := by
  unfold PS.cut
  split
  · rfl
  · cases e : p.prev with
    | none => have := h.sy2 e; omega
    | some x => rfl
theorem fitN_min (rs : List (List Int)) (n : Nat) : fitN rs (min n (logLen rs)) = fitN rs n := by
  by_cases h : n ≤ logLen rs
  · rw [Nat.min_eq_left h]
  · rw [Nat.min_eq_right (by omega), fitN_all _ _ (Nat.le_refl _), fitN_all _ _ (by omega)]
theorem tornN_all (rs : List (List Int)) (n : Nat) (h : logLen rs ≤ n) : tornN rs n = 0 := by
  induction rs generalizing n with
  | nil => rfl
  | cons r rs ih =>
    rw [logLen] at h
    rw [tornN, if_pos (by omega), ih _ (by omega)]
theorem tornN_min (rs : List (List Int)) (n : Nat) : tornN rs (min n (logLen rs)) = tornN rs n := by
  by_cases h : n ≤ logLen rs
  · rw [Nat.min_eq_left h]
  · rw [Nat.min_eq_right (by omega), tornN_all _ _ (Nat.le_refl _), tornN_all _ _ (by omega)]
theorem fitN_snoc (rs : List (List Int)) (r : List Int) (n : Nat) : fitN (rs ++ [r]) n = if logLen rs ≤ n then (if logLen rs + (12 + r.length) ≤ n then rs.length + 1 else rs.length) else fitN rs n := by
  induction rs generalizing n with
  | nil => simp [fitN, logLen]
  | cons x rs ih =>
    rw [List.cons_append, fitN, fitN, logLen, List.length_cons]
    by_cases h : 12 + x.length ≤ n
    · rw [if_pos h, ih, if_pos h]
      by_cases h2 : logLen rs ≤ n - (12 + x.length)
      · by_cases h3 : logLen rs + (12 + r.length) ≤ n - (12 + x.length)
        · rw [if_pos h2, if_pos h3, if_pos (show 12 + x.length + logLen rs ≤ n by omega), if_pos (show 12 + x.length + logLen rs + (12 + r.length) ≤ n by omega)]; omega
        · rw [if_pos h2, if_neg h3, if_pos (show 12 + x.length + logLen rs ≤ n by omega), if_neg (show ¬ 12 + x.length + logLen rs + (12 + r.length) ≤ n by omega)]; omega
      · rw [if_neg h2, if_neg (by omega)]
    · rw [if_neg h, if_neg h, if_neg (by omega)]
theorem tornN_snoc (rs : List (List Int)) (r : List Int) (n : Nat) : tornN (rs ++ [r]) n = if logLen rs ≤ n then (if logLen rs + (12 + r.length) ≤ n then 0 else n - logLen rs) else tornN rs n := by
  induction rs generalizing n with
  | nil => simp [tornN, logLen]
  | cons x rs ih =>
    rw [List.cons_append, tornN, tornN, logLen]
    by_cases h : 12 + x.length ≤ n
    · rw [if_pos h, ih, if_pos h]
      by_cases h2 : logLen rs ≤ n - (12 + x.length)
      · by_cases h3 : logLen rs + (12 + r.length) ≤ n - (12 + x.length)
        · rw [if_pos h2, if_pos h3, if_pos (show 12 + x.length + logLen rs ≤ n by omega), if_pos (show 12 + x.length + logLen rs + (12 + r.length) ≤ n by omega)]
        · rw [if_pos h2, if_neg h3, if_pos (show 12 + x.length + logLen rs ≤ n by omega), if_neg (show ¬ 12 + x.length + logLen rs + (12 + r.length) ≤ n by omega)]; omega
      · rw [if_neg h2, if_neg (by omega)]
    · rw [if_neg h, if_neg h, if_neg (by omega)]
/-- the run that a law begins with -/
theorem RunAt.begin {w1 : World} {j : Nat} {P : Nat → Prop} (h : Jn w1 (.pointer (some ⟨j, 0, none⟩)) (PS.fresh []) room P) :
    RunAt (w1.alloc (.cells #[.pointer (some ⟨j, 0, none⟩), .slice none 0 0, .int .i64 0] 64)) w1.heap.size (.pointer (some ⟨j, 0, none⟩)) (.slice none 0 0) (PS.fresh []) [] 0 P (fun _ => False) :=
  ⟨heap_alloc_new w1 _, h.below ((Below.refl _ w1).alloc (Nat.le_refl _) _), AllAt.nil _, fun hp => by have := h.lt _ hp; omega, id, fun _ _ => id⟩
end Go.Proofs.YtfcgmlofiaehkaaDoor
