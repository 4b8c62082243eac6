/- Layer 9, plain: what stands behind a begun slot: whole records and a torn one. -/
import Derived.Test.YtfcgmlofiaehkaaDoorJX
namespace Go.Proofs.YtfcgmlofiaehkaaDoor
open Go.RowKit

def recSum1 (s : Int) (n : Nat) : Int := crcM s (be4 n)
def recSum2 (s : Int) (r : List Int) : Int := crcM (recSum1 s r.length) r
theorem recSum1_W (s : Int) (n : Nat) : isW (recSum1 s n) := crcM_W _ _
theorem recSum2_W (s : Int) (r : List Int) : isW (recSum2 s r) := crcM_W _ _
/-- the bytes of a record behind a sum -/
def recB (s : Int) (r : List Int) : List Int := be4 r.length ++ (be4 (recSum1 s r.length) ++ (r ++ be4 (recSum2 s r)))
theorem recB_len (s : Int) (r : List Int) : (recB s r).length = 12 + r.length := by
  simp only [recB, List.length_append, be4_len]; omega
/-- the bytes of records, one behind the other -/
def logB : Int → List (List Int) → List Int
  | _, [] => []
  | s, r :: rs => recB s r ++ logB (recSum2 s r) rs
def logSum : Int → List (List Int) → Int
  | s, [] => s
  | s, r :: rs => logSum (recSum2 s r) rs
def logLen : List (List Int) → Nat
  | [] => 0
  | r :: rs => 12 + r.length + logLen rs
theorem logB_len (s : Int) (rs : List (List Int)) : (logB s rs).length = logLen rs := by
  induction rs generalizing s with
  | nil => rfl
  | cons r rs ih => rw [logB, List.length_append, recB_len, ih, logLen]
theorem logB_snoc (s : Int) (rs : List (List Int)) (r : List Int) : logB s (rs ++ [r]) = logB s rs ++ recB (logSum s rs) r := by
  induction rs generalizing s with
  | nil => simp [logB, logSum]
  | cons x rs ih => rw [List.cons_append, logB, ih, logB, logSum, List.append_assoc]
theorem logSum_snoc (s : Int) (rs : List (List Int)) (r : List Int) : logSum s (rs ++ [r]) = recSum2 (logSum s rs) r := by
  induction rs generalizing s with
  | nil => rfl
  | cons x rs ih => rw [List.cons_append, logSum, ih, logSum]
theorem logLen_snoc (rs : List (List Int)) (r : List Int) : logLen (rs ++ [r]) = logLen rs + (12 + r.length) := by
  induction rs with
  | nil => simp [logLen]
  | cons x rs ih => rw [List.cons_append, logLen, ih, logLen]; omega
theorem logSum_W {s : Int} (hs : isW s) (rs : List (List Int)) : isW (logSum s rs) := by
  induction rs generalizing s with
  | nil => exact hs
  | cons x rs ih => exact ih (recSum2_W _ _)
/-- a record that a journal takes -/
def GoodR (r : List Int) : Prop := 1 ≤ r.length ∧ r.length ≤ 8192 ∧ ∀ x ∈ r, isB x
theorem recB_byte {s : Int} {r : List Int} (hr : GoodR r) : ∀ x ∈ recB s r, isB x := by
  obtain ⟨h1, h2, h3⟩ := hr
  intro x hx
  simp only [recB, List.mem_append] at hx
  rcases hx with hx | hx | hx | hx
  · exact be4_byte ⟨by omega, by omega⟩ x hx
  · exact be4_byte (recSum1_W _ _) x hx
  · exact h3 x hx
  · exact be4_byte (recSum2_W _ _) x hx
theorem logB_byte {s : Int} {rs : List (List Int)} (hr : ∀ r ∈ rs, GoodR r) : ∀ x ∈ logB s rs, isB x := by
  induction rs generalizing s with
  | nil => intro x hx; simp [logB] at hx
  | cons r rs ih =>
    intro x hx
    rw [logB, List.mem_append] at hx
    rcases hx with hx | hx
    · exact recB_byte (hr r (by simp)) x hx
    · exact ih (fun r h => hr r (by simp [h])) x hx
theorem drop_at {pre l : List Int} {n : Nat} (k : Nat) (h : n = pre.length + k) : (pre ++ l).drop n = l.drop k := by
  subst h
  rw [← List.drop_drop, List.drop_left]
theorem step_rec (pre tl : List Int) (s : Int) (r : List Int) (h1 : 1 ≤ r.length) (h2 : r.length ≤ 8192) : recStep (pre ++ (recB s r ++ tl)) pre.length s = .inr (r, pre.length + (12 + r.length), recSum2 s r) := by
  have hlen : (pre ++ (recB s r ++ tl)).length = pre.length + (12 + r.length) + tl.length := by
    rw [List.length_append, List.length_append, recB_len]; omega
  have hB : recB s r ++ tl = be4 r.length ++ (be4 (recSum1 s r.length) ++ (r ++ (be4 (recSum2 s r) ++ tl))) := by simp [recB]
  have d0 : (pre ++ (recB s r ++ tl)).drop pre.length = be4 r.length ++ (be4 (recSum1 s r.length) ++ (r ++ (be4 (recSum2 s r) ++ tl))) := by rw [List.drop_left, hB]
  have d4 : (pre ++ (recB s r ++ tl)).drop (pre.length + 4) = be4 (recSum1 s r.length) ++ (r ++ (be4 (recSum2 s r) ++ tl)) := by rw [drop_at 4 rfl, hB]; rfl
  have d8 : (pre ++ (recB s r ++ tl)).drop (pre.length + 8) = r ++ (be4 (recSum2 s r) ++ tl) := by rw [drop_at 8 rfl, hB]; rfl
  have d9 : (pre ++ (recB s r ++ tl)).drop (pre.length + 8 + r.length) = be4 (recSum2 s r) ++ tl := by rw [← List.drop_drop, d8, List.drop_left]
  have hsz : sizeB (pre ++ (recB s r ++ tl)) pre.length = r.length := by unfold sizeB; rw [d0]; exact get4_app _ ⟨by omega, by omega⟩ _
  have hs1 : recSum (pre ++ (recB s r ++ tl)) pre.length s = recSum1 s r.length := by unfold recSum; rw [d0]; rfl
  have hbd : recBody (pre ++ (recB s r ++ tl)) pre.length = r := by unfold recBody; rw [hsz, d8]; simp
  have g4 : get4 ((pre ++ (recB s r ++ tl)).drop (pre.length + 4)) = recSum1 s r.length := by rw [d4]; exact get4_app _ (recSum1_W _ _) _
  have g9 : get4 ((pre ++ (recB s r ++ tl)).drop (pre.length + 8 + r.length)) = recSum2 s r := by rw [d9]; exact get4_app _ (recSum2_W _ _) _
  have e2 : recSum2 s r = crcM (recSum1 s r.length) r := rfl
  generalize pre ++ (recB s r ++ tl) = b at *
  unfold recStep
  rw [if_neg (by omega), if_neg (by rw [g4, hs1, hsz]; intro h; rcases h with h | h | h <;> omega), if_neg (by rw [hsz]; omega), hsz, Int.toNat_natCast, g9, hbd, hs1, ← e2, if_neg (fun h => h rfl)]
  rw [Nat.add_assoc]
/-- a piece that is cut off -/
def Torn (s : Int) (tl : List Int) : Prop := ∃ r k, GoodR r ∧ k < 12 + r.length ∧ tl = (recB s r).take k
theorem Torn.none (s : Int) : Torn s [] := ⟨[0], 0, ⟨by simp, by simp, by intro x hx; simp at hx; subst hx; exact ⟨by omega, by omega⟩⟩, by omega, rfl⟩
theorem Torn.byte {s : Int} {tl : List Int} (h : Torn s tl) : ∀ x ∈ tl, isB x := by
  obtain ⟨r, k, hr, _, rfl⟩ := h
  exact fun x hx => recB_byte hr x (List.mem_of_mem_take hx)
theorem step_torn (pre tl : List Int) (s : Int) (h : Torn s tl) : ∃ at', recStep (pre ++ tl) pre.length s = .inl (at', false) := by
  obtain ⟨r, k, ⟨h1, h2, _⟩, hk, rfl⟩ := h
  have hlen : (pre ++ (recB s r).take k).length = pre.length + k := by
    rw [List.length_append, List.length_take, recB_len]; omega
  by_cases h8 : k < 8
  · exact ⟨pre.length, by unfold recStep; rw [if_pos (by omega)]⟩
  · refine ⟨pre.length + 8, ?_⟩
    have hB : (recB s r).take k = be4 r.length ++ (be4 (recSum1 s r.length) ++ (r ++ be4 (recSum2 s r)).take (k - 8)) := by
      have h0 : recB s r = (be4 r.length ++ be4 (recSum1 s r.length)) ++ (r ++ be4 (recSum2 s r)) := by simp [recB]
      have hl0 : (be4 (r.length : Int) ++ be4 (recSum1 s r.length)).length = 8 := rfl
      rw [h0, List.take_append, hl0, List.take_of_length_le (by rw [hl0]; omega), List.append_assoc]
    have d0 : (pre ++ (recB s r).take k).drop pre.length = be4 r.length ++ (be4 (recSum1 s r.length) ++ (r ++ be4 (recSum2 s r)).take (k - 8)) := by rw [List.drop_left, hB]
    have d4 : (pre ++ (recB s r).take k).drop (pre.length + 4) = be4 (recSum1 s r.length) ++ (r ++ be4 (recSum2 s r)).take (k - 8) := by rw [drop_at 4 rfl, hB]; rfl
    have hsz : sizeB (pre ++ (recB s r).take k) pre.length = r.length := by unfold sizeB; rw [d0]; exact get4_app _ ⟨by omega, by omega⟩ _
    have hs1 : recSum (pre ++ (recB s r).take k) pre.length s = recSum1 s r.length := by unfold recSum; rw [d0]; rfl
    have g4 : get4 ((pre ++ (recB s r).take k).drop (pre.length + 4)) = recSum1 s r.length := by rw [d4]; exact get4_app _ (recSum1_W _ _) _
    generalize pre ++ (recB s r).take k = b at *
    unfold recStep
    rw [if_neg (by omega), if_neg (by rw [g4, hs1, hsz]; intro h; rcases h with h | h | h <;> omega), if_pos (by rw [hsz]; omega)]
theorem recs_log (rs : List (List Int)) (hg : ∀ r ∈ rs, GoodR r) : ∀ (pre : List Int) (acc : List (List Int)) (s : Int) (tl : List Int) (f : Nat), Torn (logSum s rs) tl → (pre ++ (logB s rs ++ tl)).length ≤ pre.length + f →
    ∃ at', recsL (pre ++ (logB s rs ++ tl)) f acc pre.length s = ((acc ++ rs, pre.length + logLen rs, logSum s rs), (at', false)) := by
  induction rs with
  | nil =>
    intro pre acc s tl f ht hf
    obtain ⟨a, ha⟩ := step_torn pre tl s ht
    refine ⟨a, ?_⟩
    rw [recsL_step hf]
    simp only [logB, List.nil_append, logLen, logSum, List.append_nil, Nat.add_zero]
    rw [ha]
  | cons r rs ih =>
    intro pre acc s tl f ht hf
    obtain ⟨h1, h2, _⟩ := hg r (by simp)
    have e : pre ++ (logB s (r :: rs) ++ tl) = pre ++ (recB s r ++ (logB (recSum2 s r) rs ++ tl)) := by rw [logB, List.append_assoc]
    have e2 : pre ++ (recB s r ++ (logB (recSum2 s r) rs ++ tl)) = (pre ++ recB s r) ++ (logB (recSum2 s r) rs ++ tl) := by simp
    have hl : (pre ++ recB s r).length = pre.length + (12 + r.length) := by rw [List.length_append, recB_len]
    have hf2 := hf
    rw [e, e2] at hf2
    obtain ⟨a, ha⟩ := ih (fun r h => hg r (by simp [h])) (pre ++ recB s r) (acc ++ [r]) (recSum2 s r) tl (f - 1) ht (by rw [hl]; omega)
    refine ⟨a, ?_⟩
    rw [recsL_step hf, e, step_rec pre _ s r h1 h2]
    simp only []
    rw [e2, ← hl, ha, hl, logLen, logSum]
    simp
    omega
/-- a slot with records and a torn end -/
def slotB (gen : Int) (st : List Int) (rs : List (List Int)) : List Int := begunB gen st ++ logB (begunSum gen st) rs
theorem slotB_len (gen : Int) (st : List Int) (rs : List (List Int)) : (slotB gen st rs).length = 24 + st.length + logLen rs := by
  rw [slotB, List.length_append, begunB_len, logB_len]
theorem slotB_byte {gen : Int} (hg : 0 ≤ gen ∧ gen ≤ 18446744073709551615) {st : List Int} (hs : ∀ x ∈ st, isB x) (hn : st.length ≤ 4294967295) {rs : List (List Int)} (hr : ∀ r ∈ rs, GoodR r) : ∀ x ∈ slotB gen st rs, isB x := by
  intro x hx
  rw [slotB, List.mem_append] at hx
  rcases hx with hx | hx
  · exact begunB_byte hg hs hn x hx
  · exact logB_byte hr x hx
theorem scan_slot {gen : Int} (hg : 0 < gen ∧ gen ≤ 18446744073709551615) {st : List Int} (hn : st.length ≤ 4194304) {which : Int} (hw : gen % 2 ≠ which) {rs : List (List Int)} (hr : ∀ r ∈ rs, GoodR r) {tl : List Int} (ht : Torn (logSum (begunSum gen st) rs) tl) :
    ∃ at', scanL (slotB gen st rs ++ tl) which = (⟨true, gen, st, rs, 24 + st.length + logLen rs, logSum (begunSum gen st) rs⟩, (at', false)) := by
  have e : slotB gen st rs ++ tl = begunB gen st ++ (logB (begunSum gen st) rs ++ tl) := by rw [slotB, List.append_assoc]
  have hl := begunB_len gen st
  obtain ⟨a, ha⟩ := recs_log rs hr (begunB gen st) [] (begunSum gen st) tl (begunB gen st ++ (logB (begunSum gen st) rs ++ tl)).length ht (by omega)
  rw [hl, List.nil_append] at ha
  exact ⟨a, by rw [e]; exact scan_begun hg hn hw _ _ _ _ _ ha⟩
/-- how many records are whole in so many bytes, and how many bytes are torn -/
def fitN : List (List Int) → Nat → Nat
  | [], _ => 0
  | r :: rs, n => if 12 + r.length ≤ n then 1 + fitN rs (n - (12 + r.length)) else 0
def tornN : List (List Int) → Nat → Nat
  | [], _ => 0
  | r :: rs, n => if 12 + r.length ≤ n then tornN rs (n - (12 + r.length)) else n
theorem fitN_le (rs : List (List Int)) (n : Nat) : fitN rs n ≤ rs.length := by
  induction rs generalizing n with
  | nil => exact Nat.le_refl _
  | cons r rs ih => rw [fitN]; split <;> simp; have := ih (n - (12 + r.length)); omega
theorem log_take {rs : List (List Int)} (hg : ∀ r ∈ rs, GoodR r) (s : Int) (n : Nat) : ∃ tl, Torn (logSum s (rs.take (fitN rs n))) tl ∧ (logB s rs).take n = logB s (rs.take (fitN rs n)) ++ tl ∧ tl.length = tornN rs n := by
  induction rs generalizing s n with
  | nil => exact ⟨[], Torn.none _, by simp [logB, fitN], rfl⟩
  | cons r rs ih =>
    by_cases h : 12 + r.length ≤ n
    · obtain ⟨tl, h1, h2, h3⟩ := ih (fun r h => hg r (by simp [h])) (recSum2 s r) (n - (12 + r.length))
      have e1 : fitN (r :: rs) n = fitN rs (n - (12 + r.length)) + 1 := by rw [fitN, if_pos h]; omega
      have e2 : tornN (r :: rs) n = tornN rs (n - (12 + r.length)) := by rw [tornN, if_pos h]
      refine ⟨tl, ?_, ?_, by rw [e2]; exact h3⟩
      · rw [e1, List.take_succ_cons, logSum]; exact h1
      · rw [e1, List.take_succ_cons, logB, logB, List.take_append, recB_len, List.take_of_length_le (by rw [recB_len]; omega), h2, List.append_assoc]
    · have e1 : fitN (r :: rs) n = 0 := by rw [fitN, if_neg h]
      have e2 : tornN (r :: rs) n = n := by rw [tornN, if_neg h]
      refine ⟨(recB s r).take n, ?_, ?_, ?_⟩
      · rw [e1]; exact ⟨r, n, hg r (by simp), by omega, rfl⟩
      · rw [e1, logB, List.take_append, recB_len, show n - (12 + r.length) = 0 from by omega]; simp [logB]
      · rw [e2, List.length_take, recB_len]; omega
theorem logLen_take (rs : List (List Int)) (n : Nat) (h : n ≤ logLen rs) : logLen (rs.take (fitN rs n)) + tornN rs n = n := by
  induction rs generalizing n with
  | nil => simp [logLen] at h; subst h; simp [logLen, tornN]
  | cons r rs ih =>
    rw [logLen] at h
    by_cases h2 : 12 + r.length ≤ n
    · rw [fitN, tornN, if_pos h2, if_pos h2, Nat.add_comm 1, List.take_succ_cons, logLen]
      have := ih (n - (12 + r.length)) (by omega)
      omega
    · rw [fitN, tornN, if_neg h2, if_neg h2]; simp [logLen]
theorem fitN_all (rs : List (List Int)) (n : Nat) (h : logLen rs ≤ n) : fitN rs n = rs.length := by
  induction rs generalizing n with
  | nil => rfl
  | cons r rs ih =>
    rw [logLen] at h
    rw [fitN, if_pos (by omega), ih _ (by omega), List.length_cons]; omega
theorem fitN_mono (rs : List (List Int)) (m n : Nat) (h : logLen (rs.take m) ≤ n) (hm : m ≤ rs.length) : m ≤ fitN rs n := by
  induction rs generalizing m n with
  | nil => simp at hm; omega
  | cons r rs ih =>
    cases m with
    | zero => exact Nat.zero_le _
    | succ m =>
      rw [List.take_succ_cons, logLen] at h
      rw [fitN, if_pos (by omega)]
      have := ih m (n - (12 + r.length)) (by omega) (by simpa using hm)
      omega
theorem fitN_exact (rs : List (List Int)) (m : Nat) (hm : m ≤ rs.length) : fitN rs (logLen (rs.take m)) = m := by
  induction rs generalizing m with
  | nil => simp at hm; subst hm; rfl
  | cons r rs ih =>
    cases m with
    | zero => rw [List.take_zero, fitN, if_neg (by simp [logLen])]
    | succ m =>
      rw [List.take_succ_cons, logLen, fitN, if_pos (by omega), show 12 + r.length + logLen (rs.take m) - (12 + r.length) = logLen (rs.take m) from by omega, ih m (by simpa using hm)]
      omega
/-- the first bytes of a slot with records -/
theorem slot_take {gen : Int} {st : List Int} {rs : List (List Int)} (hg : ∀ r ∈ rs, GoodR r) (n : Nat) (h : 24 + st.length ≤ n) : ∃ tl, Torn (logSum (begunSum gen st) (rs.take (fitN rs (n - (24 + st.length))))) tl ∧ (slotB gen st rs).take n = slotB gen st (rs.take (fitN rs (n - (24 + st.length)))) ++ tl ∧ tl.length = tornN rs (n - (24 + st.length)) := by
  obtain ⟨tl, h1, h2, h3⟩ := log_take hg (begunSum gen st) (n - (24 + st.length))
  refine ⟨tl, h1, ?_, h3⟩
  rw [slotB, slotB, List.take_append, begunB_len, List.take_of_length_le (by rw [begunB_len]; omega), h2, List.append_assoc]
end Go.Proofs.YtfcgmlofiaehkaaDoor
