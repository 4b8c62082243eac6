/- Layer 15: what the moves make, plain: they can be played; behind them every host has what it is to have. -/
import Derived.Test.YtpkcccphoolapaaMvE
import Derived.Test.YtpkcccphoolapaaPlayP
namespace Go.Proofs.Ytpkcccphoolapaa
open Rng

/-! ### a list of segments with other hosts -/
theorem fault_host (f : Seg → Int) {l : List Seg} (hf : ∀ s ∈ l, f s < 16) {next : Int} {full : Bool} {i : Nat} (h : (fault next full i l).2 = 0) : (fault next full i (l.map fun s => ⟨s.lo, s.hi, f s⟩)).2 = 0 := by
  induction l generalizing next full i with
  | nil => exact h
  | cons s r ih =>
    rw [List.map_cons]
    unfold fault at h ⊢
    by_cases h1 : full = true ∨ s.lo ≠ next
    · rw [if_pos h1] at h; simp at h
    rw [if_neg h1] at h
    rw [if_neg h1]
    by_cases h2 : s.hi < s.lo
    · rw [if_pos h2] at h; simp at h
    rw [if_neg h2] at h
    rw [if_neg h2]
    by_cases h3 : 16 ≤ s.host
    · rw [if_pos h3] at h; simp at h
    rw [if_neg h3] at h
    have := hf s (List.mem_cons_self ..)
    rw [if_neg (by dsimp only; omega)]
    exact ih (fun t ht => hf t (List.mem_cons_of_mem _ ht)) h
def tameS (H : Nat) (l : List Seg) : List Seg := l.map fun s => ⟨s.lo, s.hi, s.host % (H : Int)⟩
def tameK (ks : List Int) : List Int := ks.foldl (fun acc k => if acc.getLast?.all (· < k) then acc ++ [k] else acc) []
theorem tameK_step {ks : List Int} {i : Nat} {k : Int} (h : ks[i]? = some k) : tameK (ks.take (i + 1)) = if (tameK (ks.take i)).getLast?.all (· < k) then tameK (ks.take i) ++ [k] else tameK (ks.take i) := by
  unfold tameK
  rw [List.take_add_one, h]
  simp [List.foldl_append]
theorem inc_snoc {l : List Int} {k : Int} (h : Inc l) (hk : l.getLast?.all (· < k) = true) : Inc (l ++ [k]) := by
  refine inc_of_step fun i a b ha hb => ?_
  by_cases hi : i + 1 < l.length
  · rw [List.getElem?_append_left (by omega)] at ha
    rw [List.getElem?_append_left hi] at hb
    exact h i (i + 1) a b (by omega) ha hb
  · have hb' := (List.getElem?_eq_some_iff.1 hb).1
    simp at hb'
    have hil : i + 1 = l.length := by omega
    rw [List.getElem?_append_right (by omega), hil] at hb
    simp at hb
    subst hb
    rw [List.getElem?_append_left (by omega)] at ha
    rw [List.getLast?_eq_getElem?, show l.length - 1 = i by omega, ha] at hk
    simpa using hk
theorem tameK_ok (ks : List Int) : Inc (tameK ks) ∧ (∀ k ∈ tameK ks, k ∈ ks) ∧ (tameK ks).length ≤ ks.length := by
  have key : ∀ i, i ≤ ks.length → Inc (tameK (ks.take i)) ∧ (∀ k ∈ tameK (ks.take i), k ∈ ks) ∧ (tameK (ks.take i)).length ≤ i := by
    intro i
    induction i with
    | zero => intro _; refine ⟨fun i j a b _ h => ?_, fun k h => ?_, ?_⟩ <;> simp [tameK] at *
    | succ i ih =>
      intro hi
      obtain ⟨h1, h2, h3⟩ := ih (by omega)
      have hk : ks[i]? = some (ks[i]'(by omega)) := List.getElem?_eq_getElem _
      rw [tameK_step hk]
      split
      · rename_i hc
        refine ⟨inc_snoc h1 hc, fun k hk' => ?_, by simp; omega⟩
        rcases List.mem_append.1 hk' with h | h
        · exact h2 k h
        · rw [List.mem_singleton.1 h]; exact List.mem_of_getElem? hk
      · exact ⟨h1, h2, by omega⟩
  have := key ks.length (Nat.le_refl _)
  rw [List.take_length] at this
  exact this

/-! ### sums -/
theorem sum_zero {n : Nat} {d : Nat → Int} (hs : ((List.range n).map d).sum = 0) (h : (∀ k, k < n → d k ≤ 0) ∨ (∀ k, k < n → 0 ≤ d k)) : ∀ k, k < n → d k = 0 := by
  induction n with
  | zero => intro k hk; omega
  | succ n ih =>
    rw [List.range_succ, List.map_append, List.sum_append] at hs
    simp only [List.map_cons, List.map_nil, List.sum_cons, List.sum_nil, Int.add_zero] at hs
    have key : (∀ m, m ≤ n → (∀ k, k < n + 1 → d k ≤ 0) → ((List.range m).map d).sum ≤ 0) ∧ (∀ m, m ≤ n → (∀ k, k < n + 1 → 0 ≤ d k) → 0 ≤ ((List.range m).map d).sum) := by
      constructor <;>
      · intro m
        induction m with
        | zero => intro _ _; simp
        | succ m ihm =>
          intro hm hd
          have a1 := ihm (by omega) hd
          have a2 := hd m (by omega)
          rw [List.range_succ, List.map_append, List.sum_append]
          simp only [List.map_cons, List.map_nil, List.sum_cons, List.sum_nil, Int.add_zero]
          omega
    rcases h with h | h
    · have a1 := key.1 n (Nat.le_refl _) h
      have a2 := h n (by omega)
      intro k hk
      by_cases e : k = n
      · subst e; omega
      · exact ih (by omega) (.inl fun j hj => h j (by omega)) k (by omega)
    · have a1 := key.2 n (Nat.le_refl _) h
      have a2 := h n (by omega)
      intro k hk
      by_cases e : k = n
      · subst e; omega
      · exact ih (by omega) (.inr fun j hj => h j (by omega)) k (by omega)
theorem sum_sub (n : Nat) (a b : Nat → Int) : ((List.range n).map fun h => a h - b h).sum = ((List.range n).map a).sum - ((List.range n).map b).sum := by
  induction n with
  | zero => rfl
  | succ n ih =>
    rw [List.range_succ, List.map_append, List.map_append, List.map_append, List.sum_append, List.sum_append, List.sum_append, ih]
    simp; omega
theorem cnt_sum {H : Nat} {l : List Seg} (hl : TabOk H l) {ks : List Int} (hks : ∀ k ∈ ks, 0 ≤ k ∧ k ≤ maxK) : ((List.range H).map fun (h : Nat) => cntH l ks (h : Int)).sum = (ks.length : Int) := by
  have key : ∀ (m : Nat), ((List.range m).map fun (h : Nat) => cntH l ks (h : Int)).sum = ((ks.countP (fun key => decide (0 ≤ hostOf l key ∧ hostOf l key < (m : Int))) : Nat) : Int) := by
    intro m
    induction m with
    | zero =>
      have : ks.countP (fun key => decide (0 ≤ hostOf l key ∧ hostOf l key < ((0 : Nat) : Int))) = 0 := by
        rw [List.countP_eq_zero]; intro a _; simp
      rw [this]; rfl
    | succ m ihm =>
      rw [List.range_succ, List.map_append, List.sum_append, ihm]
      have e : ks.countP (fun key => decide (0 ≤ hostOf l key ∧ hostOf l key < ((m + 1 : Nat) : Int))) = ks.countP (fun key => decide (0 ≤ hostOf l key ∧ hostOf l key < (m : Int)) || decide (hostOf l key = (m : Int))) :=
        List.countP_congr fun k _ => by simp; omega
      rw [e, countP_or _ _ _ (fun k _ hk => by simp at hk; omega)]
      simp [cntH]
  rw [key, List.countP_eq_length.2 (fun k hk => by
    obtain ⟨h0, h1⟩ := hks k hk
    obtain ⟨s, s1, s2, s3, s4⟩ := (hostOf_eq hl.wf h0 h1).2 rfl
    have := hl.hosts s s1
    have := (hl.wf.hosts s s1).1
    simp; omega)]
theorem counts_sum {H : Nat} {l : List Seg} (hl : TabOk H l) {ks : List Int} (hks : ∀ k ∈ ks, 0 ≤ k ∧ k ≤ maxK) : (countsOf H l ks).sum = (ks.length : Int) := cnt_sum hl hks

/-- the targets add up to the loads -/
theorem targets_sum {l : List Int} (h1 : 1 ≤ l.length) (h0 : 0 ≤ l.sum) : ((List.range l.length).map (targetL l)).sum = l.sum := by
  have hI : Inhabited (Fin l.length) := ⟨⟨0, by omega⟩⟩
  obtain ⟨R, hR⟩ : ∃ R : Nat, l.sum % (l.length : Int) = (R : Int) := ⟨(l.sum % (l.length : Int)).toNat, by have := Int.emod_nonneg l.sum (show (l.length : Int) ≠ 0 by omega); omega⟩
  have hRn : R < l.length := by have := Int.emod_lt_of_pos l.sum (show (0 : Int) < l.length by omega); omega
  have hp := orderH_perm (n := l.length) l
  have e1 : ∀ os : List Nat, (os.map (targetL l)).sum = (os.length : Int) * l.sum.tdiv l.length + ((os.countP (fun h => decide (rankH l h < R)) : Nat) : Int) := by
    intro os
    induction os with
    | nil => simp
    | cons h os ih =>
      rw [List.map_cons, List.sum_cons, ih, List.countP_cons, List.length_cons]
      unfold targetL
      rw [hR]
      by_cases hc : rankH l h < R
      · rw [if_pos (by omega)]; simp [hc, Int.add_mul]; omega
      · rw [if_neg (by omega)]; simp [hc, Int.add_mul]; omega
  have e2 : (List.range l.length).countP (fun h => decide (rankH l h < R)) = R := by
    rw [← hp.countP_eq]
    have : (orderH l.length l).countP (fun h => decide (rankH l h < R)) = ((orderH l.length l).map (rankH l)).countP (fun r => decide (r < R)) := by rw [List.countP_map]; rfl
    rw [this]
    have e3 : (orderH l.length l).map (rankH l) = List.range l.length := by
      apply List.ext_getElem?
      intro r
      by_cases hr : r < l.length
      · have := orderH_get (n := l.length) l hr
        rw [List.getElem?_map, this, Option.map_some, List.getElem?_range hr]
        congr 1
        exact orderH_rank l this
      · rw [List.getElem?_eq_none (by rw [List.length_map, orderH_len]; omega), List.getElem?_eq_none (by simp; omega)]
    rw [e3]
    obtain ⟨m, hm⟩ : ∃ m, l.length = R + m := ⟨l.length - R, by omega⟩
    rw [hm, List.range_add, List.countP_append, List.countP_eq_length.2 (fun a ha => by simpa using ha), List.countP_eq_zero.2 (fun a ha => by
      obtain ⟨b, _, rfl⟩ := List.mem_map.1 ha
      simp), List.length_range]
    rfl
  rw [e1, e2, List.length_range]
  have e4 := Int.emod_add_mul_ediv l.sum l.length
  rw [hR] at e4
  rw [Int.tdiv_eq_ediv_of_nonneg h0]
  omega

/-! ### the run of the moves -/
section
variable {H : Nat} {most : Int} {ks : List Int} {want : Nat → Int}
structure RunOk (H : Nat) (most : Int) (ks : List Int) (want : Nat → Int) (l : List Seg) (ms : List MoveL) (l' : List Seg) : Prop where
  len : ms.length ≤ overSum H (overL ks want l)
  play : playL l ms = (0, l')
  ok : TabOk H l'
  no : moveStep H most ks want l' = none
  oks : ∀ m ∈ ms, okMove m
  sz : l'.length ≤ l.length + 2 * ms.length
theorem run_ok (hH : H ≤ 16) (hm : 1 ≤ most) (hI : Inc ks) (hks : ∀ k ∈ ks, 0 ≤ k ∧ k ≤ maxK) (f : Nat) (l : List Seg) (hl : TabOk H l) (hf : overSum H (overL ks want l) < f) : RunOk H most ks want l (movesL H most ks want f l).1 (movesL H most ks want f l).2 := by
  induction f generalizing l with
  | zero => omega
  | succ f ih =>
    unfold movesL
    cases e : moveStep H most ks want l with
    | none => exact ⟨by simp, rfl, hl, e, (fun m h => by cases h), by simp⟩
    | some p =>
      obtain ⟨m, l'⟩ := p
      obtain ⟨g, t, s, hs⟩ := moveStep_some hH hm hI hks hl e
      have hlt := hs.less
      have hr := ih l' hs.ok (by omega)
      have c1 := hs.cut.lo0
      have c2 := hs.cut.le
      have c3 := hs.cut.hi
      have c4 := hs.cut.src
      have c5 := hs.cut.dst
      have hsg := hl.wf.seg s hs.mem
      have hg := (best_some hs.gi).1
      have ht := (best_some hs.ti).1
      have hne := hs.ne
      refine ⟨by have := hr.len; simp; omega, ?_, hr.ok, hr.no, fun m' hm' => ?_, by have := hr.sz; have := hs.len; simp; omega⟩
      · dsimp only
        unfold playL
        have hb : ¬ badMove m := by unfold badMove; rw [c4, c5]; omega
        have ho : ownsAll l m.lo m.hi m.src := (ownsAll_iff hl.wf (by omega) c2 (by omega) hs.atlo).2 ⟨by rw [c4]; exact hs.host, by omega⟩
        rw [if_neg (by rintro (h | h); exact hb h; exact h ho), c5, ← hs.lay]
        exact hr.play
      · rcases List.mem_cons.1 hm' with rfl | h
        · unfold okMove; rw [c4, c5]; omega
        · exact hr.oks m' h
end

/-- behind the moves every host has what it is to have -/
theorem run_even {H : Nat} {most : Int} {ks : List Int} {l0 l' : List Seg} (hH : 1 ≤ H) (hH2 : H ≤ 16) (hI : Inc ks) (hks : ∀ k ∈ ks, 0 ≤ k ∧ k ≤ maxK) (hkl : ks.length ≤ 1073741824) (h0 : TabOk H l0) (hl : TabOk H l') (hn : moveStep H most ks (wantL H l0 ks) l' = none) :
    ∀ h : Nat, h < H → cntH l' ks (h : Int) = wantL H l0 ks h := by
  have hg := counts_good (H := H) (l := l0) (ks := ks) hH hH2 hkl
  have hz := moveStep_none hI hks hl (fun h => (target_range hg h).1) hn
  have e1 : ((List.range H).map (overL ks (wantL H l0 ks) l')).sum = 0 := by
    have := sum_sub H (fun (h : Nat) => cntH l' ks (h : Int)) (wantL H l0 ks)
    rw [cnt_sum hl hks] at this
    have e2 := targets_sum (l := countsOf H l0 ks) (by rw [countsOf_len]; exact hH) (total_bound hg).1
    rw [countsOf_len, counts_sum h0 hks] at e2
    have e3 : ((List.range H).map (wantL H l0 ks)).sum = (ks.length : Int) := e2
    rw [e3] at this
    have e4 : ((List.range H).map (overL ks (wantL H l0 ks) l')).sum = ((List.range H).map fun (h : Nat) => cntH l' ks (h : Int) - wantL H l0 ks h).sum := rfl
    omega
  have := sum_zero e1 hz
  intro h hh
  have := this h hh
  unfold overL at this
  omega
end Go.Proofs.Ytpkcccphoolapaa
