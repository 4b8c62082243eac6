/- Layer 9's laws: what a run holds, plainly; the first records of a row. -/
import Derived.Test.YtfcgmlofiaehkaaDoorKY
namespace Go.Proofs.YtfcgmlofiaehkaaDoor
open Go.RowKit

theorem svE_take (vs : List SV) (k : Nat) : (vs.flatMap svE).take k = (vs.take k).flatMap svE := by
  induction vs generalizing k with
  | nil => simp
  | cons s vs ih => cases k with
    | zero => simp
    | succ k => simp only [List.flatMap_cons, List.take_succ_cons, ← ih, svE, List.cons_append, List.nil_append]
theorem own_take {w : World} {A : Option Addr} {n c k : Nat} {vs : List SV} (h : w.ownsRow 0 22 1 (.slice A n c) n (vs.flatMap svE)) (hk : k ≤ n) : w.ownsRow 0 22 1 (.slice A k c) k ((vs.take k).flatMap svE) := by
  have hl : vs.length = n := by have := h.1; rw [flatMap_length svE_len] at this; omega
  refine ⟨by rw [flatMap_length svE_len, List.length_take]; omega, ?_⟩
  rcases h.2 with ⟨e, hn⟩ | ⟨g, cap, cur, e, h2, h3, h4, h5, h6, h7⟩
  · left
    injection e with e1 e2 e3
    subst e1 e3
    obtain rfl : k = 0 := by omega
    exact ⟨rfl, rfl⟩
  · right
    injection e with e1 e2 e3
    subst e1 e3
    refine ⟨g, _, cur, rfl, h2, h3, by omega, h5, h6, ?_⟩
    rw [Nat.mul_one] at h7 ⊢
    have := congrArg (List.take k) h7
    rw [List.take_take, Nat.min_eq_left hk, svE_take] at this
    exact this
theorem AllAt.take {w : World} {A : Option Addr} {n c k : Nat} {ls : List (List Int)} {Q : Nat → Prop} (h : AllAt w (.slice A n c) ls Q) (hn : ls.length = n) (hk : k ≤ n) : ∃ Q', AllAt w (.slice A k c) (ls.take k) Q' ∧ ∀ x, Q' x → Q x := by
  obtain ⟨vs, h1, h2, h3, h4⟩ := h.own
  rw [h1, hn] at h2
  refine ⟨fun x => (Value.slice A k c).ownBlock = some x ∨ ∃ s ∈ vs.take k, s.v.ownBlock = some x, ⟨vs.take k, by rw [List.length_take, List.length_take, h1], ?_, fun i s l hs hl => ?_, fun x => Iff.rfl⟩, fun x hx => ?_⟩
  · rw [List.length_take, h1, hn, Nat.min_eq_left hk]; exact own_take h2 hk
  · rw [List.getElem?_take] at hs hl
    split at hs
    · rename_i hi
      rw [if_pos hi] at hl
      exact h3 i s l hs hl
    · cases hs
  · rcases hx with hx | ⟨s, hs, hx⟩
    · refine (h4 x).2 (.inl ?_)
      cases A with
      | none => cases hx
      | some a => exact hx
    · exact (h4 x).2 (.inr ⟨s, List.mem_of_mem_take hs, hx⟩)
theorem AllAt.start {w : World} {A : Option Addr} {n c : Nat} {ls : List (List Int)} {Q : Nat → Prop} (h : AllAt w (.slice A n c) ls Q) : A = none ∨ ∃ g, A = some ⟨g, 0, none⟩ := by
  obtain ⟨vs, h1, h2, _⟩ := h.own
  rcases h2.2 with ⟨e, _⟩ | ⟨g, cap, cur, e, _⟩
  · injection e with e; exact .inl e
  · injection e with e; exact .inr ⟨g, e⟩
theorem headL_run (A : Option Addr) (n c m : Nat) (km : Int) (hkm : km = m) (hm : m ≤ n) (hnc : n ≤ c) (hA : A = none ∨ ∃ g, A = some ⟨g, 0, none⟩) (W : World) : (Instr.slice 28 (.slice A n c) none (some (.int .i64 km)) none).run Tryd.prog W = .ok (.slice A m c) W := by
  subst hkm
  obtain ⟨i0, hi, hzz⟩ := Option.map_eq_some_iff.1 infoBs
  simp only [Prod.mk.injEq] at hzz
  obtain ⟨hz0, hz1, hz2⟩ := hzz
  have hel : Tryd.prog.elem 28 = 22 := by simp [Program.elem, Tryd.underlying28]
  have hu : Tryd.prog.underlying 28 = some (.slice (Tryd.prog.elem 28)) := by rw [hel]; exact Tryd.underlying28
  have hA' : (if c = 0 then A else A.map (·.add (0 * 1))) = A := by
    split
    · rfl
    · rcases hA with rfl | ⟨g, rfl⟩
      · rfl
      · simp [addr_add]
  rw [run_slice_h W 28 A n c hu .i64 (m : Int) (Int.natCast_nonneg _) (by omega), hel]
  simp [sizeOf, typeInfo, hi, hz1, sliced, Result.andThen]
  simpa using hA'
/-! ### a run, plainly -/
structure RunOk (p : PS) (ls : List (List Int)) (safe : Nat) : Prop where
  ex : ∃ dl, p.st = laidL dl ∧ ls = dl ++ p.rs ∧ (∀ x, p.prev = some x → ∃ dl', x.1 = laidL dl' ∧ dl = dl' ++ x.2) ∧ (p.sy = 0 ∧ safe = dl.length ∨ ∃ m, m ≤ p.rs.length ∧ p.sy = 24 + p.st.length + logLen (p.rs.take m) ∧ safe = dl.length + m)
  good : ∀ l ∈ ls, GoodR l
theorem RunOk.fresh : RunOk (PS.fresh []) [] 0 := ⟨⟨[], rfl, rfl, fun x hx => by simp [PS.fresh] at hx, .inr ⟨0, Nat.le_refl _, rfl, rfl⟩⟩, by simp⟩
theorem goodB_R {l : List Int} (h : goodB l = true) (hb : ∀ x ∈ l, isB x) : GoodR l := by
  have := by simpa [goodB] using h
  exact ⟨this.1, this.2, hb⟩
theorem RunOk.add {p : PS} {ls : List (List Int)} {safe : Nat} (h : RunOk p ls safe) {l : List Int} (hb : ∀ x ∈ l, isB x) : RunOk (addP p l) (addL ls l) safe := by
  unfold addP addL
  by_cases hg : goodB l = true
  · rw [if_pos hg, if_pos hg]
    obtain ⟨dl, h1, h2, h3, h4⟩ := h.ex
    refine ⟨⟨dl, h1, by rw [h2]; simp [PS.app], h3, ?_⟩, fun x hx => ?_⟩
    · rcases h4 with h4 | ⟨m, hm, h5, h6⟩
      · exact .inl h4
      · refine .inr ⟨m, by simp [PS.app]; omega, ?_, h6⟩
        show p.sy = 24 + p.st.length + logLen ((p.rs ++ [l]).take m)
        rw [List.take_append_of_le_length hm]; exact h5
    · rw [List.mem_append] at hx
      rcases hx with hx | hx
      · exact h.good x hx
      · rw [List.mem_singleton] at hx; subst hx; exact goodB_R hg hb
  · rw [if_neg hg, if_neg hg]; exact h
theorem RunOk.sync {p : PS} {ls : List (List Int)} {safe : Nat} (h : RunOk p ls safe) : RunOk p.sync ls ls.length := by
  obtain ⟨dl, h1, h2, h3, _⟩ := h.ex
  refine ⟨⟨dl, h1, h2, h3, .inr ⟨p.rs.length, Nat.le_refl _, ?_, by rw [h2, List.length_append]⟩⟩, h.good⟩
  show p.len = 24 + p.st.length + logLen (p.rs.take p.rs.length)
  rw [List.take_length]; rfl
theorem RunOk.snap {p : PS} {ls : List (List Int)} {safe : Nat} (h : RunOk p ls safe) : RunOk (p.snap (laidL ls)) ls ls.length := by
  obtain ⟨dl, h1, h2, h3, _⟩ := h.ex
  exact ⟨⟨ls, rfl, by simp [PS.snap], fun x hx => by
    simp only [PS.snap, Option.some.injEq] at hx
    subst hx
    exact ⟨dl, h1, h2⟩, .inl ⟨rfl, rfl⟩⟩, h.good⟩
/-- what a crash leaves, and the next Open finds -/
theorem RunOk.cut {p : PS} {ls : List (List Int)} {safe : Nat} {limit : Int} (h : RunOk p ls safe) (hp : p.Ok limit) (n : Nat) (hn : p.sy ≤ n) (_ : n ≤ p.len) :
    ∃ k dl, k ≤ ls.length ∧ safe ≤ k ∧ (n = p.sy → k = safe) ∧ (n = p.len → k = ls.length) ∧ RunOk (p.cut n) (ls.take k) k ∧ (p.cut n).st = laidL dl ∧ dl ++ (p.cut n).rs = ls.take k ∧ (∀ r ∈ dl, GoodR r) := by
  obtain ⟨dl, h1, h2, h3, h4⟩ := h.ex
  by_cases hc : 24 + p.st.length ≤ n
  · have hcut : p.cut n = { p with rs := p.rs.take (fitN p.rs (n - (24 + p.st.length))), sy := 24 + p.st.length + logLen (p.rs.take (fitN p.rs (n - (24 + p.st.length)))), wa := 0 } := by unfold PS.cut; rw [if_pos hc]
    obtain ⟨F, hF⟩ : ∃ F, F = fitN p.rs (n - (24 + p.st.length)) := ⟨_, rfl⟩
    have hFl : F ≤ p.rs.length := by rw [hF]; exact fitN_le _ _
    rw [← hF] at hcut
    have htk : ls.take (dl.length + F) = dl ++ p.rs.take F := by rw [h2, List.take_length_add_append]
    have hgl : ∀ l ∈ ls.take (dl.length + F), GoodR l := fun l hl => h.good l (List.mem_of_mem_take hl)
    refine ⟨dl.length + F, dl, by rw [h2, List.length_append]; omega, ?_, fun e => ?_, fun e => ?_, ⟨⟨dl, by rw [hcut]; exact h1, by rw [hcut, htk], by rw [hcut]; exact h3, .inr ⟨F, ?_, ?_, rfl⟩⟩, hgl⟩, by rw [hcut]; exact h1, by rw [hcut, htk], fun r hr => h.good r (by rw [h2]; exact List.mem_append_left _ hr)⟩
    · rcases h4 with ⟨_, h5⟩ | ⟨m, hm, h5, h6⟩
      · omega
      · have : m ≤ F := by rw [hF]; exact fitN_mono p.rs m _ (by omega) hm
        omega
    · rcases h4 with ⟨h5, _⟩ | ⟨m, hm, h5, h6⟩
      · omega
      · have hm2 : n - (24 + p.st.length) = logLen (p.rs.take m) := by omega
        rw [hF, hm2, fitN_exact p.rs m hm, h6]
    · have : F = p.rs.length := by rw [hF]; exact fitN_all _ _ (by unfold PS.len at e; omega)
      rw [h2, List.length_append, this]
    · rw [hcut]; show F ≤ (p.rs.take F).length; rw [List.length_take]; omega
    · rw [hcut]; show 24 + p.st.length + logLen (p.rs.take F) = 24 + p.st.length + logLen ((p.rs.take F).take F); rw [List.take_take, Nat.min_self]
  · have hsy : p.sy = 0 ∧ safe = dl.length := by
      rcases h4 with h4 | ⟨m, hm, h5, h6⟩
      · exact h4
      · omega
    cases hpv : p.prev with
    | none => have := hp.sy2 hpv; omega
    | some x =>
      obtain ⟨dl', h5, h6⟩ := h3 x hpv
      have hcut : p.cut n = ⟨p.gen - 1, x.1, x.2, 24 + x.1.length + logLen x.2, 0, none⟩ := by unfold PS.cut; rw [if_neg hc, hpv]
      have htk : ls.take dl.length = dl := by rw [h2, List.take_left]
      have hgl : ∀ l ∈ ls.take dl.length, GoodR l := fun l hl => h.good l (List.mem_of_mem_take hl)
      refine ⟨dl.length, dl', by rw [h2, List.length_append]; omega, by omega, fun _ => hsy.2.symm, fun e => ?_, ⟨⟨dl', by rw [hcut]; exact h5, by rw [hcut, htk, h6], fun y hy => (by rw [hcut] at hy; cases hy), .inr ⟨x.2.length, ?_, ?_, by rw [h6, List.length_append]⟩⟩, hgl⟩, by rw [hcut]; exact h5, by rw [hcut, htk, h6], fun r hr => h.good r (by rw [h2, h6]; simp [hr])⟩
      · unfold PS.len at e; omega
      · rw [hcut]; exact Nat.le_refl _
      · rw [hcut]; show 24 + x.1.length + logLen x.2 = 24 + x.1.length + logLen (x.2.take x.2.length); rw [List.take_length]
/-- how many bytes a run's records take at most -/
theorem sumF_append (a b : List (List Int)) : sumF (a ++ b) = sumF a + sumF b := by
  induction a with
  | nil => simp [sumF]
  | cons x a ih => rw [List.cons_append, sumF, ih, sumF]; omega
theorem logLen_le (l : List (List Int)) : logLen l ≤ sumF l := by
  induction l with
  | nil => exact Nat.le_refl _
  | cons x l ih => rw [logLen, sumF]; omega
theorem RunOk.len_le {p : PS} {ls : List (List Int)} {safe : Nat} (h : RunOk p ls safe) : p.len ≤ 24 + sumF ls := by
  obtain ⟨dl, h1, h2, _⟩ := h.ex
  have e1 := laidL_len dl
  have e2 := laidLen_le dl
  have e3 := logLen_le p.rs
  have e4 := sumF_append dl p.rs
  rw [← h2] at e4
  unfold PS.len
  rw [h1]
  omega
theorem sumF_addL (ls : List (List Int)) (l : List Int) : sumF (addL ls l) ≤ sumF ls + (l.length + 16) := by
  unfold addL
  split
  · rw [sumF_snoc]; exact Nat.le_refl _
  · omega
end Go.Proofs.YtfcgmlofiaehkaaDoor
