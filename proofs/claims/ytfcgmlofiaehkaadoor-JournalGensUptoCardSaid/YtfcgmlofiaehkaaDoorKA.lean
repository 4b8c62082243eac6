/- Layer 9: a journal at work, told by what it holds. -/
import Derived.Test.YtfcgmlofiaehkaaDoorJK
import Derived.Test.YtfcgmlofiaehkaaDoorJN
import Derived.Test.YtfcgmlofiaehkaaDoorJW
import Derived.Test.YtfcgmlofiaehkaaDoorJZ
import Derived.Test.YtfcgmlofiaehkaaDoorKR
namespace Go.Proofs.YtfcgmlofiaehkaaDoor
open Go.RowKit

/-- the journal under V holds p; its memory are the blocks P -/
structure Jn (w : World) (V : Value) (p : PS) (limit : Int) (P : Nat → Prop) : Prop where
  at' : ∃ j s0 s1, V = .pointer (some ⟨j, 0, none⟩) ∧ JAt w 0 w.heap.size j (p.jl limit) s0 s1 ∧ ∀ k, P k ↔ (k = j ∨ s0.v.ownBlock = some k ∨ s1.v.ownBlock = some k)
  ok : p.Ok limit
  lim : goodLim limit = true
  wa : p.wa ≤ p.rs.length
theorem Jn.lt {w : World} {V : Value} {p : PS} {limit : Int} {P : Nat → Prop} (h : Jn w V p limit P) (k : Nat) (hk : P k) : k < w.heap.size := by
  obtain ⟨j, s0, s1, _, hJ, hP⟩ := h.at'
  rcases (hP k).1 hk with rfl | hk | hk
  · exact hJ.jhi
  · exact hJ.hi0 k hk
  · exact hJ.hi1 k hk
theorem Jn.keep {w w' : World} {V : Value} {p : PS} {limit : Int} {P Q : Nat → Prop} (h : Jn w V p limit P) (ht : Tch Q w w') (hd : ∀ k, P k → ¬ Q k) : Jn w' V p limit P := by
  obtain ⟨j, s0, s1, e, hJ, hP⟩ := h.at'
  have l0 : ∀ k, k < w.heap.size → k < w'.heap.size := fun k hk => Nat.lt_of_lt_of_le hk ht.size
  refine ⟨⟨j, s0, s1, e, ⟨ht.box hJ.box (hd j ((hP j).2 (.inl rfl))), Nat.zero_le _, l0 _ hJ.jhi, ht.own hJ.own0 (fun k hk => hd k ((hP k).2 (.inr (.inl hk)))), ht.own hJ.own1 (fun k hk => hd k ((hP k).2 (.inr (.inr hk)))), fun k hk => l0 _ (hJ.hi0 k hk), fun k hk => l0 _ (hJ.hi1 k hk), hJ.apart⟩, hP⟩, h.ok, h.lim, h.wa⟩
theorem Jn.below {w w' : World} {V : Value} {p : PS} {limit : Int} {P : Nat → Prop} (h : Jn w V p limit P) (hb : Below w.heap.size w w') : Jn w' V p limit P := h.keep (Tch.below (P := fun _ => False) hb) (fun _ _ => id)
/-- a call's step: what it touches, and which memory the journal has behind it -/
structure JStep (P P' : Nat → Prop) (w w' : World) : Prop where
  tch : Tch P w w'
  new : ∀ k, P' k → P k ∨ w.heap.size ≤ k
theorem JStep.refl (P : Nat → Prop) (w : World) : JStep P P w w := ⟨Tch.refl _ _, fun _ h => .inl h⟩
theorem JStep.trans {P P' P'' : Nat → Prop} {w w1 w2 : World} (h1 : JStep P P' w w1) (h2 : JStep P' P'' w1 w2) : JStep P P'' w w2 :=
  ⟨h1.tch.trans h2.tch h1.new, fun k hk => (h2.new k hk).elim (h1.new k) (fun h => .inr (Nat.le_trans h1.tch.size h))⟩
theorem goodLim_le {limit : Int} (h : goodLim limit = true) : 64 ≤ limit ∧ limit ≤ 16777216 := by unfold goodLim at h; simpa using h
theorem logLen_ge {rs : List (List Int)} (h : ∀ r ∈ rs, GoodR r) : 13 * rs.length ≤ logLen rs := by
  induction rs with
  | nil => exact Nat.le_refl _
  | cons r rs ih =>
    have h1 := (h r (by simp)).1
    have := ih (fun r h2 => h r (by simp [h2]))
    rw [logLen, List.length_cons]; omega
theorem PS.Ok.recs_le {p : PS} {limit : Int} (h : p.Ok limit) (hl : limit ≤ 16777216) : p.rs.length ≤ 16777216 := by
  have h1 := logLen_ge h.rs1
  have h2 := h.lim
  unfold PS.len at h2
  omega
theorem begunSum_W (gen : Int) (st : List Int) : isW (begunSum gen st) := by unfold begunSum; exact crcM_W _ _
theorem PS.sum_W (p : PS) : isW p.sum := logSum_W (begunSum_W _ _) _
theorem slot01 (g : Int) : slotOf g = 0 ∨ slotOf g = 1 := (slotOf_cases g).imp (·.1) (·.1)
/-! ### Append -/
def appErr (p : PS) (limit : Int) (r : List Int) : Int := if r.length = 0 ∨ 8192 < r.length then 90 else if limit < (p.len : Int) + 12 + r.length then 91 else 0
def PS.app (p : PS) (r : List Int) : PS := { p with rs := p.rs ++ [r], wa := p.wa + 1 }
theorem PS.app_len (p : PS) (r : List Int) : (p.app r).len = p.len + (12 + r.length) := by
  simp only [PS.len, PS.app, logLen_snoc]; omega
theorem PS.app_cur (p : PS) (r : List Int) : (p.app r).cur = p.cur ++ recB p.sum r := by
  simp only [PS.cur, PS.app, slotB, PS.sum, logB_snoc, List.append_assoc]
theorem PS.app_sum (p : PS) (r : List Int) : (p.app r).sum = recSum2 p.sum r := by simp only [PS.sum, PS.app, logSum_snoc]
theorem PS.Ok.app {p : PS} {limit : Int} (h : p.Ok limit) {r : List Int} (hr : GoodR r) (hf : (p.len : Int) + 12 + r.length ≤ limit) : (p.app r).Ok limit := by
  refine ⟨h.gen1, h.gen2, h.st1, h.st2, fun x hx => ?_, ?_, h.old, ?_, h.sy2⟩
  · rw [PS.app, List.mem_append] at hx
    rcases hx with hx | hx
    · exact h.rs1 x hx
    · rw [List.mem_singleton] at hx; subst hx; exact hr
  · rw [PS.app_len]; omega
  · have := h.sy1; rw [PS.app_len]; show p.sy ≤ _; omega
def Did (w w' : World) (V : Value) (q : PS) (limit : Int) (P : Nat → Prop) : Prop := ∃ P', Jn w' V q limit P' ∧ JStep P P' w w'
theorem Did.same {w w' : World} {V : Value} {p : PS} {limit : Int} {P : Nat → Prop} (h : Jn w V p limit P) (hd : Below w.heap.size w w') : Did w w' V p limit P := ⟨P, h.below hd, Tch.below hd, fun _ hk => .inl hk⟩
theorem jn_append {w : World} {V : Value} {p : PS} {limit : Int} {P : Nat → Prop} (h : Jn w V p limit P) (A : Option Addr) (n c : Nat) (r : List Int) (hl : r.length = n) (hb : ∀ x ∈ r, isB x) (hR : U8s w.heap.size w A r) (hA : r ≠ [] → ∀ q, A = some q → ¬ P q.block) :
    Calls Tryd.prog 42 #[V, .slice A n c] w fun e w' => e = .returned (.int .i64 (appErr p limit r)) ∧ Did w w' V (if appErr p limit r = 0 then p.app r else p) limit P := by
  obtain ⟨hl0, hl1⟩ := goodLim_le h.lim
  have hrl := h.ok.recs_le hl1
  have hwa := h.wa
  obtain ⟨j, s0, s1, rfl, hJ, hP⟩ := h.at'
  subst hl
  have hc := p.cur_len
  by_cases h1 : r.length = 0 ∨ 8192 < r.length
  · have e : appErr p limit r = 90 := by unfold appErr; rw [if_pos h1]
    rw [e, if_neg (by decide)]
    refine (append_bad w 0 _ j _ _ _ hJ A _ c h1).mono ?_
    rintro e w' ⟨rfl, rfl⟩
    exact ⟨rfl, Did.same h (Below.refl _ _)⟩
  have g1 : 1 ≤ r.length ∧ r.length ≤ 8192 := by omega
  have hA := hA (fun h => by rw [h] at g1; simp at g1)
  by_cases h2 : limit < (p.len : Int) + 12 + r.length
  · have e : appErr p limit r = 91 := by unfold appErr; rw [if_neg h1, if_pos h2]
    rw [e, if_neg (by decide)]
    have hln := h.ok.lim
    rcases slot01 p.gen with hs | hs
    · have e0 : (p.jl limit).l0 = p.cur := by show (if slotOf p.gen = 0 then _ else _) = _; rw [if_pos hs]
      refine (append_full_0 w 0 _ j _ _ _ hJ hs A _ c g1.1 g1.2 (by rw [e0, hc]; omega) (by rw [e0, hc]; exact h2)).mono ?_
      rintro e w' ⟨rfl, hd⟩
      exact ⟨rfl, Did.same h (hd.below _)⟩
    · have e1 : (p.jl limit).l1 = p.cur := by show (if slotOf p.gen = 0 then _ else _) = _; rw [if_neg (by omega)]
      refine (append_full_1 w 0 _ j _ _ _ hJ hs A _ c g1.1 g1.2 (by rw [e1, hc]; omega) (by rw [e1, hc]; exact h2)).mono ?_
      rintro e w' ⟨rfl, hd⟩
      exact ⟨rfl, Did.same h (hd.below _)⟩
  have e : appErr p limit r = 0 := by unfold appErr; rw [if_neg h1, if_neg h2]
  rw [e, if_pos rfl]
  have hok : (p.app r).Ok limit := h.ok.app ⟨g1.1, g1.2, hb⟩ (by omega)
  rcases slot01 p.gen with hs | hs
  · have e0 : (p.jl limit).l0 = p.cur := by show (if slotOf p.gen = 0 then _ else _) = _; rw [if_pos hs]
    have ej : { p.jl limit with l0 := (p.jl limit).l0 ++ recB (p.jl limit).sum r, sum := recSum2 (p.jl limit).sum r, recs := (p.jl limit).recs + 1, waiting := (p.jl limit).waiting + 1 } = (p.app r).jl limit := by
      refine jl_ext rfl rfl ?_ ?_ rfl rfl (p.app_sum r).symm ?_ rfl
      · show (p.jl limit).l0 ++ recB p.sum r = (if slotOf p.gen = 0 then (p.app r).cur else _); rw [if_pos hs, e0, PS.app_cur]
      · show (p.jl limit).l1 = (if slotOf p.gen = 0 then (p.app r).old else _); rw [if_pos hs]; show (if slotOf p.gen = 0 then _ else _) = _; rw [if_pos hs]; rfl
      · show p.rs.length + 1 = (p.rs ++ [r]).length; simp
    refine (append_0 w 0 _ j _ _ _ hJ hs A _ c r rfl g1.1 g1.2 hb hR (fun q hq hk => hA q hq ((hP _).2 (.inr (.inl hk)))) hl1 (by rw [e0, hc]; show (p.len : Int) + 12 + r.length ≤ limit; omega) p.sum_W (by show p.rs.length ≤ _; omega) (by show p.wa ≤ _; omega)).mono ?_
    rintro e w' ⟨A', n', c', rfl, hn', hbx, ho, hnew, ht⟩
    have hlt := fun k hk => (ho.lt k hk).2
    refine ⟨rfl, fun k => k = j ∨ (SV.v (A', n', c')).ownBlock = some k ∨ s1.v.ownBlock = some k, ⟨⟨j, (A', n', c'), s1, rfl, ⟨?_, Nat.zero_le _, Nat.lt_of_lt_of_le hJ.jhi ht.size, ?_, ht.own ?_ ?_, hlt, fun k hk => Nat.lt_of_lt_of_le (hJ.hi1 k hk) ht.size, ?_⟩, fun k => Iff.rfl⟩, hok, h.lim, ?_⟩, ?_, ?_⟩
    · rw [← ej]; exact hbx
    · rw [← ej]; exact ho
    · rw [← ej]; exact hJ.own1
    · intro k hk h3
      rcases h3 with rfl | h3
      · obtain ⟨_, cs, hc⟩ := hJ.own1.cells hk
        rw [hJ.box] at hc
        injection hc with hc
        injection hc with _ hc
        exact absurd hc (by decide)
      · exact hJ.apart k h3 hk
    · intro k hk h3
      rcases hnew k hk with h4 | h4
      · exact hJ.apart k h4 h3
      · have := hJ.hi1 k h3; omega
    · show p.wa + 1 ≤ (p.rs ++ [r]).length; simp; omega
    · exact ht.mono fun k hk => (hP k).2 (hk.imp id .inl)
    · rintro k (rfl | hk | hk)
      · exact .inl ((hP _).2 (.inl rfl))
      · rcases hnew k hk with h4 | h4
        · exact .inl ((hP _).2 (.inr (.inl h4)))
        · exact .inr h4
      · exact .inl ((hP _).2 (.inr (.inr hk)))
  · have e1 : (p.jl limit).l1 = p.cur := by show (if slotOf p.gen = 0 then _ else _) = _; rw [if_neg (by omega)]
    have ej : { p.jl limit with l1 := (p.jl limit).l1 ++ recB (p.jl limit).sum r, sum := recSum2 (p.jl limit).sum r, recs := (p.jl limit).recs + 1, waiting := (p.jl limit).waiting + 1 } = (p.app r).jl limit := by
      refine jl_ext rfl rfl ?_ ?_ rfl rfl (p.app_sum r).symm ?_ rfl
      · show (p.jl limit).l0 = (if slotOf p.gen = 0 then (p.app r).cur else _); rw [if_neg (by omega)]; show (if slotOf p.gen = 0 then _ else _) = _; rw [if_neg (by omega)]; rfl
      · show (p.jl limit).l1 ++ recB p.sum r = (if slotOf p.gen = 0 then _ else (p.app r).cur); rw [if_neg (by omega), e1, PS.app_cur]
      · show p.rs.length + 1 = (p.rs ++ [r]).length; simp
    refine (append_1 w 0 _ j _ _ _ hJ hs A _ c r rfl g1.1 g1.2 hb hR (fun q hq hk => hA q hq ((hP _).2 (.inr (.inr hk)))) hl1 (by rw [e1, hc]; show (p.len : Int) + 12 + r.length ≤ limit; omega) p.sum_W (by show p.rs.length ≤ _; omega) (by show p.wa ≤ _; omega)).mono ?_
    rintro e w' ⟨A', n', c', rfl, hn', hbx, ho, hnew, ht⟩
    have hlt := fun k hk => (ho.lt k hk).2
    refine ⟨rfl, fun k => k = j ∨ s0.v.ownBlock = some k ∨ (SV.v (A', n', c')).ownBlock = some k, ⟨⟨j, s0, (A', n', c'), rfl, ⟨?_, Nat.zero_le _, Nat.lt_of_lt_of_le hJ.jhi ht.size, ht.own ?_ ?_, ?_, fun k hk => Nat.lt_of_lt_of_le (hJ.hi0 k hk) ht.size, hlt, ?_⟩, fun k => Iff.rfl⟩, hok, h.lim, ?_⟩, ?_, ?_⟩
    · rw [← ej]; exact hbx
    · rw [← ej]; exact hJ.own0
    · intro k hk h3
      rcases h3 with rfl | h3
      · obtain ⟨_, cs, hc⟩ := hJ.own0.cells hk
        rw [hJ.box] at hc
        injection hc with hc
        injection hc with _ hc
        exact absurd hc (by decide)
      · exact hJ.apart k hk h3
    · rw [← ej]; exact ho
    · intro k hk h3
      rcases hnew k h3 with h4 | h4
      · exact hJ.apart k hk h4
      · have := hJ.hi0 k hk; omega
    · show p.wa + 1 ≤ (p.rs ++ [r]).length; simp; omega
    · exact ht.mono fun k hk => (hP k).2 (hk.imp id .inr)
    · rintro k (rfl | hk | hk)
      · exact .inl ((hP _).2 (.inl rfl))
      · exact .inl ((hP _).2 (.inr (.inl hk)))
      · rcases hnew k hk with h4 | h4
        · exact .inl ((hP _).2 (.inr (.inr h4)))
        · exact .inr h4
end Go.Proofs.YtfcgmlofiaehkaaDoor
