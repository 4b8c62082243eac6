/- Layer 9, plain: what a journal holds, and what is found of it behind a crash. -/
import Derived.Test.YtfcgmlofiaehkaaDoorJY
import Derived.Test.YtfcgmlofiaehkaaDoorJM
namespace Go.Proofs.YtfcgmlofiaehkaaDoor
open Go.RowKit

/-- what a journal holds: its generation, its state, its records, how many bytes of the slot in use are synced, how many records wait, what the other slot holds -/
structure PS where
  gen : Int
  st : List Int
  rs : List (List Int)
  sy : Nat
  wa : Nat
  prev : Option (List Int × List (List Int))
def slotOf (gen : Int) : Nat := if gen % 2 = 1 then 0 else 1
def PS.cur (p : PS) : List Int := slotB p.gen p.st p.rs
def PS.old (p : PS) : List Int := match p.prev with
  | none => []
  | some x => slotB (p.gen - 1) x.1 x.2
def PS.len (p : PS) : Nat := 24 + p.st.length + logLen p.rs
structure PS.Ok (p : PS) (limit : Int) : Prop where
  gen1 : 1 ≤ p.gen
  gen2 : p.gen ≤ 18446744073709551615
  st1 : ∀ x ∈ p.st, isB x
  st2 : p.st.length ≤ 4194304
  rs1 : ∀ r ∈ p.rs, GoodR r
  lim : (p.len : Int) ≤ limit
  old : ∀ x, p.prev = some x → (∀ y ∈ x.1, isB y) ∧ x.1.length ≤ 4194304 ∧ (∀ r ∈ x.2, GoodR r) ∧ ((24 + x.1.length + logLen x.2 : Nat) : Int) ≤ limit ∧ 2 ≤ p.gen
  sy1 : p.sy ≤ p.len
  sy2 : p.prev = none → 24 + p.st.length ≤ p.sy
def PS.sum (p : PS) : Int := logSum (begunSum p.gen p.st) p.rs
def PS.jl (p : PS) (limit : Int) : JL :=
  ⟨limit, slotOf p.gen, if slotOf p.gen = 0 then p.cur else p.old, if slotOf p.gen = 0 then p.old else p.cur, p.sy, p.gen, p.sum, p.rs.length, p.wa⟩
theorem slotOf_cases (g : Int) : slotOf g = 0 ∧ g % 2 = 1 ∨ slotOf g = 1 ∧ g % 2 = 0 := by
  unfold slotOf
  by_cases h : g % 2 = 1
  · exact .inl ⟨if_pos h, h⟩
  · exact .inr ⟨if_neg h, by omega⟩
theorem slotOf_pred (g : Int) : slotOf (g - 1) = 1 - slotOf g := by
  rcases slotOf_cases g with ⟨h, h2⟩ | ⟨h, h2⟩ <;> rcases slotOf_cases (g - 1) with ⟨h3, h4⟩ | ⟨h3, h4⟩ <;> omega
theorem slotOf_succ (g : Int) : slotOf (g + 1) = 1 - slotOf g := by
  rcases slotOf_cases g with ⟨h, h2⟩ | ⟨h, h2⟩ <;> rcases slotOf_cases (g + 1) with ⟨h3, h4⟩ | ⟨h3, h4⟩ <;> omega
theorem PS.cur_len (p : PS) : p.cur.length = p.len := slotB_len _ _ _
theorem PS.Ok.cur_byte {p : PS} {limit : Int} (h : p.Ok limit) : ∀ x ∈ p.cur, isB x := slotB_byte ⟨by have := h.gen1; omega, h.gen2⟩ h.st1 (by have := h.st2; omega) h.rs1
theorem PS.Ok.old_byte {p : PS} {limit : Int} (h : p.Ok limit) : ∀ x ∈ p.old, isB x := by
  unfold PS.old
  cases e : p.prev with
  | none => intro x hx; simp at hx
  | some x =>
    obtain ⟨h1, h2, h3, h4, h5⟩ := h.old x e
    exact slotB_byte ⟨by omega, by have := h.gen2; omega⟩ h1 (by omega) h3
theorem PS.Ok.old_len {p : PS} {limit : Int} (h : p.Ok limit) (hl : 0 ≤ limit) : (p.old.length : Int) ≤ limit := by
  unfold PS.old
  cases e : p.prev with
  | none => simpa using hl
  | some x =>
    obtain ⟨h1, h2, h3, h4, h5⟩ := h.old x e
    simp only [slotB_len]; exact h4
/-- what is found where n bytes of the slot in use are left -/
def PS.cut (p : PS) (n : Nat) : PS :=
  if 24 + p.st.length ≤ n then
    { p with rs := p.rs.take (fitN p.rs (n - (24 + p.st.length))), sy := 24 + p.st.length + logLen (p.rs.take (fitN p.rs (n - (24 + p.st.length)))), wa := 0 }
  else match p.prev with
    | none => p
    | some x => ⟨p.gen - 1, x.1, x.2, 24 + x.1.length + logLen x.2, 0, none⟩
def PS.torn (p : PS) (n : Nat) : Nat := if 24 + p.st.length ≤ n then tornN p.rs (n - (24 + p.st.length)) else n
structure OpenTo (b0 b1 : List Int) (limit : Int) (q : PS) (torn : Nat) : Prop where
  ok : OkOpen b0 b1 limit
  jl : openJ b0 b1 limit = q.jl limit
  recs : (heldAt (scanL b0 0).1 (scanL b1 1).1 (useOf (scanL b0 0).1 (scanL b1 1).1)).recs = q.rs
  state : (heldAt (scanL b0 0).1 (scanL b1 1).1 (useOf (scanL b0 0).1 (scanL b1 1).1)).state = q.st
  torn : openTorn b0 b1 = torn
  good : q.Ok limit
theorem scan_old {p : PS} {limit : Int} (h : p.Ok limit) {which : Int} (hw : (p.gen - 1) % 2 ≠ which) :
    (p.prev = none ∧ p.old = [] ∧ scanL p.old which = (.none, (0, false))) ∨ ∃ x a, p.prev = some x ∧ p.old.length = 24 + x.1.length + logLen x.2 ∧ scanL p.old which = (⟨true, p.gen - 1, x.1, x.2, 24 + x.1.length + logLen x.2, logSum (begunSum (p.gen - 1) x.1) x.2⟩, (a, false)) := by
  unfold PS.old
  cases e : p.prev with
  | none => exact .inl ⟨rfl, rfl, rfl⟩
  | some x =>
    obtain ⟨h1, h2, h3, h4, h5⟩ := h.old x e
    obtain ⟨a, ha⟩ := scan_slot (gen := p.gen - 1) (st := x.1) (rs := x.2) (which := which) (tl := []) ⟨by omega, by have := h.gen2; omega⟩ h2 hw h3 (Torn.none _)
    rw [List.append_nil] at ha
    exact .inr ⟨x, a, rfl, slotB_len _ _ _, ha⟩
theorem scan_cur {p : PS} {limit : Int} (h : p.Ok limit) {which : Int} (hw : p.gen % 2 ≠ which) (n : Nat) (hn : 24 + p.st.length ≤ n) :
    ∃ a tl, p.cur.take n = slotB p.gen p.st (p.rs.take (fitN p.rs (n - (24 + p.st.length)))) ++ tl ∧ tl.length = tornN p.rs (n - (24 + p.st.length)) ∧
      scanL (p.cur.take n) which = (⟨true, p.gen, p.st, p.rs.take (fitN p.rs (n - (24 + p.st.length))), 24 + p.st.length + logLen (p.rs.take (fitN p.rs (n - (24 + p.st.length)))), logSum (begunSum p.gen p.st) (p.rs.take (fitN p.rs (n - (24 + p.st.length))))⟩, (a, false)) := by
  obtain ⟨tl, h1, h2, h3⟩ := slot_take (gen := p.gen) (st := p.st) h.rs1 n hn
  obtain ⟨a, ha⟩ := scan_slot (gen := p.gen) (st := p.st) (which := which) ⟨by have := h.gen1; omega, h.gen2⟩ h.st2 hw (fun r hr => h.rs1 r (List.mem_of_mem_take hr)) h1
  refine ⟨a, tl, h2, h3, ?_⟩
  show scanL ((slotB p.gen p.st p.rs).take n) which = _
  rw [h2]; exact ha
theorem scan_cur_cut {p : PS} {limit : Int} (h : p.Ok limit) {which : Int} (hw : p.gen % 2 ≠ which) (n : Nat) (hn : n < 24 + p.st.length) : ∃ a, scanL (p.cur.take n) which = (.none, (a, false)) := by
  have e : p.cur.take n = (begunB p.gen p.st).take n := by
    show (slotB p.gen p.st p.rs).take n = _
    rw [slotB, List.take_append_of_le_length (by rw [begunB_len]; omega)]
  rw [e]
  exact scan_cut ⟨by have := h.gen1; omega, h.gen2⟩ h.st2 hw n hn
theorem PS.cut_old {p : PS} {n : Nat} (h : 24 + p.st.length ≤ n) : (p.cut n).old = p.old ∧ (p.cut n).gen = p.gen := by
  unfold PS.cut; rw [if_pos h]; exact ⟨rfl, rfl⟩
theorem PS.Ok.cut {p : PS} {limit : Int} (h : p.Ok limit) (n : Nat) (_ : p.sy ≤ n) : (p.cut n).Ok limit := by
  by_cases hc : 24 + p.st.length ≤ n
  · unfold PS.cut
    rw [if_pos hc]
    have hle : ∀ (l : List (List Int)) (m : Nat), logLen (l.take m) ≤ logLen l := fun l => by
      induction l with
      | nil => intro m; simp
      | cons r l ih => intro m; cases m with
        | zero => simp [logLen]
        | succ m => rw [List.take_succ_cons, logLen, logLen]; have := ih m; omega
    have := hle p.rs (fitN p.rs (n - (24 + p.st.length)))
    have hl := h.lim
    unfold PS.len at hl
    exact ⟨h.gen1, h.gen2, h.st1, h.st2, fun r hr => h.rs1 r (List.mem_of_mem_take hr), by simp only [PS.len]; omega, h.old, by simp only [PS.len]; omega, fun _ => by simp only []; omega⟩
  · unfold PS.cut
    rw [if_neg hc]
    cases e : p.prev with
    | none => have := h.sy2 e; omega
    | some x =>
      obtain ⟨h1, h2, h3, h4, h5⟩ := h.old x e
      exact ⟨by show 1 ≤ p.gen - 1; omega, by have := h.gen2; show p.gen - 1 ≤ _; omega, h1, h2, h3, h4, (fun y hy => nomatch hy), Nat.le_refl _, fun _ => Nat.le_add_right _ _⟩
theorem jl_ext {a b : JL} (h1 : a.limit = b.limit) (h2 : a.use = b.use) (h3 : a.l0 = b.l0) (h4 : a.l1 = b.l1) (h5 : a.synced = b.synced) (h6 : a.gen = b.gen) (h7 : a.sum = b.sum) (h8 : a.recs = b.recs) (h9 : a.waiting = b.waiting) : a = b := by
  cases a; cases b; simp at *; simp [*]
/-- a disk opens to what is left of the slot in use, or to the generation before -/
theorem open_cut {p : PS} {limit : Int} (h : p.Ok limit) (hlim : goodLim limit = true) (n : Nat) (hn : p.sy ≤ n) (hn2 : n ≤ p.len) :
    OpenTo (if slotOf p.gen = 0 then p.cur.take n else p.old) (if slotOf p.gen = 0 then p.old else p.cur.take n) limit (p.cut n) (p.torn n) := by
  have hl0 : 0 ≤ limit := by unfold goodLim at hlim; simp at hlim; omega
  have hol := h.old_len hl0
  have hcl : ((p.cur.take n).length : Int) ≤ limit := by
    have := h.lim
    rw [List.length_take, p.cur_len]; omega
  have hq := h.cut n hn
  by_cases hc : 24 + p.st.length ≤ n
  · have hb : (p.cut n).old = p.old := (PS.cut_old hc).1
    have hgn : (p.cut n).gen = p.gen := (PS.cut_old hc).2
    have htorn : p.torn n = tornN p.rs (n - (24 + p.st.length)) := by unfold PS.torn; rw [if_pos hc]
    have hcut : p.cut n = { p with rs := p.rs.take (fitN p.rs (n - (24 + p.st.length))), sy := 24 + p.st.length + logLen (p.rs.take (fitN p.rs (n - (24 + p.st.length)))), wa := 0 } := by unfold PS.cut; rw [if_pos hc]
    have hcurq : (p.cut n).cur = slotB p.gen p.st (p.rs.take (fitN p.rs (n - (24 + p.st.length)))) := by rw [hcut]; rfl
    rcases slotOf_cases p.gen with ⟨hs, hg⟩ | ⟨hs, hg⟩
    · obtain ⟨a, tl, ht, htl, hsc⟩ := scan_cur h (which := 0) (by omega) n hc
      have htk : (p.cur.take n).take (24 + p.st.length + logLen (p.rs.take (fitN p.rs (n - (24 + p.st.length))))) = slotB p.gen p.st (p.rs.take (fitN p.rs (n - (24 + p.st.length)))) := by
        rw [ht, ← slotB_len p.gen, List.take_left]
      have htlen : (p.cur.take n).length = 24 + p.st.length + logLen (p.rs.take (fitN p.rs (n - (24 + p.st.length)))) + tornN p.rs (n - (24 + p.st.length)) := by
        rw [ht, List.length_append, slotB_len, htl]
      rw [hs, if_pos rfl, if_pos rfl]
      rcases scan_old h (which := 1) (by omega) with ⟨hp, hpo, hso⟩ | ⟨x, b, hp, hpl, hso⟩
      · have hu : useOf (scanL (p.cur.take n) 0).1 (scanL p.old 1).1 = 0 := by rw [hsc, hso]; rfl
        refine ⟨⟨hlim, hcl, hol, by rw [hsc], by rw [hso], by rw [hsc]; exact .inl rfl, by intro _ h2; rw [hso] at h2; cases h2⟩, ?_, by rw [hu, hsc, hcut]; rfl, by rw [hu, hsc, hcut]; rfl, ?_, hq⟩
        · refine jl_ext rfl ?_ ?_ ?_ ?_ ?_ ?_ ?_ ?_
          · show useOf _ _ = slotOf _; rw [hu, hgn, hs]
          · show (p.cur.take n).take (scanL (p.cur.take n) 0).1.good = (if slotOf (p.cut n).gen = 0 then _ else _)
            rw [hgn, hs, if_pos rfl, hsc, hcurq]; exact htk
          · show p.old.take (scanL p.old 1).1.good = (if slotOf (p.cut n).gen = 0 then _ else _)
            rw [hgn, hs, if_pos rfl, hb, hpo]; simp
          · show (heldAt _ _ (useOf _ _)).good = _; rw [hu, hsc, hcut]; rfl
          · show (heldAt _ _ (useOf _ _)).gen = _; rw [hu, hsc, hcut]; rfl
          · show (heldAt _ _ (useOf _ _)).sum = _; rw [hu, hsc, hcut]; rfl
          · show (heldAt _ _ (useOf _ _)).recs.length = _; rw [hu, hsc, hcut]; rfl
          · rw [hcut]; rfl
        · unfold openTorn; rw [hsc, hso, htlen, hpo, htorn]; simp
      · have hu : useOf (scanL (p.cur.take n) 0).1 (scanL p.old 1).1 = 0 := by
          rw [hsc, hso]; unfold useOf; simp only [and_self, if_true]; rw [if_neg (by omega)]
        refine ⟨⟨hlim, hcl, hol, by rw [hsc], by rw [hso], by rw [hsc]; exact .inl rfl, by intro _ _; rw [hu, hsc, hso]; rfl⟩, ?_, by rw [hu, hsc, hcut]; rfl, by rw [hu, hsc, hcut]; rfl, ?_, hq⟩
        · refine jl_ext rfl ?_ ?_ ?_ ?_ ?_ ?_ ?_ ?_
          · show useOf _ _ = slotOf _; rw [hu, hgn, hs]
          · show (p.cur.take n).take (scanL (p.cur.take n) 0).1.good = (if slotOf (p.cut n).gen = 0 then _ else _)
            rw [hgn, hs, if_pos rfl, hsc, hcurq]; exact htk
          · show p.old.take (scanL p.old 1).1.good = (if slotOf (p.cut n).gen = 0 then _ else _)
            rw [hgn, hs, if_pos rfl, hb, hso]; exact List.take_of_length_le (by simp only []; omega)
          · show (heldAt _ _ (useOf _ _)).good = _; rw [hu, hsc, hcut]; rfl
          · show (heldAt _ _ (useOf _ _)).gen = _; rw [hu, hsc, hcut]; rfl
          · show (heldAt _ _ (useOf _ _)).sum = _; rw [hu, hsc, hcut]; rfl
          · show (heldAt _ _ (useOf _ _)).recs.length = _; rw [hu, hsc, hcut]; rfl
          · rw [hcut]; rfl
        · unfold openTorn; rw [hsc, hso, htlen, htorn]; simp only []; omega
    · obtain ⟨a, tl, ht, htl, hsc⟩ := scan_cur h (which := 1) (by omega) n hc
      have htk : (p.cur.take n).take (24 + p.st.length + logLen (p.rs.take (fitN p.rs (n - (24 + p.st.length))))) = slotB p.gen p.st (p.rs.take (fitN p.rs (n - (24 + p.st.length)))) := by
        rw [ht, ← slotB_len p.gen, List.take_left]
      have htlen : (p.cur.take n).length = 24 + p.st.length + logLen (p.rs.take (fitN p.rs (n - (24 + p.st.length)))) + tornN p.rs (n - (24 + p.st.length)) := by
        rw [ht, List.length_append, slotB_len, htl]
      rw [hs, if_neg (by decide), if_neg (by decide)]
      rcases scan_old h (which := 0) (by omega) with ⟨hp, hpo, hso⟩ | ⟨x, b, hp, hpl, hso⟩
      · have hu : useOf (scanL p.old 0).1 (scanL (p.cur.take n) 1).1 = 1 := by rw [hsc, hso]; rfl
        refine ⟨⟨hlim, hol, hcl, by rw [hso], by rw [hsc], by rw [hsc]; exact .inr rfl, by intro h2; rw [hso] at h2; cases h2⟩, ?_, by rw [hu, hsc, hcut]; rfl, by rw [hu, hsc, hcut]; rfl, ?_, hq⟩
        · refine jl_ext rfl ?_ ?_ ?_ ?_ ?_ ?_ ?_ ?_
          · show useOf _ _ = slotOf _; rw [hu, hgn, hs]
          · show p.old.take (scanL p.old 0).1.good = (if slotOf (p.cut n).gen = 0 then _ else _)
            rw [hgn, hs, if_neg (by decide), hb, hpo]; simp
          · show (p.cur.take n).take (scanL (p.cur.take n) 1).1.good = (if slotOf (p.cut n).gen = 0 then _ else _)
            rw [hgn, hs, if_neg (by decide), hsc, hcurq]; exact htk
          · show (heldAt _ _ (useOf _ _)).good = _; rw [hu, hsc, hcut]; rfl
          · show (heldAt _ _ (useOf _ _)).gen = _; rw [hu, hsc, hcut]; rfl
          · show (heldAt _ _ (useOf _ _)).sum = _; rw [hu, hsc, hcut]; rfl
          · show (heldAt _ _ (useOf _ _)).recs.length = _; rw [hu, hsc, hcut]; rfl
          · rw [hcut]; rfl
        · unfold openTorn; rw [hsc, hso, htlen, hpo, htorn]; simp
      · have hu : useOf (scanL p.old 0).1 (scanL (p.cur.take n) 1).1 = 1 := by
          rw [hsc, hso]; unfold useOf; simp only [and_self, if_true]; rw [if_pos (by omega)]
        refine ⟨⟨hlim, hol, hcl, by rw [hso], by rw [hsc], by rw [hsc]; exact .inr rfl, by intro _ _; rw [hu, hsc, hso]; rfl⟩, ?_, by rw [hu, hsc, hcut]; rfl, by rw [hu, hsc, hcut]; rfl, ?_, hq⟩
        · refine jl_ext rfl ?_ ?_ ?_ ?_ ?_ ?_ ?_ ?_
          · show useOf _ _ = slotOf _; rw [hu, hgn, hs]
          · show p.old.take (scanL p.old 0).1.good = (if slotOf (p.cut n).gen = 0 then _ else _)
            rw [hgn, hs, if_neg (by decide), hb, hso]; exact List.take_of_length_le (by simp only []; omega)
          · show (p.cur.take n).take (scanL (p.cur.take n) 1).1.good = (if slotOf (p.cut n).gen = 0 then _ else _)
            rw [hgn, hs, if_neg (by decide), hsc, hcurq]; exact htk
          · show (heldAt _ _ (useOf _ _)).good = _; rw [hu, hsc, hcut]; rfl
          · show (heldAt _ _ (useOf _ _)).gen = _; rw [hu, hsc, hcut]; rfl
          · show (heldAt _ _ (useOf _ _)).sum = _; rw [hu, hsc, hcut]; rfl
          · show (heldAt _ _ (useOf _ _)).recs.length = _; rw [hu, hsc, hcut]; rfl
          · rw [hcut]; rfl
        · unfold openTorn; rw [hsc, hso, htlen, htorn]; simp only []; omega
  · have htorn : p.torn n = n := by unfold PS.torn; rw [if_neg hc]
    have hln : (p.cur.take n).length = n := by rw [List.length_take, p.cur_len]; omega
    cases hp : p.prev with
    | none => have := h.sy2 hp; omega
    | some x =>
      have hcut : p.cut n = ⟨p.gen - 1, x.1, x.2, 24 + x.1.length + logLen x.2, 0, none⟩ := by unfold PS.cut; rw [if_neg hc, hp]
      have hcurq : (p.cut n).cur = p.old := by rw [hcut]; unfold PS.old; rw [hp]; rfl
      have holdq : (p.cut n).old = [] := by rw [hcut]; rfl
      have hgn : (p.cut n).gen = p.gen - 1 := by rw [hcut]
      have hsp := slotOf_pred p.gen
      rcases slotOf_cases p.gen with ⟨hs, hg⟩ | ⟨hs, hg⟩
      · obtain ⟨a, hsc⟩ := scan_cur_cut h (which := 0) (by omega) n (by omega)
        rw [hs, if_pos rfl, if_pos rfl]
        rw [hs] at hsp
        rcases scan_old h (which := 1) (by omega) with ⟨hp2, hpo, hso⟩ | ⟨x2, b, hp2, hpl, hso⟩
        · rw [hp] at hp2; cases hp2
        obtain rfl : x = x2 := by rw [hp] at hp2; injection hp2
        have hu : useOf (scanL (p.cur.take n) 0).1 (scanL p.old 1).1 = 1 := by rw [hsc, hso]; rfl
        refine ⟨⟨hlim, hcl, hol, by rw [hsc], by rw [hso], by rw [hso]; exact .inr rfl, by intro h2; rw [hsc] at h2; cases h2⟩, ?_, by rw [hu, hso, hcut]; rfl, by rw [hu, hso, hcut]; rfl, ?_, hq⟩
        · refine jl_ext rfl ?_ ?_ ?_ ?_ ?_ ?_ ?_ ?_
          · show useOf _ _ = slotOf _; rw [hu, hgn, hsp]
          · show (p.cur.take n).take (scanL (p.cur.take n) 0).1.good = (if slotOf (p.cut n).gen = 0 then _ else _)
            rw [hgn, hsp, if_neg (by decide), hsc, holdq]; rfl
          · show p.old.take (scanL p.old 1).1.good = (if slotOf (p.cut n).gen = 0 then _ else _)
            rw [hgn, hsp, if_neg (by decide), hso, hcurq]; exact List.take_of_length_le (by simp only []; omega)
          · show (heldAt _ _ (useOf _ _)).good = _; rw [hu, hso, hcut]; rfl
          · show (heldAt _ _ (useOf _ _)).gen = _; rw [hu, hso, hcut]; rfl
          · show (heldAt _ _ (useOf _ _)).sum = _; rw [hu, hso, hcut]; rfl
          · show (heldAt _ _ (useOf _ _)).recs.length = _; rw [hu, hso, hcut]; rfl
          · rw [hcut]; rfl
        · unfold openTorn; rw [hsc, hso, hln, htorn, hpl]; simp only [SlotL.none]; omega
      · obtain ⟨a, hsc⟩ := scan_cur_cut h (which := 1) (by omega) n (by omega)
        rw [hs, if_neg (by decide), if_neg (by decide)]
        rw [hs] at hsp
        rcases scan_old h (which := 0) (by omega) with ⟨hp2, hpo, hso⟩ | ⟨x2, b, hp2, hpl, hso⟩
        · rw [hp] at hp2; cases hp2
        obtain rfl : x = x2 := by rw [hp] at hp2; injection hp2
        have hu : useOf (scanL p.old 0).1 (scanL (p.cur.take n) 1).1 = 0 := by rw [hsc, hso]; rfl
        refine ⟨⟨hlim, hol, hcl, by rw [hso], by rw [hsc], by rw [hso]; exact .inl rfl, by intro _ h2; rw [hsc] at h2; cases h2⟩, ?_, by rw [hu, hso, hcut]; rfl, by rw [hu, hso, hcut]; rfl, ?_, hq⟩
        · refine jl_ext rfl ?_ ?_ ?_ ?_ ?_ ?_ ?_ ?_
          · show useOf _ _ = slotOf _; rw [hu, hgn, hsp]
          · show p.old.take (scanL p.old 0).1.good = (if slotOf (p.cut n).gen = 0 then _ else _)
            rw [hgn, hsp, if_pos rfl, hso, hcurq]; exact List.take_of_length_le (by simp only []; omega)
          · show (p.cur.take n).take (scanL (p.cur.take n) 1).1.good = (if slotOf (p.cut n).gen = 0 then _ else _)
            rw [hgn, hsp, if_pos rfl, hsc, holdq]; rfl
          · show (heldAt _ _ (useOf _ _)).good = _; rw [hu, hso, hcut]; rfl
          · show (heldAt _ _ (useOf _ _)).gen = _; rw [hu, hso, hcut]; rfl
          · show (heldAt _ _ (useOf _ _)).sum = _; rw [hu, hso, hcut]; rfl
          · show (heldAt _ _ (useOf _ _)).recs.length = _; rw [hu, hso, hcut]; rfl
          · rw [hcut]; rfl
        · unfold openTorn; rw [hsc, hso, hln, htorn, hpl]; simp only [SlotL.none]; omega
end Go.Proofs.YtfcgmlofiaehkaaDoor
