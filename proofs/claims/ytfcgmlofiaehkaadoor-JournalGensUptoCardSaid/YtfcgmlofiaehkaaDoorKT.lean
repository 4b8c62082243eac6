/- Layer 9's laws: a run: a journal, all records that were taken, how many are safe; add. -/
import Derived.Test.YtfcgmlofiaehkaaDoorKO
import Derived.Test.YtfcgmlofiaehkaaDoorOpenV
namespace Go.Proofs.YtfcgmlofiaehkaaDoor
open Go.RowKit

/-- a list of byte lists under the slice V, in the blocks Q -/
structure AllAt (w : World) (V : Value) (ls : List (List Int)) (Q : Nat → Prop) : Prop where
  own : ∃ vs : List SV, vs.length = ls.length ∧ w.ownsRow 0 22 1 V vs.length (vs.flatMap svE) ∧ (∀ (i : Nat) (s : SV) (l : List Int), vs[i]? = some s → ls[i]? = some l → OwnB w 0 s.v l) ∧ ∀ k, Q k ↔ V.ownBlock = some k ∨ ∃ s ∈ vs, s.v.ownBlock = some k
theorem AllAt.nil (w : World) : AllAt w (.slice none 0 0) [] (fun _ => False) := ⟨[], rfl, World.ownsRow_nil _ _ _ _, by simp, fun k => by simp [Value.ownBlock]⟩
theorem AllAt.lt {w : World} {V : Value} {ls : List (List Int)} {Q : Nat → Prop} (h : AllAt w V ls Q) (k : Nat) (hk : Q k) : k < w.heap.size := by
  obtain ⟨vs, h1, h2, h3, h4⟩ := h.own
  rcases (h4 k).1 hk with hk | ⟨s, hs, hk⟩
  · exact (h2.lt k hk).2
  · obtain ⟨i, hi⟩ := List.getElem?_of_mem hs
    have hlt := (List.getElem?_eq_some_iff.1 hi).1
    exact ((h3 i s _ hi (List.getElem?_eq_getElem (h1 ▸ hlt))).lt k hk).2
theorem AllAt.keep {w w' : World} {V : Value} {ls : List (List Int)} {Q T : Nat → Prop} (h : AllAt w V ls Q) (ht : Tch T w w') (hd : ∀ k, Q k → ¬ T k) : AllAt w' V ls Q := by
  obtain ⟨vs, h1, h2, h3, h4⟩ := h.own
  refine ⟨vs, h1, ht.own h2 (fun k hk => hd k ((h4 k).2 (.inl hk))), fun i s l hs hl => ht.own (h3 i s l hs hl) (fun k hk => hd k ((h4 k).2 (.inr ⟨s, List.mem_of_getElem? hs, hk⟩))), h4⟩
theorem AllAt.slice {w : World} {V : Value} {ls : List (List Int)} {Q : Nat → Prop} (h : AllAt w V ls Q) : ∃ A c, V = .slice A ls.length c ∧ ls.length ≤ c ∧ c ≤ maxLen ∧ NilOk A ls.length c := by
  obtain ⟨vs, h1, h2, _, _⟩ := h.own
  obtain ⟨_, A, c, rfl, h4, h5, _⟩ := owns_reads svE_len h2 (by decide)
  rw [h1] at h4 ⊢
  refine ⟨A, c, rfl, h4, h5, ?_⟩
  rintro rfl
  rcases h2.2 with ⟨h, _⟩ | ⟨g, cap, cur, h, _⟩
  · injection h with _ h1 h2; exact ⟨by omega, h2⟩
  · cases h
/-- the i-th list, read -/
theorem AllAt.at {w : World} {V : Value} {ls : List (List Int)} {Q : Nat → Prop} (h : AllAt w V ls Q) (i : Nat) (hi : i < ls.length) :
    ∃ g c A n k l, V = .slice (some ⟨g, 0, none⟩) ls.length c ∧ w.cell? ⟨g, i, none⟩ = some (.slice A n k) ∧ Hid (ls[i]? = some l) ∧ l.length = n ∧ n ≤ k ∧ NilOk A n k ∧ U8s w.heap.size w A l ∧ g < w.heap.size := by
  obtain ⟨vs, h1, h2, h3, _⟩ := h.own
  obtain ⟨s, hs⟩ : ∃ s, vs[i]? = some s := ⟨_, List.getElem?_eq_getElem (by omega)⟩
  rcases h2.2 with ⟨_, hz⟩ | ⟨g, cap, cur, rfl, _, hgc, _⟩
  · omega
  · have hc := h2.cells (g := g) rfl i (.slice s.1 s.2.1 s.2.2) (by
      have := flatMap_get svE_len vs i s hs 0 _ rfl
      simpa using this)
    rw [addr_add, Nat.zero_add] at hc
    have ho := h3 i s _ hs (List.getElem?_eq_getElem hi)
    obtain ⟨r1, r2, r3, r4⟩ := OwnB.reads ho
    exact ⟨g, cap, s.1, s.2.1, s.2.2, ls[i], by rw [h1], hc, List.getElem?_eq_getElem hi, r1, r2, NilOk.of_own ho, r4, (Array.getElem?_eq_some_iff.1 hgc).1⟩
theorem rowNe {w : World} {V : Value} {n : Nat} {vs : List SV} (h2 : w.ownsRow 0 22 1 V n (vs.flatMap svE)) {s : SV} {l : List Int} (h3 : OwnB w 0 s.v l) (k : Nat) (hk : s.v.ownBlock = some k) : V.ownBlock ≠ some k := fun e => by
  obtain ⟨_, cs, hc⟩ := h3.cells hk
  rcases h2.2 with ⟨rfl, _⟩ | ⟨g, cap, cur, rfl, _, hg, _⟩
  · cases e
  · obtain rfl : g = k := by simpa [Value.ownBlock] using e
    rw [hg] at hc
    injection hc with hc
    injection hc with _ hc
    exact absurd hc (by decide)
/-- the run in the box R -/
structure RunAt (w : World) (R : Nat) (V Va : Value) (p : PS) (ls : List (List Int)) (safe : Nat) (P Q : Nat → Prop) : Prop where
  box : w.heap[R]? = some (.cells #[V, Va, .int .i64 safe] 64 (0, 0))
  jn : Jn w V p room P
  all : AllAt w Va ls Q
  pr : ¬ P R
  qr : ¬ Q R
  pq : ∀ k, P k → ¬ Q k
theorem RunAt.keep {w w' : World} {R : Nat} {V Va : Value} {p : PS} {ls : List (List Int)} {safe : Nat} {P Q T : Nat → Prop} (h : RunAt w R V Va p ls safe P Q) (ht : Tch T w w') (hd : ∀ k, k = R ∨ P k ∨ Q k → ¬ T k) : RunAt w' R V Va p ls safe P Q :=
  ⟨ht.box h.box (hd R (.inl rfl)), h.jn.keep ht (fun k hk => hd k (.inr (.inl hk))), h.all.keep ht (fun k hk => hd k (.inr (.inr hk))), h.pr, h.qr, h.pq⟩
theorem RunAt.below {w w' : World} {R : Nat} {V Va : Value} {p : PS} {ls : List (List Int)} {safe : Nat} {P Q : Nat → Prop} (h : RunAt w R V Va p ls safe P Q) (hb : Below w.heap.size w w') : RunAt w' R V Va p ls safe P Q :=
  h.keep (Tch.below (P := fun _ => False) hb) (fun _ _ => id)
theorem RunAt.lt {w : World} {R : Nat} {V Va : Value} {p : PS} {ls : List (List Int)} {safe : Nat} {P Q : Nat → Prop} (h : RunAt w R V Va p ls safe P Q) : ∀ k, k = R ∨ P k ∨ Q k → k < w.heap.size := by
  rintro k (rfl | hk | hk)
  · exact (Array.getElem?_eq_some_iff.1 h.box).1
  · exact h.jn.lt k hk
  · exact h.all.lt k hk
theorem RunAt.cells {w : World} {R : Nat} {V Va : Value} {p : PS} {ls : List (List Int)} {safe : Nat} {P Q : Nat → Prop} (h : RunAt w R V Va p ls safe P Q) : w.cell? ⟨R, 0, none⟩ = some V ∧ w.cell? ⟨R, 1, none⟩ = some Va ∧ w.cell? ⟨R, 2, none⟩ = some (.int .i64 safe) ∧ w.frozen? ⟨R, 0, none⟩ = false ∧ w.frozen? ⟨R, 1, none⟩ = false ∧ w.frozen? ⟨R, 2, none⟩ = false := by
  refine ⟨?_, ?_, ?_, ?_, ?_, ?_⟩ <;> simp [World.cell?, World.frozen?, h.box]
def runT (R : Nat) (P Q : Nat → Prop) : Nat → Prop := fun k => k = R ∨ P k ∨ Q k
/-- behind a call: the run, and what was touched -/
def RunStep (w w' : World) (R : Nat) (p : PS) (ls : List (List Int)) (safe : Nat) (P Q : Nat → Prop) : Prop :=
  ∃ V Va P' Q', RunAt w' R V Va p ls safe P' Q' ∧ Tch (runT R P Q) w w' ∧ ∀ k, runT R P' Q' k → runT R P Q k ∨ w.heap.size ≤ k
def goodB (l : List Int) : Bool := decide (1 ≤ l.length ∧ l.length ≤ 8192)
/-- what a run is behind add -/
def addP (p : PS) (l : List Int) : PS := if goodB l = true then p.app l else p
def addL (ls : List (List Int)) (l : List Int) : List (List Int) := if goodB l = true then ls ++ [l] else ls
/-- an element more -/
theorem AllAt.push {w w2 w3 : World} {V V1 : Value} {ls : List (List Int)} {Q : Nat → Prop} {s : SV} {l : List Int} {vs : List SV} (h1 : vs.length = ls.length) (h2 : w2.ownsRow 0 22 1 V vs.length (vs.flatMap svE)) (h3 : ∀ (i : Nat) (s : SV) (l : List Int), vs[i]? = some s → ls[i]? = some l → OwnB w2 0 s.v l)
    (h4 : ∀ k, Q k ↔ V.ownBlock = some k ∨ ∃ s ∈ vs, s.v.ownBlock = some k) (hs : OwnB w2 0 s.v l) (hnew : ∀ k, s.v.ownBlock = some k → w.heap.size ≤ k) (hz : w.heap.size ≤ w2.heap.size)
    (hown : w3.ownsRow 0 22 1 V1 (vs ++ [s]).length ((vs ++ [s]).flatMap svE)) (hg : w2.grownBy w3 V.ownBlock) (hat : V1.ownBlock = V.ownBlock ∨ ∃ b, V1.ownBlock = some b ∧ w2.heap.size ≤ b) :
    ∃ Q', AllAt w3 V1 (ls ++ [l]) Q' ∧ (∀ k, Q' k → Q k ∨ w.heap.size ≤ k) := by
  have ht := Tch.grown hg
  have up : ∀ {t : SV} {m : List Int}, OwnB w2 0 t.v m → OwnB w3 0 t.v m := fun {t m} h => ht.own h (fun k hk e => rowNe h2 h k hk e)
  refine ⟨fun k => V1.ownBlock = some k ∨ ∃ t ∈ vs ++ [s], t.v.ownBlock = some k, ⟨vs ++ [s], by simp [h1], hown, fun i t m hti hmi => ?_, fun k => Iff.rfl⟩, fun k hk => ?_⟩
  · by_cases hi : i < vs.length
    · rw [List.getElem?_append_left hi] at hti
      rw [List.getElem?_append_left (by omega)] at hmi
      exact up (h3 i t m hti hmi)
    · have : i = vs.length := by
        have := (List.getElem?_eq_some_iff.1 hti).1
        simp at this; omega
      subst this
      simp at hti
      rw [h1] at hmi
      simp at hmi
      subst hti; subst hmi
      exact up hs
  · rcases hk with hk | ⟨t, ht2, hk⟩
    · rcases hat with hat | ⟨b, hat, hb⟩
      · exact .inl ((h4 k).2 (.inl (hat ▸ hk)))
      · rw [hat] at hk; injection hk with hk; subst hk; exact .inr (Nat.le_trans hz hb)
    · rcases List.mem_append.1 ht2 with ht2 | ht2
      · exact .inl ((h4 k).2 (.inr ⟨t, ht2, hk⟩))
      · rw [List.mem_singleton] at ht2; subst ht2; exact .inr (hnew k hk)
set_option maxRecDepth 100000 in
set_option maxHeartbeats 4000000 in
theorem add_any (w : World) (R : Nat) (V Va : Value) (p : PS) (ls : List (List Int)) (safe : Nat) (P Q : Nat → Prop) (h : RunAt w R V Va p ls safe P Q) (A : Option Addr) (n c : Nat) (l : List Int) (hl : l.length = n) (hn : n ≤ 140737488351232) (hb : ∀ x ∈ l, isB x) (hU : U8s w.heap.size w A l) (hA : l ≠ [] → ∀ q, A = some q → ¬ runT R P Q q.block)
    (hfit : goodB l = true → (p.len : Int) + 12 + n ≤ room) (hls : ls.length ≤ 1000000) : Calls Tryd.prog 26 #[.pointer (some ⟨R, 0, none⟩), .slice A n c] w fun e w' => e = .returned (.bool true) ∧ RunStep w w' R (addP p l) (addL ls l) safe P Q := by
  subst hl
  by_cases hg : goodB l = true
  case neg =>
    have hg' : ¬ (1 ≤ l.length ∧ l.length ≤ 8192) := by simpa [goodB] using hg
    have e1 : addP p l = p := by unfold addP; rw [if_neg hg]
    have e2 : addL ls l = ls := by unfold addL; rw [if_neg hg]
    have HFIN : Hid (RunStep w w R (addP p l) (addL ls l) safe P Q) := hid (by rw [e1, e2]; exact ⟨V, Va, P, Q, h, Tch.refl _ _, fun k hk => .inl hk⟩)
    clear h hU hA hfit e1 e2 hg
    by_cases hz : l.length = 0
    · have d0 : ((l.length : Int) == 0) = true := by rw [hz]; rfl
      have HZ := hid hz
      clear hz
      go_enter Tryd.func26, Tryd.ntmps26
      go_wp2_with fail
      refine bodyPost_ret (results_tmp rfl _ _ _) rfl ?_
      exact ⟨rfl, HFIN.out⟩
    · have d0 : ((l.length : Int) == 0) = false := by simpa using hz
      have d1 : decide ((8192 : Int) < (l.length : Int)) = true := by simp; omega
      go_enter Tryd.func26, Tryd.ntmps26
      go_wp2_with fail
      refine bodyPost_ret (results_tmp rfl _ _ _) rfl ?_
      exact ⟨rfl, HFIN.out⟩
  have hg' : 1 ≤ l.length ∧ l.length ≤ 8192 := by simpa [goodB] using hg
  obtain ⟨hg1, hg2⟩ := hg'
  have hfit := hfit hg
  have hne : l ≠ [] := fun e => by rw [e] at hg1; simp at hg1
  have hE : appErr p room l = 0 := by unfold appErr; rw [if_neg (by omega), if_neg (by omega)]
  have HEP : Hid (addP p l = p.app l) := hid (by unfold addP; rw [if_pos hg])
  have HEL : Hid (addL ls l = ls ++ [l]) := hid (by unfold addL; rw [if_pos hg])
  have hap := jn_append h.jn A l.length c l rfl hb hU (fun hne q hq hp => hA hne q hq (.inr (.inl hp)))
  rw [hE, if_pos rfl] at hap
  obtain ⟨x0, x1, x2, f0, f1, f2⟩ := h.cells
  have d0 : ((l.length : Int) == 0) = false := by simp; exact hne
  have d1 : decide ((8192 : Int) < (l.length : Int)) = false := by simp; omega
  have HAP := hid hap
  have HH := hid h
  have HU := hid hU
  have HA := hid (hA hne)
  have HN := hid (fun W => num_any W 0)
  obtain ⟨AV, cV, eV, hVc, hVm, _⟩ := h.all.slice
  subst eV
  clear hap h hU hA hfit hE hg hb hne f0 f1 f2 hVc hVm x1 x2
  go_enter Tryd.func26, Tryd.ntmps26
  go_wp2_with fail
  refine HAP.out.mono ?_
  rintro e w1 ⟨rfl, P1, hJ1, hS1⟩
  have hT1 : Tch (runT R P Q) w w1 := hS1.tch.mono (fun k hk => .inr (.inl hk))
  have hbox1 := hS1.tch.box HH.out.box HH.out.pr
  have hall1 := HH.out.all.keep hS1.tch (fun k hk hp => HH.out.pq k hp hk)
  have hU1 : U8s w.heap.size w1 A l := hT1.reads HU.out (Nat.le_refl _) (fun _ => HA.out)
  have HJ1 := hid hJ1
  have HS1 := hid hS1
  have HT1 := hid hT1
  have HBX1 := hid hbox1
  have HALL1 := hid hall1
  have hsz1 : w.heap.size ≤ w1.heap.size := hT1.size
  have HU1 := hid hU1
  have hwz : w.heap.size ≤ w.heap.size := Nat.le_refl _
  clear hJ1 hS1 hT1 hbox1 hall1 hU1 HAP
  go_wp2_with fail
  refine (HN.out _).mono ?_
  rintro e wh ⟨rfl, hwh⟩
  obtain rfl : w1 = wh := hwh.symm
  go_upto_region 7 with (at_builtin; go_loud (refine wpList_append_reads (B := w.heap.size) _ w1.heap.size rfl _ _ 22 5 _ 1 rfl Tryd.underlying22 infoU8 rfl (by decide) (.slice none 0 0) 0 [] rfl (World.ownsRow_nil _ _ _ _) A l.length c l rfl rfl HU1.out u8s_len u8s_one (by simp only [maxLen]; omega) (by omega) (Nat.le_refl _) ?_); intro v1 w2 hown hgr hat)
  have hown' : OwnB w2 w1.heap.size v1 l := by simpa using hown
  obtain ⟨_, A1, c1, rfl, _, _, _⟩ := owns_reads u8s_len hown' (by decide)
  have hb12 : Below w1.heap.size w1 w2 := (Below.refl _ _).grown hgr (Nat.le_refl _) (fun k hk => by cases hk)
  have hbx2 := box_below HBX1.out hb12
  obtain ⟨x0, x1, x2, f0, f1, f2⟩ : w2.cell? ⟨R, 0, none⟩ = some V ∧ w2.cell? ⟨R, 1, none⟩ = some (.slice AV ls.length cV) ∧ w2.cell? ⟨R, 2, none⟩ = some (.int .i64 safe) ∧ w2.frozen? ⟨R, 0, none⟩ = false ∧ w2.frozen? ⟨R, 1, none⟩ = false ∧ w2.frozen? ⟨R, 2, none⟩ = false := by
    refine ⟨?_, ?_, ?_, ?_, ?_, ?_⟩ <;> simp [World.cell?, World.frozen?, hbx2]
  have HO1 := hid hown'
  have HB12 := hid hb12
  obtain ⟨vs, h1, h2, h3, h4⟩ := (HALL1.out.keep (Tch.below (P := fun _ => False) hb12) (fun _ _ => id)).own
  have HV1 := hid h1
  have HV2 := hid h2
  have HV3 := hid h3
  have HV4 := hid h4
  have hvl : vs.length + 1 ≤ 2000000 := by omega
  have hRlt : R < w.heap.size := (Array.getElem?_eq_some_iff.1 HH.out.box).1
  have hsz2 : w1.heap.size ≤ w2.heap.size := hb12.size
  have hRne : (Value.slice AV ls.length cV).ownBlock ≠ some R := fun e => HH.out.qr ((h4 R).2 (.inl e))
  have HRN := hid hRne
  have HBX2 := hid hbx2
  obtain ⟨N3, hN3⟩ : ∃ N, (vs ++ [(A1, l.length, c1)]).length = N := ⟨_, rfl⟩
  have HN3 := hid hN3
  clear hown hown' hgr hat hb12 hbx2 h1 h2 h3 h4 x0 x2 f0 f2 hRne hN3
  go_wp2_with (at_builtin; go_loud (refine wpList_append_one (enc := svE) w2 0 rfl _ _ 28 22 _ 24 rfl Tryd.underlying28 infoBs rfl (by decide) svE_len svE_one (.slice AV ls.length cV) vs (A1, l.length, c1) _ rfl rfl _ rfl rfl HV2.out (by simp only [maxLen]; omega) (by omega) (Nat.zero_le _) ?_; intro v3 w3 hown3 hgr3 hat3; have HO3 := hid hown3; rw [HN3.out] at hown3; obtain ⟨_, A3, c3, rfl, _, _, _⟩ := owns_reads svE_len (l := vs ++ [(A1, l.length, c1)]) hown3 (by decide); have hbx3 := (Tch.grown hgr3).box HBX2.out HRN.out; have y1 : w3.cell? ⟨R, 1, none⟩ = some (.slice AV ls.length cV) := (by simp [World.cell?, hbx3]); have g1 : w3.frozen? ⟨R, 1, none⟩ = false := (by simp [World.frozen?, hbx3]); have HG3 := hid hgr3; have HAT3 := hid hat3; have HBX3 := hid hbx3; clear hown3 hgr3 hat3 hbx3))
  refine bodyPost_ret (results_tmp rfl _ _ _) rfl ?_
  have hR1 : R < w.heap.size := hRlt
  have hPlt := HJ1.out.lt
  have hQlt := HH.out.all.lt
  have hQV : ∀ k, (Value.slice AV ls.length cV).ownBlock = some k → Q k := fun k hk => (HV4.out k).2 (.inl hk)
  have hb12 := HB12.out
  have hlo := fun k hk => HO1.out.lt k hk
  obtain ⟨Q', hall, hQ'⟩ := AllAt.push (w := w1) (s := (A1, l.length, c1)) HV1.out HV2.out HV3.out HV4.out (own_mono HO1.out (Nat.zero_le _)) (fun k hk => (hlo k hk).1) hb12.size HO3.out HG3.out HAT3.out
  have hP1 : ∀ k, P1 k → ¬ Q k := fun k hk hq => by
    rcases HS1.out.new k hk with h | h
    · exact HH.out.pq k h hq
    · have := hQlt k hq; omega
  have hPR : ¬ P1 R := fun hk => by
    rcases HS1.out.new R hk with h | h
    · exact HH.out.pr h
    · omega
  have hQR : ¬ Q' R := fun hk => by
    rcases hQ' R hk with h | h
    · exact HH.out.qr h
    · omega
  have ht3 := Tch.grown HG3.out
  have htU := (Tch.refl (fun k => k = R) w3).setCell ⟨R, 1, none⟩ (.slice A3 N3 c3) (.inl rfl)
  rw [HEP.out, HEL.out]
  refine ⟨rfl, V, .slice A3 N3 c3, P1, Q', ⟨set10 1 HBX3.out rfl, ?_, hall.keep htU (fun k hk e => hQR (e ▸ hk)), hPR, hQR, fun k hk hq => ?_⟩, ?_, fun k hk => ?_⟩
  · exact (((HJ1.out.below hb12).keep ht3 (fun k hk e => hP1 k hk (hQV k e))).keep htU (fun k hk e => hPR (e ▸ hk)))
  · rcases hQ' k hq with h | h
    · exact hP1 k hk h
    · have := hPlt k hk; omega
  · exact ((HT1.out.trans (Tch.below (P := fun _ => False) hb12) (fun _ h => h.elim)).trans ht3 (fun k hk => .inl (.inr (.inr (hQV k hk))))).trans htU (fun k hk => .inl (.inl hk))
  · rcases hk with hk | hk | hk
    · exact .inl (.inl hk)
    · exact (HS1.out.new k hk).imp (fun h => .inr (.inl h)) id
    · rcases hQ' k hk with h | h
      · exact .inl (.inr (.inr h))
      · exact .inr (Nat.le_trans hsz1 h)
end Go.Proofs.YtfcgmlofiaehkaaDoor
