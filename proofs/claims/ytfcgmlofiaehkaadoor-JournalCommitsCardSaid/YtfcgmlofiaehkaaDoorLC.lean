/- Layer 9: JournalCommits: what is found behind a crash lies between two records, and nothing synced is lost: the walk. -/
import Derived.Test.YtfcgmlofiaehkaaDoorLB
namespace Go.Proofs.YtfcgmlofiaehkaaDoor
open Go.RowKit

theorem commits_small (w : World) (A : Option Addr) (n c : Nat) (hf : Calls Tryd.prog 24 #[.slice A n c] w fun e w' => e = .returned (.bool false) ∧ w' = w) :
    Calls Tryd.prog 10 #[.slice A n c] w fun e w' => e = .returned (.bool true) ∧ Below w.heap.size w w' := by
  have HF := hid hf
  clear hf
  go_enter Tryd.func10, Tryd.ntmps10
  go_wp2_with fail
  refine HF.out.mono ?_
  rintro e w1 ⟨rfl, hw1⟩
  obtain rfl : w = w1 := hw1.symm
  go_wp2_with fail
  go_ret
  exact ⟨rfl, Below.refl _ _⟩
set_option maxRecDepth 100000 in
set_option maxHeartbeats 8000000 in
theorem commits_walk (w : World) (A : Option Addr) (n c : Nat) (steps : List StepV) (bl : List (List Int)) (hl : steps.length = n) (hbl : bl.length = steps.length) (hn : n ≤ 140737488351232) (hok : ∀ (i : Nat) (s : StepV) (b : List Int), steps[i]? = some s → bl[i]? = some b → okBytes w s.2.2 b ∧ okI64 s.1 ∧ okI64 s.2.1) (hR : Reads w.heap.size w stE 3 A steps) (hs : sumF bl ≤ 4194304) :
    Calls Tryd.prog 10 #[.slice A n c] w fun e w' => e = .returned (.bool true) ∧ Below w.heap.size w w' := by
  have HF := hid (fits_any w A n c steps bl hl hbl hn hok hR)
  rw [show decide (sumF bl ≤ 4194304) = true by simpa using hs] at HF
  subst hl
  have HOK := hid hok
  have HR := hid hR
  have HBL := hid hbl
  clear hok hR hbl
  go_enter Tryd.func10, Tryd.ntmps10
  go_wp2_with fail
  refine HF.out.mono ?_
  rintro e w1 ⟨rfl, hw1⟩
  obtain rfl : w = w1 := hw1.symm
  clear HF
  go_wp2_with fail
  refine (begin_any w).mono ?_
  rintro e w1 ⟨j, P, rfl, hJ, hP, hb1⟩
  obtain ⟨W2, hW2⟩ : ∃ W, W = w1.alloc (.cells #[.pointer (some ⟨j, 0, none⟩), .slice none 0 0, .int .i64 0] 64) := ⟨_, rfl⟩
  have hb2 : Below w1.heap.size w1 W2 := by rw [hW2]; exact (Below.refl _ w1).alloc (Nat.le_refl _) _
  have hrun := RunAt.begin hJ
  rw [← hW2] at hrun
  obtain ⟨R, hR⟩ : ∃ R, R = w1.heap.size := ⟨_, rfl⟩
  have hRw : w.heap.size ≤ R := by rw [hR]; exact hb1.size
  have HRUN : Hid (RunAt W2 R (.pointer (some ⟨j, 0, none⟩)) (.slice none 0 0) (PS.fresh []) [] 0 P (fun _ => False)) := hid (by rw [hR]; exact hrun)
  have HB2 := hid (hb1.trans (hb2.mono hb1.size))
  have HT : Hid (∀ k, runT R P (fun _ => False) k → w.heap.size ≤ k) := hid (fun k hk => by
    rcases hk with rfl | hk | hk
    · exact hRw
    · exact hP k hk
    · exact hk.elim)
  clear hJ hP hb1 hb2 hrun
  go_wp2_with fail
  rw [← hW2, ← hR]
  clear hW2 hR
  go_loopg [6] steps.length (fun gx si wr => ∃ (i : Nat) (V Va : Value) (p : PS) (ls : List (List Int)) (safe : Nat) (P Q : Nat → Prop), si = .int .i64 i ∧ i ≤ steps.length ∧ steps.length - i ≤ gx ∧ p.gen ≤ i + 1 ∧ sumF ls ≤ sumF (bl.take i) ∧ Hid (RunOk p ls safe) ∧
    Hid (RunAt wr R V Va p ls safe P Q) ∧ Hid (∀ k, runT R P Q k → w.heap.size ≤ k) ∧ Hid (Below w.heap.size w wr))
  case atStart => exact ⟨0, _, _, PS.fresh [], [], 0, _, _, rfl, Nat.zero_le _, Nat.le_refl _, by decide, Nat.zero_le _, hid RunOk.fresh, HRUN, HT, HB2⟩
  case round =>
    obtain ⟨i, V, Va, p, ls, safe, P, Q, rfl, hi, hgx, hpg, hsl, HROK, HRr, HTr, HBr⟩ := hrel
    by_cases hlt : i < steps.length
    · obtain ⟨b, off, s, hs2, rfl, hbk, hc⟩ := HR.out.at i hlt
      obtain ⟨bb, hbb⟩ : ∃ bb, bl[i]? = some bb := ⟨_, List.getElem?_eq_getElem (by rw [HBL.out]; exact hlt)⟩
      obtain ⟨⟨h1, h2, h3, h4, h5, h6, h7⟩, hk1, hk2⟩ := HOK.out i s bb hs2 hbb
      obtain ⟨kind, nn, sA, sn, sc⟩ := s
      have e0 := hc 0 _ rfl
      have e1 := hc 1 _ rfl
      have e2 := hc 2 _ rfl
      simp only [Nat.add_zero] at e0
      dsimp only at e0 e1 e2 h1 h2 h3 h4 h5 h6 h7 hk1 hk2
      subst h1
      have hbr := HBr.out
      have c0 := (hbr.cell (p := ⟨b, off + i * 3, none⟩) hbk).trans e0
      have c1 := (hbr.cell (p := ⟨b, off + i * 3 + 1, none⟩) hbk).trans e1
      have c2 := (hbr.cell (p := ⟨b, off + i * 3 + 2, none⟩) hbk).trans e2
      have hUr : U8s wr.heap.size wr sA bb := (h6.below hbr).mono hbr.size
      have hAt : bb ≠ [] → ∀ q, sA = some q → ¬ runT R P Q q.block := fun hne q hq hpq => by
        have h1 := reads_lt h6 hne q hq
        have h2 := HTr.out _ hpq
        omega
      have hsn := sumF_snoc (bl.take i) bb
      rw [← take_snoc hbb] at hsn
      have hs3 := sumF_take bl (i + 1)
      have hact := act_any wr R V Va p ls safe P Q HRr.out HROK.out kind nn hk2 sA bb sc h7 hUr hAt (by omega) (by omega)
      have HACT := hid hact
      have HSN := hid hsn
      have hii : (i : Int) < (steps.length : Int) := by omega
      have hwi : IntKind.i64.wrap ((i : Int) + 1) = (i : Int) + 1 := wrap_small _ (by omega) (by omega)
      clear e0 e1 e2 hc hbr h2 h3 h4 h5 h6 h7 hs2 hbb hUr hAt hact hsn hs3 hk1 hk2
      go_wp2_with fail
      refine HACT.out.mono ?_
      rintro e w2 ⟨rfl, q, ls', safe', hq1, hq2, hq3, V2, Va2, P2, Q2, hrun2, htch2, hnew2⟩
      have hb2 : Below w.heap.size wr w2 := htch2.toBelow HBr.out.size HTr.out
      have HB2 := hid (HBr.out.trans hb2)
      have HT2 : Hid (∀ k, runT R P2 Q2 k → w.heap.size ≤ k) := hid (fun k hk => (hnew2 k hk).elim (HTr.out k) (fun h => Nat.le_trans HBr.out.size h))
      have HRUN2 := hid hrun2
      have HQ1 := hid hq1
      have HQ2 := hid hq2
      have HQ3 := hid hq3
      clear hrun2 htch2 hnew2 hb2 HACT hq1 hq2 hq3
      go_wp2_with fail
      go_roundg (steps.length - (i + 1))
      case measure => omega
      case rel => exact ⟨i + 1, V2, Va2, q, ls', safe', P2, Q2, by go_num, hlt, Nat.le_refl _, by have := HQ3.out; omega, by have := HQ2.out; have := HSN.out; omega, HQ1, HRUN2, HT2, HB2⟩
    · have hii : ¬ (i : Int) < (steps.length : Int) := by omega
      have hs3 := sumF_take bl i
      have HCR := hid (crash_run wr R V Va p ls safe P Q HRr.out HROK.out (by omega) 0 ⟨by omega, by omega⟩)
      clear hs3
      go_wp2_with fail
      refine HCR.out.mono ?_
      rintro e w2 ⟨rfl, q, k, _, _, _, _, V2, Va2, P2, Q2, _, htch2, _⟩
      have hb2 : Below w.heap.size wr w2 := htch2.toBelow HBr.out.size HTr.out
      have HB2 := hid (HBr.out.trans hb2)
      clear htch2 hb2 HCR
      go_wp2_with fail
      go_ret
      exact ⟨rfl, HB2.out⟩
theorem journalCommits_row (w : World) (A : Option Addr) (n c : Nat) (steps : List StepV) (hl : steps.length = n) (_ : n ≤ c) (_ : c ≤ maxLen) (hok : ∀ s ∈ steps, okStep w s) (hn : n * 40 ≤ 140737488351232) (hR : Reads w.heap.size w stE 3 A steps) :
    Calls Tryd.prog 10 #[.slice A n c] w fun e w' => e = .returned (.bool true) ∧ Below w.heap.size w w' := by
  obtain ⟨bl, hbl, hokb⟩ := steps_bytes w steps hok
  have hf := fits_any w A n c steps bl hl hbl (by omega) hokb hR
  by_cases hs : sumF bl ≤ 4194304
  · exact commits_walk w A n c steps bl hl hbl (by omega) hokb hR hs
  · rw [show decide (sumF bl ≤ 4194304) = false by simpa using hs] at hf
    exact commits_small w A n c hf
end Go.Proofs.YtfcgmlofiaehkaaDoor
