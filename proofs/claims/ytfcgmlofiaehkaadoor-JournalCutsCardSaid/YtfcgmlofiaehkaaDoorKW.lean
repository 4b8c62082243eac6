/- Layer 9: JournalCuts: of records that are not synced just those are found that are whole in the bytes kept: the walk. -/
import Derived.Test.YtfcgmlofiaehkaaDoorKV
namespace Go.Proofs.YtfcgmlofiaehkaaDoor
open Go.RowKit

/-- a journal that was begun, and took these records -/
def cutsP (ls : List (List Int)) : PS := ⟨1, [], ls, 24, ls.length, none⟩
theorem cutsP_add (ls : List (List Int)) (b : List Int) : addP (cutsP ls) b = cutsP (addL ls b) := by
  unfold addP addL
  split
  · simp [cutsP, PS.app]
  · rfl
theorem cutsP_len (ls : List (List Int)) : (cutsP ls).len = 24 + logLen ls := by simp [cutsP, PS.len]
/-- what is left of the bytes to be kept -/
def leftL (ls : List (List Int)) (K : Nat) : Nat := if logLen ls ≤ K then K - logLen ls else tornN ls K
theorem addL_filter {bl : List (List Int)} {i : Nat} {b : List Int} (h : bl[i]? = some b) : addL ((bl.take i).filter goodB) b = (bl.take (i + 1)).filter goodB := by
  rw [take_snoc h, List.filter_append]
  unfold addL
  by_cases hg : goodB b = true
  · rw [if_pos hg, List.filter_cons_of_pos hg]; rfl
  · rw [if_neg hg, List.filter_cons_of_neg hg]; simp
theorem cuts_left (ls : List (List Int)) (k : Int) : (cutsP ls).left k = 24 + min k.toNat (logLen ls) := by
  unfold PS.left
  rw [cutsP_len]
  show 24 + min k.toNat (24 + logLen ls - 24) = _
  rw [Nat.add_sub_cancel_left]
theorem cuts_cut (ls : List (List Int)) (k : Int) : ((cutsP ls).cut ((cutsP ls).left k)).rs = ls.take (fitN ls k.toNat) ∧ ((cutsP ls).cut ((cutsP ls).left k)).st = [] ∧ (cutsP ls).torn ((cutsP ls).left k) = tornN ls k.toNat := by
  have e := cuts_left ls k
  have h0 : 24 + (cutsP ls).st.length ≤ (cutsP ls).left k := by rw [e]; show 24 + 0 ≤ _; omega
  have e2 : (cutsP ls).left k - (24 + (cutsP ls).st.length) = min k.toNat (logLen ls) := by rw [e]; show _ - (24 + 0) = _; omega
  unfold PS.cut PS.torn
  rw [if_pos h0, if_pos h0, e2]
  refine ⟨?_, rfl, ?_⟩
  · show ls.take (fitN ls (min k.toNat (logLen ls))) = _; rw [fitN_min]
  · show tornN ls (min k.toNat (logLen ls)) = _; rw [tornN_min]
theorem cuts_small (w : World) (A : Option Addr) (n c : Nat) (keep : Int) (fb : Bool) (h : fb = false ∨ keep < 0) (hf : Calls Tryd.prog 24 #[.slice A n c] w fun e w' => e = .returned (.bool fb) ∧ w' = w) :
    Calls Tryd.prog 6 #[.slice A n c, .int .i64 keep] w fun e w' => e = .returned (.bool true) ∧ Below w.heap.size w w' := by
  have HF := hid hf
  clear hf
  cases fb with
  | false =>
    clear h
    go_enter Tryd.func6, Tryd.ntmps6
    go_wp2_with fail
    refine HF.out.mono ?_
    rintro e w1 ⟨rfl, hw1⟩
    obtain rfl : w = w1 := hw1.symm
    go_wp2_with fail
    go_ret
    exact ⟨rfl, Below.refl _ _⟩
  | true =>
    have hk : keep < 0 := h.resolve_left (by decide)
    have d0 : decide (keep < 0) = true := by simpa using hk
    go_enter Tryd.func6, Tryd.ntmps6
    go_wp2_with fail
    refine HF.out.mono ?_
    rintro e w1 ⟨rfl, hw1⟩
    obtain rfl : w = w1 := hw1.symm
    go_wp2_with fail
    go_ret
    exact ⟨rfl, Below.refl _ _⟩
set_option maxRecDepth 100000 in
set_option maxHeartbeats 8000000 in
theorem cuts_walk (w : World) (A : Option Addr) (n c : Nat) (steps : List StepV) (bl : List (List Int)) (keep : Int) (hl : steps.length = n) (hbl : bl.length = steps.length) (hn : n ≤ 140737488351232) (hok : ∀ (i : Nat) (s : StepV) (b : List Int), steps[i]? = some s → bl[i]? = some b → okBytes w s.2.2 b ∧ okI64 s.1 ∧ okI64 s.2.1) (hR : Reads w.heap.size w stE 3 A steps) (hs : sumF bl ≤ 4194304) (hk0 : 0 ≤ keep) (hk1 : keep ≤ 9223372036854775807) :
    Calls Tryd.prog 6 #[.slice A n c, .int .i64 keep] w fun e w' => e = .returned (.bool true) ∧ Below w.heap.size w w' := by
  have HF := hid (fits_any w A n c steps bl hl hbl hn hok hR)
  rw [show decide (sumF bl ≤ 4194304) = true by simpa using hs] at HF
  subst hl
  obtain ⟨K, rfl⟩ : ∃ K : Nat, keep = (K : Int) := ⟨keep.toNat, by omega⟩
  have HOK := hid hok
  have HR := hid hR
  have HBL := hid hbl
  have HN := hid (fun W => num_any W 0)
  have d0 : decide ((K : Int) < 0) = false := by simp
  clear hok hR hbl
  go_enter Tryd.func6, Tryd.ntmps6
  go_wp2_with fail
  refine HF.out.mono ?_
  rintro e w1 ⟨rfl, hw1⟩
  obtain rfl : w = w1 := hw1.symm
  clear HF
  go_wp2_with fail
  refine (begin_any w).mono ?_
  rintro e w1 ⟨j, P, rfl, hJ, hP, hb1⟩
  obtain ⟨W2, hW2⟩ : ∃ W, W = w1.alloc (.cells #[.pointer (some ⟨j, 0, none⟩), .slice none 0 0, .int .i64 0] 64) := ⟨_, rfl⟩
  have hb2 : Below w1.heap.size w1 W2 := by rw [hW2]; exact (Below.refl _ w1).alloc (Nat.le_refl _) _
  have hrun := RunAt.begin hJ
  rw [← hW2] at hrun
  obtain ⟨R, hR⟩ : ∃ R, R = w1.heap.size := ⟨_, rfl⟩
  have hRw : w.heap.size ≤ R := by rw [hR]; exact hb1.size
  have HRUN : Hid (RunAt W2 R (.pointer (some ⟨j, 0, none⟩)) (.slice none 0 0) (cutsP []) [] 0 P (fun _ => False)) := hid (by rw [hR]; exact hrun)
  have HB2 := hid (hb1.trans (hb2.mono hb1.size))
  have HT : Hid (∀ k, runT R P (fun _ => False) k → w.heap.size ≤ k) := hid (fun k hk => by
    rcases hk with rfl | hk | hk
    · exact hRw
    · exact hP k hk
    · exact hk.elim)
  clear hJ hP hb1 hb2 hrun
  go_wp2_with fail
  rw [← hW2, ← hR]
  clear hW2 hR
  go_loopg [8, 9, 10, 11] steps.length (fun gx s8 s9 s10 s11 wr => ∃ (i F T : Nat) (fb : Bool) (V Va : Value) (P Q : Nat → Prop), s11 = .int .i64 i ∧ s8 = .int .i64 F ∧ s9 = .int .i64 T ∧ s10 = .bool fb ∧ i ≤ steps.length ∧ steps.length - i ≤ gx ∧ F ≤ i ∧ T ≤ K ∧ Hid (F = fitN ((bl.take i).filter goodB) K) ∧ Hid (T = leftL ((bl.take i).filter goodB) K) ∧ Hid (fb = decide (logLen ((bl.take i).filter goodB) ≤ K)) ∧
    Hid (RunAt wr R V Va (cutsP ((bl.take i).filter goodB)) ((bl.take i).filter goodB) 0 P Q) ∧ Hid (∀ k, runT R P Q k → w.heap.size ≤ k) ∧ Hid (Below w.heap.size w wr))
  case atStart => exact ⟨0, 0, K, true, _, _, _, _, rfl, rfl, rfl, rfl, Nat.zero_le _, Nat.le_refl _, Nat.le_refl _, Nat.le_refl _, hid rfl, hid rfl, hid rfl, HRUN, HT, HB2⟩
  case round =>
    obtain ⟨i, F, T, fb, V, Va, P, Q, rfl, rfl, rfl, rfl, hi, hgx, hFi, hTK, HF, HT', HFB, HRr, HTr, HBr⟩ := hrel
    obtain ⟨ls, hls⟩ : ∃ ls, (bl.take i).filter goodB = ls := ⟨_, rfl⟩
    rw [hls] at HF HT' HFB HRr
    obtain ⟨x0, x1, _, _, _, _⟩ := HRr.out.cells
    obtain ⟨Aa, ca, rfl, hca, hma, hna⟩ := HRr.out.all.slice
    by_cases hlt : i < steps.length
    · obtain ⟨b, off, s, hs, rfl, hbk, hc⟩ := HR.out.at i hlt
      obtain ⟨bb, hbb⟩ : ∃ bb, bl[i]? = some bb := ⟨_, List.getElem?_eq_getElem (by rw [HBL.out]; exact hlt)⟩
      obtain ⟨⟨h1, h2, h3, h4, h5, h6, h7⟩, _⟩ := HOK.out i s bb hs hbb
      obtain ⟨kind, nn, sA, sn, sc⟩ := s
      have e2 := hc 2 _ rfl
      dsimp only at e2 h1 h2 h3 h4 h5 h6 h7
      subst h1
      have hbr := HBr.out
      have c2 := (hbr.cell (p := ⟨b, off + i * 3 + 2, none⟩) hbk).trans e2
      have hUr : U8s wr.heap.size wr sA bb := (h6.below hbr).mono hbr.size
      have hAt : bb ≠ [] → ∀ q, sA = some q → ¬ runT R P Q q.block := fun hne q hq hpq => by
        have h1 := reads_lt h6 hne q hq
        have h2 := HTr.out _ hpq
        omega
      have hlf : logLen ls ≤ sumF (bl.take i) := by rw [← hls]; exact logLen_filter _
      have hln : ls.length ≤ 300000 := by
        have h1 : ls.length ≤ (bl.take i).length := by rw [← hls]; exact List.length_filter_le _ _
        have h2 := sumF_len (bl.take i)
        have h3 := sumF_take bl i
        omega
      have hsn := sumF_snoc (bl.take i) bb
      rw [← take_snoc hbb] at hsn
      have hs3 := sumF_take bl (i + 1)
      have hfit : logLen ls + (12 + bb.length) ≤ 4194304 := by omega
      have hadd := add_any wr R V _ _ ls 0 P Q HRr.out sA bb.length sc bb rfl (by omega) h7 hUr hAt (fun _ => by rw [cutsP_len]; show ((24 + logLen ls : Nat) : Int) + 12 + (bb.length : Int) ≤ 16777216; omega) (by omega)
      rw [cutsP_add] at hadd
      have hls2 : addL ls bb = (bl.take (i + 1)).filter goodB := by rw [← hls]; exact addL_filter hbb
      have HADD := hid hadd
      have HLS := hid hls
      have HLS2 := hid hls2
      have hii : (i : Int) < (steps.length : Int) := by omega
      have hwi : IntKind.i64.wrap ((i : Int) + 1) = (i : Int) + 1 := wrap_small _ (by omega) (by omega)
      have hwF : IntKind.i64.wrap ((F : Int) + 1) = (F : Int) + 1 := wrap_small _ (by omega) (by omega)
      have hw12 : IntKind.i64.wrap (12 + (bb.length : Int)) = 12 + (bb.length : Int) := wrap_small _ (by omega) (by omega)
      have hKb : K ≤ 9223372036854775807 := by omega
      clear e2 hc hbr h2 h3 h4 h5 h6 h7 hs hbb hUr hAt hadd hls hls2 hsn hs3 hlf
      by_cases hg : goodB bb = true
      · have hL2 : addL ls bb = ls ++ [bb] := by unfold addL; rw [if_pos hg]
        have hN2 : (addL ls bb).length = ls.length + 1 := by rw [hL2]; simp
        obtain ⟨N2, hNe⟩ : ∃ N2, (addL ls bb).length = N2 := ⟨_, rfl⟩
        have HN2 := hid hNe
        have dn : decide (ls.length < N2) = true := by simp; omega
        have dn2 : decide ((ls.length : Int) < (N2 : Int)) = true := by simp; omega
        have hFS := fitN_snoc ls bb K
        have hTS := tornN_snoc ls bb K
        have hLL := logLen_snoc ls bb
        rw [← hL2, HLS2.out] at hFS hTS hLL
        have HFS := hid hFS
        have HTS := hid hTS
        have HLL := hid hLL
        clear hFS hTS hLL
        clear hNe hN2 hL2
        by_cases hfull : logLen ls ≤ K
        · have hfb : fb = true := by rw [HFB.out]; simpa using hfull
          subst hfb
          have hFe : F = ls.length := by rw [HF.out]; exact fitN_all ls K hfull
          have hTe : T = K - logLen ls := by rw [HT'.out]; unfold leftL; rw [if_pos hfull]
          by_cases hsz : 12 + bb.length ≤ T
          · have ds : decide ((12 : Int) + (bb.length : Int) ≤ (T : Int)) = true := by simp; omega
            have hwT : IntKind.i64.wrap ((T : Int) - (12 + (bb.length : Int))) = ((T - (12 + bb.length) : Nat) : Int) := by rw [wrap_small _ (by omega) (by omega)]; omega
            have HFE := hid hFe
            have HTE := hid hTe
            clear hFe hTe
            go_wp2_with fail
            refine HADD.out.mono ?_
            rintro e w2 ⟨rfl, V2, Va2, P2, Q2, hrun2, htch2, hnew2⟩
            have hb2 : Below w.heap.size wr w2 := htch2.toBelow HBr.out.size HTr.out
            have HB2 := hid (HBr.out.trans hb2)
            have HT2 : Hid (∀ k, runT R P2 Q2 k → w.heap.size ≤ k) := hid (fun k hk => (hnew2 k hk).elim (HTr.out k) (fun h => Nat.le_trans HBr.out.size h))
            obtain ⟨_, y1, _, _, _, _⟩ := hrun2.cells
            obtain ⟨Ab, cb, rfl, _, _, _⟩ := hrun2.all.slice
            rw [HN2.out] at y1
            rw [HLS2.out] at hrun2
            have HRUN2 := hid hrun2
            have c3 : w2.cell? ⟨b, off + i * 3 + 2, none⟩ = some (.slice sA bb.length sc) := (hb2.cell (p := ⟨b, off + i * 3 + 2, none⟩) (Nat.lt_of_lt_of_le hbk (Nat.le_refl _))).trans c2
            clear hrun2 htch2 hnew2 hb2 HADD
            go_wp2_with fail
            go_roundg (steps.length - (i + 1))
            case measure => omega
            case rel => exact ⟨i + 1, F + 1, T - (12 + bb.length), true, V2, _, P2, Q2, by go_num, by go_num, by go_num, rfl, hlt, Nat.le_refl _, by omega, by omega, hid (by rw [HFS.out, if_pos hfull, if_pos (by have := HTE.out; omega), HFE.out]), hid (by unfold leftL; rw [HLL.out, if_pos (by have := HTE.out; omega)]; have := HTE.out; omega), hid (by rw [HLL.out]; have := HTE.out; simp; omega), HRUN2, HT2, HB2⟩
          · have ds : decide ((12 : Int) + (bb.length : Int) ≤ (T : Int)) = false := by simp; omega
            have HFE := hid hFe
            have HTE := hid hTe
            clear hFe hTe
            go_wp2_with fail
            refine HADD.out.mono ?_
            rintro e w2 ⟨rfl, V2, Va2, P2, Q2, hrun2, htch2, hnew2⟩
            have hb2 : Below w.heap.size wr w2 := htch2.toBelow HBr.out.size HTr.out
            have HB2 := hid (HBr.out.trans hb2)
            have HT2 : Hid (∀ k, runT R P2 Q2 k → w.heap.size ≤ k) := hid (fun k hk => (hnew2 k hk).elim (HTr.out k) (fun h => Nat.le_trans HBr.out.size h))
            obtain ⟨_, y1, _, _, _, _⟩ := hrun2.cells
            obtain ⟨Ab, cb, rfl, _, _, _⟩ := hrun2.all.slice
            rw [HN2.out] at y1
            rw [HLS2.out] at hrun2
            have HRUN2 := hid hrun2
            have c3 : w2.cell? ⟨b, off + i * 3 + 2, none⟩ = some (.slice sA bb.length sc) := (hb2.cell (p := ⟨b, off + i * 3 + 2, none⟩) (Nat.lt_of_lt_of_le hbk (Nat.le_refl _))).trans c2
            clear hrun2 htch2 hnew2 hb2 HADD
            go_wp2_with fail
            go_roundg (steps.length - (i + 1))
            case measure => omega
            case rel => exact ⟨i + 1, F, T, false, V2, _, P2, Q2, by go_num, by go_num, by go_num, rfl, hlt, Nat.le_refl _, by omega, by omega, hid (by rw [HFS.out, if_pos hfull, if_neg (by have := HTE.out; omega), HFE.out]), hid (by unfold leftL; rw [HLL.out, if_neg (by have := HTE.out; omega), HTS.out, if_pos hfull, if_neg (by have := HTE.out; omega), HTE.out]), hid (by rw [HLL.out]; have := HTE.out; simp; omega), HRUN2, HT2, HB2⟩
        · have hfb : fb = false := by rw [HFB.out]; simpa using hfull
          subst hfb
          go_wp2_with fail
          refine HADD.out.mono ?_
          rintro e w2 ⟨rfl, V2, Va2, P2, Q2, hrun2, htch2, hnew2⟩
          have hb2 : Below w.heap.size wr w2 := htch2.toBelow HBr.out.size HTr.out
          have HB2 := hid (HBr.out.trans hb2)
          have HT2 : Hid (∀ k, runT R P2 Q2 k → w.heap.size ≤ k) := hid (fun k hk => (hnew2 k hk).elim (HTr.out k) (fun h => Nat.le_trans HBr.out.size h))
          obtain ⟨_, y1, _, _, _, _⟩ := hrun2.cells
          obtain ⟨Ab, cb, rfl, _, _, _⟩ := hrun2.all.slice
          rw [HN2.out] at y1
          rw [HLS2.out] at hrun2
          have HRUN2 := hid hrun2
          have c3 : w2.cell? ⟨b, off + i * 3 + 2, none⟩ = some (.slice sA bb.length sc) := (hb2.cell (p := ⟨b, off + i * 3 + 2, none⟩) (Nat.lt_of_lt_of_le hbk (Nat.le_refl _))).trans c2
          clear hrun2 htch2 hnew2 hb2 HADD
          go_wp2_with fail
          go_roundg (steps.length - (i + 1))
          case measure => omega
          case rel => exact ⟨i + 1, F, T, false, V2, _, P2, Q2, by go_num, by go_num, by go_num, rfl, hlt, Nat.le_refl _, by omega, by omega, hid (by rw [HFS.out, if_neg hfull, HF.out]), hid (by unfold leftL; rw [HLL.out, if_neg (by omega), HTS.out, if_neg hfull, HT'.out]; unfold leftL; rw [if_neg hfull]), hid (by rw [HLL.out]; simp; omega), HRUN2, HT2, HB2⟩
      · have hL2 : addL ls bb = ls := by unfold addL; rw [if_neg hg]
        have HN2 := hid (show (addL ls bb).length = ls.length by rw [hL2])
        have HLQ := hid (show (bl.take (i + 1)).filter goodB = ls by rw [← HLS2.out, hL2])
        clear hL2
        go_wp2_with fail
        refine HADD.out.mono ?_
        rintro e w2 ⟨rfl, V2, Va2, P2, Q2, hrun2, htch2, hnew2⟩
        have hb2 : Below w.heap.size wr w2 := htch2.toBelow HBr.out.size HTr.out
        have HB2 := hid (HBr.out.trans hb2)
        have HT2 : Hid (∀ k, runT R P2 Q2 k → w.heap.size ≤ k) := hid (fun k hk => (hnew2 k hk).elim (HTr.out k) (fun h => Nat.le_trans HBr.out.size h))
        obtain ⟨_, y1, _, _, _, _⟩ := hrun2.cells
        obtain ⟨Ab, cb, rfl, _, _, _⟩ := hrun2.all.slice
        rw [HN2.out] at y1
        rw [HLS2.out] at hrun2
        have HRUN2 := hid hrun2
        have c3 : w2.cell? ⟨b, off + i * 3 + 2, none⟩ = some (.slice sA bb.length sc) := (hb2.cell (p := ⟨b, off + i * 3 + 2, none⟩) (Nat.lt_of_lt_of_le hbk (Nat.le_refl _))).trans c2
        clear hrun2 htch2 hnew2 hb2 HADD
        go_wp2_with fail
        go_roundg (steps.length - (i + 1))
        case measure => omega
        case rel => exact ⟨i + 1, F, T, fb, V2, _, P2, Q2, by go_num, by go_num, by go_num, rfl, hlt, Nat.le_refl _, by omega, hTK, hid (by rw [HLQ.out]; exact HF.out), hid (by rw [HLQ.out]; exact HT'.out), hid (by rw [HLQ.out]; exact HFB.out), HRUN2, HT2, HB2⟩
    · have hii : ¬ (i : Int) < (steps.length : Int) := by omega
      have hlsn : ls.length ≤ steps.length := by rw [← hls]; exact Nat.le_trans (List.length_filter_le _ _) (by rw [List.length_take, HBL.out]; omega)
      have hbi : (bl.take i) = bl := List.take_of_length_le (by rw [HBL.out]; omega)
      have hgd : ∀ l ∈ ls, GoodR l := fun l hl => HRr.out.jn.ok.rs1 l hl
      have hC := jn_crash HRr.out.jn (K : Int) ⟨hk0, hk1⟩
      have hol := open_left HRr.out.jn.ok room_lim (K : Int)
      have hdb := HRr.out.jn.ok.d_byte ((cutsP ls).left (K : Int))
      have hcw := PS.cut_wa HRr.out.jn.ok ((cutsP ls).left_le HRr.out.jn.ok (K : Int)).1
      obtain ⟨hq1, hq2, hq3⟩ := cuts_cut ls (K : Int)
      have hKt : ((K : Int)).toNat = K := by omega
      rw [hKt] at hq1 hq3
      rw [hq3] at hol
      obtain ⟨q, hq⟩ : ∃ q, (cutsP ls).cut ((cutsP ls).left (K : Int)) = q := ⟨_, rfl⟩
      rw [hq] at hol hcw hq1 hq2
      have hfl := fitN_le ls K
      have hqn : q.rs.length = F := by rw [hq1, List.length_take, HF.out]; omega
      have HC := hid hC
      have HOL := hid hol
      have HDB := hid hdb
      have HCW := hid hcw
      have HQ1 := hid hq1
      have HQ2 := hid hq2
      have HQN := hid hqn
      have HGD := hid hgd
      clear hC hol hdb hcw hq1 hq2 hq3 hq hqn hgd hbi hKt
      go_wp2_with fail
      refine HC.out.mono ?_
      rintro e w3 ⟨A0, n0, c0, A1, n1, c1, rfl, hD, hG, ht⟩
      have hrd := DskRd.of hD HDB.out.1 HDB.out.2
      have hb3 : Below w.heap.size wr w3 := ht.toBelow HBr.out.size (fun k hk => HTr.out k (.inr (.inl hk)))
      have hbx3 := ht.box HRr.out.box HRr.out.pr
      have hall3 := HRr.out.all.keep ht (fun k hk hp => HRr.out.pq k hp hk)
      obtain ⟨W4, hW4⟩ : ∃ W, W = w3.alloc (.cells #[.slice A0 n0 c0, .slice A1 n1 c1] 25) := ⟨_, rfl⟩
      have hb4 : Below w3.heap.size w3 W4 := by rw [hW4]; exact (Below.refl _ w3).alloc (Nat.le_refl _) _
      have hrd4 := hrd.below hb4
      have HO := hid (jn_open W4 A0 n0 c0 A1 n1 c1 _ _ room q _ hrd4.len0 hrd4.cap0 hrd4.len1 hrd4.cap1 hrd4.byte0 hrd4.byte1 hrd4.rd0 hrd4.rd1 HOL.out HCW.out)
      have HB4 := hid ((HBr.out.trans hb3).trans (hb4.mono (Nat.le_trans HBr.out.size hb3.size)))
      have HBX4 := hid (box_below hbx3 hb4)
      have HALL4 := hid (hall3.keep (Tch.below (P := fun _ => False) hb4) (fun _ _ => id))
      clear hD hG ht hrd hb3 hbx3 hall3 hb4 hrd4 HC
      go_wp2_with fail
      rw [← hW4]
      clear hW4
      refine HO.out.mono ?_
      rintro e w5 ⟨V5, sv, rv, P5, m1, m2, rfl, hne, hb5, hJn, hP5, hm1, hm2, hh, hs5⟩
      obtain ⟨j5, s0, s1, rfl, _, _⟩ := hJn.at'
      obtain ⟨Ar, cr, rfl, _, _⟩ := hh.holds.slice
      obtain ⟨_, As, cs, rfl, _, _, _⟩ := owns_reads u8s_len hs5 (by decide)
      have hrl : LsRd w5 Ar q.rs.length cr q.rs := hh.rd (fun l hl x hx => (HGD.out l (List.mem_of_mem_take (HQ1.out ▸ hl))).2.2 x hx)
      rw [HQN.out] at hrl
      rw [HQN.out, HQ2.out]
      obtain ⟨W6, hW6⟩ : ∃ W, W = w5.alloc (.cells #[.int .u64 q.gen, .slice As 0 cs, .slice Ar F cr, .int .i64 (tornN ls K : Nat)] 30) := ⟨_, rfl⟩
      have hb6 : Below w5.heap.size w5 W6 := by rw [hW6]; exact (Below.refl _ w5).alloc (Nat.le_refl _) _
      have hx6 : W6.heap[w5.heap.size]? = some (.cells #[.int .u64 q.gen, .slice As 0 cs, .slice Ar F cr, .int .i64 (tornN ls K : Nat)] 30 (0, 0)) := by rw [hW6]; exact heap_alloc_new w5 _
      have hbx6 := box_below (box_below HBX4.out hb5) hb6
      have hall6 := (HALL4.out.keep (Tch.below (P := fun _ => False) hb5) (fun _ _ => id)).keep (Tch.below (P := fun _ => False) hb6) (fun _ _ => id)
      have hard := hall6.rd (fun l hl x hx => (HGD.out l hl).2.2 x hx)
      have HBEG := hid (beginning_any W6 Ar F cr q.rs Aa ls.length ca ls (hrl.below hb6) hard (by rw [HQ1.out, HF.out]) (by omega))
      have p1 : W6.cell? ⟨w5.heap.size, 2, none⟩ = some (.slice Ar F cr) := by simp [World.cell?, hx6]
      have p2 : W6.cell? ⟨w5.heap.size, 3, none⟩ = some (.int .i64 (tornN ls K : Nat)) := by simp [World.cell?, hx6]
      have p3 : W6.cell? ⟨R, 1, none⟩ = some (.slice Aa ls.length ca) := by simp [World.cell?, hbx6]
      have HX6 := hid hx6
      have HB6 := hid ((HB4.out.trans (hb5.mono HB4.out.size)).trans (hb6.mono (Nat.le_trans HB4.out.size hb5.size)))
      clear hne hb5 hJn hP5 hm1 hm2 hh hs5 hrl hb6 hx6 hbx6 hall6 hard HO
      go_wp2_with fail
      refine (HN.out _).mono ?_
      rintro e wx ⟨rfl, hwx⟩
      subst hwx
      go_upto_region 27 with fail
      rw [← hW6]
      clear hW6
      go_wp2_with fail
      refine HBEG.out.mono ?_
      rintro e w7 ⟨rfl, hD7⟩
      have q1 : w7.cell? ⟨w5.heap.size, 2, none⟩ = some (.slice Ar F cr) := by unfold World.cell?; rw [hD7.heap]; exact p1
      have q2 : w7.cell? ⟨w5.heap.size, 3, none⟩ = some (.int .i64 (tornN ls K : Nat)) := by unfold World.cell?; rw [hD7.heap]; exact p2
      have HB7 := hid (HB6.out.trans (hD7.below _))
      clear hD7 p1 p2 p3 HBEG
      by_cases hfull : logLen ls ≤ K
      · have hfb : fb = true := by rw [HFB.out]; simpa using hfull
        subst hfb
        rw [tornN_all ls K hfull] at q2
        go_wp2_with fail
        go_ret
        exact ⟨rfl, HB7.out⟩
      · have hfb : fb = false := by rw [HFB.out]; simpa using hfull
        subst hfb
        have hTe : tornN ls K = T := by rw [HT'.out]; unfold leftL; rw [if_neg hfull]
        rw [hTe] at q2
        go_wp2_with fail
        go_ret
        exact ⟨rfl, HB7.out⟩
theorem journalCuts_row (w : World) (A : Option Addr) (n c : Nat) (steps : List StepV) (keep : Int) (hl : steps.length = n) (_ : n ≤ c) (_ : c ≤ maxLen) (hok : ∀ s ∈ steps, okStep w s) (hn : n * 40 ≤ 140737488351232) (hR : Reads w.heap.size w stE 3 A steps) (hk : (Lit.int .i64 keep).wf = true) :
    Calls Tryd.prog 6 #[.slice A n c, .int .i64 keep] w fun e w' => e = .returned (.bool true) ∧ Below w.heap.size w w' := by
  obtain ⟨bl, hbl, hokb⟩ := steps_bytes w steps hok
  have hf := fits_any w A n c steps bl hl hbl (by omega) hokb hR
  have hk2 := wf_i64' hk
  by_cases hs : sumF bl ≤ 4194304
  · by_cases hk0 : 0 ≤ keep
    · exact cuts_walk w A n c steps bl keep hl hbl (by omega) hokb hR hs hk0 hk2.2
    · exact cuts_small w A n c keep _ (.inr (by omega)) hf
  · exact cuts_small w A n c keep _ (.inl (by simpa using hs)) hf
end Go.Proofs.YtfcgmlofiaehkaaDoor
