/- Layer 6: (*Table).with. -/
import Derived.Test.YtefdbhmjbfpeoaaRngB
namespace Go.Proofs.Ytefdbhmjbfpeoaa
open Go.RowKit

set_option maxRecDepth 100000 in
set_option maxHeartbeats 2000000 in
theorem with_any (w : World) (T : Nat) (A : Option Addr) (n c : Nat) (l : List Seg) (lo hi owner : Int) (hl : l.length = n) (hnc : n ≤ c) (hm : n ≤ 1000000000)
    (hT : w.cell? ⟨T, 1, none⟩ = some (.slice A n c)) (hR : Segs w.heap.size w A l) (hW : Rng.WF l) (h0 : 0 ≤ lo) (h1 : lo ≤ hi) (h2 : hi ≤ maxK) :
    Calls Try.prog 27 #[.pointer (some ⟨T, 0, none⟩), .int .u64 lo, .int .u64 hi, .int .u8 owner] w fun e w' =>
      ∃ v, e = .returned v ∧ OwnSegs w' w.heap.size v (Rng.withL l lo hi owner) ∧ Below w.heap.size w w' := by
  subst hl
  have hTl := World.block_lt_of_cell? _ _ hT
  obtain ⟨b, off, rfl, hbl, hcells⟩ := Segs.open' hR hW.pos
  obtain ⟨f, f1, f2, f3, f4, f5, f6⟩ := Rng.at_split hW.tiles h0 (show lo < maxK + 1 by omega)
  obtain ⟨g, g1, g2, g3, g4, g5, g6⟩ := Rng.at_split hW.tiles (show 0 ≤ hi by omega) (show hi < maxK + 1 by omega)
  have hil := Rng.at_lt hW.tiles h0 (show lo < maxK + 1 by omega)
  have hjl := Rng.at_lt hW.tiles (show 0 ≤ hi by omega) (show hi < maxK + 1 by omega)
  have hA := at_any w T _ l.length c l lo rfl (by omega) hT hR hW.tiles
  have HW := hid hW
  have HF := hid f1
  have HG := hid g1
  have ew : Hid (Rng.withL l lo hi owner = (l.drop (Rng.at' l hi + 1)).foldl Rng.push ((Rng.post g hi).foldl Rng.push (Rng.push (l.take (Rng.at' l lo) ++ Rng.pre f lo) ⟨lo, hi, owner⟩))) := by
    show _ = _
    unfold Rng.withL; rw [f1, g1]
  clear f1 g1 f2 f3 f4 f5 f6 g2 g3 g4 g5 g6 hW
  have hmk := make_run (P := Try.prog) 44 40 _ 3 24 Try.underlying44 infoSeg (l.length + 2) ((l.length : Int) + 2) (by omega) (by omega) (by omega)
  go_enter Try.func27, Try.ntmps27
  go_wp2_with fail
  refine hA.mono ?_
  rintro e w1 ⟨rfl, hb1⟩
  have hT1 := Tfact hb1 hTl hT
  have hR1 := (hR.below hb1).mono hb1.size
  go_wp2_with fail
  refine (at_any w1 T _ l.length c l hi rfl (by omega) hT1 hR1 HW.out.tiles).mono ?_
  rintro e w2 ⟨rfl, hb2⟩
  have hB2 : Below w.heap.size w w2 := hb1.trans (hb2.mono hb1.size)
  have hT2 := Tfact hB2 hTl hT
  have hR2 := (hR.below hB2).mono hB2.size
  clear hb1 hT1 hR1 hb2 hA
  generalize hi' : Rng.at' l lo = i at *
  generalize hj' : Rng.at' l hi = j at *
  have HI := hid hi'
  have HJ := hid hj'
  clear hi' hj'
  have hic : (i : Int) ≤ c := by omega
  have hin : (i : Int) < l.length := by omega
  have hT2l : T < w2.heap.size := Nat.lt_of_lt_of_le hTl hB2.size
  have HC := hid hcells
  have HR := hid hR
  have HT := hid hT
  clear hcells hT hR
  go_upto_region 4 with (at_builtin; go_loud (refine wpList_append_reads (enc := encSeg) (sz := 3) _ w.heap.size rfl _ _ 44 40 _ 24 rfl Try.underlying44 infoSeg rfl (by decide) (.slice (some ⟨w2.heap.size, 0, none⟩) 0 (l.length + 2)) 0 [] rfl (World.ownsRow_made _ _ _ hB2.size (by simp only [maxLen]; omega) (size_madeCells _ _)) _ i _ (l.take i) rfl (by simp; omega) ((hR2.below ((Below.refl _ _).alloc (Nat.le_refl _) _)).take i) encSeg_len encSeg_one (by simp only [maxLen]; omega) (by omega) (by have := hB2.size; simp; omega) ?_); intro v3 w3 hown3 hg3 hat3)
  have hB3 : Below w.heap.size w w3 := (hB2.alloc hB2.size _).grown hg3 (by have := hB2.size; simp; omega) (by intro k hk; cases hk; exact hB2.size)
  rw [List.nil_append] at hown3
  have hown : OwnSegs w3 w.heap.size v3 (l.take i) := by
    have e : (l.take i).length = 0 + i := by simp; omega
    show World.ownsRow _ _ _ _ _ _ _
    rw [e]; exact hown3
  clear hown3 hg3 hat3 hT2 hR2 hB2 hT2l hmk
  have hT3 := Tfact hB3 hTl HT.out
  obtain ⟨cf0, cf1, cf2⟩ := HC.out i f HF.out
  replace cf0 := Tfact hB3 (a := ⟨b, _, none⟩) hbl cf0
  replace cf1 := Tfact hB3 (a := ⟨b, _, none⟩) hbl cf1
  replace cf2 := Tfact hB3 (a := ⟨b, _, none⟩) hbl cf2
  have hT3l : T < w3.heap.size := Nat.lt_of_lt_of_le hTl hB3.size
  have hb3l : b < w3.heap.size := Nat.lt_of_lt_of_le hbl hB3.size
  go_upto_if 47 with fail
  go_cut [11] (fun o wc => OwnSegs wc w.heap.size o (l.take i ++ Rng.pre f lo) ∧ Below w.heap.size w wc)
  case first =>
    by_cases hlt : f.lo < lo
    · have e : Hid (Rng.pre f lo = [⟨f.lo, lo - 1, f.host⟩]) := by show _ = _; unfold Rng.pre; rw [if_pos hlt]
      have hf0 := (HW.out.seg f (List.mem_of_getElem? HF.out)).1
      have hwl : IntKind.u64.wrap (lo - 1) = lo - 1 := wrap_u64_in (by omega) (by have := maxK_eq; omega)
      have hln : (l.take i).length ≤ 1000000000 := by simp; omega
      go_wp2_with (at_builtin; go_loud (refine wpList_append_one _ w.heap.size rfl _ _ 44 40 _ 24 rfl Try.underlying44 infoSeg rfl (by decide) encSeg_len encSeg_one v3 (l.take i) ⟨f.lo, lo - 1, f.host⟩ _ rfl rfl _ rfl (by simp) (hown.alloc _) (by simp only [maxLen]; omega) (by omega) (by have := hB3.size; simp; omega) ?_); intro v4 w4 hown4 hg4 hat4)
      go_meet
      rw [e.out]
      exact ⟨hown4, (hB3.alloc hB3.size _).grown hg4 (by have := hB3.size; simp; omega) (own_ge hown)⟩
    · have e : Hid (Rng.pre f lo = []) := by show _ = _; unfold Rng.pre; rw [if_neg hlt]
      go_wp2_with fail
      go_meet
      rw [e.out, List.append_nil]
      exact ⟨hown.alloc _, hB3.alloc hB3.size _⟩
  case rest =>
    obtain ⟨hown4, hB4⟩ := hcut
    clear cf0 cf1 cf2 hT3 hT3l hb3l hown hB3
    have hp := push_any w.heap.size _ _ _ ⟨lo, hi, owner⟩ hown4 hB4.size (by have h1 : (Rng.pre f lo).length ≤ 1 := (by unfold Rng.pre; split <;> simp); simp; omega)
    go_wp2_with fail
    refine hp.mono ?_
    rintro e w5 ⟨v5, rfl, hown5, hg5, _⟩
    have hB5 := hB4.grown hg5 hB4.size (own_ge hown4)
    clear hp hown4 hg5 hB4
    have hT5 := Tfact hB5 hTl HT.out
    obtain ⟨cg0, cg1, cg2⟩ := HC.out j g HG.out
    replace cg0 := Tfact hB5 (a := ⟨b, _, none⟩) hbl cg0
    replace cg1 := Tfact hB5 (a := ⟨b, _, none⟩) hbl cg1
    replace cg2 := Tfact hB5 (a := ⟨b, _, none⟩) hbl cg2
    have hT5l : T < w5.heap.size := Nat.lt_of_lt_of_le hTl hB5.size
    have hb5l : b < w5.heap.size := Nat.lt_of_lt_of_le hbl hB5.size
    have hjn : (j : Int) < l.length := by omega
    go_upto_if 74 with fail
    go_cut [11] (fun o wc => OwnSegs wc w.heap.size o ((Rng.post g hi).foldl Rng.push (Rng.push (l.take i ++ Rng.pre f lo) ⟨lo, hi, owner⟩)) ∧ Below w.heap.size w wc)
    case first =>
      by_cases hlt : hi < g.hi
      · have e : Hid (Rng.post g hi = [⟨hi + 1, g.hi, g.host⟩]) := by show _ = _; unfold Rng.post; rw [if_pos hlt]
        have hg0 := (HW.out.seg g (List.mem_of_getElem? HG.out)).2.2.1
        have hwl : IntKind.u64.wrap (hi + 1) = hi + 1 := wrap_u64_in (by omega) (by have := maxK_eq; omega)
        have hp := push_any w.heap.size _ _ _ ⟨hi + 1, g.hi, g.host⟩ (hown5.alloc (.cells #[.int .u64 g.lo, .int .u64 g.hi, .int .u8 g.host] 40)) (by have := hB5.size; simp; omega) (by have h1 : (Rng.pre f lo).length ≤ 1 := (by unfold Rng.pre; split <;> simp); have h2 := (Rng.push_length (l.take i ++ Rng.pre f lo) ⟨lo, hi, owner⟩).1; simp at h2; omega)
        go_wp2_with fail
        refine hp.mono ?_
        rintro e' w6 ⟨v6, rfl, hown6, hg6, _⟩
        go_wp2_with fail
        go_meet
        rw [e.out]
        exact ⟨hown6, (hB5.alloc hB5.size _).grown hg6 (by have := hB5.size; simp; omega) (own_ge hown5)⟩
      · have e : Hid (Rng.post g hi = []) := by show _ = _; unfold Rng.post; rw [if_neg hlt]
        go_wp2_with fail
        go_meet
        rw [e.out]
        exact ⟨hown5.alloc _, hB5.alloc hB5.size _⟩
    case rest =>
    obtain ⟨hown6, hB6⟩ := hcut
    clear cg0 cg1 cg2 hT5 hT5l hb5l hown5 hB5
    have hT6 := Tfact hB6 hTl HT.out
    obtain ⟨A', hdr, hdR⟩ := drop_run (P := Try.prog) (enc := encSeg) 44 40 _ 3 24 Try.underlying44 infoSeg (some ⟨b, off, none⟩) l.length c (j + 1) ((j : Int) + 1) (by omega) (by omega) hnc
    have hRd := hdR _ _ l rfl HR.out
    have HRd := hid hRd
    have hlX : Hid (((Rng.post g hi).foldl Rng.push (Rng.push (l.take i ++ Rng.pre f lo) ⟨lo, hi, owner⟩)).length ≤ 1000000005) := by
      show _ ≤ _
      have h1 : (Rng.pre f lo).length ≤ 1 := by unfold Rng.pre; split <;> simp
      have h2 := (Rng.push_length (l.take i ++ Rng.pre f lo) ⟨lo, hi, owner⟩).1
      unfold Rng.post
      split
      · have h3 := (Rng.push_length (Rng.push (l.take i ++ Rng.pre f lo) ⟨lo, hi, owner⟩) ⟨hi + 1, g.hi, g.host⟩).1
        simp only [List.foldl_cons, List.foldl_nil]
        simp at h2; omega
      · simp at h2 ⊢; omega
    generalize ((Rng.post g hi).foldl Rng.push (Rng.push (l.take i ++ Rng.pre f lo) ⟨lo, hi, owner⟩)) = X at *
    have hdl : Hid ((l.drop (j + 1)).length = l.length - (j + 1)) := by show _ = _; simp
    have hdm : l.length - (j + 1) ≤ 1000000000 := by omega
    generalize hDD : l.drop (j + 1) = D at *
    clear hDD hRd hdR
    generalize l.length - (j + 1) = m at *
    obtain rfl : D.length = m := hdl.out
    clear hdl
    go_wp2_with fail
    go_loopw [11, 92] (fun o i wr => ∃ k : Nat, k ≤ D.length ∧ i = .int .i64 k ∧ OwnSegs wr w.heap.size o ((D.take k).foldl Rng.push X) ∧ Below w.heap.size w wr) (fun _ i _ => D.length - (intOf i).toNat)
    case atStart => exact ⟨0, Nat.zero_le _, rfl, by simpa using hown6, hB6⟩
    case round =>
      obtain ⟨k, hk, rfl, hownr, hBr⟩ := hrel
      by_cases hlt : k < D.length
      · obtain ⟨b', off', s, hs, rfl, hb', cs0, cs1, cs2⟩ := Segs.at3 HRd.out k hlt
        replace cs0 := Tfact hBr (a := ⟨b', _, none⟩) hb' cs0
        replace cs1 := Tfact hBr (a := ⟨b', _, none⟩) hb' cs1
        replace cs2 := Tfact hBr (a := ⟨b', _, none⟩) hb' cs2
        have hbrl : b' < wr.heap.size := Nat.lt_of_lt_of_le hb' hBr.size
        have hkn : (k : Int) < D.length := by omega
        have hlk : ((D.take k).foldl Rng.push X).length ≤ 5864062014700 := by
          have h1 := hlX.out
          have h2 := foldl_push_len (D.take k) X
          have h3 : (D.take k).length ≤ D.length := List.length_take_le' ..
          omega
        have hp := push_any w.heap.size _ _ _ s (hownr.alloc (.cells #[.int .u64 s.lo, .int .u64 s.hi, .int .u8 s.host] 40)) (by have := hBr.size; simp; omega) hlk
        go_wp2_with fail
        refine hp.mono ?_
        rintro e' w7 ⟨v7, rfl, hown7, hg7, _⟩
        have hB7 := (hBr.alloc hBr.size (.cells #[.int .u64 s.lo, .int .u64 s.hi, .int .u8 s.host] 40)).grown hg7 (by have := hBr.size; simp; omega) (own_ge hownr)
        clear hp hownr hg7 hBr cs0 cs1 cs2
        have he : Hid ((D.take (k + 1)).foldl Rng.push X = Rng.push ((D.take k).foldl Rng.push X) s) := by
          show _ = _
          rw [List.take_add_one, hs.out, List.foldl_append]; rfl
        go_wp2_with fail
        go_roundw
        case rel => exact ⟨k + 1, by omega, by go_num, by rw [he.out]; exact hown7, hB7⟩
        case measure => simp [intOf]; omega
      · obtain rfl : k = D.length := by omega
        rw [List.take_length] at hownr
        go_wp2
        refine bodyPost_ret (results_tmp rfl _ _ _) rfl ?_
        refine ⟨_, rfl, ?_, hBr⟩
        rw [ew.out]; exact hownr
end Go.Proofs.Ytefdbhmjbfpeoaa
