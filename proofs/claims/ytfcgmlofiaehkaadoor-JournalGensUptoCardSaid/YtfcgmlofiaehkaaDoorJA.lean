/- Layer 9: Append of a journal that lives. -/
import Derived.Test.YtfcgmlofiaehkaaDoorJC
import Derived.Test.YtfcgmlofiaehkaaDoorJT
import Derived.Test.YtfcgmlofiaehkaaDoorJY
namespace Go.Proofs.YtfcgmlofiaehkaaDoor
open Go.RowKit

theorem jcellsA {w : World} {j : Nat} {J : JL} {s0 s1 : SV} (h : w.heap[j]? = some (.cells (jCells J s0 s1) 120 (0, 0))) : w.cell? ⟨j, 0, none⟩ = some (.int .i64 J.limit) ∧ w.cell? ⟨j, 1, none⟩ = some (.slice s0.1 s0.2.1 s0.2.2) ∧ w.cell? ⟨j, 2, none⟩ = some (.slice s1.1 s1.2.1 s1.2.2) ∧ w.cell? ⟨j, 3, none⟩ = some (.int .i64 J.use) ∧ w.cell? ⟨j, 4, none⟩ = some (.int .i64 J.synced) ∧ w.cell? ⟨j, 5, none⟩ = some (.int .u64 J.gen) ∧ w.cell? ⟨j, 6, none⟩ = some (.int .u32 J.sum) ∧ w.cell? ⟨j, 7, none⟩ = some (.int .i64 J.recs) ∧ w.cell? ⟨j, 8, none⟩ = some (.int .i64 J.waiting) ∧ w.cell? ⟨j, 9, none⟩ = some (.bool false) := by
  refine ⟨?_, ?_, ?_, ?_, ?_, ?_, ?_, ?_, ?_, ?_⟩ <;> simp [World.cell?, h, jCells]
set_option maxRecDepth 100000 in
set_option maxHeartbeats 4000000 in
theorem append_0 (w : World) (lo hi j : Nat) (J : JL) (s0 s1 : SV) (hJ : JAt w lo hi j J s0 s1) (hu : J.use = 0) (A : Option Addr) (n c : Nat) (rec : List Int) (hl : rec.length = n) (h1 : 1 ≤ n) (h2 : n ≤ 8192) (hb : ∀ x ∈ rec, isB x) (hR : U8s w.heap.size w A rec) (hA : ∀ p, A = some p → s0.v.ownBlock ≠ some p.block)
    (hlim : J.limit ≤ 16777216) (hfit : (J.l0.length : Int) + 12 + n ≤ J.limit) (hsum : isW J.sum) (hrc : J.recs ≤ 1000000000) (hwa : J.waiting ≤ 1000000000) : Calls Tryd.prog 42 #[.pointer (some ⟨j, 0, none⟩), .slice A n c] w fun e w' =>
    ∃ A' n' c', e = .returned (.int .i64 0) ∧ n' = J.l0.length + (12 + n) ∧ w'.heap[j]? = some (.cells (jCells { J with l0 := J.l0 ++ recB J.sum rec, sum := recSum2 J.sum rec, recs := J.recs + 1, waiting := J.waiting + 1 } (A', n', c') s1) 120 (0, 0)) ∧ OwnB w' 0 (SV.v (A', n', c')) (J.l0 ++ recB J.sum rec) ∧ (∀ k, (SV.v (A', n', c')).ownBlock = some k → s0.v.ownBlock = some k ∨ w.heap.size ≤ k) ∧ Tch (fun k => k = j ∨ s0.v.ownBlock = some k) w w' := by
  subst hl
  obtain ⟨A0, n0, c0⟩ := s0
  obtain ⟨hl, hcap, _, _⟩ := OwnB.reads hJ.own0
  subst hl
  obtain ⟨l, hll⟩ : ∃ l, l = J.l0 := ⟨_, rfl⟩
  rw [← hll] at hfit
  obtain ⟨sm, hsm⟩ : ∃ sm, sm = J.sum := ⟨_, rfl⟩
  have hbox := hJ.box
  have hnj : (SV.v (A0, J.l0.length, c0)).ownBlock ≠ some j := fun h => by
    obtain ⟨_, cs, hc⟩ := hJ.own0.cells h
    rw [hbox] at hc
    injection hc with hc
    injection hc with _ hc
    exact absurd hc (by decide)
  have hst : OnWay w (.slice A0 l.length c0) w (.slice A0 l.length c0) l := by rw [hll]; exact OnWay.start (own_mono hJ.own0 (Nat.zero_le _))
  have hJB : ∀ (W : World) (v : Value) (m : List Int), OnWay w (.slice A0 l.length c0) W v m → W.heap[j]? = some (.cells (jCells J (A0, J.l0.length, c0) s1) 120 (0, 0)) := fun W v m h => h.tch.box hbox (by rw [hll]; exact hnj)
  have hRR : ∀ (W : World) (v : Value) (m : List Int), OnWay w (.slice A0 l.length c0) W v m → U8s W.heap.size W A rec := fun W v m h => (h.tch.reads hR (Nat.le_refl _) (fun _ p hp => by rw [hll]; exact hA p hp)).mono h.tch.size
  have HAL := hid (alive_live w j J _ _ hbox)
  obtain ⟨x0, x1, x2, x3, x4, x5, x6, x7, x8, x9⟩ := jcellsA hbox
  rw [hu] at x3
  rw [← hsm] at x6 hsum
  simp only [← hll] at x1
  have HST := hid hst
  have HJB := hid hJB
  have HRR := hid hRR
  have HBX := hid hbox
  have HLL := hid hll
  have HSM := hid hsm
  have HNJ := hid hnj
  have HUB := hid hu
  have HBB := hid hb
  have d0 : ((rec.length : Int) == 0) = false := by simp; intro h; rw [h] at h1; simp at h1
  have d1 : decide ((8192 : Int) < (rec.length : Int)) = false := by simp; omega
  have d2 : decide (J.limit < (l.length : Int) + 8 + (rec.length : Int) + 4) = false := by simp; omega
  have w1 : IntKind.i64.wrap ((l.length : Int) + 8) = (l.length : Int) + 8 := wrap_small _ (by omega) (by omega)
  have w2 : IntKind.i64.wrap ((l.length : Int) + 8 + (rec.length : Int)) = (l.length : Int) + 8 + (rec.length : Int) := wrap_small _ (by omega) (by omega)
  have w3 : IntKind.i64.wrap ((l.length : Int) + 8 + (rec.length : Int) + 4) = (l.length : Int) + 8 + (rec.length : Int) + 4 := wrap_small _ (by omega) (by omega)
  have w4 : IntKind.u32.wrap (rec.length : Int) = (rec.length : Int) := wraps_u32 _ (by omega) (by omega)
  have hln : l.length ≤ 16777216 := by omega
  clear hJ hbox hR hA hst hJB hRR hll hsm hnj hu hb x2 x4 x5 x7 x8 x9
  obtain ⟨ka, hn1⟩ : ∃ ka, l.length + 4 = ka := ⟨_, rfl⟩
  obtain ⟨kb, hn2⟩ : ∃ kb, ka + 4 = kb := ⟨_, rfl⟩
  obtain ⟨kc, hn3⟩ : ∃ kc, kb + rec.length = kc := ⟨_, rfl⟩
  obtain ⟨kd, hn4⟩ : ∃ kd, kc + 4 = kd := ⟨_, rfl⟩
  obtain ⟨v1, hv1⟩ : ∃ v1, recSum1 sm rec.length = v1 := ⟨_, rfl⟩
  obtain ⟨v2, hv2⟩ : ∃ v2, crcM v1 rec = v2 := ⟨_, rfl⟩
  have hv1W : isW v1 := by rw [← hv1]; exact recSum1_W _ _
  have hv2W : isW v2 := by rw [← hv2]; exact crcM_W _ _
  have hb1 := HST.out.be32 (rec.length : Int) ⟨by omega, by omega⟩ (by omega)
  rw [hn1] at hb1
  obtain ⟨m1, hm1⟩ : ∃ m1, l ++ be4 (rec.length : Int) = m1 := ⟨_, rfl⟩
  have hm1l : m1.length = ka := by rw [← hm1, List.length_append, be4_len, hn1]
  rw [hm1] at hb1
  have HB1 := hid hb1
  have w5 : IntKind.i64.wrap ((ka : Int) - 4) = (l.length : Int) := by rw [wrap_small _ (by omega) (by omega)]; omega
  have HN1 := hid hn1
  have HN2 := hid hn2
  have HN3 := hid hn3
  have HN4 := hid hn4
  have HV1 := hid hv1
  have HV2 := hid hv2
  have HM1 := hid hm1
  have HM1L := hid hm1l
  have hn1b : ka ≤ 16777220 := by omega
  have hn2b : kb ≤ 16777224 := by omega
  have hn3b : kc ≤ 16785416 := by omega
  have hlt1 : l.length ≤ ka := by omega
  clear hn1 hn2 hn3 hn4 hv1 hv2 hm1 hm1l hb1
  go_enter Tryd.func42, Tryd.ntmps42
  go_wp2_with fail
  refine HAL.out.mono ?_
  rintro e wq ⟨rfl, hwq⟩
  obtain rfl : w = wq := hwq.symm
  clear HAL
  go_upto_region 6 with fail
  go_region
  go_wp2_with fail
  with_reducible refine (HB1.out _ (by first | exact (Drawn.refl _).drew | exact Drawn.refl _)).mono ?_
  rintro e W1 ⟨Qa, qa, rfl, hw1⟩
  obtain ⟨y0, y1, y2, y3, y4, y5, y6, y7, y8, y9⟩ := jcellsA (HJB.out _ _ _ hw1)
  rw [← HSM.out] at y6
  have hO1 := hw1.own
  rw [HM1L.out] at hO1
  obtain ⟨_, Qa', qa', e1, hc1, _, hR1⟩ := owns_reads u8s_len hO1 (by decide)
  cases e1
  obtain ⟨Ad, rund, rdd⟩ := drop_run (P := Tryd.prog) (enc := u8s) 22 5 _ 1 1 Tryd.underlying22 infoU8 Qa ka qa l.length (l.length : Int) rfl hlt1 hc1
  have hd4 : ka - l.length = 4 := by have := HN1.out; omega
  rw [hd4] at rund
  have HC1 : Hid (∀ W, Drawn W1 W → Calls Tryd.prog 64 #[.int .u32 sm, .slice Ad 4 (qa - l.length)] W fun e w' => e = .returned (.int .u32 v1) ∧ w' = W) := hid (fun W hW => by
    have hdr : m1.drop l.length = be4 (rec.length : Int) := by rw [← HM1.out, List.drop_left]
    have hrd := rdd _ _ _ HM1L.out (hW.reads hR1)
    rw [hdr] at hrd
    have hh := crcMore_any W sm Ad 4 (qa - l.length) (be4 (rec.length : Int)) rfl (by omega) hsum (be4_byte ⟨by omega, by omega⟩) (by rw [hW.heap]; exact hrd)
    rw [← HV1.out]
    exact hh)
  have hb2 := hw1.be32 v1 hv1W (by rw [HM1L.out]; omega)
  rw [HM1L.out, HN2.out] at hb2
  obtain ⟨m2, hm2⟩ : ∃ m2, m1 ++ be4 v1 = m2 := ⟨_, rfl⟩
  have hm2l : m2.length = kb := by rw [← hm2, List.length_append, be4_len, HM1L.out, HN2.out]
  rw [hm2] at hb2
  have HB2 := hid hb2
  have HM2 := hid hm2
  have HM2L := hid hm2l
  have HW1 := hid hw1
  clear hw1 hO1 hR1 rdd hd4 hb2 hm2 hm2l y0 y1 y2 y3 y4 y5 y7 y8 y9 hc1
  have hDr := Drawn.refl W1
  go_wp2_with fail
  go_region_held3 (fun w' => w'.cell? ⟨j, 6, none⟩ = some (.int .u32 sm) ∧ Drawn W1 w') (first | (refine ⟨?_, ?_⟩ <;> first | assumption | exact Drawn.drew (by assumption)))
    (first
      | (go_at_call 64; with_reducible refine (HC1.out _ (by first | assumption | exact (Drawn.refl _).drew | exact Drawn.drew (by assumption))).mono ?_; rintro e w' ⟨rfl, rfl⟩))
  go_wp2_with fail
  with_reducible refine (HB2.out _ (by first | assumption | exact (Drawn.refl _).drew | exact Drawn.drew (by assumption))).mono ?_
  rintro e W2 ⟨Qb, qb, rfl, hw2⟩
  have hO2 := hw2.own
  rw [HM2L.out] at hO2
  have hR2 := HRR.out _ _ _ hw2
  have HO2 := hid hO2
  have HR2 := hid hR2
  have HW2 := hid hw2
  clear hO2 hR2 hw2 y6
  go_wp2_with (at_builtin; go_loud (refine wpList_append_reads (B := W2.heap.size) _ 0 rfl _ _ 22 5 _ 1 rfl Tryd.underlying22 infoU8 rfl (by decide) _ kb (m2.flatMap u8s) rfl HO2.out A rec.length c rec rfl rfl HR2.out u8s_len u8s_one (by simp only [maxLen]; omega) (by omega) (Nat.zero_le _) ?_); intro v3 W3 hown hg hat)
  have hw3 : OnWay w (.slice A0 l.length c0) W3 v3 (m2 ++ rec) := HW2.out.push (by rw [HM2L.out]; exact hown) hg hat (Nat.le_refl _)
  obtain ⟨m3, hm3⟩ : ∃ m3, m2 ++ rec = m3 := ⟨_, rfl⟩
  have hm3l : m3.length = kc := by rw [← hm3, List.length_append, HM2L.out, HN3.out]
  rw [hm3] at hw3
  have hO3 := hw3.own
  rw [hm3l] at hO3
  obtain ⟨_, Qc, qc, rfl, _, _, _⟩ := owns_reads u8s_len hO3 (by decide)
  have HC2 := hid (crcMore_any W3 v1 A rec.length c rec rfl (by omega) hv1W HBB.out (HRR.out _ _ _ hw3))
  rw [HV2.out] at HC2
  have hb3 := hw3.be32 v2 hv2W (by rw [hm3l]; omega)
  rw [hm3l, HN4.out] at hb3
  obtain ⟨m4, hm4⟩ : ∃ m4, m3 ++ be4 v2 = m4 := ⟨_, rfl⟩
  rw [hm4] at hb3
  have HB3 := hid hb3
  have HM3 := hid hm3
  have HM4 := hid hm4
  have HM3L := hid hm3l
  obtain ⟨y0, y1, y2, y3, y4, y5, y6, y7, y8, y9⟩ := jcellsA (HJB.out _ _ _ hw3)
  rw [HUB.out] at y3
  clear y0 y1 y2 y4 y5 y6 y7 y8 y9 hown hg hat hw3 hO3 hb3 hm3 hm4 hm3l
  refine HC2.out.mono ?_
  rintro e Wx ⟨rfl, hwx⟩
  obtain rfl : W3 = Wx := hwx.symm
  clear HC2
  have HN : Hid (∀ W A c, OnWay w (.slice A0 l.length c0) W (.slice A kd c) m4 → W.cell? ⟨j, 3, none⟩ = some (.int .i64 (0 : Nat)) ∧ W.cell? ⟨j, 7, none⟩ = some (.int .i64 J.recs) ∧ W.cell? ⟨j, 8, none⟩ = some (.int .i64 J.waiting) ∧ (∀ i, i < 10 → ∃ v, W.cell? ⟨j, i, none⟩ = some v) ∧ ∀ i, W.frozen? ⟨j, i, none⟩ = false) := hid (fun W A c h => by
    have hb := HJB.out _ _ _ h
    obtain ⟨y0, y1, y2, y3, y4, y5, y6, y7, y8, y9⟩ := jcellsA hb
    rw [HUB.out] at y3
    exact ⟨y3, y7, y8, fun i hi => by
      match i, hi with
      | 0, _ => exact ⟨_, y0⟩
      | 1, _ => exact ⟨_, y1⟩
      | 2, _ => exact ⟨_, y2⟩
      | 3, _ => exact ⟨_, y3⟩
      | 4, _ => exact ⟨_, y4⟩
      | 5, _ => exact ⟨_, y5⟩
      | 6, _ => exact ⟨_, y6⟩
      | 7, _ => exact ⟨_, y7⟩
      | 8, _ => exact ⟨_, y8⟩
      | 9, _ => exact ⟨_, y9⟩, fun i => box_fz hb i⟩)
  go_upto_region 13 with fail
  go_region_with (go_at_call 63; with_reducible refine (HB3.out _ (by first | assumption | exact (Drawn.refl _).drew | exact Drawn.refl _)).mono ?_; go_loud (rintro e W4 ⟨Qd, qd, rfl, hw4⟩; obtain ⟨z3, z7, z8, zc, zf⟩ := HN.out _ _ _ hw4; obtain ⟨z1v, z1⟩ := zc 1 (by decide); obtain ⟨z6v, z6⟩ := zc 6 (by decide); have HW4 := hid hw4; have f1 := zf 1; have f6 := zf 6; have f7 := zf 7; have f8 := zf 8; clear hw4 zc zf))
  all_goals go_wp2_with fail
  all_goals
    refine bodyPost_ret (results_tmp rfl _ _ _) rfl ?_
    have hbx := HJB.out _ _ _ HW4.out
    have hv : v2 = recSum2 J.sum rec := by unfold recSum2; rw [← HSM.out, HV1.out, HV2.out]
    have hm : m4 = J.l0 ++ recB J.sum rec := by
      rw [← HM4.out, ← HM3.out, ← HM2.out, ← HM1.out, ← HV2.out, ← HV1.out, ← HLL.out, ← HSM.out]
      simp [recB, recSum2]
    have ho := HW4.out.own
    have hn := HW4.out.new
    have ht := HW4.out.tch
    rw [HLL.out] at hn ht
    have hml : m4.length = kd := by rw [← HM4.out, List.length_append, be4_len, HM3L.out, HN4.out]
    rw [hml] at ho
    have ht4 := (((((ht.mono (Q := fun k => k = j ∨ (SV.v (A0, J.l0.length, c0)).ownBlock = some k) (fun k h => .inr h)).setCell ⟨j, 1, none⟩ (.slice Qd kd qd) (.inl (.inl rfl))).setCell ⟨j, 6, none⟩ (.int .u32 v2) (.inl (.inl rfl))).setCell ⟨j, 7, none⟩ (.int .i64 (J.recs + 1)) (.inl (.inl rfl))).setCell ⟨j, 8, none⟩ (.int .i64 (J.waiting + 1)) (.inl (.inl rfl)))
    have htj := (((((Tch.refl (fun k => k = j) W4).setCell ⟨j, 1, none⟩ (.slice Qd kd qd) (.inl rfl)).setCell ⟨j, 6, none⟩ (.int .u32 v2) (.inl rfl)).setCell ⟨j, 7, none⟩ (.int .i64 (J.recs + 1)) (.inl rfl)).setCell ⟨j, 8, none⟩ (.int .i64 (J.waiting + 1)) (.inl rfl))
    refine ⟨Qd, kd, qd, rfl, ?_, ?_, ?_, hn, ht4⟩
    · have q1 := HN1.out
      have q2 := HN2.out
      have q3 := HN3.out
      have q4 := HN4.out
      rw [← HLL.out]
      omega
    · refine (heap_setCell_at _ (heap_setCell_at _ (heap_setCell_at _ (heap_setCell_at _ hbx)))).trans ?_
      rw [hv]
      rfl
    · have ho2 := htj.own ho (fun k hk e => by
        subst e
        obtain ⟨g, cap, cur, e1, _, e3, _⟩ := ho.2.resolve_left (fun h => by rw [h.1] at hk; cases hk)
        rw [e1] at hk
        injection hk with hk
        subst hk
        rw [hbx] at e3
        injection e3 with e3
        injection e3 with _ e3
        exact absurd e3 (by decide))
      show World.ownsRow _ 0 _ 1 _ _ _
      rw [← hm, hml]
      exact ho2
set_option maxRecDepth 100000 in
set_option maxHeartbeats 4000000 in
theorem append_1 (w : World) (lo hi j : Nat) (J : JL) (s0 s1 : SV) (hJ : JAt w lo hi j J s0 s1) (hu : J.use = 1) (A : Option Addr) (n c : Nat) (rec : List Int) (hl : rec.length = n) (h1 : 1 ≤ n) (h2 : n ≤ 8192) (hb : ∀ x ∈ rec, isB x) (hR : U8s w.heap.size w A rec) (hA : ∀ p, A = some p → s1.v.ownBlock ≠ some p.block)
    (hlim : J.limit ≤ 16777216) (hfit : (J.l1.length : Int) + 12 + n ≤ J.limit) (hsum : isW J.sum) (hrc : J.recs ≤ 1000000000) (hwa : J.waiting ≤ 1000000000) : Calls Tryd.prog 42 #[.pointer (some ⟨j, 0, none⟩), .slice A n c] w fun e w' =>
    ∃ A' n' c', e = .returned (.int .i64 0) ∧ n' = J.l1.length + (12 + n) ∧ w'.heap[j]? = some (.cells (jCells { J with l1 := J.l1 ++ recB J.sum rec, sum := recSum2 J.sum rec, recs := J.recs + 1, waiting := J.waiting + 1 } s0 (A', n', c')) 120 (0, 0)) ∧ OwnB w' 0 (SV.v (A', n', c')) (J.l1 ++ recB J.sum rec) ∧ (∀ k, (SV.v (A', n', c')).ownBlock = some k → s1.v.ownBlock = some k ∨ w.heap.size ≤ k) ∧ Tch (fun k => k = j ∨ s1.v.ownBlock = some k) w w' := by
  subst hl
  obtain ⟨A1, n1, c1⟩ := s1
  obtain ⟨hl, hcap, _, _⟩ := OwnB.reads hJ.own1
  subst hl
  obtain ⟨l, hll⟩ : ∃ l, l = J.l1 := ⟨_, rfl⟩
  rw [← hll] at hfit
  obtain ⟨sm, hsm⟩ : ∃ sm, sm = J.sum := ⟨_, rfl⟩
  have hbox := hJ.box
  have hnj : (SV.v (A1, J.l1.length, c1)).ownBlock ≠ some j := fun h => by
    obtain ⟨_, cs, hc⟩ := hJ.own1.cells h
    rw [hbox] at hc
    injection hc with hc
    injection hc with _ hc
    exact absurd hc (by decide)
  have hst : OnWay w (.slice A1 l.length c1) w (.slice A1 l.length c1) l := by rw [hll]; exact OnWay.start (own_mono hJ.own1 (Nat.zero_le _))
  have hJB : ∀ (W : World) (v : Value) (m : List Int), OnWay w (.slice A1 l.length c1) W v m → W.heap[j]? = some (.cells (jCells J s0 (A1, J.l1.length, c1)) 120 (0, 0)) := fun W v m h => h.tch.box hbox (by rw [hll]; exact hnj)
  have hRR : ∀ (W : World) (v : Value) (m : List Int), OnWay w (.slice A1 l.length c1) W v m → U8s W.heap.size W A rec := fun W v m h => (h.tch.reads hR (Nat.le_refl _) (fun _ p hp => by rw [hll]; exact hA p hp)).mono h.tch.size
  have HAL := hid (alive_live w j J _ _ hbox)
  obtain ⟨x0, x1, x2, x3, x4, x5, x6, x7, x8, x9⟩ := jcellsA hbox
  rw [hu] at x3
  rw [← hsm] at x6 hsum
  simp only [← hll] at x2
  have HST := hid hst
  have HJB := hid hJB
  have HRR := hid hRR
  have HBX := hid hbox
  have HLL := hid hll
  have HSM := hid hsm
  have HNJ := hid hnj
  have HUB := hid hu
  have HBB := hid hb
  have d0 : ((rec.length : Int) == 0) = false := by simp; intro h; rw [h] at h1; simp at h1
  have d1 : decide ((8192 : Int) < (rec.length : Int)) = false := by simp; omega
  have d2 : decide (J.limit < (l.length : Int) + 8 + (rec.length : Int) + 4) = false := by simp; omega
  have w1 : IntKind.i64.wrap ((l.length : Int) + 8) = (l.length : Int) + 8 := wrap_small _ (by omega) (by omega)
  have w2 : IntKind.i64.wrap ((l.length : Int) + 8 + (rec.length : Int)) = (l.length : Int) + 8 + (rec.length : Int) := wrap_small _ (by omega) (by omega)
  have w3 : IntKind.i64.wrap ((l.length : Int) + 8 + (rec.length : Int) + 4) = (l.length : Int) + 8 + (rec.length : Int) + 4 := wrap_small _ (by omega) (by omega)
  have w4 : IntKind.u32.wrap (rec.length : Int) = (rec.length : Int) := wraps_u32 _ (by omega) (by omega)
  have hln : l.length ≤ 16777216 := by omega
  clear hJ hbox hR hA hst hJB hRR hll hsm hnj hu hb x1 x4 x5 x7 x8 x9
  obtain ⟨ka, hn1⟩ : ∃ ka, l.length + 4 = ka := ⟨_, rfl⟩
  obtain ⟨kb, hn2⟩ : ∃ kb, ka + 4 = kb := ⟨_, rfl⟩
  obtain ⟨kc, hn3⟩ : ∃ kc, kb + rec.length = kc := ⟨_, rfl⟩
  obtain ⟨kd, hn4⟩ : ∃ kd, kc + 4 = kd := ⟨_, rfl⟩
  obtain ⟨v1, hv1⟩ : ∃ v1, recSum1 sm rec.length = v1 := ⟨_, rfl⟩
  obtain ⟨v2, hv2⟩ : ∃ v2, crcM v1 rec = v2 := ⟨_, rfl⟩
  have hv1W : isW v1 := by rw [← hv1]; exact recSum1_W _ _
  have hv2W : isW v2 := by rw [← hv2]; exact crcM_W _ _
  have hb1 := HST.out.be32 (rec.length : Int) ⟨by omega, by omega⟩ (by omega)
  rw [hn1] at hb1
  obtain ⟨m1, hm1⟩ : ∃ m1, l ++ be4 (rec.length : Int) = m1 := ⟨_, rfl⟩
  have hm1l : m1.length = ka := by rw [← hm1, List.length_append, be4_len, hn1]
  rw [hm1] at hb1
  have HB1 := hid hb1
  have w5 : IntKind.i64.wrap ((ka : Int) - 4) = (l.length : Int) := by rw [wrap_small _ (by omega) (by omega)]; omega
  have HN1 := hid hn1
  have HN2 := hid hn2
  have HN3 := hid hn3
  have HN4 := hid hn4
  have HV1 := hid hv1
  have HV2 := hid hv2
  have HM1 := hid hm1
  have HM1L := hid hm1l
  have hn1b : ka ≤ 16777220 := by omega
  have hn2b : kb ≤ 16777224 := by omega
  have hn3b : kc ≤ 16785416 := by omega
  have hlt1 : l.length ≤ ka := by omega
  clear hn1 hn2 hn3 hn4 hv1 hv2 hm1 hm1l hb1
  go_enter Tryd.func42, Tryd.ntmps42
  go_wp2_with fail
  refine HAL.out.mono ?_
  rintro e wq ⟨rfl, hwq⟩
  obtain rfl : w = wq := hwq.symm
  clear HAL
  go_upto_region 6 with fail
  go_region
  go_wp2_with fail
  with_reducible refine (HB1.out _ (by first | exact (Drawn.refl _).drew | exact Drawn.refl _)).mono ?_
  rintro e W1 ⟨Qa, qa, rfl, hw1⟩
  obtain ⟨y0, y1, y2, y3, y4, y5, y6, y7, y8, y9⟩ := jcellsA (HJB.out _ _ _ hw1)
  rw [← HSM.out] at y6
  have hO1 := hw1.own
  rw [HM1L.out] at hO1
  obtain ⟨_, Qa', qa', e1, hc1, _, hR1⟩ := owns_reads u8s_len hO1 (by decide)
  cases e1
  obtain ⟨Ad, rund, rdd⟩ := drop_run (P := Tryd.prog) (enc := u8s) 22 5 _ 1 1 Tryd.underlying22 infoU8 Qa ka qa l.length (l.length : Int) rfl hlt1 hc1
  have hd4 : ka - l.length = 4 := by have := HN1.out; omega
  rw [hd4] at rund
  have HC1 : Hid (∀ W, Drawn W1 W → Calls Tryd.prog 64 #[.int .u32 sm, .slice Ad 4 (qa - l.length)] W fun e w' => e = .returned (.int .u32 v1) ∧ w' = W) := hid (fun W hW => by
    have hdr : m1.drop l.length = be4 (rec.length : Int) := by rw [← HM1.out, List.drop_left]
    have hrd := rdd _ _ _ HM1L.out (hW.reads hR1)
    rw [hdr] at hrd
    have hh := crcMore_any W sm Ad 4 (qa - l.length) (be4 (rec.length : Int)) rfl (by omega) hsum (be4_byte ⟨by omega, by omega⟩) (by rw [hW.heap]; exact hrd)
    rw [← HV1.out]
    exact hh)
  have hb2 := hw1.be32 v1 hv1W (by rw [HM1L.out]; omega)
  rw [HM1L.out, HN2.out] at hb2
  obtain ⟨m2, hm2⟩ : ∃ m2, m1 ++ be4 v1 = m2 := ⟨_, rfl⟩
  have hm2l : m2.length = kb := by rw [← hm2, List.length_append, be4_len, HM1L.out, HN2.out]
  rw [hm2] at hb2
  have HB2 := hid hb2
  have HM2 := hid hm2
  have HM2L := hid hm2l
  have HW1 := hid hw1
  clear hw1 hO1 hR1 rdd hd4 hb2 hm2 hm2l y0 y1 y2 y3 y4 y5 y7 y8 y9 hc1
  have hDr := Drawn.refl W1
  go_wp2_with fail
  go_region_held3 (fun w' => w'.cell? ⟨j, 6, none⟩ = some (.int .u32 sm) ∧ Drawn W1 w') (first | (refine ⟨?_, ?_⟩ <;> first | assumption | exact Drawn.drew (by assumption)))
    (first
      | (go_at_call 64; with_reducible refine (HC1.out _ (by first | assumption | exact (Drawn.refl _).drew | exact Drawn.drew (by assumption))).mono ?_; rintro e w' ⟨rfl, rfl⟩))
  go_wp2_with fail
  with_reducible refine (HB2.out _ (by first | assumption | exact (Drawn.refl _).drew | exact Drawn.drew (by assumption))).mono ?_
  rintro e W2 ⟨Qb, qb, rfl, hw2⟩
  have hO2 := hw2.own
  rw [HM2L.out] at hO2
  have hR2 := HRR.out _ _ _ hw2
  have HO2 := hid hO2
  have HR2 := hid hR2
  have HW2 := hid hw2
  clear hO2 hR2 hw2 y6
  go_wp2_with (at_builtin; go_loud (refine wpList_append_reads (B := W2.heap.size) _ 0 rfl _ _ 22 5 _ 1 rfl Tryd.underlying22 infoU8 rfl (by decide) _ kb (m2.flatMap u8s) rfl HO2.out A rec.length c rec rfl rfl HR2.out u8s_len u8s_one (by simp only [maxLen]; omega) (by omega) (Nat.zero_le _) ?_); intro v3 W3 hown hg hat)
  have hw3 : OnWay w (.slice A1 l.length c1) W3 v3 (m2 ++ rec) := HW2.out.push (by rw [HM2L.out]; exact hown) hg hat (Nat.le_refl _)
  obtain ⟨m3, hm3⟩ : ∃ m3, m2 ++ rec = m3 := ⟨_, rfl⟩
  have hm3l : m3.length = kc := by rw [← hm3, List.length_append, HM2L.out, HN3.out]
  rw [hm3] at hw3
  have hO3 := hw3.own
  rw [hm3l] at hO3
  obtain ⟨_, Qc, qc, rfl, _, _, _⟩ := owns_reads u8s_len hO3 (by decide)
  have HC2 := hid (crcMore_any W3 v1 A rec.length c rec rfl (by omega) hv1W HBB.out (HRR.out _ _ _ hw3))
  rw [HV2.out] at HC2
  have hb3 := hw3.be32 v2 hv2W (by rw [hm3l]; omega)
  rw [hm3l, HN4.out] at hb3
  obtain ⟨m4, hm4⟩ : ∃ m4, m3 ++ be4 v2 = m4 := ⟨_, rfl⟩
  rw [hm4] at hb3
  have HB3 := hid hb3
  have HM3 := hid hm3
  have HM4 := hid hm4
  have HM3L := hid hm3l
  obtain ⟨y0, y1, y2, y3, y4, y5, y6, y7, y8, y9⟩ := jcellsA (HJB.out _ _ _ hw3)
  rw [HUB.out] at y3
  clear y0 y1 y2 y4 y5 y6 y7 y8 y9 hown hg hat hw3 hO3 hb3 hm3 hm4 hm3l
  refine HC2.out.mono ?_
  rintro e Wx ⟨rfl, hwx⟩
  obtain rfl : W3 = Wx := hwx.symm
  clear HC2
  have HN : Hid (∀ W A c, OnWay w (.slice A1 l.length c1) W (.slice A kd c) m4 → W.cell? ⟨j, 3, none⟩ = some (.int .i64 (1 : Nat)) ∧ W.cell? ⟨j, 7, none⟩ = some (.int .i64 J.recs) ∧ W.cell? ⟨j, 8, none⟩ = some (.int .i64 J.waiting) ∧ (∀ i, i < 10 → ∃ v, W.cell? ⟨j, i, none⟩ = some v) ∧ ∀ i, W.frozen? ⟨j, i, none⟩ = false) := hid (fun W A c h => by
    have hb := HJB.out _ _ _ h
    obtain ⟨y0, y1, y2, y3, y4, y5, y6, y7, y8, y9⟩ := jcellsA hb
    rw [HUB.out] at y3
    exact ⟨y3, y7, y8, fun i hi => by
      match i, hi with
      | 0, _ => exact ⟨_, y0⟩
      | 1, _ => exact ⟨_, y1⟩
      | 2, _ => exact ⟨_, y2⟩
      | 3, _ => exact ⟨_, y3⟩
      | 4, _ => exact ⟨_, y4⟩
      | 5, _ => exact ⟨_, y5⟩
      | 6, _ => exact ⟨_, y6⟩
      | 7, _ => exact ⟨_, y7⟩
      | 8, _ => exact ⟨_, y8⟩
      | 9, _ => exact ⟨_, y9⟩, fun i => box_fz hb i⟩)
  go_upto_region 13 with fail
  go_region_with (go_at_call 63; with_reducible refine (HB3.out _ (by first | assumption | exact (Drawn.refl _).drew | exact Drawn.refl _)).mono ?_; go_loud (rintro e W4 ⟨Qd, qd, rfl, hw4⟩; obtain ⟨z3, z7, z8, zc, zf⟩ := HN.out _ _ _ hw4; obtain ⟨z1v, z1⟩ := zc 2 (by decide); obtain ⟨z6v, z6⟩ := zc 6 (by decide); have HW4 := hid hw4; have f1 := zf 2; have f6 := zf 6; have f7 := zf 7; have f8 := zf 8; clear hw4 zc zf))
  all_goals go_wp2_with fail
  all_goals
    refine bodyPost_ret (results_tmp rfl _ _ _) rfl ?_
    have hbx := HJB.out _ _ _ HW4.out
    have hv : v2 = recSum2 J.sum rec := by unfold recSum2; rw [← HSM.out, HV1.out, HV2.out]
    have hm : m4 = J.l1 ++ recB J.sum rec := by
      rw [← HM4.out, ← HM3.out, ← HM2.out, ← HM1.out, ← HV2.out, ← HV1.out, ← HLL.out, ← HSM.out]
      simp [recB, recSum2]
    have ho := HW4.out.own
    have hn := HW4.out.new
    have ht := HW4.out.tch
    rw [HLL.out] at hn ht
    have hml : m4.length = kd := by rw [← HM4.out, List.length_append, be4_len, HM3L.out, HN4.out]
    rw [hml] at ho
    have ht4 := (((((ht.mono (Q := fun k => k = j ∨ (SV.v (A1, J.l1.length, c1)).ownBlock = some k) (fun k h => .inr h)).setCell ⟨j, 2, none⟩ (.slice Qd kd qd) (.inl (.inl rfl))).setCell ⟨j, 6, none⟩ (.int .u32 v2) (.inl (.inl rfl))).setCell ⟨j, 7, none⟩ (.int .i64 (J.recs + 1)) (.inl (.inl rfl))).setCell ⟨j, 8, none⟩ (.int .i64 (J.waiting + 1)) (.inl (.inl rfl)))
    have htj := (((((Tch.refl (fun k => k = j) W4).setCell ⟨j, 2, none⟩ (.slice Qd kd qd) (.inl rfl)).setCell ⟨j, 6, none⟩ (.int .u32 v2) (.inl rfl)).setCell ⟨j, 7, none⟩ (.int .i64 (J.recs + 1)) (.inl rfl)).setCell ⟨j, 8, none⟩ (.int .i64 (J.waiting + 1)) (.inl rfl))
    refine ⟨Qd, kd, qd, rfl, ?_, ?_, ?_, hn, ht4⟩
    · have q1 := HN1.out
      have q2 := HN2.out
      have q3 := HN3.out
      have q4 := HN4.out
      rw [← HLL.out]
      omega
    · refine (heap_setCell_at _ (heap_setCell_at _ (heap_setCell_at _ (heap_setCell_at _ hbx)))).trans ?_
      rw [hv]
      rfl
    · have ho2 := htj.own ho (fun k hk e => by
        subst e
        obtain ⟨g, cap, cur, e1, _, e3, _⟩ := ho.2.resolve_left (fun h => by rw [h.1] at hk; cases hk)
        rw [e1] at hk
        injection hk with hk
        subst hk
        rw [hbx] at e3
        injection e3 with e3
        injection e3 with _ e3
        exact absurd e3 (by decide))
      show World.ownsRow _ 0 _ 1 _ _ _
      rw [← hm, hml]
      exact ho2
end Go.Proofs.YtfcgmlofiaehkaaDoor
