/- The walk of PlanStill. -/
import Derived.Test.YtpkcccphoolapaaStlP
import Derived.Test.YtpkcccphoolapaaTam
import Derived.Test.YtpkcccphoolapaaMvF
namespace Go.Proofs.Ytpkcccphoolapaa
open Go.RowKit

set_option maxRecDepth 100000 in
set_option maxHeartbeats 8000000 in
theorem planStill_walk (w : World) (hosts : Int) (A : Option Addr) (n c : Nat) (l : List Seg) (A' : Option Addr) (n' c' : Nat) (ks : List Int) (most : Int) (_ : (Lit.int .i64 hosts).wf = true)
    (hl : l.length = n) (_ : n ≤ c) (_ : c ≤ maxLen) (hok : ∀ s ∈ l, okSeg s) (hbytes : n * 24 ≤ 140737488351232) (hR : Segs w.heap.size w A l)
    (hl' : ks.length = n') (_ : n' ≤ c') (_ : c' ≤ maxLen) (hks : ∀ x ∈ ks, (Lit.int .u64 x).wf = true) (hbytes' : n' * 8 ≤ 140737488351232) (hR' : Keys w.heap.size w A' ks) (_ : (Lit.int .i64 most).wf = true) :
    Calls Try.prog 12 #[.int .i64 hosts, .slice A n c, .slice A' n' c', .int .i64 most] w fun e w' => e = .returned (.bool true) ∧ Below w.heap.size w w' := by
  subst hl
  subst hl'
  have hu64 : ∀ k : Int, (Lit.int .u64 k).wf = true → 0 ≤ k ∧ k ≤ maxK := fun k this => by
    simp [Lit.wf, IntKind.min, IntKind.max, IntKind.signed, IntKind.bits] at this
    rw [maxK_eq]; omega
  have hks2 : ∀ k ∈ ks, 0 ≤ k ∧ k ≤ maxK := fun k hk => hu64 k (hks k hk)
  have hta := tamed_any w hosts A l.length c l A' ks.length c' ks rfl hbytes hok hR rfl hbytes' hR'
  have HTA := hid hta
  have HOK := hid hok
  have HKS := hid hks2
  clear hta hok hR hks hR' hks2 hu64
  go_enter Try.func12, Try.ntmps12
  go_wp2_with fail
  refine HTA.out.mono ?_
  rintro e w1 ⟨v1, v2, ok, rfl, hok1, hb1⟩
  cases ok with
  | false =>
    clear hok1
    go_wp2_with fail
    go_ret
    exact ⟨rfl, hb1⟩
  | true =>
  obtain ⟨H, rfl, h1, h2, hf, hn4, hk4, hos, hok2⟩ := hok1 rfl
  by_cases hm1 : most < 1
  · have b3 : decide (most < 1) = true := by simpa using hm1
    clear hos hok2 hok1 hf
    go_wp2_with fail
    go_ret
    exact ⟨rfl, hb1⟩
  by_cases hm2 : 32 < most
  · have b3 : decide (most < 1) = false := by simpa using hm1
    have b4 : decide (most > 32) = true := by simpa using hm2
    have b4' : decide (32 < most) = true := by simpa using hm2
    clear hos hok2 hok1 hf hm1
    go_wp2_with fail
    go_ret
    exact ⟨rfl, hb1⟩
  have b3 : decide (most < 1) = false := by simpa using hm1
  have b4 : decide (most > 32) = false := by simpa using hm2
  have b4' : decide (32 < most) = false := by simpa using hm2
  obtain ⟨ms, L0, L', hfw⟩ := few_ok (most := most) h1 h2 (by omega) (by omega) HOK.out hf hn4 hk4 HKS.out
  obtain ⟨q, hev⟩ := hfw.ev
  have hsl : (tameS H l).length = l.length := by simp [tameS]
  obtain ⟨tk1, tk2, tk3⟩ := tameK_ok ks
  have hso := (tameS_ok h1 h2 HOK.out).1
  obtain ⟨_, A1, c1, rfl, _, _, hR1⟩ := owns_reads encSeg_len hos (by decide)
  obtain ⟨_, A2, c2, rfl, _, _, hR2⟩ := owns_reads encKey_len hok2 (by decide)
  have hkb : ∀ k ∈ tameK ks, 0 ≤ k ∧ k ≤ maxK := fun k hk => HKS.out k (tk2 k hk)
  generalize tameS H l = S at *
  generalize tameK ks = K at *
  have hct := countedT_any w1 H A1 S.length c1 S A2 K.length c2 K h2 rfl (by omega) hR1 hfw.tl hfw.hs rfl (by omega) hR2 hkb
  rw [hfw.cnt] at hct
  have HCT := hid hct
  have HEV := hid hev
  have HFW := hid hfw
  have HB1 := hid hb1
  have HR1 := hid hR1
  have HR2 := hid hR2
  have HSO := hid hso
  have HTK := hid tk1
  have HKB := hid hkb
  have hS4 : S.length ≤ 4096 := by omega
  have hK4 : K.length ≤ 4096 := by omega
  have hm1' : 1 ≤ most := by omega
  have hm2' : most ≤ 32 := by omega
  clear hct hev hfw hb1 hR1 hR2 hos hok2 hok1 hf hso tk1 tk2 hkb hn4 hk4 tk3 hsl hm1 hm2
  go_wp2_with fail
  refine HCT.out.mono ?_
  rintro e w2 ⟨v5, rfl, hown5, hb5⟩
  obtain ⟨_, A5, c5, rfl, _, _, hR5⟩ := owns_reads i64_len (l := countsOf H L0 K) (n := H) hown5 (by decide)
  have hmv := moves_any w2 (H : Int) A1 S.length c1 S A2 K.length c2 K most rfl (by omega) HSO.out ((HR1.out.below hb5).mono hb5.size) rfl (by omega) HKB.out ((HR2.out.below hb5).mono hb5.size)
  rw [HEV.out.mo] at hmv
  have HMV := hid hmv
  have HB5 := hid hb5
  have HR5 := hid hR5
  clear hmv hb5 hR5 hown5
  go_wp2_with fail
  refine HMV.out.mono ?_
  rintro e w3 ⟨v3, rfl, hown3, hb3⟩
  obtain ⟨_, A3, c3, rfl, _, _, hR3⟩ := owns_reads encMove_len hown3 (by decide)
  have hms4 := HEV.out.len
  have hnum := num_any
  have hcl : (countsOf H L0 K).length = H := countsOf_len ..
  have hcr := counts_le (H := H) (l := L0) hK4
  have hgd := counts_good (H := H) (l := L0) (ks := K) h1 h2 (by omega)
  have hcl' : (countsOf H L' K).length = H := countsOf_len ..
  have hcr' := counts_le (H := H) (l := L') hK4
  have hgd' := counts_good (H := H) (l := L') (ks := K) h1 h2 (by omega)
  have hsm : (countsOf H L0 K).sum = (K.length : Int) := counts_sum HFW.out.tab HKB.out
  have hsko := skew_ok hgd hgd' (by rw [hcl, hcl']) (by rw [hsm, HEV.out.sum]) hcr hcr' HEV.out.two
  have hR53 := (HR5.out.below hb3).mono hb3.size
  have hsk := skew_any w3.heap.size w3 A5 H c5 (countsOf H L0 K) hcl (by omega) hR53
  have hsp := spread2_any w3 w3.heap.size A5 H c5 (countsOf H L0 K) hcl (by omega) hR53 h1 hcr
  rw [if_pos hgd] at hsk
  have HSK := hid hsk
  have HSP := hid hsp
  have HCL' := hid hcl'
  have HGD' := hid hgd'
  have HX1 := hsko.x1
  have HY1 := hsko.y1
  have HYX := hsko.yx
  generalize skewBits (countsOf H L0 K) = x at *
  have hpl := play_any w3 A1 S.length c1 S A3 ms.length c3 ms rfl (by omega) HSO.out ((HR1.out.below (HB5.out.trans (hb3.mono HB5.out.size))).mono (HB5.out.trans (hb3.mono HB5.out.size)).size) rfl HEV.out.len HEV.out.oks hR3
  rw [HEV.out.pl] at hpl
  have HPL := hid hpl
  have HB13 := hid (HB1.out.trans ((HB5.out.trans (hb3.mono HB5.out.size)).mono HB1.out.size))
  have HB53 := hid (HB5.out.trans (hb3.mono HB5.out.size))
  have hiff : ∀ a b, a ∈ countsOf H L0 K → b ∈ countsOf H L0 K → (∀ x ∈ countsOf H L0 K, a ≤ x ∧ x ≤ b) → (b - a ≤ 1 ↔ ms = []) := fun a b ha hb hab => by
    refine ⟨fun h => ?_, fun h => ?_⟩
    · rw [HFW.out.mso]
      exact still_nil h1 h2 hm1' HTK.out HKB.out hK4 HFW.out.tab (q := a) (fun x hx => by have := hab x hx; omega) _
    · have hpl0 := HFW.out.pl
      rw [h] at hpl0
      have e : L' = L0 := by have e0 : playL L0 [] = (0, L0) := rfl; rw [e0] at hpl0; injection hpl0 with _ e; exact e.symm
      have htwo := HEV.out.two
      rw [e] at htwo
      exact spread_two htwo ha hb
  have HIFF := hid hiff
  clear hR3 hown3 hb3 hcl hcr hgd hcl' hcr' hgd' hsm hsko hR53 hsk hsp hpl hiff
  have hxl : ¬ FloatKind.f64.format.order x 4607182418800017408 = some .lt := by
    show ¬ Ieee.double.order x 4607182418800017408 = some .lt
    rcases HX1 with h | h <;> rw [h] <;> simp
  have hxl2 : (FloatKind.f64.format.order x 4607182418800017408 == some .lt) = false := by simpa using hxl
  go_wp2_with (first | (go_at_call 13; refine HSK.out.mono ?_; rintro e w' ⟨rfl, rfl⟩) | (go_at_call 16; refine (hnum _ _).mono ?_; rintro e w' ⟨rfl, rfl⟩))
  refine HSP.out.mono ?_
  rintro e w4 ⟨sa, sb, rfl, hsab, hw4⟩
  obtain rfl : w3 = w4 := hw4.symm
  have hi := HIFF.out sa sb hsab.1 hsab.2.1 hsab.2.2
  have hbb : (decide (sb - sa ≤ 1) != ((ms.length : Int) == 0)) = false := by
    by_cases hd : sb - sa ≤ 1
    · rw [hi.1 hd]; simp [hd]
    · have hn : ms ≠ [] := fun h => hd (hi.2 h)
      have : ((ms.length : Int) == 0) = false := by
        rw [beq_eq_false_iff_ne]
        have := List.length_pos_iff.2 hn
        omega
      simp [hd, this]
  clear hi hsab
  obtain ⟨lm, hlm⟩ : ∃ lm, lm = ms.length := ⟨_, rfl⟩
  rw [← hlm] at hbb HPL ⊢
  have HLM := hid hlm
  clear hlm
  obtain ⟨d, hdd⟩ : ∃ d, d = sb - sa := ⟨_, rfl⟩
  rw [← hdd] at hbb ⊢
  clear hdd
  obtain ⟨p, hp⟩ : ∃ p, decide (d ≤ 1) = p := ⟨_, rfl⟩
  obtain ⟨p2, hp2⟩ : ∃ p, ((lm : Int) == 0) = p := ⟨_, rfl⟩
  rw [hp, hp2] at hbb
  obtain rfl : p = p2 := by simpa using hbb
  clear hbb
  cases p
  all_goals
    go_wp2_with (go_at_call 16; refine (hnum _ _).mono ?_; rintro e w' ⟨rfl, rfl⟩)
    refine HPL.out.mono ?_
    rintro e w5 ⟨v6, rfl, hown6, hb6⟩
    obtain ⟨_, A6, c6, rfl, _, _, hR6⟩ := owns_reads encSeg_len hown6 (by decide)
    have hL0 : ((L'.length : Int) == 0) = false := by
      have := HEV.out.tab.wf.pos
      rw [beq_eq_false_iff_ne]; omega
    have hLsz := HEV.out.sz
    have HR6 := hid hR6
    have HB35 := hid (HB53.out.trans (hb6.mono HB53.out.size))
    have HB15 := hid (HB13.out.trans (hb6.mono HB13.out.size))
    clear hown6 hR6 hb6 hp hp2
    by_cases hbig : 4096 < L'.length
    · have g1 : decide ((L'.length : Int) > 4096) = true := by simp; omega
      have g2 : decide ((4096 : Int) < (L'.length : Int)) = true := by simp; omega
      have g3 : decide (4096 < L'.length) = true := by simpa using hbig
      clear hbig
      go_wp2_with (go_at_call 16; refine (hnum _ _).mono ?_; rintro e w' ⟨rfl, rfl⟩)
      go_ret
      exact ⟨rfl, HB15.out⟩
    have g1 : decide ((L'.length : Int) > 4096) = false := by simp; omega
    have g2 : decide ((4096 : Int) < (L'.length : Int)) = false := by simp; omega
    have g3 : decide (4096 < L'.length) = false := by simpa using hbig
    have hR25 := (HR2.out.below HB35.out).mono HB35.out.size
    have hct2 := countedLaw_any w5 H A6 L'.length c6 L' A2 K.length c2 K h2 rfl (by omega) HR6.out HEV.out.tab rfl (by omega) hR25 HKB.out
    have HCT2 := hid hct2
    have hmo2 : movesOf (H : Int) L' K most = (0, []) := by
      have e := load_wf HEV.out.tab.wf (by omega)
      unfold movesOf
      rw [if_neg (by omega), if_pos ⟨by rw [e], by rw [e]; exact HEV.out.tab.hosts, HTK.out⟩, e, Int.toNat_natCast]
      dsimp only
      rw [still_nil h1 h2 hm1' HTK.out HKB.out hK4 HEV.out.tab HEV.out.two]
    have HMO2 := hid hmo2
    clear hct2 hmo2 hR25 hbig
    go_wp2_with (go_at_call 16; refine (hnum _ _).mono ?_; rintro e w' ⟨rfl, rfl⟩)
    refine HCT2.out.mono ?_
    rintro e w6 ⟨v7, rfl, hown7, hb7⟩
    obtain ⟨_, A7, c7, rfl, _, _, hR7⟩ := owns_reads i64_len (l := countsOf H L' K) (n := H) hown7 (by decide)
    have hsk2 := skew_any w6.heap.size w6 A7 H c7 (countsOf H L' K) HCL'.out (by omega) hR7
    rw [if_pos HGD'.out] at hsk2
    have hB36 := HB35.out.trans (hb7.mono HB35.out.size)
    have hmv2 := moves_any w6 (H : Int) A6 L'.length c6 L' A2 K.length c2 K most rfl (by omega) (fun s hs => by
      have := HEV.out.tab.wf.seg s hs
      unfold okSeg; omega) ((HR6.out.below hb7).mono hb7.size) rfl (by omega) HKB.out ((HR2.out.below hB36).mono hB36.size)
    rw [HMO2.out] at hmv2
    have HB16 := hid (HB15.out.trans (hb7.mono HB15.out.size))
    have HMV2 := hid hmv2
    have HSK2 := hid hsk2
    generalize skewBits (countsOf H L' K) = y at *
    clear hown7 hR7 hb7 hsk2 hmv2 hB36
    go_wp2_with fail
    refine HSK2.out.mono ?_
    rintro e w7 ⟨rfl, rfl⟩
    go_wp2_with fail
    refine HMV2.out.mono ?_
    rintro e w8 ⟨v8, rfl, hown8, hb8⟩
    obtain ⟨_, A8, c8, rfl, _, _, _⟩ := owns_reads encMove_len hown8 (by decide)
    have HBF := hid (HB16.out.trans (hb8.mono HB16.out.size))
    clear hown8 hb8
    replace HYX : FloatKind.f64.format.order y x = some .lt ∨ FloatKind.f64.format.order y x = some .eq := HYX
    replace HY1 : FloatKind.f64.format.order y 4607182418800017408 = some .gt ∨ FloatKind.f64.format.order y 4607182418800017408 = some .eq := HY1
    rcases HYX with hyx | hyx
    all_goals
      rcases HY1 with hy1 | hy1
      all_goals
        go_wp2_with (go_at_call 16; refine (hnum _ _).mono ?_; rintro e w' ⟨rfl, rfl⟩)
        go_ret
        exact ⟨rfl, HBF.out⟩

end Go.Proofs.Ytpkcccphoolapaa
