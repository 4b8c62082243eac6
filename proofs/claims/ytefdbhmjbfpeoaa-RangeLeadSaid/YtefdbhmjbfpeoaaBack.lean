/- Layer 6: the walk of RangeBack. -/
import Derived.Test.YtefdbhmjbfpeoaaRngG
import Derived.Test.YtefdbhmjbfpeoaaLoad
import Derived.Test.YtefdbhmjbfpeoaaList
import Derived.Test.YtefdbhmjbfpeoaaFault
import Derived.Test.YtefdbhmjbfpeoaaBackL
namespace Go.Proofs.Ytefdbhmjbfpeoaa
open Go.RowKit

theorem assignL_ok {l : List Seg} {limit lo hi owner : Int} (h1 : lo ≤ hi) (h2 : owner < 16) (h3 : ((Rng.withL l lo hi owner).length : Int) ≤ limit) : assignL l limit lo hi owner = (0, Rng.withL l lo hi owner) := by
  have e : costL l lo hi owner = (((Rng.withL l lo hi owner).length : Int) - l.length, 0) := by unfold costL; rw [if_neg (by omega), if_neg (by omega)]
  unfold assignL
  rw [e]
  rw [if_neg (by simp), if_neg (by simp only; omega)]

theorem loadL_ok {l : List Seg} {limit : Int} (h1 : 1 ≤ limit) (h2 : limit ≤ 8192) (h3 : (Rng.faultL l).2 = 0) (h4 : (l.length : Int) ≤ limit) : Rng.loadL l limit = (0, Rng.joinL l) := by
  have := Rng.joinL_len l
  unfold Rng.loadL
  rw [if_neg (by omega), if_neg (by simp [h3]), if_neg (by omega)]

set_option maxRecDepth 100000 in
set_option maxHeartbeats 4000000 in
theorem rangeBack_walk (w : World) (A : Option Addr) (n c : Nat) (l : List Seg) (st : StepL) (hl : l.length = n) (_ : n ≤ c) (_ : c ≤ maxLen) (hok : ∀ x ∈ l, okSeg x) (hbytes : n * 24 ≤ 140737488351232)
    (hR : Segs w.heap.size w A l) (hst : okStep st) :
    Calls Try.prog 5 #[.slice A n c, .agg #[.int .i64 st.kind, .int .u64 st.lo, .int .u64 st.hi, .int .u8 st.host]] w fun e w' => e = .returned (.bool true) ∧ Below w.heap.size w w' := by
  subst hl
  obtain ⟨sk, slo, shi, sh⟩ := st
  unfold okStep at hst
  simp only at hst ⊢
  obtain ⟨o1, o2, o3, o4, o5, o6⟩ := hst
  obtain ⟨W1, hW1⟩ : ∃ W1, W1 = w.alloc (.cells #[.int .i64 sk, .int .u64 slo, .int .u64 shi, .int .u8 sh] 31) := ⟨_, rfl⟩
  have hRow1 : Row W1 w.heap.size [.int .i64 sk, .int .u64 slo, .int .u64 shi, .int .u8 sh] := by rw [hW1]; exact Row.new w [.int .i64 sk, .int .u64 slo, .int .u64 shi, .int .u8 sh] _
  have hB1 : Below w.heap.size w W1 := by rw [hW1]; exact (Below.refl _ _).alloc (Nat.le_refl _) _
  have hbb1 : w.heap.size < W1.heap.size := by rw [hW1]; simp
  have HW1 := hid hW1
  clear hW1
  have HR := hid hR
  have HO := hid hok
  have hF : ∀ w', Below w.heap.size w w' → _ := fun w' hb => faultRef_any w' A l.length c l rfl hbytes ((HR.out.below hb).mono hb.size)
  have HF := hid hF
  clear hF hR hok
  by_cases hg : slo ≤ shi ∧ sh ≤ 15
  case neg =>
    have hgb : (decide (slo ≤ shi) && decide (sh ≤ 15)) = false := by simp; omega
    obtain ⟨r0, r1, r2, r3⟩ := hRow1.four
    go_enter Try.func5, Try.ntmps5
    go_wp2_with fail
    rw [← HW1.out]
    refine (good_any W1 sk slo shi sh).mono ?_
    rw [hgb]
    rintro e w2 ⟨rfl, hb2⟩
    have hB2 := hB1.trans (hb2.mono (Nat.le_of_lt hbb1))
    go_wp2_with fail
    refine (HF.out w2 hB2).mono ?_
    rintro e w3 ⟨rfl, q, rfl⟩
    go_wp2
    go_ret
    exact ⟨rfl, below_drewN' hB2 _⟩
  case pos =>
  have hgb : (decide (slo ≤ shi) && decide (sh ≤ 15)) = true := by simp [hg.1, hg.2]
  by_cases hf : (Rng.faultL l).2 = 0 ∧ l.length ≤ 8190
  case neg =>
    obtain ⟨r0, r1, r2, r3⟩ := hRow1.four
    generalize Rng.faultL l = ff at *
    go_enter Try.func5, Try.ntmps5
    go_wp2_with fail
    rw [← HW1.out]
    refine (good_any W1 sk slo shi sh).mono ?_
    rw [hgb]
    rintro e w2 ⟨rfl, hb2⟩
    have hB2 := hB1.trans (hb2.mono (Nat.le_of_lt hbb1))
    go_wp2_with fail
    refine (HF.out w2 hB2).mono ?_
    rintro e w3 ⟨rfl, q, rfl⟩
    by_cases h0 : ff.2 = 0
    · have hb0 : (ff.2 != 0) = false := by simp [h0]
      have hln : (8190 : Int) < l.length := by omega
      clear hf h0
      go_wp2
      go_ret
      exact ⟨rfl, below_drewN' hB2 _⟩
    · have hb0 : (ff.2 != 0) = true := by simpa using h0
      clear hf h0
      go_wp2
      go_ret
      exact ⟨rfl, below_drewN' hB2 _⟩
  case pos =>
  obtain ⟨hf0, hlen⟩ := hf
  have hld := loadL_ok (l := l) (limit := (l.length : Int) + 2) (by omega) (by omega) hf0 (by omega)
  have hlo : ∀ w', Below w.heap.size w w' → _ := fun w' hb => load_any w' A l.length c l ((l.length : Int) + 2) rfl hbytes HO.out ((HR.out.below hb).mono hb.size)
  rw [hld] at hlo
  have HLO := hid hlo
  have hWF := (Rng.joinL_wf HO.out hf0).1
  have hjl := Rng.joinL_len l
  clear hlo hld
  have hfe : Rng.faultL l = (0, 0) := (Rng.fault_ok HO.out (fun _ => by rw [maxK_eq]; omega) hf0).1
  have hF2 := HF.out
  rw [hfe] at hF2
  have HF2 := hid hF2
  have hpos := hWF.pos
  have HWF := hid hWF
  clear hF2 HF hfe hf0 hWF HO
  generalize Rng.joinL l = l0 at *
  have HG := hid hg
  obtain ⟨r0, r1, r2, r3⟩ := hRow1.four
  go_enter Try.func5, Try.ntmps5
  go_wp2_with fail
  rw [← HW1.out]
  refine (good_any W1 sk slo shi sh).mono ?_
  rw [hgb]
  rintro e w2 ⟨rfl, hb2⟩
  have hB2 := hB1.trans (hb2.mono (Nat.le_of_lt hbb1))
  have hRow2 := hRow1.below hb2
  clear hRow1 hB1 r0 r1 r2 r3 hb2
  go_wp2_with fail
  refine (HF2.out w2 hB2).mono ?_
  rintro e w3 ⟨rfl, q, rfl⟩
  have hB3 := below_drewN' hB2 q
  have hRow3 : Row (w2.drewN q) w.heap.size [.int .i64 sk, .int .u64 slo, .int .u64 shi, .int .u8 sh] := hRow2
  generalize w2.drewN q = w3 at *
  clear hRow2 hB2
  go_wp2_with fail
  refine (HLO.out _ hB3).mono ?_
  rintro e w4 ⟨p, rfl, hb4, _, hp⟩
  obtain ⟨T, rfl, hTw, hT4, _⟩ := hp (by first | rfl | trivial)
  have hB4 := hB3.trans (hb4.mono hB3.size)
  have hRow4 := hRow3.below hb4
  have hTw4 : w.heap.size < T := Nat.lt_of_lt_of_le hRow3.1 hTw
  clear hp hRow3 hB3 hb4 hTw
  obtain ⟨lim, hlim⟩ : ∃ x : Int, x = (l.length : Int) + 2 := ⟨_, rfl⟩
  rw [← hlim] at hT4
  have hlim1 : (l0.length : Int) + 2 ≤ lim := by omega
  have hlim2 : lim ≤ 8192 := by omega
  have hli := list_any w4 T lim l0 hT4 HWF.out (by omega)
  have hTlt4 := hT4.lt
  clear hlim
  go_wp2_with (first | (go_at_call 9; refine (num6_any _ _).mono ?_; rintro e w' ⟨rfl, rfl⟩) | fail)
  refine hli.mono ?_
  rintro e w5 ⟨v, rfl, hown5, hb5⟩
  obtain ⟨g, cap, rfl, hbg, hgl⟩ := hown5.form hpos
  have hcc : l0.length ≤ cap := by
    obtain ⟨_, _, _, e1, e2, _⟩ := owns_reads encSeg_len hown5 (by decide)
    cases e1; exact e2
  have hT5 := hT4.below hb5
  have hRow5 := hRow4.below hb5
  have hB5 := hB4.trans (hb5.mono hB4.size)
  have hgT : g ≠ T := by omega
  have hbase : w.heap.size ≤ w4.heap.size := hB4.size
  generalize hb4s : w4.heap.size = base at *
  clear hb4s
  have HOW := hid hown5
  clear hli hb5 hT4 hRow4 hB4 hown5
  have lenB : ∀ p, Hid (Rng.WF (Rng.backL l0 slo shi sh p) ∧ ((Rng.backL l0 slo shi sh p).length : Int) ≤ lim) := fun p => by
    obtain ⟨b1, b2⟩ := Rng.backL_wf (p := p) HWF.out o1 o4 o5 (by omega : sh < 16)
    exact ⟨b1, by omega⟩
  have ha := assign_any w5 T lim l0 slo shi sh hT5 HWF.out (by omega) o1 o4 o5
  rw [assignL_ok hg.1 (by omega) (by rw [← Rng.backL_start o1 hg.1]; exact (lenB 0).out.2), ← Rng.backL_start o1 hg.1] at ha
  obtain ⟨r0, r1, r2, r3⟩ := hRow5.four
  have hgl2 : w.heap.size < w5.heap.size := hRow5.1
  clear hT5
  go_wp2_with fail
  refine ha.mono ?_
  rintro e w6 ⟨rfl, hT6, hg6⟩
  have hneB : some w.heap.size ≠ some T := fun e => by have := Option.some.inj e; omega
  have hneG : ∀ (cap : Nat), (Value.slice (some ⟨g, 0, none⟩) l0.length cap).ownBlock ≠ some T := fun _ e => hgT (Option.some.inj e)
  have hRow6 := hRow5.grown hg6 hneB
  have hB6 := hB5.grown hg6 hB5.size (by intro k hk; cases hk; omega)
  have HOW6 := hid (HOW.out.kept hg6 (.inr (hneG cap)))
  obtain ⟨s', q1, q2, q3⟩ := Rng.withL_owns HWF.out o1 hg.1 o4 o5 (by omega : sh < 16)
  rw [← Rng.backL_start o1 hg.1] at q1
  have hon := owns_any w6 T lim _ slo shi sh hT6 (lenB 0).out.1 (by have := (lenB 0).out.2; omega) s' q1
  rw [show ownsL s' slo shi sh = true from by unfold ownsL; simp [hg.1, q2, q3]; omega] at hon
  obtain ⟨r0, r1, r2, r3⟩ := hRow6.four
  have hgl6 : w.heap.size < w6.heap.size := hRow6.1
  clear ha hRow5 hB5 hg6 HOW q1 q2 q3
  go_wp2_with fail
  refine hon.mono ?_
  rintro e w7 ⟨rfl, hb7⟩
  have HT7 := hid (hT6.below hb7)
  have HR7 := hid (hRow6.below hb7)
  have HOW7 := hid (HOW6.out.kept (grown_below hb7 none) (.inr (by simp [Value.ownBlock])))
  have hB7 := hB6.trans (hb7.mono hB6.size)
  clear hon hb7 hB6 hRow6 hT6 HOW6
  have HE0 := hid (Rng.edge_start HWF.out)
  have hgs := hg.1
  have hsh : sh < 16 := by omega
  clear hg hgb
  go_wp2_with (first | (go_at_call 9; refine (num6_any _ _).mono ?_; rintro e w' ⟨rfl, rfl⟩) | fail)
  go_loopw [13] (fun i wr => ∃ k : Nat, k ≤ l0.length ∧ i = .int .i64 k ∧ Hid (IsTab wr T lim (Rng.backL l0 slo shi sh (Rng.edge l0 k))) ∧ Hid (OwnSegs wr base (.slice (some ⟨g, 0, none⟩) l0.length cap) l0) ∧ Hid (Row wr w.heap.size [.int .i64 sk, .int .u64 slo, .int .u64 shi, .int .u8 sh]) ∧ Below w.heap.size w wr) (fun i _ => l0.length - (intOf i).toNat)
  case atStart => exact ⟨0, Nat.zero_le _, rfl, hid (by rw [HE0.out]; exact HT7.out), HOW7, HR7, hB7⟩
  case round =>
    obtain ⟨k, hk, rfl, HT, HO, HRw, hbr⟩ := hrel
    by_cases hlt : k < l0.length
    · obtain ⟨s, hs⟩ : ∃ s, l0[k]? = some s := ⟨_, List.getElem?_eq_getElem hlt⟩
      obtain ⟨c0, c1, c2⟩ := OwnSegs.at3 HO.out k s hs
      obtain ⟨r0, r1, r2, r3⟩ := HRw.out.four
      have hm := List.mem_of_getElem? hs
      obtain ⟨v1, v2, v3, v4, v5⟩ := HWF.out.seg s hm
      have HN := hid (Rng.edge_next HWF.out hs)
      have HA := hid (Rng.edge_at hs)
      have HS := hid (fun hle => Rng.backL_step HWF.out o1 hgs o4 o5 hsh hm hle)
      have HK := hid (fun hle => Rng.backL_skip (l := l0) (owner := sh) hgs v2 hle)
      have hkn : (k : Int) < l0.length := by omega
      have hgw : g < wr.heap.size := by have := HO.out.lt g rfl; exact this.2
      have hww : w.heap.size < wr.heap.size := HRw.out.1
      obtain ⟨sl, sg, shh⟩ := s
      simp only at c0 c1 c2 v1 v2 v3 v4 v5
      have HN : Hid (Rng.edge l0 (k + 1) = sg + 1) := HN
      have HA : Hid (Rng.edge l0 k = sl) := HA
      clear hs hm
      obtain ⟨a, hax⟩ : ∃ a, a = max sl slo := ⟨_, rfl⟩
      obtain ⟨b, hbx⟩ : ∃ b, b = min sg shi := ⟨_, rfl⟩
      have a0 : 0 ≤ a := by omega
      have b0 : b ≤ maxK := by omega
      have HSt := HS.out
      have HKt := HK.out
      simp only at HSt HKt
      rw [← hax, ← hbx] at HSt HKt
      have HS2 := hid HSt
      have HK2 := hid HKt
      have HAX := hid hax
      have HBX := hid hbx
      clear hax hbx HS HK HSt HKt
      go_upto_if 95 with fail
      go_cut [14] (fun v wc => v = .int .u64 a ∧ wc = wr)
      case first =>
        by_cases d1 : sl < slo
        · go_wp2_with fail
          go_meet
          exact ⟨by rw [HAX.out, show max sl slo = slo by omega], rfl⟩
        · go_wp2_with fail
          go_meet
          exact ⟨by rw [HAX.out, show max sl slo = sl by omega], rfl⟩
      case rest =>
      obtain ⟨rfl, rfl⟩ := hcut
      go_upto_if 101 with fail
      go_cut [15] (fun v wc' => v = .int .u64 b ∧ wc' = wc)
      case first =>
        by_cases d1 : shi < sg
        · go_wp2_with fail
          go_meet
          exact ⟨by rw [HBX.out, show min sg shi = shi by omega], rfl⟩
        · go_wp2_with fail
          go_meet
          exact ⟨by rw [HBX.out, show min sg shi = sg by omega], rfl⟩
      case rest =>
      obtain ⟨rfl, rfl⟩ := hcut
      by_cases d3 : a ≤ b
      · have hE := HS2.out d3
        have hT0 := HT.out
        rw [HA.out] at hT0
        have hwB := (lenB sl).out
        have hA3 := assign_any _ T lim _ a b shh hT0 hwB.1 (by have := hwB.2; omega) a0 b0 v4
        rw [assignL_ok d3 v5 (by rw [hE]; exact (lenB _).out.2), hE] at hA3
        clear hE hT0 hwB
        go_wp2_with fail
        refine hA3.mono ?_
        rintro e w8 ⟨rfl, hT8, hg8⟩
        have HT8 := hid hT8
        have HO8 := hid (HO.out.kept hg8 (.inr (hneG cap)))
        have HR8 := hid (HRw.out.grown hg8 hneB)
        have hB8 := hbr.grown hg8 hbr.size (by intro k hk; cases hk; omega)
        clear hA3 hT8 hg8 r0 r1 r2 r3 c0 c1 c2
        go_wp2_with (first | (go_at_call 9; refine (num6_any _ _).mono ?_; rintro e w' ⟨rfl, rfl⟩) | fail)
        go_roundw
        case rel => exact ⟨k + 1, by omega, by go_num, hid (by rw [HN.out]; exact HT8.out), HO8, HR8, hB8⟩
        case measure => simp [intOf]; omega
      · have hE := hid (HK2.out d3)
        go_wp2_with fail
        go_roundw
        case rel => exact ⟨k + 1, by omega, by go_num, hid (by rw [HN.out, hE.out]; have := HT.out; rw [HA.out] at this; exact this), HO, HRw, hbr⟩
        case measure => simp [intOf]; omega
    · obtain rfl : k = l0.length := by omega
      have hTe := HT.out
      rw [Rng.edge_end, Rng.backL_end o4] at hTe
      have hli := list_any _ T lim l0 hTe HWF.out (by omega)
      clear hTe
      go_wp2_with fail
      refine hli.mono ?_
      rintro e w8 ⟨v, rfl, hown8, hb8⟩
      have hB8 := hbr.trans (hb8.mono hbr.size)
      have HO8 := HO.out.kept (grown_below hb8 none) (.inr (by simp [Value.ownBlock]))
      obtain ⟨_, A1, k1, rfl, _, _, hR1⟩ := owns_reads encSeg_len hown8 (by decide)
      obtain ⟨_, A2, k2, e2, _, _, hR2⟩ := owns_reads encSeg_len HO8 (by decide)
      cases e2
      have hsm := same_any _ _ w8 _ _ l0.length k1 l0.length cap l0 rfl rfl (by omega) hR1 hR2
      clear hR1 hR2 hown8 HO8 hli
      go_wp2_with fail
      refine hsm.mono ?_
      rintro e w9 ⟨rfl, q, rfl⟩
      go_wp2
      go_ret
      exact ⟨rfl, below_drewN' hB8 _⟩
end Go.Proofs.Ytefdbhmjbfpeoaa
