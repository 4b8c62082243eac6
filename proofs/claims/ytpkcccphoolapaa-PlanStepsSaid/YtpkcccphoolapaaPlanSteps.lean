/- The walk of PlanSteps. -/
import Derived.Test.YtpkcccphoolapaaStP
import Derived.Test.YtpkcccphoolapaaSameS
import Derived.Test.YtpkcccphoolapaaTam
import Derived.Test.YtpkcccphoolapaaLkp
import Derived.Test.YtpkcccphoolapaaMvF
namespace Go.Proofs.Ytpkcccphoolapaa
open Go.RowKit

theorem move_row {W : World} {B : Nat} {m : MoveL} (h : Row W B (encMove m)) : Moves W.heap.size W (some ⟨B, 0, none⟩) [m] := by
  refine .inr ⟨B, 0, rfl, h.1, fun i x hx j v hv => ?_⟩
  cases i with
  | zero =>
    injection hx with hx
    subst hx
    rw [show 0 + 0 * 5 + j = j by omega]
    exact h.2 j v hv
  | succ i => simp at hx

set_option maxRecDepth 100000 in
set_option maxHeartbeats 8000000 in
theorem planSteps_walk (w : World) (hosts : Int) (A : Option Addr) (n c : Nat) (l : List Seg) (A' : Option Addr) (n' c' : Nat) (ks : List Int) (most key : Int) (_ : (Lit.int .i64 hosts).wf = true)
    (hl : l.length = n) (_ : n ≤ c) (_ : c ≤ maxLen) (hok : ∀ s ∈ l, okSeg s) (hbytes : n * 24 ≤ 140737488351232) (hR : Segs w.heap.size w A l)
    (hl' : ks.length = n') (_ : n' ≤ c') (_ : c' ≤ maxLen) (hks : ∀ x ∈ ks, (Lit.int .u64 x).wf = true) (hbytes' : n' * 8 ≤ 140737488351232) (hR' : Keys w.heap.size w A' ks) (_ : (Lit.int .i64 most).wf = true) (hkey : (Lit.int .u64 key).wf = true) :
    Calls Try.prog 9 #[.int .i64 hosts, .slice A n c, .slice A' n' c', .int .i64 most, .int .u64 key] w fun e w' => e = .returned (.bool true) ∧ Below w.heap.size w w' := by
  subst hl
  subst hl'
  have hu64 : ∀ k : Int, (Lit.int .u64 k).wf = true → 0 ≤ k ∧ k ≤ maxK := fun k this => by
    simp [Lit.wf, IntKind.min, IntKind.max, IntKind.signed, IntKind.bits] at this
    rw [maxK_eq]; omega
  have hks2 : ∀ k ∈ ks, 0 ≤ k ∧ k ≤ maxK := fun k hk => hu64 k (hks k hk)
  obtain ⟨hk0, hk1⟩ := hu64 key hkey
  have hta := tamed_any w hosts A l.length c l A' ks.length c' ks rfl hbytes hok hR rfl hbytes' hR'
  have HTA := hid hta
  have HOK := hid hok
  have HKS := hid hks2
  have HKY := hid (And.intro hk0 hk1)
  clear hta hok hR hks hR' hks2 hkey hu64 hk0 hk1
  go_enter Try.func9, Try.ntmps9
  go_wp2_with fail
  refine HTA.out.mono ?_
  rintro e w1 ⟨v1, v2, ok, rfl, hok1, hb1⟩
  cases ok with
  | false =>
    clear hok1
    go_wp2_with fail
    go_ret
    exact ⟨rfl, hb1⟩
  | true =>
  obtain ⟨H, rfl, h1, h2, hf, hn4, hk4, hos, hok2⟩ := hok1 rfl
  by_cases hm1 : most < 1
  · have b3 : decide (most < 1) = true := by simpa using hm1
    clear hos hok2 hok1 hf
    go_wp2_with fail
    go_ret
    exact ⟨rfl, hb1⟩
  by_cases hm2 : 32 < most
  · have b3 : decide (most < 1) = false := by simpa using hm1
    have b4 : decide (most > 32) = true := by simpa using hm2
    have b4' : decide (32 < most) = true := by simpa using hm2
    clear hos hok2 hok1 hf hm1
    go_wp2_with fail
    go_ret
    exact ⟨rfl, hb1⟩
  have b3 : decide (most < 1) = false := by simpa using hm1
  have b4 : decide (most > 32) = false := by simpa using hm2
  have b4' : decide (32 < most) = false := by simpa using hm2
  obtain ⟨ms, L', q, hev⟩ := even_ok (most := most) h1 h2 (by omega) (by omega) HOK.out hf hn4 hk4 HKS.out
  obtain ⟨L0, hld, htab, hl04, hst⟩ := steps_ok (most := most) h1 h2 (by omega) (by omega) HOK.out hf hn4 HKS.out hev.mo
  have hsl : (tameS H l).length = l.length := by simp [tameS]
  obtain ⟨tk1, tk2, tk3⟩ := tameK_ok ks
  have hso := (tameS_ok h1 h2 HOK.out).1
  obtain ⟨_, A1, c1, rfl, _, _, hR1⟩ := owns_reads encSeg_len hos (by decide)
  obtain ⟨_, A2, c2, rfl, _, _, hR2⟩ := owns_reads encKey_len hok2 (by decide)
  have hkb : ∀ k ∈ tameK ks, 0 ≤ k ∧ k ≤ maxK := fun k hk => HKS.out k (tk2 k hk)
  generalize tameS H l = S at *
  generalize tameK ks = K at *
  have hmv := moves_any w1 (H : Int) A1 S.length c1 S A2 K.length c2 K most rfl (by omega) hso hR1 rfl (by omega) hkb hR2
  rw [hev.mo] at hmv
  have HMV := hid hmv
  have HEV := hid hev
  have HB1 := hid hb1
  have HR1 := hid hR1
  have HSO := hid hso
  have HST := hid hst
  have HTB := hid htab
  have hPL0 : playsL S ms = playL L0 ms := by unfold playsL; rw [hld]; simp
  have hP0 : playsL S [] = (0, L0) := by unfold playsL; rw [hld]; simp [playL]
  have HPL0 := hid hPL0
  have hS4 : S.length ≤ 4096 := by omega
  have hL0pos := htab.wf.pos
  have hms4 := hev.len
  clear hmv hev hb1 hR1 hR2 hos hok2 hok1 hf hm1 hm2 hso tk1 tk2 hkb hn4 hk4 tk3 hsl hst htab hPL0 hld
  go_wp2_with fail
  refine HMV.out.mono ?_
  rintro e w2 ⟨v3, rfl, hown3, hb2⟩
  obtain ⟨_, A3, c3, rfl, _, _, hR3⟩ := owns_reads encMove_len hown3 (by decide)
  have hpl := play_any w2 A1 S.length c1 S none 0 0 [] rfl (by omega) HSO.out ((HR1.out.below hb2).mono hb2.size) rfl (by omega) (by simp) (.inl rfl)
  rw [hP0] at hpl
  have HPL := hid hpl
  have HB2 := hid hb2
  have HR3 := hid hR3
  clear hpl hb2 hown3 hR3 hP0
  go_wp2_with fail
  refine HPL.out.mono ?_
  rintro e w3 ⟨v4, rfl, hown4, hb3⟩
  obtain ⟨_, A4, c4, rfl, _, _, hR4⟩ := owns_reads encSeg_len hown4 (by decide)
  have hnum := num_any
  have hL0b : ((L0.length : Int) == 0) = false := by
    rw [beq_eq_false_iff_ne]; omega
  have hB13 := HB2.out.trans (hb3.mono HB2.out.size)
  have HB13 := hid hB13
  have HBW := hid (HB1.out.trans (hB13.mono HB1.out.size))
  have HR4 := hid hR4
  have HR13 := hid ((HR1.out.below hB13).mono hB13.size)
  have HR33 := hid ((HR3.out.below hb3).mono hb3.size)
  clear hb3 hown4 hR4 hB13
  go_wp2_with (go_at_call 16; refine (hnum _ _).mono ?_; rintro e w' ⟨rfl, rfl⟩)
  go_loopg [16, 18] ms.length (fun gx sn si wr => ∃ (i : Nat) (T : List Seg) (A : Option Addr) (c : Nat), si = .int .i64 i ∧ sn = .slice A T.length c ∧ i ≤ ms.length ∧ ms.length - i ≤ gx ∧ T.length ≤ 12288 ∧ Hid (playL L0 (ms.take i) = (0, T)) ∧ Hid (Segs wr.heap.size wr A T) ∧ Hid (Below w3.heap.size w3 wr))
  case atStart => exact ⟨0, L0, A4, c4, rfl, rfl, Nat.zero_le _, Nat.le_refl _, by omega, hid (by rw [List.take_zero]; rfl), HR4, hid (Below.refl _ _)⟩
  case round =>
    obtain ⟨i, T, AT, cT, rfl, rfl, hi, hgx, hTl, HT, HRT, HBR⟩ := hrel
    by_cases hlt : i < ms.length
    · have hii : (i : Int) < (ms.length : Int) := by omega
      have hi0 : (0 : Int) ≤ (i : Int) := by omega
      have hwi : IntKind.i64.wrap ((i : Int) + 1) = (i : Int) + 1 := wrap_small _ (by omega) (by omega)
      obtain ⟨T0, T', m, s, hst⟩ := HST.out i hlt
      obtain rfl : T = T0 := by have := HT.out.symm.trans hst.pl; injection this
      have HSA := hid hst
      obtain ⟨b, off, m0, hm0, rfl, hb, c0, c1', c2', c3', c4'⟩ := Moves.at5 HR33.out i hlt
      obtain rfl : m = m0 := by have := hst.get.symm.trans hm0.out; injection this
      have hb3 : b < wr.heap.size := Nat.lt_of_lt_of_le hb HBR.out.size
      replace c0 := Tfact HBR.out (a := ⟨b, _, none⟩) hb c0
      replace c1' := Tfact HBR.out (a := ⟨b, _, none⟩) hb c1'
      replace c2' := Tfact HBR.out (a := ⟨b, _, none⟩) hb c2'
      replace c3' := Tfact HBR.out (a := ⟨b, _, none⟩) hb c3'
      replace c4' := Tfact HBR.out (a := ⟨b, _, none⟩) hb c4'
      obtain ⟨X1, hX1⟩ : ∃ X1, X1 = wr.alloc (.cells #[.int .i64 0, .slice AT T.length cT] 65) := ⟨_, rfl⟩
      have hRow : Row X1 wr.heap.size [.int .i64 0, .slice AT T.length cT] := by rw [hX1]; exact Row.new wr _ _
      have hBX : Below wr.heap.size wr X1 := by rw [hX1]; exact (Below.refl _ wr).alloc (Nat.le_refl _) _
      have hsg : ∀ W, Below X1.heap.size X1 W → Calls Try.prog 31 #[.agg #[.int .i64 0, .slice AT T.length cT], .int .u64 m.hi] W fun e w' => e = .returned (.agg #[.int .u64 s.lo, .int .u64 s.hi, .int .u8 s.host]) ∧ Below W.heap.size W w' := fun W hW =>
        (segAtRef_any W 0 AT T.length cT T m.hi s rfl (by omega) (((HRT.out.below hBX).mono hBX.size |>.below hW).mono hW.size) hst.ok.wf (by have := hst.lo0; have := hst.le; omega) hst.hi1 hst.at')
      have hsga : ∀ W, W.heap[X1.heap.size]? = some (.cells #[.int .u64 0, .int .u64 0, .int .u8 0] 67 (0, 0)) → Below X1.heap.size X1 W → Calls Try.prog 31 #[.agg #[.int .i64 0, .slice AT T.length cT], .int .u64 m.hi] W fun e w' => e = .returned (.agg #[.int .u64 s.lo, .int .u64 s.hi, .int .u8 s.host]) ∧ Below X1.heap.size X1 w' ∧ w'.heap[X1.heap.size]? = some (.cells #[.int .u64 0, .int .u64 0, .int .u8 0] 67 (0, 0)) ∧ w'.frozen? ⟨X1.heap.size, 0, none⟩ = false ∧ w'.frozen? ⟨X1.heap.size, 1, none⟩ = false ∧ w'.frozen? ⟨X1.heap.size, 2, none⟩ = false ∧ w'.cell? ⟨X1.heap.size, 0, none⟩ = some (.int .u64 0) ∧ w'.cell? ⟨X1.heap.size, 1, none⟩ = some (.int .u64 0) ∧ w'.cell? ⟨X1.heap.size, 2, none⟩ = some (.int .u8 0) := fun W hz hW =>
        (hsg W hW).mono fun e w' h => by
          have hz' := (h.2.block _ (Array.getElem?_eq_some_iff.1 hz).1).trans hz
          exact ⟨h.1, hW.trans (h.2.mono hW.size), hz', by simp [World.frozen?, hz'], by simp [World.frozen?, hz'], by simp [World.frozen?, hz'], by simp [World.cell?, hz'], by simp [World.cell?, hz'], by simp [World.cell?, hz']⟩
      have HSGA := hid hsga
      replace hsg := fun W hW => (hsg W hW).mono fun e w' h => And.intro h.1 (hW.trans (h.2.mono hW.size))
      have HSG := hid hsg
      have t0 := hRow.2 0 _ rfl
      have t1 := hRow.2 1 _ rfl
      have HX1 := hid hX1
      have HRW := hid hRow
      have HBX := hid hBX
      have d0 := (hBX.cell (p := ⟨b, _, none⟩) hb3).trans c0
      have d1 := (hBX.cell (p := ⟨b, _, none⟩) hb3).trans c1'
      have d2 := (hBX.cell (p := ⟨b, _, none⟩) hb3).trans c2'
      have d3 := (hBX.cell (p := ⟨b, _, none⟩) hb3).trans c3'
      have d4 := (hBX.cell (p := ⟨b, _, none⟩) hb3).trans c4'
      clear hst hX1 hRow hBX hsg hsga c0 c1' c2' c3' c4' hb
      have hbz : b < X1.heap.size := Nat.lt_of_lt_of_le hb3 HBX.out.size
      have hwz : wr.heap.size < X1.heap.size := HRW.out.1
      have KP := hid (show ∀ w', Below X1.heap.size X1 w' → w'.cell? ⟨wr.heap.size, 0, none⟩ = some (.int .i64 0) ∧ w'.cell? ⟨wr.heap.size, 1, none⟩ = some (.slice AT T.length cT) ∧ w'.cell? ⟨b, off + i * 5 + 3, none⟩ = some (.int .u64 m.hi) ∧ Below X1.heap.size X1 w' from
        fun w' hb' => ⟨(hb'.cell hwz).trans t0, (hb'.cell hwz).trans t1, (hb'.cell hbz).trans d3, hb'⟩)
      have KM := hid (show ∀ w', Below X1.heap.size X1 w' → w'.cell? ⟨b, off + i * 5, none⟩ = some (.int .u8 m.src) ∧ w'.cell? ⟨b, off + i * 5 + 1, none⟩ = some (.int .u8 m.dst) ∧ w'.cell? ⟨b, off + i * 5 + 2, none⟩ = some (.int .u64 m.lo) ∧ w'.cell? ⟨b, off + i * 5 + 4, none⟩ = some (.int .i64 m.pairs) from
        fun w' hb' => ⟨(hb'.cell hbz).trans d0, (hb'.cell hbz).trans d1, (hb'.cell hbz).trans d2, (hb'.cell hbz).trans d4⟩)
      clear d0 d1 d2 d3 d4 t0 t1
      obtain ⟨t0, t1, d3, hbx⟩ := KP.out X1 (Below.refl _ _)
      go_upto_region 12 with fail
      rw [← HX1.out]
      go_cut [20] from 71 to 187 (fun v wd => ∃ bg, v = .pointer (some ⟨bg, 0, none⟩) ∧ wd.heap[bg]? = some (.cells #[.int .u64 s.lo, .int .u64 s.hi, .int .u8 s.host] 67 (0, 0)) ∧ Below X1.heap.size X1 wd)
      case first =>
        go_region_held3 (fun w' => w'.cell? ⟨wr.heap.size, 0, none⟩ = some (.int .i64 0) ∧ w'.cell? ⟨wr.heap.size, 1, none⟩ = some (.slice AT T.length cT) ∧ w'.cell? ⟨b, off + i * 5 + 3, none⟩ = some (.int .u64 m.hi) ∧ Below X1.heap.size X1 w')
          (first | (refine KP.out _ ?_; repeat' (first | assumption | exact Below.refl _ _ | refine Below.drew ?_ | refine below_drewN' ?_ _ | refine Below.alloc ?_ ?_ _ | refine Below.setCell ?_ ?_ _ | exact Nat.le_refl _ | exact Below.size (by assumption) | (simp; done) | (simp; omega))))
          (first
            | (go_simp; with_reducible refine (HSGA.out _ (by with_unfolding_all exact heap_alloc_new X1 _) (by repeat' (first | assumption | exact Below.refl _ _ | refine Below.drew ?_ | refine below_drewN' ?_ _ | refine Below.alloc ?_ ?_ _ | exact Nat.le_refl _ | exact Below.size (by assumption)))).mono ?_; rintro e w4 ⟨rfl, hb4, hz0, hz1, hz2, hz3, hz4, hz5, hz6⟩)
            | (go_simp; with_reducible refine (HSG.out _ (by repeat' (first | assumption | exact Below.refl _ _ | refine Below.drew ?_ | refine below_drewN' ?_ _ | refine Below.alloc ?_ ?_ _ | exact Nat.le_refl _ | exact Below.size (by assumption)))).mono ?_; rintro e w4 ⟨rfl, hb4⟩))
        all_goals go_wp2_with fail
        all_goals go_meet
        all_goals first
          | exact ⟨_, rfl, seg_box hz0 _ _ _, ((hb4.setCell (p := ⟨X1.heap.size, 0, none⟩) (Nat.le_refl _) _).setCell (p := ⟨X1.heap.size, 1, none⟩) (Nat.le_refl _) _).setCell (p := ⟨X1.heap.size, 2, none⟩) (Nat.le_refl _) _⟩
          | exact ⟨_, rfl, heap_alloc_new _ _, hb4.alloc hb4.size _⟩
          | exact ⟨_, rfl, heap_alloc_new _ _, hb4.drew.alloc hb4.size _⟩
      case rest =>
      obtain ⟨bg, rfl, hbg, hbd⟩ := hcut
      clear t0 t1 d3 hbx
      have hsth := HSA.out
      have hlk : ∀ W, Below X1.heap.size X1 W → Calls Try.prog 32 #[.agg #[.int .i64 0, .slice AT T.length cT], .int .u64 key] W fun e w' => e = .returned (.int .u8 (hostOf T key)) ∧ Below W.heap.size W w' := fun W hW =>
        lookupRef_any W 0 AT T.length cT T key rfl (by omega) (((HRT.out.below HBX.out).mono HBX.out.size |>.below hW).mono hW.size) hsth.ok.wf HKY.out.1 HKY.out.2
      obtain ⟨t0, t1, d3, _⟩ := KP.out wc hbd
      have HLK := hid hlk
      have e1 : (s.host != m.src) = false := by have := hsth.host; simpa using this
      have e2 : (s.hi != m.hi) = false := by have := hsth.hi; simpa using this
      have e3 : decide (m.lo < s.lo) = false := by have := hsth.lo; simpa using this
      have e4 : decide (m.lo > m.hi) = false := by have := hsth.le; simpa using this
      have e4' : decide (m.hi < m.lo) = false := by have := hsth.le; simpa using this
      have e5 : (m.src == m.dst) = false := by have := hsth.ne; simpa using this
      clear hlk hsth
      go_wp2_with fail
      refine (HLK.out _ (by first | exact hbd | exact hbd.drew)).mono ?_
      rintro e w5 ⟨rfl, hb5⟩
      have hB5 := hbd.trans (hb5.mono hbd.size)
      obtain ⟨t0', t1', d3', _⟩ := KP.out w5 hB5
      have hbg5 := (hb5.block _ (Array.getElem?_eq_some_iff.1 hbg).1).trans hbg
      have g0 : w5.cell? ⟨bg, 0, none⟩ = some (.int .u64 s.lo) := by simp [World.cell?, hbg5]
      have g1 : w5.cell? ⟨bg, 1, none⟩ = some (.int .u64 s.hi) := by simp [World.cell?, hbg5]
      have g2 : w5.cell? ⟨bg, 2, none⟩ = some (.int .u8 s.host) := by simp [World.cell?, hbg5]
      obtain ⟨d0, d1, d2, d4⟩ := KM.out w5 hB5
      have HB5 := hid hB5
      clear t0 t1 d3 hbg hbd hB5 hb5 hbg5 t0' t1'
      go_wp2_with fail
      go_quiet (fail)
      by_cases h8 : (8192 : Int) < (T.length : Int)
      · have b8 : decide ((T.length : Int) > 8192) = true := by simpa using h8
        have b8' : decide ((8192 : Int) < (T.length : Int)) = true := by simpa using h8
        have b8'' : decide (8192 < T.length) = true := by simp; omega
        have HBF := hid (HBW.out.trans ((HBR.out.trans ((HBX.out.trans (HB5.out.mono HBX.out.size)).mono HBR.out.size)).mono HBW.out.size))
        clear h8
        go_wp2_with fail
        go_ret
        exact ⟨rfl, by first | exact HBF.out | exact HBF.out.drew | exact below_drewN' HBF.out _⟩
      have b8 : decide ((T.length : Int) > 8192) = false := by simpa using h8
      have b8' : decide ((8192 : Int) < (T.length : Int)) = false := by simpa using h8
      have b8'' : decide (8192 < T.length) = false := by simp; omega
      have hsth := HSA.out
      have hplay : ∀ W B, Below X1.heap.size X1 W → Row W B (encMove m) → Calls Try.prog 21 #[.slice AT T.length cT, .slice (some ⟨B, 0, none⟩) 1 1] W fun e w' => ∃ v, e = .returned (.tuple #[v, .int .i64 0]) ∧ OwnSegs w' W.heap.size v T' ∧ Below W.heap.size W w' := fun W B hW hRw => by
        have := play_any W AT T.length cT T (some ⟨B, 0, none⟩) 1 1 [m] rfl (by omega) (fun s hs => by
          have := hsth.ok.wf.seg s hs
          unfold okSeg; omega) (((HRT.out.below HBX.out).mono HBX.out.size |>.below hW).mono hW.size) rfl (by omega) (fun m' hm' => by
          rw [List.mem_singleton] at hm'; rw [hm']; exact HEV.out.oks m (List.mem_of_getElem? hsth.get)) (move_row hRw)
        rw [hsth.one (by omega)] at this
        exact this
      obtain ⟨_, _, hT'l⟩ := Rng.withL_spec hsth.ok.wf hsth.lo0 hsth.le hsth.hi1 hsth.dst.1 hsth.dst.2
      rw [← hsth.lay] at hT'l
      have hT'n : T'.length ≤ 12288 := by omega
      have HPY := hid hplay
      clear hsth hplay hT'l
      go_wp2_with fail
      have hB6 := (below_drewN' HB5.out nq).alloc (below_drewN' HB5.out nq).size (.cells #[.int .u8 m.src, .int .u8 m.dst, .int .u64 m.lo, .int .u64 m.hi, .int .i64 m.pairs] 62)
      refine (HPY.out _ _ hB6 (Row.new (w5.drewN nq) (encMove m) _)).mono ?_
      rintro e w6 ⟨v6, rfl, hown6, hb6⟩
      obtain ⟨_, A6, c6, rfl, _, _, hR6⟩ := owns_reads encSeg_len hown6 (by decide)
      have hB7 := hB6.trans (hb6.mono hB6.size)
      have hsth := HSA.out
      have hlk6 := lookupRef_any w6 0 A6 T'.length c6 T' key rfl (by omega) hR6 hsth.ok'.wf HKY.out.1 HKY.out.2
      rw [hsth.owner HKY.out.1 HKY.out.2] at hlk6
      obtain ⟨_, d1, d2, _⟩ := KM.out w6 hB7
      obtain ⟨_, _, d3, _⟩ := KP.out w6 hB7
      have HL6 := hid hlk6
      have HR6 := hid hR6
      have HB7 := hid hB7
      have HPN := hid (show playL L0 (ms.take (i + 1)) = (0, T') from hsth.pl')
      clear hsth hlk6 hR6 hown6 hb6 hB6 hB7 b8 b8' b8'' h8 g0 g1 g2 e1 e2 e3 e4 e4' e5 d0 d4
      go_wp2_with (go_at_call 16; refine (hnum _ _).mono ?_; rintro e w' ⟨rfl, rfl⟩)
      have hres : ∃ r, r = (if m.lo ≤ key ∧ key ≤ m.hi then m.dst else hostOf T key) := ⟨_, rfl⟩
      refine HL6.out.mono ?_
      rintro e w7 ⟨rfl, hb7⟩
      have HB8 := hid (HB7.out.trans (hb7.mono HB7.out.size))
      obtain ⟨_, d1, d2, _⟩ := KM.out w7 HB8.out
      obtain ⟨_, _, d3, _⟩ := KP.out w7 HB8.out
      have HR7 := hid ((HR6.out.below hb7).mono hb7.size)
      have HBL := hid (HBR.out.trans ((HBX.out.trans (HB8.out.mono HBX.out.size)).mono HBR.out.size))
      clear hb7
      by_cases q1 : m.lo ≤ key
      · have f1 : decide (key ≥ m.lo) = true := by simpa using q1
        have f1' : decide (m.lo ≤ key) = true := by simpa using q1
        by_cases q2 : key ≤ m.hi
        · have f2 : decide (key ≤ m.hi) = true := by simpa using q2
          have f3 : (m.dst != m.dst) = false := by simp
          rw [if_pos ⟨q1, q2⟩]
          clear q1 q2 hres
          go_wp2_with fail
          go_roundg (ms.length - (i + 1))
          case measure => omega
          case rel => exact ⟨i + 1, T', A6, c6, by go_num, rfl, hlt, Nat.le_refl _, hT'n, HPN, HR7, HBL⟩
        · have f2 : decide (key ≤ m.hi) = false := by simpa using q2
          have f3 : (hostOf T key != hostOf T key) = false := by simp
          rw [if_neg (fun h => q2 h.2)]
          clear q1 q2 hres
          go_wp2_with fail
          go_roundg (ms.length - (i + 1))
          case measure => omega
          case rel => exact ⟨i + 1, T', A6, c6, by go_num, rfl, hlt, Nat.le_refl _, hT'n, HPN, HR7, HBL⟩
      · have f1 : decide (key ≥ m.lo) = false := by simpa using q1
        have f1' : decide (m.lo ≤ key) = false := by simpa using q1
        have f3 : (hostOf T key != hostOf T key) = false := by simp
        rw [if_neg (fun h => q1 h.1)]
        clear q1 hres
        go_wp2_with fail
        go_roundg (ms.length - (i + 1))
        case measure => omega
        case rel => exact ⟨i + 1, T', A6, c6, by go_num, rfl, hlt, Nat.le_refl _, hT'n, HPN, HR7, HBL⟩
    · obtain rfl : i = ms.length := by omega
      have hii : ¬ (ms.length : Int) < (ms.length : Int) := by omega
      obtain rfl : T = L' := by
        have e1 := HT.out
        rw [List.take_length, ← HPL0.out, HEV.out.pl] at e1
        injection e1 with _ e1; exact e1.symm
      have hpl := play_any wr A1 S.length c1 S A3 ms.length c3 ms rfl (by omega) HSO.out ((HR13.out.below HBR.out).mono HBR.out.size) rfl HEV.out.len HEV.out.oks ((HR33.out.below HBR.out).mono HBR.out.size)
      rw [HEV.out.pl] at hpl
      have HPL2 := hid hpl
      clear hpl
      go_wp2_with fail
      refine HPL2.out.mono ?_
      rintro e w4 ⟨v5, rfl, hown5, hb5⟩
      obtain ⟨_, A5, c5, rfl, _, _, hR5⟩ := owns_reads encSeg_len hown5 (by decide)
      have hsm := sameSegments_any _ _ w4 A5 AT T.length c5 T.length cT T rfl rfl (by omega) hR5 ((HRT.out.below hb5).mono hb5.size)
      have HSM := hid hsm
      have HBF := hid (HBW.out.trans ((HBR.out.trans (hb5.mono HBR.out.size)).mono HBW.out.size))
      clear hsm hown5 hR5 hb5
      go_wp2_with fail
      refine HSM.out.mono ?_
      rintro e w5 ⟨rfl, q5, rfl⟩
      go_wp2_with (go_at_call 16; refine (hnum _ _).mono ?_; rintro e w' ⟨rfl, rfl⟩)
      go_ret
      exact ⟨rfl, by first | exact below_drewT HBF.out _ | exact below_drewN' HBF.out _⟩
end Go.Proofs.Ytpkcccphoolapaa
