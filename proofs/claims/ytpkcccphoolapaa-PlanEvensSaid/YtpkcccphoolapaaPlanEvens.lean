/- The walk of PlanEvens. -/
import Derived.Test.YtpkcccphoolapaaEvQ
import Derived.Test.YtpkcccphoolapaaTam
import Derived.Test.YtpkcccphoolapaaLkp
import Derived.Test.YtpkcccphoolapaaMvF
namespace Go.Proofs.Ytpkcccphoolapaa
open Go.RowKit

set_option maxRecDepth 100000 in
set_option maxHeartbeats 8000000 in
theorem planEvens_walk (w : World) (hosts : Int) (A : Option Addr) (n c : Nat) (l : List Seg) (A' : Option Addr) (n' c' : Nat) (ks : List Int) (most : Int) (_ : (Lit.int .i64 hosts).wf = true)
    (hl : l.length = n) (_ : n ≤ c) (_ : c ≤ maxLen) (hok : ∀ s ∈ l, okSeg s) (hbytes : n * 24 ≤ 140737488351232) (hR : Segs w.heap.size w A l)
    (hl' : ks.length = n') (_ : n' ≤ c') (_ : c' ≤ maxLen) (hks : ∀ x ∈ ks, (Lit.int .u64 x).wf = true) (hbytes' : n' * 8 ≤ 140737488351232) (hR' : Keys w.heap.size w A' ks) (_ : (Lit.int .i64 most).wf = true) :
    Calls Try.prog 10 #[.int .i64 hosts, .slice A n c, .slice A' n' c', .int .i64 most] w fun e w' => e = .returned (.bool true) ∧ Below w.heap.size w w' := by
  subst hl
  subst hl'
  have hks2 : ∀ k ∈ ks, 0 ≤ k ∧ k ≤ maxK := fun k hk => by
    have := hks k hk
    simp [Lit.wf, IntKind.min, IntKind.max, IntKind.signed, IntKind.bits] at this
    rw [maxK_eq]; omega
  have hta := tamed_any w hosts A l.length c l A' ks.length c' ks rfl hbytes hok hR rfl hbytes' hR'
  have HTA := hid hta
  have HOK := hid hok
  have HKS := hid hks2
  clear hta hok hR hks hR' hks2
  go_enter Try.func10, Try.ntmps10
  go_wp2_with fail
  refine HTA.out.mono ?_
  rintro e w1 ⟨v1, v2, ok, rfl, hok1, hb1⟩
  cases ok with
  | false =>
    clear hok1
    go_wp2_with fail
    go_ret
    exact ⟨rfl, hb1⟩
  | true =>
  obtain ⟨H, rfl, h1, h2, hf, hn4, hk4, hos, hok2⟩ := hok1 rfl
  by_cases hm1 : most < 1
  · have b3 : decide (most < 1) = true := by simpa using hm1
    clear hos hok2 hok1 hf
    go_wp2_with fail
    go_ret
    exact ⟨rfl, hb1⟩
  by_cases hm2 : 32 < most
  · have b3 : decide (most < 1) = false := by simpa using hm1
    have b4 : decide (most > 32) = true := by simpa using hm2
    have b4' : decide (32 < most) = true := by simpa using hm2
    clear hos hok2 hok1 hf hm1
    go_wp2_with fail
    go_ret
    exact ⟨rfl, hb1⟩
  have b3 : decide (most < 1) = false := by simpa using hm1
  have b4 : decide (most > 32) = false := by simpa using hm2
  have b4' : decide (32 < most) = false := by simpa using hm2
  obtain ⟨ms, L', q, hev⟩ := even_ok (most := most) h1 h2 (by omega) (by omega) HOK.out hf hn4 hk4 HKS.out
  have hsl : (tameS H l).length = l.length := by simp [tameS]
  obtain ⟨tk1, tk2, tk3⟩ := tameK_ok ks
  have hso := (tameS_ok h1 h2 HOK.out).1
  obtain ⟨_, A1, c1, rfl, _, _, hR1⟩ := owns_reads encSeg_len hos (by decide)
  obtain ⟨_, A2, c2, rfl, _, _, hR2⟩ := owns_reads encKey_len hok2 (by decide)
  have hkb : ∀ k ∈ tameK ks, 0 ≤ k ∧ k ≤ maxK := fun k hk => HKS.out k (tk2 k hk)
  generalize tameS H l = S at *
  generalize tameK ks = K at *
  have hmv := moves_any w1 (H : Int) A1 S.length c1 S A2 K.length c2 K most rfl (by omega) hso hR1 rfl (by omega) hkb hR2
  rw [hev.mo] at hmv
  have HMV := hid hmv
  have HEV := hid hev
  have HB1 := hid hb1
  have HR1 := hid hR1
  have HR2 := hid hR2
  have HSO := hid hso
  have HTK := hid tk1
  have HKB := hid hkb
  have hS4 : S.length ≤ 4096 := by omega
  have hK4 : K.length ≤ 4096 := by omega
  clear hmv hev hb1 hR1 hR2 hos hok2 hok1 hf hm1 hm2 hso tk1 tk2 hkb hn4 hk4 tk3 hsl
  go_wp2_with fail
  refine HMV.out.mono ?_
  rintro e w2 ⟨v3, rfl, hown3, hb2⟩
  obtain ⟨_, A3, c3, rfl, _, _, hR3⟩ := owns_reads encMove_len hown3 (by decide)
  have hpl := play_any w2 A1 S.length c1 S A3 ms.length c3 ms rfl (by omega) HSO.out ((HR1.out.below hb2).mono hb2.size) rfl HEV.out.len HEV.out.oks hR3
  rw [HEV.out.pl] at hpl
  have HPL := hid hpl
  have HB2 := hid hb2
  clear hpl hb2 hown3 hR3
  go_wp2_with fail
  refine HPL.out.mono ?_
  rintro e w3 ⟨v4, rfl, hown4, hb3⟩
  obtain ⟨_, A4, c4, rfl, _, _, hR4⟩ := owns_reads encSeg_len hown4 (by decide)
  have hnum := num_any
  have hL0 : ((L'.length : Int) == 0) = false := by
    have := HEV.out.tab.wf.pos
    rw [beq_eq_false_iff_ne]; omega
  have hB13 := HB2.out.trans (hb3.mono HB2.out.size)
  have hR2' := (HR2.out.below hB13).mono hB13.size
  have hLsz := HEV.out.sz
  have hcl := countedLaw_any w3 H A4 L'.length c4 L' A2 K.length c2 K h2 rfl (by omega) hR4 HEV.out.tab rfl (by omega) hR2' HKB.out
  have HCL := hid hcl
  have HB13 := hid hB13
  have HR4 := hid hR4
  clear hcl hb3 hown4 hR4 hR2' hB13
  go_wp2_with (go_at_call 16; refine (hnum _ _).mono ?_; rintro e w' ⟨rfl, rfl⟩)
  refine HCL.out.mono ?_
  rintro e w4 ⟨v5, rfl, hown5, hb4⟩
  obtain ⟨_, A5, c5, rfl, _, _, hR5⟩ := owns_reads i64_len (l := countsOf H L' K) (n := H) hown5 (by decide)
  have hclen : (countsOf H L' K).length = H := countsOf_len ..
  have htwo := HEV.out.two
  have hsum := HEV.out.sum
  have hsr : ∀ i, 0 ≤ ((countsOf H L' K).take i).sum ∧ ((countsOf H L' K).take i).sum ≤ 16 * 4096 := by
    intro i
    have hcb : ∀ x ∈ countsOf H L' K, 0 ≤ x ∧ x ≤ 4096 := fun x hx => by
      obtain ⟨j, hj⟩ := List.mem_iff_getElem?.1 hx
      have hjH : j < H := by have := (List.getElem?_eq_some_iff.1 hj).1; omega
      rw [countsOf_get hjH] at hj
      obtain rfl := Option.some.inj hj
      have := cntH_range L' K (j : Int)
      omega
    have key : ∀ l : List Int, (∀ x ∈ l, 0 ≤ x ∧ x ≤ 4096) → 0 ≤ l.sum ∧ l.sum ≤ l.length * 4096 := by
      intro l
      induction l with
      | nil => intro _; simp
      | cons x l ih =>
        intro h
        have a1 := ih fun y hy => h y (List.mem_cons_of_mem _ hy)
        have a2 := h x (List.mem_cons_self ..)
        rw [List.sum_cons, List.length_cons]; omega
    have := key ((countsOf H L' K).take i) (fun x hx => hcb x (List.mem_of_mem_take hx))
    have hl : ((countsOf H L' K).take i).length ≤ H := by rw [List.length_take]; omega
    omega
  have hB14 := HB13.out.trans (hb4.mono HB13.out.size)
  have hsp := spread_any w4 w4.heap.size A5 H c5 (countsOf H L' K) q hclen (by omega) hR5 h1 htwo
  have hld := loads_any w4 (H : Int) A4 L'.length c4 L' A2 K.length c2 K rfl (by omega) (fun s hs => by
    have := HEV.out.tab.wf.seg s hs
    unfold okSeg; omega) ((HR4.out.below hb4).mono hb4.size) rfl (by omega) HKB.out ((HR2.out.below hB14).mono hB14.size)
  have HSP := hid hsp
  have HLD := hid hld
  have HR5 := hid hR5
  have HSR := hid hsr
  have HSUM := hid hsum
  have HCL5 := hid hclen
  have HB14 := hid hB14
  clear hsp hld hR5 hsr hsum hclen hB14 hb4 hown5 htwo
  go_wp2_with fail
  go_loopg [17, 18] H (fun gx sn si wr => ∃ i : Nat, si = .int .i64 i ∧ sn = .int .i64 ((countsOf H L' K).take i).sum ∧ i ≤ H ∧ H - i ≤ gx ∧ wr = w4)
  case atStart => exact ⟨0, rfl, rfl, Nat.zero_le _, Nat.le_refl _, rfl⟩
  case round =>
    obtain ⟨i, rfl, rfl, hiH, hgx, rfl⟩ := hrel
    by_cases hlt : i < H
    · have hii : (i : Int) < (H : Int) := by omega
      have hi0 : (0 : Int) ≤ (i : Int) := by omega
      have hwi : IntKind.i64.wrap ((i : Int) + 1) = (i : Int) + 1 := wrap_small _ (by omega) (by omega)
      obtain ⟨b, off, x, hx, rfl, hb, hc⟩ := Ints.at' HR5.out i (by rw [HCL5.out]; exact hlt)
      have hs1 := sum_take_succ hx.out
      have hr0 := HSR.out i
      have hr1 := HSR.out (i + 1)
      have hwx : IntKind.i64.wrap (((countsOf H L' K).take i).sum + x) = ((countsOf H L' K).take i).sum + x := IntWalk.i64_in _ ⟨by omega, by omega⟩
      have HS1 := hid hs1
      clear hs1 hr0 hr1
      generalize ((countsOf H L' K).take i).sum = sm at *
      go_wp2_with fail
      go_roundg (H - (i + 1))
      case measure => omega
      case rel => exact ⟨i + 1, by go_num, by rw [HS1.out], hlt, Nat.le_refl _, rfl⟩
    · obtain rfl : i = H := by omega
      have hii : ¬ (i : Int) < (i : Int) := by omega
      have hsK : ((countsOf i L' K).take i).sum = (K.length : Int) := by
        rw [List.take_of_length_le (by rw [HCL5.out]; exact Nat.le_refl _)]; exact HSUM.out
      rw [hsK]
      have hKK : ((K.length : Int) == (K.length : Int)) = true := by simp
      clear hsK
      go_wp2_with fail
      refine HSP.out.mono ?_
      rintro e w5 ⟨d, rfl, hd1, hw5⟩
      obtain rfl : wr = w5 := hw5.symm
      have hdd : decide (d ≤ 1) = true := by simpa using hd1
      clear hd1
      go_wp2_with fail
      refine HLD.out.mono ?_
      rintro e w6 ⟨v6, rfl, hown6, hb6⟩
      obtain ⟨_, A6, c6, rfl, _, _, hR6⟩ := owns_reads i64_len hown6 (by decide)
      have hB16 := HB14.out.trans (hb6.mono HB14.out.size)
      have HBF := hid (HB1.out.trans (hB16.mono HB1.out.size))
      by_cases h8 : (L'.length : Int) ≤ 8192
      · have b8 : decide ((L'.length : Int) ≤ 8192) = true := by simpa using h8
        have b8' : decide (L'.length ≤ 8192) = true := by simp; omega
        have hlds := HEV.out.lds h8
        rw [hlds] at hown6 hR6 ⊢
        have hsm := sameInts_any _ w6 A6 A5 i c6 i c5 (countsOf i L' K) (countsOf i L' K) (by rw [HCL5.out]) (by rw [HCL5.out]) (by omega) (by omega) (by rw [hlds] at *; exact hR6) ((HR5.out.below hb6).mono hb6.size)
        rw [show decide (countsOf i L' K = countsOf i L' K) = true by simp] at hsm
        have HSM := hid hsm
        clear hsm hown6 hR6 hb6 hB16 h8 hlds
        dsimp only
        rw [HCL5.out]
        go_wp2_with fail
        refine HSM.out.mono ?_
        rintro e w7 ⟨rfl, q7, rfl⟩
        go_wp2_with (go_at_call 16; refine (hnum _ _).mono ?_; rintro e w' ⟨rfl, rfl⟩)
        go_ret
        exact ⟨rfl, below_drewT HBF.out _⟩
      · have b8 : decide ((L'.length : Int) ≤ 8192) = false := by simpa using h8
        have b8' : decide (L'.length ≤ 8192) = false := by simp; omega
        clear hown6 hR6 hb6 hB16 h8
        go_wp2_with fail
        go_ret
        exact ⟨rfl, HBF.out⟩
end Go.Proofs.Ytpkcccphoolapaa
