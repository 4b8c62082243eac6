/- Layer 9: what Append and Snapshot of a journal that lives refuse. -/
import Derived.Test.YtfcgmlofiaehkaaDoorJC
import Derived.Test.YtfcgmlofiaehkaaDoorJT
import Derived.Test.YtfcgmlofiaehkaaDoorJA
namespace Go.Proofs.YtfcgmlofiaehkaaDoor
open Go.RowKit

set_option maxRecDepth 100000 in
set_option maxHeartbeats 4000000 in
theorem append_bad (w : World) (lo hi j : Nat) (J : JL) (s0 s1 : SV) (hJ : JAt w lo hi j J s0 s1) (A : Option Addr) (n c : Nat) (hn : n = 0 ∨ 8192 < n) : Calls Tryd.prog 42 #[.pointer (some ⟨j, 0, none⟩), .slice A n c] w fun e w' =>
    e = .returned (.int .i64 90) ∧ w' = w := by
  have HAL := hid (alive_live w j J _ _ hJ.box)
  clear hJ
  rcases hn with rfl | hn
  · go_enter Tryd.func42, Tryd.ntmps42
    go_wp2_with fail
    refine HAL.out.mono ?_
    rintro e wq ⟨rfl, hwq⟩
    obtain rfl : w = wq := hwq.symm
    clear HAL
    go_wp2_with fail
    go_ret
    exact ⟨rfl, rfl⟩
  · have d0 : ((n : Int) == 0) = false := by simp; omega
    have d1 : decide ((8192 : Int) < (n : Int)) = true := by simp; omega
    go_enter Tryd.func42, Tryd.ntmps42
    go_wp2_with fail
    refine HAL.out.mono ?_
    rintro e wq ⟨rfl, hwq⟩
    obtain rfl : w = wq := hwq.symm
    clear HAL
    go_wp2_with fail
    go_ret
    exact ⟨rfl, rfl⟩
set_option maxRecDepth 100000 in
set_option maxHeartbeats 4000000 in
theorem append_full_0 (w : World) (lo hi j : Nat) (J : JL) (s0 s1 : SV) (hJ : JAt w lo hi j J s0 s1) (hu : J.use = 0) (A : Option Addr) (n c : Nat) (h1 : 1 ≤ n) (h2 : n ≤ 8192) (hlim : (J.l0.length : Int) ≤ 16777216) (hfit : J.limit < (J.l0.length : Int) + 12 + n) : Calls Tryd.prog 42 #[.pointer (some ⟨j, 0, none⟩), .slice A n c] w fun e w' =>
    e = .returned (.int .i64 91) ∧ Drawn w w' := by
  obtain ⟨A0, n0, c0⟩ := s0
  obtain ⟨hl, hcap, _, _⟩ := OwnB.reads hJ.own0
  subst hl
  obtain ⟨l, hll⟩ : ∃ l, l = J.l0 := ⟨_, rfl⟩
  rw [← hll] at hfit hlim
  have HAL := hid (alive_live w j J _ _ hJ.box)
  obtain ⟨x0, x1, x2, x3, x4, x5, x6, x7, x8, x9⟩ := jcellsA hJ.box
  rw [hu] at x3
  simp only [← hll] at x1
  have d0 : ((n : Int) == 0) = false := by simp; omega
  have d1 : decide ((8192 : Int) < (n : Int)) = false := by simp; omega
  have d2 : decide (J.limit < (l.length : Int) + 8 + (n : Int) + 4) = true := by simp; omega
  have w1 : IntKind.i64.wrap ((l.length : Int) + 8) = (l.length : Int) + 8 := wrap_small _ (by omega) (by omega)
  have w2 : IntKind.i64.wrap ((l.length : Int) + 8 + (n : Int)) = (l.length : Int) + 8 + (n : Int) := wrap_small _ (by omega) (by omega)
  have w3 : IntKind.i64.wrap ((l.length : Int) + 8 + (n : Int) + 4) = (l.length : Int) + 8 + (n : Int) + 4 := wrap_small _ (by omega) (by omega)
  clear hJ hll hu x2 x4 x5 x6 x7 x8 x9
  go_enter Tryd.func42, Tryd.ntmps42
  go_wp2_with fail
  refine HAL.out.mono ?_
  rintro e wq ⟨rfl, hwq⟩
  obtain rfl : w = wq := hwq.symm
  clear HAL
  go_upto_region 6 with fail
  go_region
  go_wp2_with fail
  go_ret
  exact ⟨rfl, (Drawn.refl _).drew⟩
set_option maxRecDepth 100000 in
set_option maxHeartbeats 4000000 in
theorem append_full_1 (w : World) (lo hi j : Nat) (J : JL) (s0 s1 : SV) (hJ : JAt w lo hi j J s0 s1) (hu : J.use = 1) (A : Option Addr) (n c : Nat) (h1 : 1 ≤ n) (h2 : n ≤ 8192) (hlim : (J.l1.length : Int) ≤ 16777216) (hfit : J.limit < (J.l1.length : Int) + 12 + n) : Calls Tryd.prog 42 #[.pointer (some ⟨j, 0, none⟩), .slice A n c] w fun e w' =>
    e = .returned (.int .i64 91) ∧ Drawn w w' := by
  obtain ⟨A1, n1, c1⟩ := s1
  obtain ⟨hl, hcap, _, _⟩ := OwnB.reads hJ.own1
  subst hl
  obtain ⟨l, hll⟩ : ∃ l, l = J.l1 := ⟨_, rfl⟩
  rw [← hll] at hfit hlim
  have HAL := hid (alive_live w j J _ _ hJ.box)
  obtain ⟨x0, x1, x2, x3, x4, x5, x6, x7, x8, x9⟩ := jcellsA hJ.box
  rw [hu] at x3
  simp only [← hll] at x2
  have d0 : ((n : Int) == 0) = false := by simp; omega
  have d1 : decide ((8192 : Int) < (n : Int)) = false := by simp; omega
  have d2 : decide (J.limit < (l.length : Int) + 8 + (n : Int) + 4) = true := by simp; omega
  have w1 : IntKind.i64.wrap ((l.length : Int) + 8) = (l.length : Int) + 8 := wrap_small _ (by omega) (by omega)
  have w2 : IntKind.i64.wrap ((l.length : Int) + 8 + (n : Int)) = (l.length : Int) + 8 + (n : Int) := wrap_small _ (by omega) (by omega)
  have w3 : IntKind.i64.wrap ((l.length : Int) + 8 + (n : Int) + 4) = (l.length : Int) + 8 + (n : Int) + 4 := wrap_small _ (by omega) (by omega)
  clear hJ hll hu x1 x4 x5 x6 x7 x8 x9
  go_enter Tryd.func42, Tryd.ntmps42
  go_wp2_with fail
  refine HAL.out.mono ?_
  rintro e wq ⟨rfl, hwq⟩
  obtain rfl : w = wq := hwq.symm
  clear HAL
  go_upto_region 6 with fail
  go_region
  go_wp2_with fail
  go_ret
  exact ⟨rfl, (Drawn.refl _).drew⟩
set_option maxRecDepth 100000 in
set_option maxHeartbeats 4000000 in
theorem snap_long (w : World) (lo hi j : Nat) (J : JL) (s0 s1 : SV) (hJ : JAt w lo hi j J s0 s1) (A : Option Addr) (n c : Nat) (hn : 4194304 < n) : Calls Tryd.prog 41 #[.pointer (some ⟨j, 0, none⟩), .slice A n c] w fun e w' =>
    e = .returned (.int .i64 90) ∧ w' = w := by
  have HAL := hid (alive_live w j J _ _ hJ.box)
  obtain ⟨x0, x1, x2, x3, x4, x5, x6, x7, x8, x9⟩ := jcellsA hJ.box
  have d0 : decide ((4194304 : Int) < (n : Int)) = true := by simp; omega
  clear hJ x1 x2 x3 x4 x6 x7 x8 x9
  go_enter Tryd.func41, Tryd.ntmps41
  go_wp2_with fail
  refine HAL.out.mono ?_
  rintro e wq ⟨rfl, hwq⟩
  obtain rfl : w = wq := hwq.symm
  clear HAL
  go_wp2_with fail
  go_ret
  exact ⟨rfl, rfl⟩
set_option maxRecDepth 100000 in
set_option maxHeartbeats 4000000 in
theorem snap_gen (w : World) (lo hi j : Nat) (J : JL) (s0 s1 : SV) (hJ : JAt w lo hi j J s0 s1) (A : Option Addr) (n c : Nat) (hn : n ≤ 4194304) (hg : J.gen = 18446744073709551615) : Calls Tryd.prog 41 #[.pointer (some ⟨j, 0, none⟩), .slice A n c] w fun e w' =>
    e = .returned (.int .i64 95) ∧ w' = w := by
  have HAL := hid (alive_live w j J _ _ hJ.box)
  obtain ⟨x0, x1, x2, x3, x4, x5, x6, x7, x8, x9⟩ := jcellsA hJ.box
  have d0 : decide ((4194304 : Int) < (n : Int)) = false := by simp; omega
  have d1 : (J.gen == 18446744073709551615) = true := by simp [hg]
  clear hg
  clear hJ x1 x2 x3 x4 x6 x7 x8 x9
  go_enter Tryd.func41, Tryd.ntmps41
  go_wp2_with fail
  refine HAL.out.mono ?_
  rintro e wq ⟨rfl, hwq⟩
  obtain rfl : w = wq := hwq.symm
  clear HAL
  go_wp2_with fail
  go_ret
  exact ⟨rfl, rfl⟩
set_option maxRecDepth 100000 in
set_option maxHeartbeats 4000000 in
theorem snap_full (w : World) (lo hi j : Nat) (J : JL) (s0 s1 : SV) (hJ : JAt w lo hi j J s0 s1) (A : Option Addr) (n c : Nat) (hn : n ≤ 4194304) (hg : J.gen < 18446744073709551615) (hf : J.limit < 24 + (n : Int)) : Calls Tryd.prog 41 #[.pointer (some ⟨j, 0, none⟩), .slice A n c] w fun e w' =>
    e = .returned (.int .i64 91) ∧ w' = w := by
  have HAL := hid (alive_live w j J _ _ hJ.box)
  obtain ⟨x0, x1, x2, x3, x4, x5, x6, x7, x8, x9⟩ := jcellsA hJ.box
  have d0 : decide ((4194304 : Int) < (n : Int)) = false := by simp; omega
  have d1 : (J.gen == 18446744073709551615) = false := by simp; omega
  have d2 : decide (J.limit < 20 + (n : Int) + 4) = true := by simp; omega
  have w1 : IntKind.i64.wrap (20 + (n : Int)) = 20 + (n : Int) := wrap_small _ (by omega) (by omega)
  have w2 : IntKind.i64.wrap (20 + (n : Int) + 4) = 20 + (n : Int) + 4 := wrap_small _ (by omega) (by omega)
  clear hg
  clear hJ x1 x2 x3 x4 x6 x7 x8 x9
  go_enter Tryd.func41, Tryd.ntmps41
  go_wp2_with fail
  refine HAL.out.mono ?_
  rintro e wq ⟨rfl, hwq⟩
  obtain rfl : w = wq := hwq.symm
  clear HAL
  go_wp2_with fail
  go_ret
  exact ⟨rfl, rfl⟩
end Go.Proofs.YtfcgmlofiaehkaaDoor
