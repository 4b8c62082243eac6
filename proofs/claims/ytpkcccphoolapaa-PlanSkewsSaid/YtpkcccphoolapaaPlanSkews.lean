/- The walk of PlanSkews. -/
import Derived.Test.YtpkcccphoolapaaPlanC
namespace Go.Proofs.Ytpkcccphoolapaa
open Go.RowKit

theorem infoInt : (Try.prog.info? 3).map (fun i => (i.zero, i.size, i.bytes)) = some (some (.int .i64 0), 1, 8) := by kernel_rfl

theorem below_drewN' {B : Nat} {w W : World} (h : Below B w W) (n : Nat) : Below B w (W.drewN n) := ⟨h.os, h.tape, h.output, h.size, h.block⟩

set_option maxHeartbeats 1000000 in
theorem planSkews_walk (w : World) (A : Option Addr) (n c : Nat) (l : List Int) (hl : l.length = n) (_ : n ≤ c) (_ : c ≤ maxLen) (_ : ∀ x ∈ l, (Lit.int .i64 x).wf = true) (hbytes : n * 8 ≤ 140737488351232) (hR : Ints w.heap.size w A l) :
    Calls Try.prog 3 #[.slice A n c] w fun e w' => e = .returned (.bool true) ∧ Below w.heap.size w w' := by
  subst hl
  have hm : l.length ≤ 9223372036854775807 := by omega
  go_enter Try.func3, Try.ntmps3
  go_wp2_with (at_builtin; refine wpList_append_reads _ w.heap.size rfl _ _ 22 3 (.int .i64 0) 8 rfl Try.underlying22 infoInt rfl (by decide) (.slice none 0 0) 0 [] rfl (World.ownsRow_nil _ _ _ _) _ _ _ l rfl rfl hR (fun _ => rfl) (by intro y u hu; simp [i64] at hu; subst hu; rfl) (by simp only [maxLen]; omega) (by omega) (Nat.le_refl _) ?_; intro v1 w1 hown hg hat)
  have hB1 : Below w.heap.size w w1 := (Below.refl _ _).grown hg (Nat.le_refl _) (by intro k hk; cases hk)
  rw [List.nil_append, Nat.zero_add] at hown
  obtain ⟨_, A1, c1, rfl, _, _, hR1⟩ := owns_reads (enc := i64) (sz := 1) (fun _ => rfl) hown (by decide)
  have hR0 := (hR.below hB1).mono hB1.size
  have h1 := skew_any _ w1 A l.length c l rfl hm hR0
  have h2 := refSkew_any _ w1 A1 l.length c1 l rfl hm hR1
  have h3 := fun q => sameInts_any _ (w1.drewN q) A A1 l.length c l.length c1 l l rfl rfl hm hm (hR0.drewN q) (hR1.drewN q)
  have hl1 : decide (l = l) = true := by simp
  rw [hl1] at h3
  clear hl1 hown hat hg hR hR0 hR1
  cases hg : goodLoads l with
  | false =>
    have e1 : skewBits l = 0 := by unfold skewBits; rw [hg]; rfl
    have e2 : refSkew l = (0, 1, 150) := by unfold refSkew; rw [hg]; rfl
    rw [e1, hg] at h1
    rw [e2] at h2
    clear e1 e2 hg
    have hf : (FloatKind.f64.format.order 0 0 == some .eq) = true := by decide +kernel
    have hn := num_any
    go_wp2_with (first | (go_at_call 13; refine h1.mono ?_; rintro e w' ⟨rfl, rfl⟩) | (go_at_call 14; refine h2.mono ?_; rintro e w' ⟨rfl, q, rfl⟩) | (go_at_call 15; refine (h3 _).mono ?_; rintro e w' ⟨rfl, q3, rfl⟩) | (go_at_call 16; refine (num_any _ _).mono ?_; rintro e w' ⟨rfl, rfl⟩))
    go_ret
    exact ⟨rfl, by repeat (first | exact hB1 | apply below_drewN')⟩
  | true =>
    have HG := hid hg
    have ht := topLoad_bound l (goodLoads_iff hg).2.2
    have htb := total_bound hg
    by_cases h0 : l.sum = 0
    · have e1 : skewBits l = 4607182418800017408 := by unfold skewBits; rw [if_pos hg, if_pos h0]
      have e2 : refSkew l = (1, 1, 0) := by unfold refSkew; rw [if_pos hg, if_pos h0]
      rw [e1, hg] at h1
      rw [e2] at h2
      clear e1 e2 hg h0 ht htb
      have hf : (FloatKind.f64.format.order 4607182418800017408 4607182418800017408 == some .eq) = true := by decide +kernel
      have hq : ∀ t w, (binOp .quo t (.float .f64 (floatOfInt .f64 1)) (.float .f64 (floatOfInt .f64 1))).run Try.prog w = .ok (.float .f64 4607182418800017408) w := fun t w => run_float_arith w .quo t .f64 _ _ _ (by decide +kernel)
      go_wp2_with (first | (go_at_call 13; refine h1.mono ?_; rintro e w' ⟨rfl, rfl⟩) | (go_at_call 14; refine h2.mono ?_; rintro e w' ⟨rfl, q, rfl⟩) | (go_at_call 15; refine (h3 _).mono ?_; rintro e w' ⟨rfl, q3, rfl⟩) | (go_at_call 16; refine (num_any _ _).mono ?_; rintro e w' ⟨rfl, rfl⟩))
      go_ret
      exact ⟨rfl, by repeat (first | exact hB1 | apply below_drewN')⟩
    · obtain ⟨r, hr, hrr⟩ := quo_some (topLoad l * l.length) l.sum (Int.mul_nonneg ht.1 (by omega)) (by omega) (by omega)
      have e1 : skewBits l = r := by unfold skewBits; rw [if_pos hg, if_neg h0, hr]; rfl
      have e2 : refSkew l = (topLoad l * l.length, l.sum, 0) := by unfold refSkew; rw [if_pos hg, if_neg h0]
      have hf : (FloatKind.f64.format.order r r == some .eq) = true := hrr
      have hq : ∀ t w, (binOp .quo t (.float .f64 (floatOfInt .f64 (topLoad l * l.length))) (.float .f64 (floatOfInt .f64 l.sum))).run Try.prog w = .ok (.float .f64 r) w := fun t w => run_float_arith w .quo t .f64 _ _ r hr
      rw [e1, hg] at h1
      rw [e2] at h2
      clear e1 e2 hg h0 ht htb hr hrr
      go_wp2_with (first | (go_at_call 13; refine h1.mono ?_; rintro e w' ⟨rfl, rfl⟩) | (go_at_call 14; refine h2.mono ?_; rintro e w' ⟨rfl, q, rfl⟩) | (go_at_call 15; refine (h3 _).mono ?_; rintro e w' ⟨rfl, q3, rfl⟩) | (go_at_call 16; refine (num_any _ _).mono ?_; rintro e w' ⟨rfl, rfl⟩))
      go_ret
      exact ⟨rfl, by repeat (first | exact hB1 | apply below_drewN')⟩
end Go.Proofs.Ytpkcccphoolapaa
