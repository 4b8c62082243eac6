/- The walk of PlanTargets. -/
import Derived.Test.YtpkcccphoolapaaTgtA
namespace Go.Proofs.Ytpkcccphoolapaa
open Go.RowKit

set_option maxHeartbeats 2000000 in
theorem planTargets_walk (w : World) (A : Option Addr) (n c : Nat) (l : List Int) (hl : l.length = n) (_ : n ≤ c) (_ : c ≤ maxLen) (_ : ∀ x ∈ l, (Lit.int .i64 x).wf = true) (hbytes : n * 8 ≤ 140737488351232) (hR : Ints w.heap.size w A l) :
    Calls Try.prog 6 #[.slice A n c] w fun e w' => e = .returned (.bool true) ∧ Below w.heap.size w w' := by
  subst hl
  have hm : l.length ≤ 9223372036854775807 := by omega
  have HR := hid hR
  go_enter Try.func6, Try.ntmps6
  go_wp2_with (at_builtin; refine wpList_append_reads _ w.heap.size rfl _ _ 22 3 (.int .i64 0) 8 rfl Try.underlying22 infoInt rfl (by decide) (.slice none 0 0) 0 [] rfl (World.ownsRow_nil _ _ _ _) _ _ _ l rfl rfl hR (fun _ => rfl) (by intro y u hu; simp [i64] at hu; subst hu; rfl) (by simp only [maxLen]; omega) (by omega) (Nat.le_refl _) ?_; intro v1 w1 hown hg hat)
  have hB1 : Below w.heap.size w w1 := (Below.refl _ _).grown hg (Nat.le_refl _) (by intro k hk; cases hk)
  rw [List.nil_append, Nat.zero_add] at hown
  obtain ⟨_, A1, c1, rfl, _, _, hR1⟩ := owns_reads (enc := i64) (sz := 1) (fun _ => rfl) hown (by decide)
  have hR0 := (hR.below hB1).mono hB1.size
  have h1 := targets_any w1 A l.length c l rfl hm hR0
  have h2 := fun W (hb : Below w1.heap.size w1 W) => refTargets_any W A1 l.length c1 l rfl hm ((hR1.below hb).mono hb.size)
  have H1 := hid h1
  have H2 := hid h2
  have HR0 := hid hR0
  have HR1 := hid hR1
  have hln : (if goodLoads l = true then targets l else []).length ≤ 9223372036854775807 := by
    split
    · simp only [targets, List.length_map, List.length_range]; omega
    · simp
  clear hown hat hg hR hR0 hR1 h1 h2
  generalize (if goodLoads l = true then targets l else []) = tl at *
  generalize (if goodLoads l = true then (0 : Int) else 150) = er at *
  refine H1.out.mono ?_
  rintro e w2 ⟨v2, rfl, hown2, hb2⟩
  obtain ⟨_, A2, c2, rfl, _, _, hR2⟩ := owns_reads i64_len hown2 (by decide)
  have HB2 := hid hb2
  have HR2 := hid hR2
  have h2 := H2.out w2 hb2
  have H2' := hid h2
  clear hown2 hb2 hR2 h2
  go_wp2_with fail
  refine H2'.out.mono ?_
  rintro e w3 ⟨v3, rfl, hown3, hb3⟩
  obtain ⟨_, A3, c3, rfl, _, _, hR3⟩ := owns_reads i64_len hown3 (by decide)
  have hB13 := HB2.out.trans (hb3.mono HB2.out.size)
  have hR0' := (HR0.out.below hB13).mono hB13.size
  have hR1' := (HR1.out.below hB13).mono hB13.size
  have hR2' := (HR2.out.below hb3).mono hb3.size
  have h3 := sameInts_any _ w3 A2 A3 tl.length c2 tl.length c3 tl tl rfl rfl hln hln hR2' hR3
  have h4 := fun q => sameInts_any _ (w3.drewN q) A A1 l.length c l.length c1 l l rfl rfl hm hm (hR0'.drewN q) (hR1'.drewN q)
  rw [show decide (tl = tl) = true by simp] at h3
  rw [show decide (l = l) = true by simp] at h4
  have hn := num_any
  have hee : (er == er) = true := by simp
  have hBF := hB1.trans (hB13.mono hB1.size)
  have HBF := hid hBF
  clear hown3 hb3 hR3 hR0' hR1' hR2' hB13 hBF
  have H4 := hid h4
  clear h4
  go_wp2_with fail
  refine h3.mono ?_
  rintro e w' ⟨rfl, q, rfl⟩
  clear h3
  go_wp2_with fail
  refine (H4.out q).mono ?_
  rintro e w' ⟨rfl, q', rfl⟩
  go_wp2_with (go_at_call 16; refine (hn _ _).mono ?_; rintro e w' ⟨rfl, rfl⟩)
  go_ret
  exact ⟨rfl, below_drewT HBF.out _⟩
end Go.Proofs.Ytpkcccphoolapaa
