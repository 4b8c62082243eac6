/- Layer 6: Load. -/
import Derived.Test.YtpkcccphoolapaaTab
import Derived.Test.YtpkcccphoolapaaRngJ
namespace Go.Proofs.Ytpkcccphoolapaa
open Go.RowKit

set_option maxHeartbeats 1000000 in
theorem load_any (w : World) (A : Option Addr) (n c : Nat) (l : List Seg) (limit : Int) (hl : l.length = n) (hbytes : n * 24 ≤ 140737488351232) (hok : ∀ s ∈ l, okSeg s) (hR : Segs w.heap.size w A l) :
    Calls Try.prog 45 #[.slice A n c, .int .i64 limit] w fun e w' =>
      ∃ p, e = .returned (.tuple #[.pointer p, .int .i64 (Rng.loadL l limit).1]) ∧ Below w.heap.size w w' ∧ ((Rng.loadL l limit).1 ≠ 0 → p = none) ∧
        ((Rng.loadL l limit).1 = 0 → ∃ T, p = some ⟨T, 0, none⟩ ∧ w.heap.size ≤ T ∧ IsTab w' T limit (Rng.loadL l limit).2 ∧ Rng.WF (Rng.loadL l limit).2 ∧ ∃ b off k c, w'.cell? ⟨T, 1, none⟩ = some (.slice (some ⟨b, off, none⟩) k c) ∧ w.heap.size ≤ b) := by
  subst hl
  by_cases h1 : 1 ≤ limit ∧ limit ≤ 8192
  · have g1 : decide (1 ≤ limit) = true := by simp [h1.1]
    have g2 : decide (limit ≤ 8192) = true := by simp [h1.2]
    have hj := joined_any w A l.length c l rfl hbytes hR
    have HO := hid hok
    have hlen := Rng.joinL_len l
    have hb1 := h1.1
    have hb2 := h1.2
    clear hR hok
    by_cases h2 : (Rng.faultL l).2 = 0
    · by_cases h3 : limit < ((Rng.joinL l).length : Int)
      · have e : Hid (Rng.loadL l limit = (61, [])) := by show _ = _; unfold Rng.loadL; rw [if_neg (by simp [h1.1, h1.2]), if_neg (by simp [h2]), if_pos h3]
        rw [h2] at hj
        have H2 := hid h2
        clear h1 h2
        go_enter Try.func45, Try.ntmps45
        go_wp2_with (first | (go_at_call 63; refine (goodLimit_any _ _).mono ?_; rintro e w' ⟨rfl, rfl⟩) | fail)
        refine hj.mono ?_
        rintro e' w1 ⟨v, rfl, hown, _, hb⟩
        obtain ⟨_, A', c', rfl, _, _, _⟩ := owns_reads encSeg_len (hown trivial) (by decide)
        clear hown
        go_wp2
        go_ret2
        exact ⟨none, by rw [e.out]; rfl, hb, fun _ => rfl, by rw [e.out]; simp⟩
      · have e : Hid (Rng.loadL l limit = (0, Rng.joinL l)) := by show _ = _; unfold Rng.loadL; rw [if_neg (by simp [h1.1, h1.2]), if_neg (by simp [h2]), if_neg h3]
        have HWF := hid (Rng.joinL_wf HO.out h2).1
        rw [h2] at hj
        clear h1 h2
        go_enter Try.func45, Try.ntmps45
        go_wp2_with (first | (go_at_call 63; refine (goodLimit_any _ _).mono ?_; rintro e w' ⟨rfl, rfl⟩) | fail)
        refine hj.mono ?_
        rintro e' w1 ⟨v, rfl, hown, _, hb⟩
        have hown := hown trivial
        obtain ⟨g, cap, rfl, hbg, hgl⟩ := hown.form HWF.out.pos
        obtain ⟨_, A', c', hv, hcc, _, hRR⟩ := owns_reads encSeg_len hown (by decide)
        cases hv
        have HRR := hid hRR
        clear hown hRR
        go_wp2
        go_ret2
        refine ⟨some ⟨w1.heap.size, 0, none⟩, by rw [e.out]; rfl, hb.alloc hb.size _, by rw [e.out]; simp, fun _ => ⟨w1.heap.size, rfl, hb.size, ?_, by rw [e.out]; exact HWF.out, g, 0, _, cap, by simp; rfl, hbg⟩⟩
        rw [e.out]
        refine ⟨by simp, by simp, g, 0, cap, by simp, hcc, by omega, by simp; omega, ?_⟩
        exact (HRR.out.below ((Below.refl _ w1).alloc (Nat.le_refl _) _)).mono (by simp)
    · have e : Hid (Rng.loadL l limit = ((Rng.faultL l).2, [])) := by show _ = _; unfold Rng.loadL; rw [if_neg (by simp [h1.1, h1.2]), if_pos (by simpa using h2)]
      have hne : ((Rng.faultL l).2 != 0) = true := by simpa using h2
      have H2 := hid h2
      clear h1 h2
      generalize Rng.faultL l = ff at *
      go_enter Try.func45, Try.ntmps45
      go_wp2_with (first | (go_at_call 63; refine (goodLimit_any _ _).mono ?_; rintro e w' ⟨rfl, rfl⟩) | fail)
      refine hj.mono ?_
      rintro e' w1 ⟨v, rfl, _, hv, hb⟩
      have hv := hv H2.out
      go_wp2
      go_ret2
      exact ⟨none, by rw [e.out]; rfl, hb, fun _ => rfl, fun h => absurd (by rw [e.out] at h; exact h) H2.out⟩
  · have e : Hid (Rng.loadL l limit = (63, [])) := by show _ = _; unfold Rng.loadL; rw [if_pos h1]
    have g : (decide (1 ≤ limit) && decide (limit ≤ 8192)) = false := by simp; omega
    have hg : Hid (∀ w, Calls Try.prog 63 #[.int .i64 limit] w fun e w' => e = .returned (.bool false) ∧ w = w') := fun w => (goodLimit_any w limit).mono fun e w' ⟨h1, h2⟩ => ⟨by rw [h1, g], h2⟩
    clear g h1 hR
    go_enter Try.func45, Try.ntmps45
    go_wp2_with (go_at_call 63; refine (hg.out _).mono ?_; rintro e w' ⟨rfl, rfl⟩)
    go_ret2
    exact ⟨none, by rw [e.out]; rfl, Below.refl _ _, fun _ => rfl, by rw [e.out]; simp⟩
end Go.Proofs.Ytpkcccphoolapaa
