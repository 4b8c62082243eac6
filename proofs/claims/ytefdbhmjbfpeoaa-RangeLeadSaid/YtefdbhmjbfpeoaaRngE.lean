/- Layer 6: New, Assign, good. -/
import Derived.Test.YtefdbhmjbfpeoaaRngD
namespace Go.Proofs.Ytefdbhmjbfpeoaa
open Go.RowKit

set_option maxHeartbeats 400000 in
theorem new_ok (w : World) (owner limit : Int) (h0 : 1 ≤ limit) (h1 : limit ≤ 8192) (h2 : owner < 16) :
    Calls Try.prog 8 #[.int .u8 owner, .int .i64 limit] w fun e w' =>
      e = .returned (.tuple #[.pointer (some ⟨w.heap.size + 1, 0, none⟩), .int .i64 0]) ∧ Below w.heap.size w w' ∧ IsTab w' (w.heap.size + 1) limit [⟨0, maxK, owner⟩] := by
  have e0 : decide (1 ≤ limit) = true := by simp [h0]
  have e1 : decide (limit ≤ 8192) = true := by simp [h1]
  have e2 : decide (owner < 16) = true := by simp [h2]
  go_enter Try.func8, Try.ntmps8
  go_wp2_with (first | (go_at_call 25; refine (goodLimit_any _ _).mono ?_; rintro e w' ⟨rfl, rfl⟩) | (go_at_call 26; refine (isHost_any _ _).mono ?_; rintro e w' ⟨rfl, rfl⟩))
  go_ret2
  refine ⟨rfl, ((Below.refl _ _).alloc (Nat.le_refl _) _).alloc (by simp) _, by simp, ?_, w.heap.size, 0, 1, by simp, Nat.le_refl _, by omega, by simp; omega, ?_⟩
  · simp
  · refine .inr ⟨w.heap.size, 0, rfl, by simp; omega, fun i s hs j v hv => ?_⟩
    cases i with
    | succ i => simp at hs
    | zero =>
      simp at hs
      subst hs
      match j, hv with
      | 0, hv => simp [encSeg] at hv; subst hv; simp
      | 1, hv => simp [encSeg] at hv; subst hv; simp [maxK_eq]
      | 2, hv => simp [encSeg] at hv; subst hv; simp
      | j + 3, hv => simp [encSeg] at hv

def assignL (l : List Seg) (limit lo hi owner : Int) : Int × List Seg :=
  if (costL l lo hi owner).2 ≠ 0 then ((costL l lo hi owner).2, l)
  else if limit < (l.length : Int) + (costL l lo hi owner).1 then (61, l) else (0, Rng.withL l lo hi owner)

set_option maxHeartbeats 1000000 in
theorem assign_any (w : World) (T : Nat) (limit : Int) (l : List Seg) (lo hi owner : Int) (h : IsTab w T limit l) (hW : Rng.WF l) (hm : l.length ≤ 1000000000) (h0 : 0 ≤ lo) (h2 : hi ≤ maxK) (h3 : 0 ≤ owner) :
    Calls Try.prog 12 #[.pointer (some ⟨T, 0, none⟩), .int .u64 lo, .int .u64 hi, .int .u8 owner] w fun e w' =>
      e = .returned (.int .i64 (assignL l limit lo hi owner).1) ∧ IsTab w' T limit (assignL l limit lo hi owner).2 ∧ w.grownBy w' (some T) := by
  have hT := h.lt
  have hC := cost_any w T limit l lo hi owner h hW hm h0 h2 h3
  have HH := hid h
  by_cases hc2 : (costL l lo hi owner).2 = 0
  · have hlh : lo ≤ hi ∧ owner < 16 := by
      unfold costL at hc2
      by_cases a : hi < lo
      · rw [if_pos a] at hc2; exact absurd hc2 (by decide)
      · by_cases b : 16 ≤ owner
        · rw [if_neg a, if_pos b] at hc2; exact absurd hc2 (by decide)
        · omega
    have hcv : (costL l lo hi owner).1 = ((Rng.withL l lo hi owner).length : Int) - l.length := by
      unfold costL; rw [if_neg (by omega), if_neg (by omega)]
    obtain ⟨hw1, _, hw3⟩ := Rng.withL_spec hW h0 hlh.1 h2 h3 hlh.2
    have hcb : -1000000000 ≤ (costL l lo hi owner).1 ∧ (costL l lo hi owner).1 ≤ 2 := by omega
    by_cases hlim : limit < (l.length : Int) + (costL l lo hi owner).1
    · have ea : Hid (assignL l limit lo hi owner = (61, l)) := by
        show _ = _; unfold assignL; rw [if_neg (by simpa using hc2), if_pos hlim]
      rw [hc2] at hC
      have hcb1 := hcb.1
      have hcb2 := hcb.2
      clear hc2 hcv hw1 hw3 hcb hlh
      generalize (costL l lo hi owner).1 = x at *
      go_enter Try.func12, Try.ntmps12
      go_upto_region 4 with (go_at_call 11; refine hC.mono ?_; rintro e w1 ⟨rfl, hb1⟩)
      have h1 := HH.out.below hb1
      have H1 := hid h1
      obtain ⟨b, off, c, h1s, hc, hne, hbl, hR⟩ := h1.segs
      have h1l := h1.lim
      clear h1 hC h
      go_quiet (fail)
      go_wp2
      go_ret
      exact ⟨by rw [ea.out]; rfl, by rw [ea.out]; exact H1.out.drewN _, grown_drewN (grown_below hb1 _) _⟩
    · have ea : Hid (assignL l limit lo hi owner = (0, Rng.withL l lo hi owner)) := by
        show _ = _; unfold assignL; rw [if_neg (by simpa using hc2), if_neg hlim]
      rw [hc2] at hC
      have hcb1 := hcb.1
      have hcb2 := hcb.2
      clear hc2 hcv hw3 hcb
      have HW1 := hid hw1
      clear hw1
      generalize (costL l lo hi owner).1 = x at *
      go_enter Try.func12, Try.ntmps12
      go_upto_region 4 with (go_at_call 11; refine hC.mono ?_; rintro e w1 ⟨rfl, hb1⟩)
      have h1 := HH.out.below hb1
      have H1 := hid h1
      obtain ⟨b, off, c, h1s, hc, hne, hbl, hR⟩ := h1.segs
      have h1l := h1.lim
      clear h1 hC h
      go_quiet (fail)
      go_wp2_with fail
      refine (with_any (w1.drewN nq) T _ l.length c l lo hi owner rfl hc hm h1s hR hW h0 hlh.1 h2).mono ?_
      rintro e w2 ⟨v2, rfl, hown, hb2⟩
      have hB2 : Below w.heap.size w w2 := hb1.trans ⟨hb2.os, hb2.tape, hb2.output, hb2.size, fun k hk => hb2.block k (Nat.lt_of_lt_of_le hk hb1.size)⟩
      have H2 := HH.out.below hB2
      have h2l := H2.lim
      have h2f := H2.fz
      obtain ⟨b', off', c', h2s, _, _, _, _⟩ := H2.segs
      have hT2 := H2.lt
      have hown' := hown
      obtain ⟨g, cap, rfl, hbg, hgl⟩ := hown'.form HW1.out.pos
      have hgB : w.heap.size ≤ g := Nat.le_trans hb1.size hbg
      obtain ⟨_, A2, c2, hv, hcc, _, hR2⟩ := owns_reads encSeg_len hown (by decide)
      cases hv
      have HO := hid hown
      have HR2 := hid hR2
      have HE := hid H2
      clear hown hown' hR2 H2 hR
      go_wp2
      go_ret
      refine ⟨by rw [ea.out]; rfl, ?_, grown_setCell (grown_below hB2 _) (.inl rfl) _⟩
      rw [ea.out]
      exact HE.out.store hcc (by omega) hgl HR2.out
  · have ea : Hid (assignL l limit lo hi owner = ((costL l lo hi owner).2, l)) := by
      show _ = _; unfold assignL; rw [if_pos (by simpa using hc2)]
    have hb2 : ((costL l lo hi owner).2 != 0) = true := by simpa using hc2
    clear hc2
    generalize costL l lo hi owner = x at *
    go_enter Try.func12, Try.ntmps12
    go_wp2_with (go_at_call 11; refine hC.mono ?_; rintro e w1 ⟨rfl, hb1⟩)
    go_ret
    exact ⟨by rw [ea.out]; rfl, by rw [ea.out]; exact HH.out.below hb1, grown_below hb1 _⟩
end Go.Proofs.Ytefdbhmjbfpeoaa
