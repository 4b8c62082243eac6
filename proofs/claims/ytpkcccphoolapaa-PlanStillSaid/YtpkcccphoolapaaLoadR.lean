/- Layer 6: the reference's Load. -/
import Derived.Test.YtpkcccphoolapaaJoinR
namespace Go.Proofs.Ytpkcccphoolapaa
open Go.RowKit

theorem two_cells {X : World} {B : Nat} {x y a b : Value} (c0 : X.cell? ⟨B, 0, none⟩ = some x) (c1 : X.cell? ⟨B, 1, none⟩ = some y) :
    ((X.setCell ⟨B, 0, none⟩ a).setCell ⟨B, 1, none⟩ b).cell? ⟨B, 0, none⟩ = some a ∧ ((X.setCell ⟨B, 0, none⟩ a).setCell ⟨B, 1, none⟩ b).cell? ⟨B, 1, none⟩ = some b := by
  have h0 := World.cell?_setCell_same' X ⟨B, 0, none⟩ a (by rw [c0]; rfl)
  have h1 : (X.setCell ⟨B, 0, none⟩ a).cell? ⟨B, 1, none⟩ = some y := by rw [World.cell?_setCell_other _ _ _ _ (by simp)]; exact c1
  exact ⟨by rw [World.cell?_setCell_other _ _ _ _ (by simp)]; exact h0, World.cell?_setCell_same' _ _ _ (by rw [h1]; rfl)⟩

set_option maxHeartbeats 1000000 in
theorem loadRef_any (w : World) (A : Option Addr) (n c : Nat) (l : List Seg) (limit : Int) (hl : l.length = n) (hbytes : n * 24 ≤ 140737488351232) (hR : Segs w.heap.size w A l) :
    Calls Try.prog 50 #[.slice A n c, .int .i64 limit] w fun e w' =>
      ∃ v lm, e = .returned (.tuple #[.agg #[.int .i64 lm, v], .int .i64 (Rng.loadL l limit).1]) ∧ OwnSegs w' w.heap.size v (Rng.loadL l limit).2 ∧ ((Rng.loadL l limit).1 = 0 → lm = limit) ∧ Below w.heap.size w w' := by
  subst hl
  have HR := hid hR
  clear hR
  have hB1 : Below w.heap.size w (w.alloc (.cells #[.int .i64 0, .slice none 0 0] 65)) := (Below.refl _ w).alloc (Nat.le_refl _) _
  by_cases h1 : 1 ≤ limit ∧ limit ≤ 8192
  case neg =>
    have e : Hid (Rng.loadL l limit = (63, [])) := by show _ = _; unfold Rng.loadL; rw [if_pos h1]
    by_cases h2 : limit < 1
    · go_enter Try.func50, Try.ntmps50
      go_wp2
      refine bodyPost_ret (v := .tuple #[.agg #[.int .i64 0, .slice none 0 0], .int .i64 63]) (by simp [results, Try.results50, go_sem]) rfl ?_
      exact ⟨.slice none 0 0, 0, by rw [e.out], by rw [e.out]; exact World.ownsRow_nil _ _ _ _, by rw [e.out]; simp, hB1⟩
    · have h3 : 8192 < limit := by omega
      go_enter Try.func50, Try.ntmps50
      go_wp2
      refine bodyPost_ret (v := .tuple #[.agg #[.int .i64 0, .slice none 0 0], .int .i64 63]) (by simp [results, Try.results50, go_sem]) rfl ?_
      exact ⟨.slice none 0 0, 0, by rw [e.out], by rw [e.out]; exact World.ownsRow_nil _ _ _ _, by rw [e.out]; simp, hB1⟩
  case pos =>
    obtain ⟨W, hW⟩ : ∃ W, W = w.alloc (.cells #[.int .i64 0, .slice none 0 0] 65) := ⟨_, rfl⟩
    have hRow : Row W w.heap.size [.int .i64 0, .slice none 0 0] := by rw [hW]; exact Row.new w [.int .i64 0, .slice none 0 0] _
    have hfr : ∀ j, W.frozen? ⟨w.heap.size, j, none⟩ = false := fun j => by rw [hW]; exact World.frozen?_alloc_new w _ _ j
    have hsz : W.heap.size = w.heap.size + 1 := by rw [hW]; simp
    rw [← hW] at hB1
    have hF := faultRef_any W A l.length c l rfl hbytes ((HR.out.below hB1).mono hB1.size)
    have hJ := fun q => joinRef_any (W.drewN q) A l.length c l rfl hbytes ((HR.out.below (below_drewN' hB1 q)).mono hB1.size)
    have HF := hid hF
    have HJ := hid hJ
    have HW := hid hW
    have HB1 := hid hB1
    have HFR := hid hfr
    have HSZ := hid hsz
    have l1 := h1.1
    have l2 := h1.2
    have hjl := Rng.joinL_len l
    have e0 : Hid (Rng.loadL l limit = if (Rng.faultL l).2 ≠ 0 then ((Rng.faultL l).2, []) else if limit < (Rng.joinL l).length then (61, []) else (0, Rng.joinL l)) := by show _ = _; unfold Rng.loadL; rw [if_neg (by omega)]
    clear hF hJ hW hB1 hfr hsz h1
    generalize Rng.faultL l = ff at *
    generalize Rng.joinL l = jl at *
    have c0 := hRow.2 0 _ rfl
    have c1 := hRow.2 1 _ rfl
    have f0 := HFR.out 0
    have f1 := HFR.out 1
    have hlt := hRow.1
    go_enter Try.func50, Try.ntmps50
    go_wp2_with fail
    rw [← HW.out]
    refine HF.out.mono ?_
    rintro e w1 ⟨rfl, q, rfl⟩
    by_cases hf : ff.2 = 0
    case neg =>
      have hfb : (ff.2 != 0) = true := by simpa using hf
      have e1 : Hid (Rng.loadL l limit = (ff.2, [])) := by show _ = _; rw [e0.out, if_pos hf]
      have HFN := hid hf
      clear hf
      go_wp2
      obtain ⟨z0, z1⟩ := two_cells (X := W.drewN q) (a := .int .i64 0) (b := .slice none 0 0) c0 c1
      refine bodyPost_ret (v := .tuple #[.agg #[.int .i64 0, .slice none 0 0], .int .i64 ff.2]) (by simp [results, Try.results50, go_sem, z0, z1]) rfl ?_
      exact ⟨.slice none 0 0, 0, by rw [e1.out], by rw [e1.out]; exact World.ownsRow_nil _ _ _ _, by rw [e1.out]; exact fun h => absurd h HFN.out, ((below_drewN' HB1.out q).setCell (p := ⟨w.heap.size, 0, none⟩) (Nat.le_refl _) _).setCell (p := ⟨w.heap.size, 1, none⟩) (Nat.le_refl _) _⟩
    case pos =>
      have hfb : (ff.2 != 0) = false := by simp [hf]
      have e2 : Hid (Rng.loadL l limit = if limit < jl.length then (61, []) else (0, jl)) := by show _ = _; rw [e0.out, if_neg (by simp [hf])]
      clear hf
      go_wp2_with fail
      refine (HJ.out q).mono ?_
      rintro e w2 ⟨v, rfl, hown, hb2⟩
      obtain ⟨hl2, A2, k2, rfl, hk2, _, hR2⟩ := owns_reads encSeg_len hown (by decide)
      have hb2' : Below W.heap.size W w2 := ⟨hb2.os, hb2.tape, hb2.output, hb2.size, hb2.block⟩
      have d0 := (hb2'.cell (p := ⟨w.heap.size, 0, none⟩) hlt).trans c0
      have d1 := (hb2'.cell (p := ⟨w.heap.size, 1, none⟩) hlt).trans c1
      have g0 := (hb2'.frozen (p := ⟨w.heap.size, 0, none⟩) hlt).trans f0
      have g1 := (hb2'.frozen (p := ⟨w.heap.size, 1, none⟩) hlt).trans f1
      have hB2 := HB1.out.trans (hb2'.mono HB1.out.size)
      have HO := hid hown
      clear hown hb2 hb2' c0 c1 f0 f1 hR2
      by_cases hlm : limit < jl.length
      · have e3 : Hid (Rng.loadL l limit = (61, [])) := by show _ = _; rw [e2.out, if_pos hlm]
        go_wp2
        obtain ⟨z0, z1⟩ := two_cells (X := w2) (a := .int .i64 0) (b := .slice none 0 0) d0 d1
        refine bodyPost_ret (v := .tuple #[.agg #[.int .i64 0, .slice none 0 0], .int .i64 61]) (by simp [results, Try.results50, go_sem, z0, z1]) rfl ?_
        exact ⟨.slice none 0 0, 0, by rw [e3.out], by rw [e3.out]; exact World.ownsRow_nil _ _ _ _, by rw [e3.out]; simp, (hB2.setCell (p := ⟨w.heap.size, 0, none⟩) (Nat.le_refl _) _).setCell (p := ⟨w.heap.size, 1, none⟩) (Nat.le_refl _) _⟩
      · have e3 : Hid (Rng.loadL l limit = (0, jl)) := by show _ = _; rw [e2.out, if_neg hlm]
        go_wp2
        obtain ⟨z0, z1⟩ := two_cells (X := w2) (a := .int .i64 limit) (b := .slice A2 jl.length k2) d0 d1
        refine bodyPost_ret (v := .tuple #[.agg #[.int .i64 limit, .slice A2 jl.length k2], .int .i64 0]) (by simp [results, Try.results50, go_sem, z0, z1]) rfl ?_
        refine ⟨.slice A2 jl.length k2, limit, by rw [e3.out], ?_, fun _ => rfl, (hB2.setCell (p := ⟨w.heap.size, 0, none⟩) (Nat.le_refl _) _).setCell (p := ⟨w.heap.size, 1, none⟩) (Nat.le_refl _) _⟩
        rw [e3.out]
        have hne : ∀ row, row = some w.heap.size → (Value.slice A2 jl.length k2).ownBlock = none ∨ (Value.slice A2 jl.length k2).ownBlock ≠ row := by
          rintro row rfl
          cases A2 with
          | none => exact .inl rfl
          | some ad =>
            refine .inr fun e => ?_
            have h1 := own_ge HO.out _ e
            have h2 := HSZ.out
            have h3 : W.heap.size ≤ w.heap.size := h1
            omega
        have h1 := HO.out.kept (grown_setCell (World.grownBy_refl' w2 (some w.heap.size)) (p := ⟨w.heap.size, 0, none⟩) (.inl rfl) (.int .i64 limit)) (hne _ rfl)
        have h2 := h1.kept (grown_setCell (World.grownBy_refl' _ (some w.heap.size)) (p := ⟨w.heap.size, 1, none⟩) (.inl rfl) (.slice A2 jl.length k2)) (hne _ rfl)
        exact ownsRow_mono h2 HB1.out.size
end Go.Proofs.Ytpkcccphoolapaa
