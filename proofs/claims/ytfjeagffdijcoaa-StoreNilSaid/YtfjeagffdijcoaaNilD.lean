/- Layer 7: Collect of a nil map of ints. -/
import Derived.Test.YtfjeagffdijcoaaNilC
namespace Go.Proofs.Ytfjeagffdijcoaa
open Go.RowKit Go.Shelf
attribute [local go_sem] Oper.semAt_some
namespace TI

set_option maxRecDepth 100000 in
set_option maxHeartbeats 2000000 in
theorem collectNil_any (w : World) : Calls Try.prog 35 #[.pointer none] w fun e w' => e = .returned (.tuple #[.slice none 0 0, .slice none 0 0]) ∧ Below w.heap.size w w' := by
  refine (callsIn_wide (n := 4)).1 ?_
  refine callsIn_of_wp_marks Try.func35 rfl trivial ?_ rfl
  simp only [Try.ntmps35, List.size_toArray, List.length_cons, List.length_nil, Nat.reduceAdd, Nat.reduceSub, Array.replicate_succ, Array.replicate_zero, List.push_toArray, List.append_toArray, List.nil_append, List.cons_append]
  gi_wp2_with fail
  refine ⟨trivial, ?_⟩
  refine (callsIn_wide.2 (all_any _ none)).mono ?_
  rintro e w1 ⟨rfl, rfl⟩
  gi_wp2_with fail
  have hb1 : Boxed (((w.alloc (.cells #[.slice none 0 0] 31)).alloc (.cells #[.slice none 0 0] 31)).alloc (.cells #[.pointer none] 22)) w.heap.size 31 (.slice none 0 0) := ((Boxed.new w _ _).alloc _).alloc _
  have hb2 : Boxed (((w.alloc (.cells #[.slice none 0 0] 31)).alloc (.cells #[.slice none 0 0] 31)).alloc (.cells #[.pointer none] 22)) (w.heap.size + 1) 31 (.slice none 0 0) := by
    have := (Boxed.new (w.alloc (.cells #[.slice none 0 0] 31)) 31 (.slice none 0 0)).alloc (.cells #[.pointer none] 22)
    rwa [World.size_alloc] at this
  have hb3 : (((w.alloc (.cells #[.slice none 0 0] 31)).alloc (.cells #[.slice none 0 0] 31)).alloc (.cells #[.pointer none] 22)).cell? ⟨w.heap.size + 1 + 1, 0, none⟩ = some (.pointer none) := by
    have := (Boxed.new ((w.alloc (.cells #[.slice none 0 0] 31)).alloc (.cells #[.slice none 0 0] 31)) 22 (.pointer none)).cell
    rwa [World.size_alloc, World.size_alloc] at this
  have hbb : Below w.heap.size w (((w.alloc (.cells #[.slice none 0 0] 31)).alloc (.cells #[.slice none 0 0] 31)).alloc (.cells #[.pointer none] 22)) := (((Below.refl _ w).alloc (Nat.le_refl _) _).alloc (by simp) _).alloc (by simp; omega) _
  have hsz : w.heap.size ≤ (((w.alloc (.cells #[.slice none 0 0] 31)).alloc (.cells #[.slice none 0 0] 31)).alloc (.cells #[.pointer none] 22)).heap.size := by simp; omega
  generalize (((w.alloc (.cells #[.slice none 0 0] 31)).alloc (.cells #[.slice none 0 0] 31)).alloc (.cells #[.pointer none] 22)) = W0 at *
  refine wpIn_rangeFunc_ownH rfl (by omega) (gf := 78) (lb := #[.pointer (some ⟨w.heap.size + 1 + 1, 0, none⟩)]) rfl trivial (enters_of Try.func78 (by kernel_rfl) rfl)
    (all_nil_stops 3 (w.heap.size + 1 + 1) 0 (fun _ => False) W0 hb3) keepsT_t (fun _ _ _ _ _ _ _ _ _ hk => hk.elim) (Below.refl _ _) (fun _ => rfl)
    (fun (_ : List (Int × Int)) W => Boxed W w.heap.size 31 (.slice none 0 0) ∧ Boxed W (w.heap.size + 1) 31 (.slice none 0 0) ∧ Below w.heap.size w W)
    (fun _ _ _ => False)
    (OwnFrom.and (Own.from (boxed_own w.heap.size 31 (fun _ => .slice none 0 0)) _) (OwnFrom.and (Own.from (boxed_own (w.heap.size + 1) 31 (fun _ => .slice none 0 0)) _) (ownFrom_below (Nat.le_refl _) hsz)))
    (fun _ _ _ _ _ hs _ _ => hs)
    ⟨hb1, hb2, hbb⟩ (fun _ _ _ => True) (fun _ _ _ _ _ _ _ _ _ => trivial)
    ?assign ?body ?done ?stop
  case assign =>
    intro l pre x W K hi hK
    gi_wp2
    exact hK _ _ (KeepsFrom.refl _ _) (fun _ h => h.elim) hi trivial
  case body =>
    rintro l pre x a' W _ _ _ _ hlt
    exact absurd hlt (Nat.not_lt_zero _)
  case done =>
    rintro D ys W hD rfl ⟨h1, h2, h3⟩ hKD
    have c1 := h1.cell
    have c2 := h2.cell
    gi_wp2
    refine wpIn_region_any (by kernel_rfl) ?_
    try (change wpAnyIn _ _ _ _ _ _ _ _ _ (World.drew _))
    refine wpAnyIn_ready (rs := [0, 1]) (by kernel_rfl) (by simp) ?_
    refine AllReadyIn.cons rfl (fun K hK => ?_) (AllReadyIn.cons rfl (fun K hK => ?_) AllReadyIn.nil)
    · go_simp
      refine hK _ _ ?_
      clear hK K
      refine wpAnyIn_ready (rs := [1, 2]) (by kernel_rfl) (by simp) ?_
      refine AllReadyIn.cons rfl (fun K hK => ?_) (AllReadyIn.cons rfl (fun K hK => ?_) AllReadyIn.nil)
      · go_simp
        refine hK _ _ ?_
        clear hK K
        refine wpAnyIn_ready (rs := [2]) (by kernel_rfl) (by simp) ?_
        refine AllReadyIn.cons rfl (fun K hK => ?_) AllReadyIn.nil
        go_simp
        refine hK _ _ ?_
        clear hK K
        refine wpAnyIn_ready (rs := [3]) (by kernel_rfl) (by simp) ?_
        refine AllReadyIn.cons rfl (fun K hK => ?_) AllReadyIn.nil
        go_simp
        refine hK _ _ ?_
        clear hK K
        refine wpAnyIn_done (by kernel_rfl) ?_ _
        gi_wp2
        refine ⟨by simp, .inl ⟨_, _, rfl, run_takeDeferred hKD, ?_⟩⟩
        exact ⟨_, results_tmp2 rfl _ _ _, rfl, h3.drew.trans (belowK_b (w := w) (Nat.le_refl _) (World.drew W) D _ _ (by omega) hKD rfl rfl)⟩
      · go_simp
        refine hK _ _ ?_
        clear hK K
        refine wpAnyIn_ready (rs := [1]) (by kernel_rfl) (by simp) ?_
        refine AllReadyIn.cons rfl (fun K hK => ?_) AllReadyIn.nil
        go_simp
        refine hK _ _ ?_
        clear hK K
        refine wpAnyIn_ready (rs := [3]) (by kernel_rfl) (by simp) ?_
        refine AllReadyIn.cons rfl (fun K hK => ?_) AllReadyIn.nil
        go_simp
        refine hK _ _ ?_
        clear hK K
        refine wpAnyIn_done (by kernel_rfl) ?_ _
        gi_wp2
        refine ⟨by simp, .inl ⟨_, _, rfl, run_takeDeferred hKD, ?_⟩⟩
        exact ⟨_, results_tmp2 rfl _ _ _, rfl, h3.drew.trans (belowK_b (w := w) (Nat.le_refl _) (World.drew W) D _ _ (by omega) hKD rfl rfl)⟩
    · go_simp
      refine hK _ _ ?_
      clear hK K
      refine wpAnyIn_ready (rs := [0]) (by kernel_rfl) (by simp) ?_
      refine AllReadyIn.cons rfl (fun K hK => ?_) AllReadyIn.nil
      go_simp
      refine hK _ _ ?_
      clear hK K
      refine wpAnyIn_ready (rs := [2]) (by kernel_rfl) (by simp) ?_
      refine AllReadyIn.cons rfl (fun K hK => ?_) AllReadyIn.nil
      go_simp
      refine hK _ _ ?_
      clear hK K
      refine wpAnyIn_ready (rs := [3]) (by kernel_rfl) (by simp) ?_
      refine AllReadyIn.cons rfl (fun K hK => ?_) AllReadyIn.nil
      go_simp
      refine hK _ _ ?_
      clear hK K
      refine wpAnyIn_done (by kernel_rfl) ?_ _
      gi_wp2
      refine ⟨by simp, .inl ⟨_, _, rfl, run_takeDeferred hKD, ?_⟩⟩
      exact ⟨_, results_tmp2 rfl _ _ _, rfl, h3.drew.trans (belowK_b (w := w) (Nat.le_refl _) (World.drew W) D _ _ (by omega) hKD rfl rfl)⟩
  case stop =>
    rintro D c pre W _ _ h _
    exact h.elim
end TI
end Go.Proofs.Ytfjeagffdijcoaa
