/- Layer 15: the reference's layout. -/
import Derived.Test.YtpkcccphoolapaaLoadR
import Derived.Test.YtpkcccphoolapaaLay
namespace Go.Proofs.Ytpkcccphoolapaa
open Go.RowKit

/-- a row of the call's own lies on when two cells of an elder block are written -/
theorem own_two {X : World} {B base e size n : Nat} {v a b : Value} {xs : List Value} (h : X.ownsRow base e size v n xs) (hB : B < base) : ((X.setCell ⟨B, 0, none⟩ a).setCell ⟨B, 1, none⟩ b).ownsRow base e size v n xs := by
  have hne : v.ownBlock ≠ some B := fun e => by have := own_ge h _ e; omega
  have h1 := h.kept (grown_setCell (World.grownBy_refl' X (some B)) (p := ⟨B, 0, none⟩) (.inl rfl) a) (.inr hne)
  exact h1.kept (grown_setCell (World.grownBy_refl' _ (some B)) (p := ⟨B, 1, none⟩) (.inl rfl) b) (.inr hne)

theorem below_two {X w : World} {B n₀ : Nat} {a b : Value} (h : Below n₀ w X) (hB : n₀ ≤ B) : Below n₀ w ((X.setCell ⟨B, 0, none⟩ a).setCell ⟨B, 1, none⟩ b) :=
  (h.setCell (p := ⟨B, 0, none⟩) hB a).setCell (p := ⟨B, 1, none⟩) hB b

set_option maxHeartbeats 4000000 in
theorem layoutRef_any (w : World) (hosts : Int) (A : Option Addr) (n c : Nat) (l : List Seg) (A' : Option Addr) (n' c' : Nat) (ks : List Int) (hl : l.length = n) (hbytes : n * 24 ≤ 140737488351232) (hok : ∀ s ∈ l, okSeg s) (hR : Segs w.heap.size w A l)
    (hl' : ks.length = n') (hbytes' : n' * 8 ≤ 140737488351232) (hR' : Keys w.heap.size w A' ks) :
    Calls Try.prog 42 #[.int .i64 hosts, .slice A n c, .slice A' n' c'] w fun e w' =>
      ∃ v lm b, e = .returned (.tuple #[.agg #[.int .i64 lm, v], .bool b]) ∧ (b = true ↔ LayOk hosts l ks) ∧ OwnSegs w' w.heap.size v (Rng.loadL l 8192).2 ∧ Below w.heap.size w w' := by
  subst hl
  subst hl'
  obtain ⟨W, hW⟩ : ∃ W, W = w.alloc (.cells #[.int .i64 0, .slice none 0 0] 65) := ⟨_, rfl⟩
  have hRow : Row W w.heap.size [.int .i64 0, .slice none 0 0] := by rw [hW]; exact Row.new w [.int .i64 0, .slice none 0 0] _
  have hfr : ∀ j, W.frozen? ⟨w.heap.size, j, none⟩ = false := fun j => by rw [hW]; exact World.frozen?_alloc_new w _ _ j
  have hB1 : Below w.heap.size w W := by rw [hW]; exact (Below.refl _ w).alloc (Nat.le_refl _) _
  have hsz : W.heap.size = w.heap.size + 1 := by rw [hW]; simp
  have hld := loadRef_any W A l.length c l 8192 rfl hbytes ((hR.below hB1).mono hB1.size)
  have HR' := hid hR'
  have hlen : ((Rng.loadL l 8192).2.length : Int) ≤ 8192 := by
    unfold Rng.loadL
    split
    · simp
    split
    · simp
    split
    · simp
    · simp only; omega
  have hwf : (Rng.loadL l 8192).1 = 0 → ∀ s ∈ (Rng.loadL l 8192).2, 0 ≤ s.host ∧ s.host < 16 := by
    intro h0 s hs
    unfold Rng.loadL at h0 hs
    split at h0
    · simp at h0
    · rename_i g1
      rw [if_neg g1] at hs
      split at h0
      · rename_i g2; exact absurd h0 g2
      · rename_i g2
        rw [if_neg g2] at hs
        split at h0
        · simp at h0
        · rename_i g3
          rw [if_neg g3] at hs
          exact (Rng.joinL_wf hok (Classical.byContradiction g2)).1.hosts s hs
  have HL : Hid (∀ b : Bool, (b = true ↔ LayOk hosts l ks) ↔ (b = true ↔ ((Rng.loadL l 8192).1 = 0 ∧ (∀ s ∈ (Rng.loadL l 8192).2, s.host < hosts) ∧ Inc ks))) := fun b => Iff.rfl
  have HWF := hid hwf
  have HWd := hid hW
  have HFR := hid hfr
  have HSZ := hid hsz
  clear hok hR hR' hwf hW hfr hsz
  generalize LayOk hosts l ks = LO at *
  generalize Rng.loadL l 8192 = ll at *
  obtain ⟨e0, l0⟩ := ll
  simp only at hld hlen
  have hlt := hRow.1
  go_enter Try.func42, Try.ntmps42
  go_wp2_with fail
  rw [← HWd.out]
  refine hld.mono ?_
  rintro e' w2 ⟨v, lm, rfl, hown, -, hb2⟩
  obtain ⟨_, A2, k2, rfl, hk2, _, hR2⟩ := owns_reads encSeg_len hown (by decide)
  have hb2s := hb2.size
  have hB2 := hB1.trans (hb2.mono hB1.size)
  obtain ⟨X, hX⟩ : ∃ X, X = w2.alloc (.cells #[.int .i64 lm, .slice A2 l0.length k2] 65) := ⟨_, rfl⟩
  have hRX : Row X w2.heap.size [.int .i64 lm, .slice A2 l0.length k2] := by rw [hX]; exact Row.new w2 [.int .i64 lm, .slice A2 l0.length k2] _
  have hB3 : Below w.heap.size w X := by rw [hX]; exact hB2.alloc hB2.size _
  have hb3 : Below W.heap.size W X := by rw [hX]; exact hb2.alloc hb2.size _
  have HOX : Hid (OwnSegs X W.heap.size (.slice A2 l0.length k2) l0) := by rw [hX]; exact hown.alloc _
  have HRX : Hid (Segs X.heap.size X A2 l0) := by rw [hX]; exact (hR2.below ((Below.refl _ w2).alloc (Nat.le_refl _) _)).mono (by simp)
  have d0 := (hb3.cell (p := ⟨w.heap.size, 0, none⟩) hlt).trans (hRow.2 0 _ rfl)
  have d1 := (hb3.cell (p := ⟨w.heap.size, 1, none⟩) hlt).trans (hRow.2 1 _ rfl)
  have g0 := (hb3.frozen (p := ⟨w.heap.size, 0, none⟩) hlt).trans (HFR.out 0)
  have g1 := (hb3.frozen (p := ⟨w.heap.size, 1, none⟩) hlt).trans (HFR.out 1)
  have x0 := hRX.2 0 _ rfl
  have x1 := hRX.2 1 _ rfl
  have hxl := hRX.1
  have HXd := hid hX
  have FIN := hid (show ∀ q, Below w.heap.size w (((X.drewN q).setCell ⟨w.heap.size, 0, none⟩ (.int .i64 lm)).setCell ⟨w.heap.size, 1, none⟩ (.slice A2 l0.length k2)) ∧
      OwnSegs (((X.drewN q).setCell ⟨w.heap.size, 0, none⟩ (.int .i64 lm)).setCell ⟨w.heap.size, 1, none⟩ (.slice A2 l0.length k2)) w.heap.size (.slice A2 l0.length k2) l0 from
    fun q => ⟨below_two (below_drewN' hB3 q) (Nat.le_refl _), ownsRow_mono (own_two (show OwnSegs (X.drewN q) W.heap.size (.slice A2 l0.length k2) l0 from HOX.out) hlt) hB1.size⟩)
  have ZZ := hid (show ∀ q, _ from fun q => two_cells (X := X.drewN q) (B := w.heap.size) (a := .int .i64 lm) (b := .slice A2 l0.length k2) d0 d1)
  have ZY := hid (two_cells (X := X) (B := w.heap.size) (a := .int .i64 lm) (b := .slice A2 l0.length k2) d0 d1)
  have HBX := hid hB3
  clear hX hRow hB1 hld hown hR2 hb2 hB2 hb3 hRX hB3
  go_upto_if 18 with fail
  rw [← HXd.out]
  by_cases h0 : e0 = 0
  case neg =>
    have hb0 : (e0 != 0) = true := by simpa using h0
    have H0 := hid h0
    clear h0
    go_wp2
    refine bodyPost_ret (v := .tuple #[.agg #[.int .i64 lm, .slice A2 l0.length k2], .bool false]) (by obtain ⟨z0, z1⟩ := ZY.out; simp [results, Try.results42, go_sem, z0, z1]) rfl ?_
    exact ⟨_, lm, false, rfl, (HL.out false).2 ⟨fun h => (by cases h), fun h => absurd h.1 H0.out⟩, (FIN.out 0).2, (FIN.out 0).1⟩
  case pos =>
  subst h0
  go_wp2
  go_loopw [10] (fun i wr => ∃ k : Nat, k ≤ l0.length ∧ i = .int .i64 k ∧ Hid (∀ s ∈ l0.take k, s.host < hosts) ∧ wr = X) (fun i _ => l0.length - (intOf i).toNat)
  case atStart => exact ⟨0, Nat.zero_le _, rfl, hid (by simp), rfl⟩
  case round =>
    obtain ⟨k, hk, rfl, HH, rfl⟩ := hrel
    by_cases hlt1 : k < l0.length
    · obtain ⟨b, off, s, hs, rfl, hb, c0, c1, c2⟩ := Segs.at3 HRX.out k hlt1
      have hkn : (k : Int) < l0.length := by omega
      have hm := List.mem_of_getElem? hs.out
      obtain ⟨v4, v5⟩ := HWF.out (by first | rfl | trivial) s hm
      have HM := hid hm
      have hw : IntKind.i64.wrap s.host = s.host := wrap_small _ (by omega) (by omega)
      clear hm
      by_cases hh : hosts ≤ s.host
      · go_wp2
        refine bodyPost_ret (v := .tuple #[.agg #[.int .i64 lm, .slice (some ⟨b, off, none⟩) l0.length k2], .bool false]) (by obtain ⟨z0, z1⟩ := ZY.out; simp [results, Try.results42, go_sem, z0, z1]) rfl ?_
        exact ⟨_, lm, false, rfl, (HL.out false).2 ⟨fun h => (by cases h), fun h => absurd (h.2.1 s HM.out) (by omega)⟩, (FIN.out 0).2, (FIN.out 0).1⟩
      · go_wp2
        go_roundw
        case rel => exact ⟨k + 1, by omega, by go_num, hid (mem_take_succ hs.out HH.out (by omega)), by first | rfl | trivial⟩
        case measure => simp [intOf]; omega
    · obtain rfl : k = l0.length := by omega
      have HHH : Hid (∀ s ∈ l0, s.host < hosts) := by have := HH.out; rw [List.take_length] at this; exact this
      go_wp2
      go_loopw [11] (fun i wr' => ∃ j : Nat, j ≤ ks.length ∧ i = .int .i64 ((j : Int) + 1) ∧ Hid (∀ (i : Nat) (a b : Int), i < j → ks[i]? = some a → ks[i + 1]? = some b → a < b) ∧ ∃ q, wr' = wr.drewN q) (fun i _ => ks.length + 1 - (intOf i).toNat)
      case atStart => exact ⟨0, Nat.zero_le _, rfl, hid (fun i a b h => absurd h (Nat.not_lt_zero _)), 0, rfl⟩
      case round =>
        obtain ⟨j, hj, rfl, HI, q, rfl⟩ := hrel
        by_cases hlt2 : j + 1 < ks.length
        · obtain ⟨b, off, x, hx, rfl, hb, e0⟩ := Keys.at1 HR'.out j (by omega)
          obtain ⟨b', off', y, hy, e, hb', e1⟩ := Keys.at1 HR'.out (j + 1) hlt2
          cases e
          replace e0 := Tfact HBX.out (a := ⟨b, _, none⟩) hb e0
          replace e1 := Tfact HBX.out (a := ⟨b, _, none⟩) hb e1
          have hj1 : (j : Int) + 1 < ks.length := by omega
          have hj2 : (j : Int) < ks.length := by omega
          have hj3 : (0 : Int) ≤ (j : Int) := by omega
          by_cases hxy : x < y
          · go_wp2
            go_quiet (fail)
            go_wp2
            go_roundw
            case rel => exact ⟨j + 1, by omega, by go_num, hid (fun i a b hi ha hb => by
              rcases Nat.lt_or_ge i j with h | h
              · exact HI.out i a b h ha hb
              · obtain rfl : i = j := by omega
                rw [hx.out] at ha; rw [hy.out] at hb; cases ha; cases hb; exact hxy), by first | exact ⟨_, rfl⟩ | exact ⟨_, World.drewN_drewN ..⟩⟩
            case measure => simp [intOf]; omega
          · go_wp2
            go_quiet (fail)
            go_wp2
            refine bodyPost_ret (v := .tuple #[.agg #[.int .i64 lm, .slice A2 l0.length k2], .bool false]) (by obtain ⟨z0, z1⟩ := (ZZ.out (q + nq)); simp [results, Try.results42, go_sem, z0, z1]) rfl ?_
            exact ⟨_, lm, false, rfl, (HL.out false).2 ⟨fun h => (by cases h), fun h => absurd (h.2.2 j (j + 1) x y (by omega) hx.out hy.out) (by omega)⟩, (FIN.out (q + nq)).2, (FIN.out (q + nq)).1⟩
        · go_wp2
          refine bodyPost_ret (v := .tuple #[.agg #[.int .i64 lm, .slice A2 l0.length k2], .bool true]) (by obtain ⟨z0, z1⟩ := (ZZ.out q); simp [results, Try.results42, go_sem, z0, z1]) rfl ?_
          exact ⟨_, lm, true, rfl, (HL.out true).2 ⟨fun _ => ⟨by first | rfl | trivial, HHH.out, inc_of_step (fun i a b ha hb => HI.out i a b (by
            obtain ⟨h1, _⟩ := List.getElem?_eq_some_iff.1 hb
            omega) ha hb)⟩, fun _ => rfl⟩, (FIN.out q).2, (FIN.out q).1⟩
end Go.Proofs.Ytpkcccphoolapaa
