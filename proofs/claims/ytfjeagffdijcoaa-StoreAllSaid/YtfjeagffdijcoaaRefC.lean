/- Layer 7: the reference's map of ints: Between. -/
import Derived.Test.YtfjeagffdijcoaaRefB
import Derived.Test.YtfjeagffdijcoaaTrL
namespace Go.Proofs.Ytfjeagffdijcoaa
open Go.RowKit

theorem filter_snoc {α : Type} (f : α → Bool) (l : List α) (i : Nat) (p : α) (h : l[i]? = some p) : (l.take (i + 1)).filter f = (l.take i).filter f ++ (if f p then [p] else []) := by
  have e : l.take (i + 1) = l.take i ++ [p] := by rw [List.take_add_one, h]; rfl
  rw [e, List.filter_append]
  cases hf : f p <;> simp [hf]

set_option maxRecDepth 100000 in
set_option maxHeartbeats 4000000 in
theorem refBetween_any (w : World) (B R : Nat) (which : Int) (kv vv : Value) (l : List (Int × Int)) (lo hi : Int) (h : IsRef w B R which kv vv l) (hm : l.length ≤ 17592186044000) :
    Calls Try.prog 30 #[.pointer (some ⟨R, 0, none⟩), .int .i64 lo, .int .i64 hi] w fun e w' =>
      ∃ v1 v2, e = .returned (.tuple #[v1, v2]) ∧ Two w' w.heap.size v1 v2 ((l.filter (inR (ordI which) lo hi)).map Prod.fst) ((l.filter (inR (ordI which) lo hi)).map Prod.snd) ∧ Below w.heap.size w w' := by
  obtain ⟨B0, hB0⟩ : ∃ B0, B0 = w.heap.size := ⟨_, rfl⟩
  obtain ⟨A, c, A', c', rfl, rfl, _, _, _, _, h6, h7⟩ := h.read
  have c0w := h.c0
  have c1w := h.c1
  have c2w := h.c2
  have hRl := h.lt
  have H6 := hid h6
  have H7 := hid h7
  rw [← hB0] at hRl
  have C0w := hid c0w
  have C1w := hid c1w
  have C2w := hid c2w
  have HB : Hid (Below B0 w w) := Below.refl _ _
  rw [← hB0]
  clear h6 h7 h
  have HB0 := hid hB0
  clear hB0
  go_enter Try.func30, Try.ntmps30
  go_wp2_with fail
  clear c0w c1w c2w
  go_loopg [8, 9, 10] l.length (fun gx sk sv sj wr => ∃ (j : Nat) (kl vl : List Int), sj = .int .i64 j ∧ j ≤ l.length ∧ l.length - j ≤ gx ∧ kl.length ≤ j ∧ vl.length ≤ j ∧ Hid (kl = ((l.take j).filter (inR (ordI which) lo hi)).map Prod.fst ∧ vl = ((l.take j).filter (inR (ordI which) lo hi)).map Prod.snd) ∧ Hid (Two wr B0 sk sv kl vl) ∧ Hid (Below B0 w wr))
  case atStart => exact ⟨0, [], [], rfl, Nat.zero_le _, Nat.le_refl _, by simp, by simp, hid ⟨by simp, by simp⟩, Two.nil _ _, HB⟩
  case round =>
    obtain ⟨j, kl, vl, rfl, hj, hg, hkl, hvl, HEQ, HT, HBr⟩ := hrel
    have hc0 := Tfact' HBr.out (a := ⟨R, 0, none⟩) hRl C0w.out
    have hc1 := Tfact' HBr.out (a := ⟨R, 1, none⟩) hRl C1w.out
    have hc2 := Tfact' HBr.out (a := ⟨R, 2, none⟩) hRl C2w.out
    have hBr := HBr.out
    have hSr := hBr.size
    have hSB := HB0.out
    obtain ⟨A1k, n1k, c1k, A1v, n1v, c1v, rfl, rfl⟩ := HT.out.slices
    by_cases hjl : j < l.length
    · have hj2 : (j : Int) < (l.length : Int) := by omega
      have hwj : IntKind.i64.wrap ((j : Int) + 1) = (j : Int) + 1 := wrap_small _ (by omega) (by omega)
      obtain ⟨bk, ofk, bv, ofv, x, y, hxy, rfl, rfl, hbk, hbv, hck, hcv⟩ := ref_at H6.out H7.out j hjl
      rw [← hSB] at hbk hbv
      have hck0 := hck
      have hcv0 := hcv
      replace hck := Tfact' hBr (a := ⟨bk, _, none⟩) hbk hck
      replace hcv := Tfact' hBr (a := ⟨bv, _, none⟩) hbv hcv
      obtain ⟨v1, hv1⟩ : ∃ v1, ordI which x lo = v1 := ⟨_, rfl⟩
      obtain ⟨v2, hv2⟩ : ∃ v2, ordI which x hi = v2 := ⟨_, rfl⟩
      have HO1 : Hid (∀ w', Calls Try.prog 56 #[.int .i64 which, .int .i64 x, .int .i64 lo] w' fun e w'' => e = .returned (.int .i64 v1) ∧ ∃ n, w'' = w'.drewN n) := fun w' => (order_any w' which x lo).mono (by rintro e w'' ⟨rfl, rfl⟩; exact ⟨by rw [hv1], 0, rfl⟩)
      have HO2 : Hid (∀ w', Calls Try.prog 56 #[.int .i64 which, .int .i64 x, .int .i64 hi] w' fun e w'' => e = .returned (.int .i64 v2) ∧ ∃ n, w'' = w'.drewN n) := fun w' => (order_any w' which x hi).mono (by rintro e w'' ⟨rfl, rfl⟩; exact ⟨by rw [hv2], 0, rfl⟩)
      have HST : Hid (inR (ordI which) lo hi (x, y) = (decide (0 ≤ v1) && decide (v2 ≤ 0))) := by show _ = _; unfold inR; simp only [hv1, hv2]
      have HSN := hid (filter_snoc (inR (ordI which) lo hi) l j (x, y) hxy.out)
      clear hv1 hv2
      go_wp2_with fail
      go_quiet (refine Calls.quiet_of (HO1.out _))
      have HTq : Hid (Two (wr.drewN nq) B0 (.slice A1k n1k c1k) (.slice A1v n1v c1v) kl vl) := ⟨HT.out.ks, HT.out.vs, HT.out.ne⟩
      have hBq : Below B0 w (wr.drewN nq) := below_drewN' hBr nq
      replace hc0 : (wr.drewN nq).cell? _ = _ := hc0
      replace hc1 : (wr.drewN nq).cell? _ = _ := hc1
      replace hc2 : (wr.drewN nq).cell? _ = _ := hc2
      replace hck : (wr.drewN nq).cell? _ = _ := hck
      replace hcv : (wr.drewN nq).cell? _ = _ := hcv
      clear HO1 HT HBr hBr hSr
      generalize wr.drewN nq = wy at *
      go_wp2_with fail
      go_quiet (refine Calls.quiet_of (HO2.out _))
      have HT : Hid (Two (wy.drewN nq) B0 (.slice A1k n1k c1k) (.slice A1v n1v c1v) kl vl) := ⟨HTq.out.ks, HTq.out.vs, HTq.out.ne⟩
      have hBr : Below B0 w (wy.drewN nq) := below_drewN' hBq nq
      replace hc0 : (wy.drewN nq).cell? _ = _ := hc0
      replace hc1 : (wy.drewN nq).cell? _ = _ := hc1
      replace hc2 : (wy.drewN nq).cell? _ = _ := hc2
      replace hck : (wy.drewN nq).cell? _ = _ := hck
      replace hcv : (wy.drewN nq).cell? _ = _ := hcv
      clear HO2 HTq hBq
      generalize wy.drewN nq = wz at *
      have hSr := hBr.size
      by_cases g1 : 0 ≤ v1
      · by_cases g2 : v2 ≤ 0
        · go_wp2_with (first
            | (at_builtin; refine wpList_append_one _ B0 rfl _ _ 31 3 _ 8 rfl Try.underlying31 infoInt rfl (by decide) i64_len i64_one (.slice A1k n1k c1k) kl x _ rfl rfl _ rfl (by simp) HT.out.ks (by simp only [maxLen]; omega) (by omega) (by first | omega | (simp; omega)) ?_; intro kv1a w1a hown1a hg1a hat1a; have hT1a := HT.out.step1 hown1a hg1a hat1a; have hB1a := hBr.grown hg1a (by have := hBr.size; omega) (fun k hk => own_ge HT.out.ks k hk); have hS1a := hB1a.size; have H1a := hid hT1a; clear hown1a hg1a hat1a hT1a; have hc11a := Tfact' hB1a (a := ⟨R, 1, none⟩) hRl C1w.out; have hc21a := Tfact' hB1a (a := ⟨R, 2, none⟩) hRl C2w.out; have hck1a := Tfact' hB1a (a := ⟨bk, _, none⟩) hbk hck0; have hcv1a := Tfact' hB1a (a := ⟨bv, _, none⟩) hbv hcv0)
            | (at_builtin; refine wpList_append_one _ B0 rfl _ _ 31 3 _ 8 rfl Try.underlying31 infoInt rfl (by decide) i64_len i64_one (.slice A1v n1v c1v) vl y _ rfl rfl _ rfl (by simp) H1a.out.vs (by simp only [maxLen]; omega) (by omega) (by first | omega | (simp; omega)) ?_; intro vv1b w1b hown1b hg1b hat1b; have hT1b := H1a.out.step2 hown1b hg1b hat1b; have hB1b := hB1a.grown hg1b (by have := hB1a.size; omega) (fun k hk => own_ge H1a.out.vs k hk); have hS1b := hB1b.size; have H1b := hid hT1b; clear hown1b hg1b hat1b hT1b H1a; have hc11b := Tfact' hB1b (a := ⟨R, 1, none⟩) hRl C1w.out; have hc21b := Tfact' hB1b (a := ⟨R, 2, none⟩) hRl C2w.out; have hck1b := Tfact' hB1b (a := ⟨bk, _, none⟩) hbk hck0; have hcv1b := Tfact' hB1b (a := ⟨bv, _, none⟩) hbv hcv0))
          have HR : Hid (kl ++ [x] = ((l.take (j + 1)).filter (inR (ordI which) lo hi)).map Prod.fst ∧ vl ++ [y] = ((l.take (j + 1)).filter (inR (ordI which) lo hi)).map Prod.snd) := by
            obtain ⟨e1, e2⟩ := HEQ.out
            show _ ∧ _
            rw [HSN.out, HST.out]
            simp [e1, e2, g1, g2]
          go_roundg (l.length - (j + 1))
          case measure => omega
          case rel => exact ⟨j + 1, _, _, by go_num, by omega, Nat.le_refl _, by simp; omega, by simp; omega, HR, H1b, hid hB1b⟩
        · have HR : Hid (kl = ((l.take (j + 1)).filter (inR (ordI which) lo hi)).map Prod.fst ∧ vl = ((l.take (j + 1)).filter (inR (ordI which) lo hi)).map Prod.snd) := by
            obtain ⟨e1, e2⟩ := HEQ.out
            show _ ∧ _
            rw [HSN.out, HST.out]
            simp [e1, e2, g2]
          go_wp2_with fail
          go_roundg (l.length - (j + 1))
          case measure => omega
          case rel => exact ⟨j + 1, _, _, by go_num, by omega, Nat.le_refl _, by omega, by omega, HR, HT, hid hBr⟩
      · have HR : Hid (kl = ((l.take (j + 1)).filter (inR (ordI which) lo hi)).map Prod.fst ∧ vl = ((l.take (j + 1)).filter (inR (ordI which) lo hi)).map Prod.snd) := by
          obtain ⟨e1, e2⟩ := HEQ.out
          show _ ∧ _
          rw [HSN.out, HST.out]
          simp [e1, e2, g1]
        go_wp2_with fail
        go_roundg (l.length - (j + 1))
        case measure => omega
        case rel => exact ⟨j + 1, _, _, by go_num, by omega, Nat.le_refl _, by omega, by omega, HR, HT, hid hBr⟩
    · have hji : ¬ (j : Int) < (l.length : Int) := by omega
      have HE : Hid ((l.take j).filter (inR (ordI which) lo hi) = l.filter (inR (ordI which) lo hi)) := by show _ = _; rw [List.take_of_length_le (by omega)]
      go_wp2_with fail
      refine bodyPost_ret (results_tmp2 rfl _ _ _) rfl ?_
      obtain ⟨g1, g2⟩ := HEQ.out
      rw [HE.out] at g1 g2
      subst g1
      subst g2
      exact ⟨_, _, rfl, by rw [← hSB]; exact HT.out, by rw [← hSB]; exact hBr⟩
end Go.Proofs.Ytfjeagffdijcoaa
