/- Layer 15: the reference's Moves. -/
import Derived.Test.YtpkcccphoolapaaMvS
import Derived.Test.YtpkcccphoolapaaCutR
import Derived.Test.YtpkcccphoolapaaCntR
import Derived.Test.YtpkcccphoolapaaLayR
import Derived.Test.YtpkcccphoolapaaOpA
namespace Go.Proofs.Ytpkcccphoolapaa
open Go.RowKit

def fillD (H : Nat) (d : Nat → Int) (i : Nat) : List Int := (List.range H).map fun h => if h < i then d h else 0
theorem fillD_zero (H : Nat) (d : Nat → Int) : fillD H d 0 = List.replicate H 0 := by
  apply List.ext_getElem?
  intro j
  unfold fillD
  by_cases hj : j < H
  · rw [List.getElem?_map, List.getElem?_range hj, List.getElem?_replicate, if_pos hj]; rfl
  · rw [List.getElem?_eq_none (by simp; omega), List.getElem?_eq_none (by simp; omega)]
theorem fillD_set (H : Nat) (d : Nat → Int) (i : Nat) : (fillD H d i).set i (d i) = fillD H d (i + 1) := by
  unfold fillD
  rw [range_set]
  apply List.map_congr_left
  intro h _
  by_cases e : h = i
  · subst e; rw [if_pos rfl, if_pos (by omega)]
  · rw [if_neg e]
    by_cases e2 : h < i
    · rw [if_pos e2, if_pos (by omega)]
    · rw [if_neg e2, if_neg (by omega)]
theorem fillD_all (H : Nat) (d : Nat → Int) : fillD H d H = (List.range H).map d := by
  unfold fillD
  apply List.map_congr_left
  intro h hh
  rw [if_pos (List.mem_range.1 hh)]
theorem map_get {H : Nat} (d : Nat → Int) {i : Nat} (hi : i < H) : ((List.range H).map d)[i]? = some (d i) := by
  rw [List.getElem?_map, List.getElem?_range hi]; rfl

set_option maxRecDepth 100000 in
set_option maxHeartbeats 8000000 in
theorem movesRef_any (w : World) (hosts : Int) (A : Option Addr) (n c : Nat) (l : List Seg) (A' : Option Addr) (n' c' : Nat) (ks : List Int) (most : Int) (hl : l.length = n) (hbytes : n * 24 ≤ 140737488351232) (hok : ∀ s ∈ l, okSeg s) (hR : Segs w.heap.size w A l)
    (hl' : ks.length = n') (hk4 : n' ≤ 4096) (hks : ∀ k ∈ ks, 0 ≤ k ∧ k ≤ maxK) (hR' : Keys w.heap.size w A' ks) :
    Calls Try.prog 27 #[.int .i64 hosts, .slice A n c, .slice A' n' c', .int .i64 most] w fun e w' =>
      ∃ v, e = .returned (.tuple #[v, .int .i64 (movesOf hosts l ks most).1]) ∧ OwnMoves w' w.heap.size v (movesOf hosts l ks most).2 ∧ Below w.heap.size w w' := by
  subst hl
  subst hl'
  by_cases hargs : 1 ≤ hosts ∧ hosts ≤ 16 ∧ 1 ≤ most ∧ most ≤ 32
  case neg =>
    have e : Hid (movesOf hosts l ks most = (2, [])) := by show _ = _; unfold movesOf; rw [if_pos hargs]
    clear hR hR' hks hok
    by_cases h1 : hosts < 1
    · have b1 : decide (hosts < 1) = true := by simpa using h1
      clear hargs
      go_enter Try.func27, Try.ntmps27
      go_wp2_with fail
      go_ret2
      exact ⟨_, by rw [e.out]; rfl, by rw [e.out]; exact World.ownsRow_nil _ _ _ _, Below.refl _ _⟩
    · have b1 : decide (hosts < 1) = false := by simpa using h1
      by_cases h2 : 16 < hosts
      · have b2 : decide (hosts > 16) = true := by simpa using h2
        have b2' : decide (16 < hosts) = true := by simpa using h2
        clear hargs
        go_enter Try.func27, Try.ntmps27
        go_wp2_with fail
        go_ret2
        exact ⟨_, by rw [e.out]; rfl, by rw [e.out]; exact World.ownsRow_nil _ _ _ _, Below.refl _ _⟩
      · have b2 : decide (hosts > 16) = false := by simpa using h2
        have b2' : decide (16 < hosts) = false := by simpa using h2
        by_cases h3 : most < 1
        · have b3 : decide (most < 1) = true := by simpa using h3
          clear hargs
          go_enter Try.func27, Try.ntmps27
          go_wp2_with fail
          go_ret2
          exact ⟨_, by rw [e.out]; rfl, by rw [e.out]; exact World.ownsRow_nil _ _ _ _, Below.refl _ _⟩
        · have b3 : decide (most < 1) = false := by simpa using h3
          have h4 : 32 < most := by omega
          have b4 : decide (most > 32) = true := by simpa using h4
          have b4' : decide (32 < most) = true := by simpa using h4
          clear hargs
          go_enter Try.func27, Try.ntmps27
          go_wp2_with fail
          go_ret2
          exact ⟨_, by rw [e.out]; rfl, by rw [e.out]; exact World.ownsRow_nil _ _ _ _, Below.refl _ _⟩
  case pos =>
  obtain ⟨g1, g2, g3, g4⟩ := hargs
  obtain ⟨H, rfl⟩ : ∃ H : Nat, hosts = (H : Int) := ⟨hosts.toNat, by omega⟩
  have b1 : decide ((H : Int) < 1) = false := by simp; omega
  have b2 : decide ((H : Int) > 16) = false := by simp; omega
  have b2' : decide (16 < (H : Int)) = false := by simp; omega
  have b3 : decide (most < 1) = false := by simp; omega
  have b4 : decide (most > 32) = false := by simp; omega
  have b4' : decide (32 < most) = false := by simp; omega
  have hH0 : 1 ≤ H := by omega
  have hH1 : H ≤ 16 := by omega
  have HMO : Hid (∀ b : Bool, (b = true ↔ LayOk (H : Int) l ks) → movesOf (H : Int) l ks most = if b = true then (0, (movesL H most ks (wantL H (Rng.loadL l 8192).2 ks) (ks.length + 1) (Rng.loadL l 8192).2).1) else (151, [])) := by
    intro b hb
    unfold movesOf
    rw [if_neg (by omega)]
    cases b with
    | true => rw [if_pos (hb.1 rfl), Int.toNat_natCast]; rfl
    | false => rw [if_neg (fun h => by have := hb.2 h; cases this)]; rfl
  have hla := layoutRef_any w (H : Int) A l.length c l A' ks.length c' ks rfl hbytes hok hR rfl (by omega) hR'
  have hLH : LayOk (H : Int) l ks → Rng.WF (Rng.loadL l 8192).2 ∧ (∀ s ∈ (Rng.loadL l 8192).2, s.host < (H : Int)) ∧ Inc ks := fun h => ⟨loadL_wf hok h.1, h.2.1, h.2.2⟩
  have hln := loadL_len l
  have HR' := hid hR'
  have HK := hid hks
  have HLH := hid hLH
  clear hR hR' hks hok hLH
  generalize LayOk (H : Int) l ks = LO at *
  generalize hL0 : (Rng.loadL l 8192).2 = L0 at *
  have HLA := hid hla
  have HLN := hid hln
  clear hla hln hL0
  go_enter Try.func27, Try.ntmps27
  go_wp2_with fail
  refine HLA.out.mono ?_
  rintro e w1 ⟨v, lm, b, rfl, hb, hown, hb1⟩
  have hE := HMO.out b hb
  obtain ⟨_, A2, k2, rfl, hk2, _, hR2⟩ := owns_reads encSeg_len hown (by decide)
  cases b with
  | false =>
    have HE : Hid (movesOf (H : Int) l ks most = (151, [])) := hid (by rw [hE]; rfl)
    clear hown hb hE hR2
    go_wp2_with fail
    go_ret2
    exact ⟨_, by rw [HE.out]; rfl, by rw [HE.out]; exact World.ownsRow_nil _ _ _ _, hb1.alloc hb1.size _⟩
  | true =>
    have HE : Hid (movesOf (H : Int) l ks most = (0, (movesL H most ks (wantL H L0 ks) (ks.length + 1) L0).1)) := hid (by rw [hE]; rfl)
    obtain ⟨hWF, hhs, hInc⟩ := HLH.out (hb.1 rfl)
    obtain ⟨X, hX⟩ : ∃ X, X = w1.alloc (.cells #[.int .i64 lm, .slice A2 L0.length k2] 65) := ⟨_, rfl⟩
    have hRX : Row X w1.heap.size [.int .i64 lm, .slice A2 L0.length k2] := by rw [hX]; exact Row.new w1 [.int .i64 lm, .slice A2 L0.length k2] _
    have hB2 : Below w.heap.size w X := by rw [hX]; exact hb1.alloc hb1.size _
    have hB12 : Below w1.heap.size w1 X := by rw [hX]; exact (Below.refl _ w1).alloc (Nat.le_refl _) _
    have hR3 : Segs X.heap.size X A2 L0 := (hR2.below hB12).mono hB12.size
    have hO3 : OwnSegs X w.heap.size (.slice A2 L0.length k2) L0 := own_under hown hB12
    have hln8 := HLN.out
    have hcn := ownersRef_any X lm A2 L0.length k2 L0 A' ks.length c' ks rfl (by omega) hR3 hWF rfl (by omega) ((HR'.out.below hB2).mono hB2.size) hInc HK.out
    have hgood := counts_good (H := H) (l := L0) (ks := ks) hH0 hH1 (by omega)
    have x0 := hRX.2 0 _ rfl
    have x1 := hRX.2 1 _ rfl
    have HX := hid hX
    have HCN := hid hcn
    have HTAB : Hid (TabOk H L0) := hid ⟨hWF, hhs⟩
    have HINC := hid hInc
    have HGOOD := hid hgood
    have HO3 := hid hO3
    have HB2 := hid hB2
    have hXs := hRX.1
    clear hown hb hE hR2 hX hB12 hR3 hO3 hcn hgood hWF hhs hInc hb1 hRX hB2
    go_upto_region 6 with fail
    rw [← HX.out]
    go_wp2_with fail
    refine HCN.out.mono ?_
    rintro e w2 ⟨v2, rfl, hown2, hb2⟩
    obtain ⟨_, A3, k3, rfl, _, _, hR4⟩ := owns_reads i64_len hown2 (by decide)
    have hB3 := HB2.out.trans (hb2.mono HB2.out.size)
    have hct := countedRef_any w2 H A3 ks.length k3 (ks.map (hostOf L0)) (by omega) (by simp) (by omega) hR4 (fun x hx => by
      obtain ⟨key, hkm, rfl⟩ := List.mem_map.1 hx
      obtain ⟨q0, q1⟩ := HK.out key hkm
      obtain ⟨s, s1, _⟩ := Rng.at_split HTAB.out.wf.tiles q0 (show key < maxK + 1 by omega)
      rw [hostOf_at s1]
      have hm := List.mem_of_getElem? s1
      exact ⟨(HTAB.out.wf.hosts s hm).1, HTAB.out.hosts s hm⟩)
    rw [tally_counts] at hct
    have x1' := (hb2.cell (p := ⟨w1.heap.size, 1, none⟩) hXs).trans x1
    have hXs2 : w1.heap.size < w2.heap.size := Nat.lt_of_lt_of_le hXs hb2.size
    have HCT := hid hct
    have HB3 := hid hB3
    have HOW2 : Hid (OwnInts w2 w.heap.size (.slice A3 ks.length k3) ks.length (ks.map (hostOf L0))) := hid (ownsRow_mono hown2 HB2.out.size)
    have HOL2 := hid (own_under HO3.out hb2)
    have HLW : Hid (∀ k, A2.map Addr.block = some k → A3.map Addr.block ≠ some k) := hid (fun k e e2 => by
      have a1 := (HO3.out.lt k (by rw [SideAt.ownBlock_eq]; exact e)).2
      have a2 := own_ge hown2 k (by rw [SideAt.ownBlock_eq]; exact e2)
      omega)
    clear hct hown2 hR4 hB3 hb2 x0 x1
    go_wp2_with fail
    refine HCT.out.mono ?_
    rintro e w3 ⟨v3, rfl, hown3, hb3⟩
    obtain ⟨_, A4, k4, rfl, _, _, hR5⟩ := owns_reads i64_len (l := countsOf H L0 ks) (n := H) hown3 (by decide)
    have htg := refTargets_any w3 A4 H k4 (countsOf H L0 ks) (countsOf_len ..) (by omega) hR5
    rw [HGOOD.out] at htg
    have x1 := (hb3.cell (p := ⟨w1.heap.size, 1, none⟩) hXs2).trans x1'
    have HTG := hid htg
    have HB4 := hid (HB3.out.trans (hb3.mono HB3.out.size))
    have HOW3 := hid (own_under HOW2.out hb3)
    have HOL3 := hid (own_under HOL2.out hb3)
    have HOC3 : Hid (OwnInts w3 w.heap.size (.slice A4 H k4) H (countsOf H L0 ks)) := hid (ownsRow_mono hown3 HB3.out.size)
    have hXs3 : w1.heap.size < w3.heap.size := Nat.lt_of_lt_of_le hXs2 hb3.size
    clear htg hown3 hR5 hb3 x1'
    go_wp2_with fail
    refine HTG.out.mono ?_
    rintro e w4 ⟨v4, rfl, hown4, hb4⟩
    have htl : (targets (countsOf H L0 ks)).length = H := by rw [targets_len, countsOf_len]
    simp only [if_true] at hown4
    rw [htl] at hown4
    obtain ⟨_, A5, k5, rfl, _, _, hRT⟩ := owns_reads i64_len (l := targets (countsOf H L0 ks)) (n := H) hown4 (by decide)
    have HRT := hid hRT
    have HRC : Hid (Ints w4.heap.size w4 A4 (countsOf H L0 ks)) := by
      obtain ⟨_, A9, k9, e9, _, _, h9⟩ := owns_reads i64_len (l := countsOf H L0 ks) (n := H) (own_under HOC3.out hb4) (by decide)
      cases e9
      exact hid h9
    clear hRT
    have x2 := (hb4.cell (p := ⟨w1.heap.size, 1, none⟩) hXs3).trans x1
    have hXs4 : w1.heap.size < w4.heap.size := Nat.lt_of_lt_of_le hXs3 hb4.size
    have HB5 := hid (HB4.out.trans (hb4.mono HB4.out.size))
    have HX2 := hid x2
    have HOW4 := hid (own_under HOW3.out hb4)
    have HOL4 := hid (own_under HOL3.out hb4)
    have HOC4 := hid (own_under HOC3.out hb4)
    have HOT4 := hid (ownsRow_mono hown4 HB4.out.size)
    clear hown4 hb4 x1 x2
    obtain ⟨gb, hgb⟩ : ∃ gb, gb = w4.heap.size := ⟨_, rfl⟩
    obtain ⟨X5, hX5⟩ : ∃ X5, X5 = (w4.alloc (.cells (madeCells #[.int .i64 0] H) 3)).alloc (.cells (madeCells #[.int .i64 0] H) 3) := ⟨_, rfl⟩
    have hB45 : Below w4.heap.size w4 X5 := by rw [hX5]; exact ((Below.refl _ w4).alloc (Nat.le_refl _) _).alloc (by simp) _
    have hmk := makeInts_run H (by omega)
    have hG5 : OwnInts X5 w.heap.size (.slice (some ⟨gb, 0, none⟩) H H) H (fillD H (overL ks (wantL H L0 ks) L0) 0) := by
      rw [fillD_zero, hX5, hgb]
      exact (makeInts_own w4 H (by omega) w.heap.size HB5.out.size).alloc _
    have hT5 : OwnInts X5 w.heap.size (.slice (some ⟨gb + 1, 0, none⟩) H H) H (fillD H (fun h => - overL ks (wantL H L0 ks) L0 h) 0) := by
      have := makeInts_own (w4.alloc (.cells (madeCells #[.int .i64 0] H) 3)) H (by omega) w.heap.size (by have := HB5.out.size; simp; omega)
      rw [show (w4.alloc (.cells (madeCells #[.int .i64 0] H) 3)).heap.size = gb + 1 by simp [hgb]] at this
      rw [fillD_zero, hX5]
      exact this
    have hnl : ∀ (v : Value) (k : Nat), (∀ b, v.ownBlock = some b → b < w4.heap.size) → gb ≤ k → v.ownBlock ≠ some k := fun v k h1 h2 e => by have := h1 _ e; omega
    have hR50 : Rows5 w.heap.size X5 (.slice A2 L0.length k2) (.slice none 0 0) (.slice A3 ks.length k3) ks.length gb (gb + 1) H L0 [] (ks.map (hostOf L0)) (fillD H (overL ks (wantL H L0 ks) L0) 0) (fillD H (fun h => - overL ks (wantL H L0 ks) L0 h) 0) :=
      ⟨own_under HOL4.out hB45, World.ownsRow_nil _ _ _ _, own_under HOW4.out hB45, hG5, hT5, by omega,
        hnl _ _ (fun b e => (HOL4.out.lt b e).2) (Nat.le_refl _), hnl _ _ (fun b e => (HOL4.out.lt b e).2) (by omega), (fun e => by cases e), (fun e => by cases e),
        hnl _ _ (fun b e => (HOW4.out.lt b e).2) (Nat.le_refl _), hnl _ _ (fun b e => (HOW4.out.lt b e).2) (by omega), fun k _ e => (by cases e), fun k e => by rw [SideAt.ownBlock_eq] at e ⊢; exact HLW.out k e, fun k e => (by cases e)⟩
    have HR50 := hid hR50
    have HX5 := hid hX5
    have HB45 := hid hB45
    have HGB := hid hgb
    clear hR50 hX5 hB45 hgb hG5 hT5 hnl
    go_wp2_with fail
    rw [← HX5.out, ← HGB.out]
    clear hmk
    go_loopg [18] H (fun gx si wr => ∃ i : Nat, si = .int .i64 i ∧ i ≤ H ∧ H - i ≤ gx ∧ Hid (Rows5 w.heap.size wr (.slice A2 L0.length k2) (.slice none 0 0) (.slice A3 ks.length k3) ks.length gb (gb + 1) H L0 [] (ks.map (hostOf L0)) (fillD H (overL ks (wantL H L0 ks) L0) i) (fillD H (fun h => - overL ks (wantL H L0 ks) L0 h) i)) ∧ Hid (Below w4.heap.size w4 wr))
    case atStart => exact ⟨0, rfl, Nat.zero_le _, Nat.le_refl _, HR50, HB45⟩
    case round =>
      obtain ⟨i, rfl, hiH, hgx, HRW, HBR⟩ := hrel
      by_cases hlt : i < H
      · have hii : (i : Int) < (H : Int) := by omega
        have hi0 : (0 : Int) ≤ (i : Int) := by omega
        have hwi : IntKind.i64.wrap ((i : Int) + 1) = (i : Int) + 1 := wrap_small _ (by omega) (by omega)
        obtain ⟨b4', o4, x4, hx4, rfl, hb4', c4⟩ := Ints.at' HRC.out i (by rw [countsOf_len]; exact hlt)
        obtain ⟨b5, o5, x5, hx5, rfl, hb5, c5⟩ := Ints.at' HRT.out i (by rw [targets_len, countsOf_len]; exact hlt)
        have c4s := hid c4
        have c5s := hid c5
        replace c4 := Tfact HBR.out (a := ⟨b4', _, none⟩) hb4' c4
        replace c5 := Tfact HBR.out (a := ⟨b5, _, none⟩) hb5 c5
        have hxx : x4 - x5 = overL ks (wantL H L0 ks) L0 i := by
          have e4 := hx4.out
          have e5 := hx5.out
          rw [countsOf_get hlt] at e4
          rw [targets_get (by rw [countsOf_len]; exact hlt)] at e5
          injection e4 with e4
          injection e5 with e5
          subst e4
          subst e5
          rfl
        have hx4r : 0 ≤ x4 ∧ x4 ≤ 4096 := by
          have e4 := hx4.out
          rw [countsOf_get hlt] at e4
          injection e4 with e4
          have := cntH_range L0 ks (i : Int)
          omega
        have hx5r : 0 ≤ x5 ∧ x5 ≤ 17179869185 := by
          have e5 := hx5.out
          rw [targets_get (by rw [countsOf_len]; exact hlt)] at e5
          injection e5 with e5
          have := target_range HGOOD.out i
          omega
        have hwa : IntKind.i64.wrap (x4 - x5) = overL ks (wantL H L0 ks) L0 i := by rw [IntWalk.i64_in _ ⟨by omega, by omega⟩]; exact hxx
        have hwb : IntKind.i64.wrap (x5 - x4) = - overL ks (wantL H L0 ks) L0 i := by rw [IntWalk.i64_in _ ⟨by omega, by omega⟩]; omega
        have HR1 : Hid (Rows5 w.heap.size (wr.setCell ⟨gb, i, none⟩ (.int .i64 (overL ks (wantL H L0 ks) L0 i))) (.slice A2 L0.length k2) (.slice none 0 0) (.slice A3 ks.length k3) ks.length gb (gb + 1) H L0 [] (ks.map (hostOf L0)) (fillD H (overL ks (wantL H L0 ks) L0) (i + 1)) (fillD H (fun h => - overL ks (wantL H L0 ks) L0 h) i)) := hid (by
          have := HRW.out.setGive i (overL ks (wantL H L0 ks) L0 i)
          rw [fillD_set] at this
          exact this)
        have hg0 : ((fillD H (overL ks (wantL H L0 ks) L0) i))[i]? = some 0 := by
          unfold fillD; rw [map_get _ hlt, if_neg (Nat.lt_irrefl _)]
        have hg1 : ((fillD H (fun h => - overL ks (wantL H L0 ks) L0 h) i))[i]? = some 0 := by
          unfold fillD; rw [map_get _ hlt, if_neg (Nat.lt_irrefl _)]
        have cg := OwnInts.at1 HRW.out.give i 0 hg0
        have fg := HRW.out.give.frozenAt i
        have HCT : Hid ((wr.setCell ⟨gb, i, none⟩ (.int .i64 (overL ks (wantL H L0 ks) L0 i))).cell? ⟨gb + 1, i, none⟩ = some (.int .i64 0)) := hid (OwnInts.at1 HR1.out.take i 0 hg1)
        have HFT := hid (HR1.out.take.frozenAt i)
        have hgw : w4.heap.size ≤ gb := by rw [HGB.out]; exact Nat.le_refl _
        clear hxx hx4r hx5r hg0 hg1 hx4 hx5
        go_upto_region 14 with fail
        go_cut [18] from 66 to 94 (fun v wd => v = .int .i64 (i : Int) ∧ ∃ q, wd = (wr.setCell ⟨gb, i, none⟩ (.int .i64 (overL ks (wantL H L0 ks) L0 i))).drewN q)
        case first =>
          go_region
          all_goals go_wp2_with fail
          all_goals go_meet
          all_goals exact ⟨rfl, _, rfl⟩
        case rest =>
        obtain ⟨rfl, qc, rfl⟩ := hcut
        have HR1' := hid (HR1.out.drewS qc)
        have HB1' := hid (below_drewN' (HBR.out.setCell (p := ⟨gb, i, none⟩) hgw (.int .i64 (overL ks (wantL H L0 ks) L0 i))) qc)
        obtain ⟨Wc, hWc⟩ : ∃ Wc, Wc = (wr.setCell ⟨gb, i, none⟩ (.int .i64 (overL ks (wantL H L0 ks) L0 i))).drewN qc := ⟨_, rfl⟩
        have ct := HCT.out
        have ft := HFT.out
        replace c4 := Tfact HB1'.out (a := ⟨b4', _, none⟩) hb4' c4s.out
        replace c5 := Tfact HB1'.out (a := ⟨b5, _, none⟩) hb5 c5s.out
        replace ct : Wc.cell? ⟨gb + 1, i, none⟩ = some (.int .i64 0) := by rw [hWc]; exact ct
        replace ft : Wc.frozen? ⟨gb + 1, i, none⟩ = false := by rw [hWc]; exact ft
        rw [← hWc] at HR1' HB1' c4 c5 ⊢
        have HR2 : Hid (Rows5 w.heap.size (Wc.setCell ⟨gb + 1, i, none⟩ (.int .i64 (- overL ks (wantL H L0 ks) L0 i))) (.slice A2 L0.length k2) (.slice none 0 0) (.slice A3 ks.length k3) ks.length gb (gb + 1) H L0 [] (ks.map (hostOf L0)) (fillD H (overL ks (wantL H L0 ks) L0) (i + 1)) (fillD H (fun h => - overL ks (wantL H L0 ks) L0 h) (i + 1))) := hid (by
          have := HR1'.out.setTake i (- overL ks (wantL H L0 ks) L0 i)
          rw [fillD_set H (fun h => - overL ks (wantL H L0 ks) L0 h)] at this
          exact this)
        clear hWc cg fg
        go_wp2_with fail
        go_region
        go_wp2_with fail
        go_roundg (H - (i + 1))
        case measure => omega
        case rel => exact ⟨i + 1, by go_num, hlt, Nat.le_refl _, hid (HR2.out.drewS _), hid (below_drewN' (HB1'.out.setCell (p := ⟨gb + 1, i, none⟩) (by show w4.heap.size ≤ gb + 1; omega) _) _)⟩
      · obtain rfl : H = i := by omega
        have hii : ¬ (H : Int) < (H : Int) := by omega
        obtain ⟨lb, lc, e2, hlb, _, hlc⟩ := own_segs HRW.out.list HTAB.out.wf.pos
        cases e2
        have x1 := (HBR.out.cell (p := ⟨w1.heap.size, 1, none⟩) hXs4).trans HX2.out
        have hrun : RefRun H most ks (wantL H L0 ks) L0 (ks.length + 1) L0 [] (overL ks (wantL H L0 ks) L0) (fun h => - overL ks (wantL H L0 ks) L0 h) :=
          ⟨HTAB.out, by have := HLN.out; simp; omega, by simp, by simp, fun h _ => .inl rfl, fun h _ => .inl rfl⟩
        have hrw := HRW.out
        rw [fillD_all, fillD_all] at hrw
        have HRUN := hid hrun
        have HRW1 := hid hrw
        have HBW1 := hid (HB5.out.trans (HBR.out.mono HB5.out.size))
        clear hrun hrw HX2
        go_wp2_with fail
        clear x1
        go_loopg [19, 20, 21] (ks.length + 1) (fun gx sl so si wr => ∃ (f : Nat) (L : List Seg) (out : List MoveL) (lb lc : Nat) (oA : Option Addr) (oc : Nat) (dg dt : Nat → Int), si = .int .i64 out.length ∧ sl = .slice (some ⟨lb, 0, none⟩) L.length lc ∧ so = .slice oA out.length oc ∧ f ≤ gx ∧ L.length ≤ lc ∧
          Hid (RefRun H most ks (wantL H L0 ks) L0 f L out dg dt) ∧ Hid (Rows5 w.heap.size wr (.slice (some ⟨lb, 0, none⟩) L.length lc) (.slice oA out.length oc) (.slice A3 ks.length k3) ks.length gb (gb + 1) H L out (ks.map (hostOf L)) ((List.range H).map dg) ((List.range H).map dt)) ∧ Hid (Below w.heap.size w wr))
        case atStart => exact ⟨ks.length + 1, L0, [], lb, k2, none, 0, _, _, rfl, rfl, rfl, Nat.le_refl _, hlc, HRUN, HRW1, HBW1⟩
        case round =>
          clear HRUN HRW1 HBW1 HRW HBR
          obtain ⟨f, L, out, lb, lc, oA, oc, dg, dt, rfl, rfl, rfl, hfx, hlc', HRR, HRW, HBW⟩ := hrel
          by_cases hlt : out.length ≤ ks.length
          · have hii2 : (out.length : Int) ≤ (ks.length : Int) := by omega
            obtain ⟨f, rfl⟩ : ∃ f', f = f' + 1 := ⟨f - 1, by have := HRR.out.fuel; omega⟩
            have hwo : IntKind.i64.wrap ((out.length : Int) + 1) = (out.length : Int) + 1 := wrap_small _ (by omega) (by omega)
            obtain ⟨_, A9, k9, e9, _, _, hIg⟩ := owns_reads i64_len (l := (List.range H).map dg) (n := H) HRW.out.give (by decide)
            cases e9
            obtain ⟨_, A9, k9, e9, _, _, hIt⟩ := owns_reads i64_len (l := (List.range H).map dt) (n := H) HRW.out.take (by decide)
            cases e9
            have hgg := greatest_any wr.heap.size wr (some ⟨gb, 0, none⟩) H H ((List.range H).map dg) dg (by simp) (by omega) (fun i hi => map_get dg hi) hIg
            have hgt := fun q => greatest_any wr.heap.size (wr.drewN q) (some ⟨gb + 1, 0, none⟩) H H ((List.range H).map dt) dt (by simp) (by omega) (fun i hi => map_get dt hi) hIt
            rw [best_eq HRR.out.dg] at hgg
            rw [best_eq HRR.out.dt] at hgt
            have HGG := hid hgg
            have HGT := hid hgt
            clear hgg hgt hIg hIt
            go_wp2_with fail
            refine HGG.out.mono ?_
            rintro e w5 ⟨rfl, q1, rfl⟩
            go_wp2_with fail
            refine (HGT.out q1).mono ?_
            rintro e w5 ⟨rfl, q2, rfl⟩
            obtain ⟨W1, hW1⟩ : ∃ W1, W1 = (wr.drewN q1).drewN q2 := ⟨_, rfl⟩
            rw [← hW1]
            have HR1 : Hid (Rows5 w.heap.size W1 (.slice (some ⟨lb, 0, none⟩) L.length lc) (.slice oA out.length oc) (.slice A3 ks.length k3) ks.length gb (gb + 1) H L out (ks.map (hostOf L)) ((List.range H).map dg) ((List.range H).map dt)) := by rw [hW1]; exact hid ((HRW.out.drewS q1).drewS q2)
            have HB1 : Hid (Below w.heap.size w W1) := by rw [hW1]; exact hid (below_drewN' (below_drewN' HBW.out _) _)
            clear hW1 HGG HGT HRW HBW
            have HALL : Hid (∀ o, (best H (overL ks (wantL H L0 ks) L) = none ∨ best H (fun h => - overL ks (wantL H L0 ks) L h) = none) → o = out → (movesL H most ks (wantL H L0 ks) (ks.length + 1) L0).1 = o) := hid (by
              rintro _ h rfl
              rw [HRR.out.all, movesL_none h]; simp)
            cases e1 : best H (overL ks (wantL H L0 ks) L) with
            | none =>
              have HF := hid (HALL.out out (.inl e1) rfl)
              clear e1
              generalize bestZ (best H (fun h => - overL ks (wantL H L0 ks) L h)) = z at *
              simp only [bestZ]
              go_wp2_with fail
              go_ret2
              exact ⟨_, by rw [HE.out]; rfl, by rw [HE.out]; dsimp only; rw [HF.out]; exact HR1.out.out, HB1.out⟩
            | some g =>
              cases e2 : best H (fun h => - overL ks (wantL H L0 ks) L h) with
              | none =>
                have HF := hid (HALL.out out (.inr e2) rfl)
                have hg0 : decide ((g : Int) < 0) = false := by simp
                clear e1 e2
                simp only [bestZ]
                go_wp2_with fail
                go_ret2
                exact ⟨_, by rw [HE.out]; rfl, by rw [HE.out]; dsimp only; rw [HF.out]; exact HR1.out.out, HB1.out⟩
              | some t =>
                obtain ⟨g1', g2', _⟩ := best_some e1
                obtain ⟨t1', t2', _⟩ := best_some e2
                have hw0 : ∀ h, 0 ≤ wantL H L0 ks h := fun h => (target_range HGOOD.out h).1
                have hwg := hw0 g
                have htab := HRR.out.tab
                obtain ⟨s, e3⟩ := topSeg_ex htab.wf HINC.out HK.out (g := (g : Int)) (by unfold overL at g2'; omega)
                obtain ⟨N, hN⟩ : ∃ N : Nat, (N : Int) = min (min (overL ks (wantL H L0 ks) L g) (- overL ks (wantL H L0 ks) L t)) most := ⟨(min (min (overL ks (wantL H L0 ks) L g) (- overL ks (wantL H L0 ks) L t)) most).toNat, by omega⟩
                obtain ⟨M, hM⟩ : ∃ M, M = cutMove ks s (g : Int) (t : Int) (N : Int) := ⟨_, rfl⟩
                have hmv : moveStep H most ks (wantL H L0 ks) L = some (M, Rng.withL L M.lo M.hi (t : Int)) := by
                  unfold moveStep; rw [e1, e2]; simp only; rw [e3]; simp only; rw [hM, hN]
                obtain ⟨g', t', s', hs⟩ := moveStep_some hH1 g3 HINC.out HK.out htab hmv
                obtain rfl : g = g' := by have := e1.symm.trans hs.gi; injection this
                obtain rfl : t = t' := by have := e2.symm.trans hs.ti; injection this
                obtain rfl : s = s' := by have := e3.symm.trans hs.top; injection this
                have hstep := HRR.out.step hmv hs
                have hdgg : dg g = overL ks (wantL H L0 ks) L g := by have := HRR.out.dg g g1'; omega
                have hdtt : dt t = - overL ks (wantL H L0 ks) L t := by have := HRR.out.dt t t1'; omega
                obtain ⟨T, key, k1', k2', k3', _, _, _, _, _⟩ := top_key htab.wf HINC.out HK.out e3
                have hTl := (List.getElem?_eq_some_iff.1 k3').1
                have c1 := hs.cut.lo0
                have c2 := hs.cut.le
                have c3 := hs.cut.hi
                have c4 := hs.cut.src
                have c5 := hs.cut.dst
                have c6 := hs.cut.one
                have c7 := hs.cut.most
                have c8 := hs.cut.cnt
                have hsg := htab.wf.seg s hs.mem
                have hcl := cntLt_le ks (x := M.lo) (y := M.hi) (by omega)
                have hd0 : cutMove ks s (g : Int) 0 (N : Int) = ⟨(g : Int), 0, M.lo, M.hi, M.pairs⟩ := by rw [hM]; exact (cut_dst ks s g t N).1
                have hMe : M = ⟨(g : Int), (t : Int), M.lo, M.hi, M.pairs⟩ := by
                  conv => lhs; rw [hM, (cut_dst ks s g t N).2]
                  rw [← hM]
                obtain ⟨wb, ecw, hwb⟩ : ∃ wb, A3 = some ⟨wb, 0, none⟩ ∧ wb < W1.heap.size := by
                  rcases HR1.out.own.2 with ⟨_, e⟩ | ⟨b, cap, cur, e, hb2, hb3, _⟩
                  · omega
                  · injection e with e1; exact ⟨b, e1, (Array.getElem?_eq_some_iff.1 hb3).1⟩
                subst ecw
                obtain ⟨_, A9, k9, e9, _, _, hIo⟩ := owns_reads i64_len (l := ks.map (hostOf L)) (n := ks.length) HR1.out.own (by decide)
                cases e9
                obtain ⟨_, A9, k9, e9, _, _, hIl⟩ := owns_reads encSeg_len HR1.out.list (by decide)
                cases e9
                have hsz2 := HRR.out.sz
                have htk := taken_any W1 (some ⟨lb, 0, none⟩) L.length lc L A' ks.length c' ks (some ⟨wb, 0, none⟩) k3 g N s rfl (by omega) hIl htab.wf rfl (by omega) ((HR'.out.below HB1.out).mono HB1.out.size) HINC.out HK.out hIo (by omega) (by omega) (by omega) e3
                rw [hd0, k1', show ((T + 1 : Nat) : Int) - 1 = (T : Int) by omega] at htk
                have HTK : Hid (∀ n' : Int, n' = (N : Int) → Calls Try.prog 59 #[.slice (some ⟨lb, 0, none⟩) L.length lc, .slice A' ks.length c', .slice (some ⟨wb, 0, none⟩) ks.length k3, .int .i64 (g : Int), .int .i64 n'] W1 fun e w' => e = .returned (.tuple #[.agg #[.int .u8 (g : Int), .int .u8 0, .int .u64 M.lo, .int .u64 M.hi, .int .i64 M.pairs], .int .i64 (T : Int)]) ∧ Below W1.heap.size W1 w') := hid (by rintro _ rfl; exact htk)
                have HS := hid hs
                have HSTEP := hid hstep
                have HDG := hid hdgg
                have HDT := hid hdtt
                have HNN := hid hN
                have HME := hid hMe
                have HKT := hid k1'
                have cg := OwnInts.at1 HR1.out.give g (dg g) (map_get dg g1')
                have ct := OwnInts.at1 HR1.out.take t (dt t) (map_get dt t1')
                obtain ⟨mlo, hmlo⟩ : ∃ x, x = M.lo := ⟨_, rfl⟩
                obtain ⟨mhi, hmhi⟩ : ∃ x, x = M.hi := ⟨_, rfl⟩
                obtain ⟨mp, hmp⟩ : ∃ x : Nat, (x : Int) = M.pairs := ⟨M.pairs.toNat, by omega⟩
                have hgl : (g : Int) < (H : Int) := by omega
                have htl2 : (t : Int) < (H : Int) := by omega
                have hg00 : (0 : Int) ≤ (g : Int) := by omega
                have ht00 : (0 : Int) ≤ (t : Int) := by omega
                have hg0 : decide ((g : Int) < 0) = false := by simp
                have ht0 : decide ((t : Int) < 0) = false := by simp
                have hmpT : mp ≤ T + 1 := by rw [c3] at c8; omega
                have hmp1 : 1 ≤ mp := by omega
                have hlo0 : 0 ≤ mlo := by omega
                have hhi1 : mhi ≤ maxK := by omega
                have hloh : mlo ≤ mhi := by omega
                rw [← hmlo, ← hmhi, ← hmp] at HTK HME
                have HMF := hid (And.intro hmlo (And.intro hmhi hmp))
                clear hs hstep hdgg hdtt hN hM hMe k1' k2' k3' htk hd0 hIo hIl c1 c2 c3 c4 c5 c6 c7 c8 hsg hcl hmv htab hw0 hwg e3 hmlo hmhi hmp
                simp only [bestZ]
                clear e1 e2 g2' t2' HALL
                go_upto_if 119 with fail
                go_cut [24] from 97 to 191 (fun v wd => v = .int .i64 (min (dg g) most) ∧ wd = W1)
                case first =>
                  by_cases hlm : dg g < most
                  · have d1 : decide (dg g < most) = true := by simpa using hlm
                    go_wp2_with fail
                    go_meet
                    exact ⟨by congr 1; omega, rfl⟩
                  · have d1 : decide (dg g < most) = false := by simpa using hlm
                    go_wp2_with fail
                    go_meet
                    exact ⟨by congr 1; omega, rfl⟩
                case rest =>
                obtain ⟨rfl, hwc⟩ := hcut
                obtain rfl : W1 = wc := hwc.symm
                clear hwc
                go_upto_if 129 with fail
                go_cut [24] from 97 to 191 (fun v wd => v = .int .i64 (min (dt t) (min (dg g) most)) ∧ wd = W1)
                case first =>
                  by_cases hlm : dt t < min (dg g) most
                  · have d1 : decide (dt t < min (dg g) most) = true := by simpa using hlm
                    go_wp2_with fail
                    go_meet
                    exact ⟨by congr 1; omega, rfl⟩
                  · have d1 : decide (dt t < min (dg g) most) = false := by simpa using hlm
                    go_wp2_with fail
                    go_meet
                    exact ⟨by congr 1; omega, rfl⟩
                case rest =>
                obtain ⟨rfl, hwc⟩ := hcut
                obtain rfl : W1 = wc := hwc.symm
                clear hwc
                have hNe : min (dt t) (min (dg g) most) = (N : Int) := by have := HNN.out; have := HDG.out; have := HDT.out; omega
                rw [hNe]
                clear hNe
                go_wp2_with fail
                refine (HTK.out _ rfl).mono ?_
                rintro e w6 ⟨rfl, hb6⟩
                obtain ⟨bm, hbm⟩ : ∃ bm, bm = w6.heap.size := ⟨_, rfl⟩
                obtain ⟨X6, hX6⟩ : ∃ X6, X6 = w6.alloc (.cells #[.int .u8 (g : Int), .int .u8 0, .int .u64 mlo, .int .u64 mhi, .int .i64 (mp : Int)] 62) := ⟨_, rfl⟩
                have hM6 : X6.heap[bm]? = some (.cells #[.int .u8 (g : Int), .int .u8 0, .int .u64 mlo, .int .u64 mhi, .int .i64 (mp : Int)] 62 (0, 0)) := by rw [hX6, hbm]; exact heap_alloc_new _ _
                have hb66 : Below W1.heap.size W1 X6 := by rw [hX6]; exact hb6.alloc hb6.size _
                have hbmW : W1.heap.size ≤ bm := by rw [hbm]; exact hb6.size
                have m0 : X6.cell? ⟨bm, 0, none⟩ = some (.int .u8 (g : Int)) := by simp [World.cell?, hM6]
                have m1 : X6.cell? ⟨bm, 1, none⟩ = some (.int .u8 0) := by simp [World.cell?, hM6]
                have f1 : X6.frozen? ⟨bm, 1, none⟩ = false := by simp [World.frozen?, hM6]
                have hwt : IntKind.u8.wrap (t : Int) = (t : Int) := by rw [IntWalk.u8_in _ ⟨by omega, by omega⟩]
                have hT0 : decide ((T : Int) < 0) = false := by simp
                obtain ⟨X7, hX7⟩ : ∃ X7, X7 = X6.setCell ⟨bm, 1, none⟩ (.int .u8 (t : Int)) := ⟨_, rfl⟩
                have hM7 : X7.heap[bm]? = some (.cells #[.int .u8 (g : Int), .int .u8 (t : Int), .int .u64 mlo, .int .u64 mhi, .int .i64 (mp : Int)] 62 (0, 0)) := by rw [hX7]; exact heap_setCell_at _ hM6
                have hb7 : Below W1.heap.size W1 X7 := by rw [hX7]; exact hb66.setCell (p := ⟨bm, 1, none⟩) hbmW _
                have hR7 := HR1.out.under hb7
                have HX6 := hid hX6
                have HBM := hid hbm
                have HX7 := hid hX7
                have HM7 := hid hM7
                have HR7 := hid hR7
                have HB7 := hid (HB1.out.trans (hb7.mono HB1.out.size))
                have hb7s := hb7.size
                clear hX6 hbm hM6 hb66 hX7 hM7 hb7 hR7 hb6 cg ct
                go_upto_region 30 with fail
                rw [← HX6.out, ← HBM.out]
                go_upto_region 32 with fail
                rw [← HX7.out]
                clear m0 m1 f1
                have m0 : X7.cell? ⟨bm, 0, none⟩ = some (.int .u8 (g : Int)) := by simp [World.cell?, HM7.out]
                have m1 : X7.cell? ⟨bm, 1, none⟩ = some (.int .u8 (t : Int)) := by simp [World.cell?, HM7.out]
                have m2 : X7.cell? ⟨bm, 2, none⟩ = some (.int .u64 mlo) := by simp [World.cell?, HM7.out]
                have m3 : X7.cell? ⟨bm, 3, none⟩ = some (.int .u64 mhi) := by simp [World.cell?, HM7.out]
                have m4 : X7.cell? ⟨bm, 4, none⟩ = some (.int .i64 (mp : Int)) := by simp [World.cell?, HM7.out]
                have hbmX : bm < X7.heap.size := (Array.getElem?_eq_some_iff.1 HM7.out).1
                have hobm : (Value.slice oA out.length oc).ownBlock ≠ some bm := fun e => by have := (HR1.out.out.lt bm e).2; omega
                have HOBM := hid hobm
                clear hobm
                go_wp2_with (at_builtin; refine wpList_append_one (enc := encMove) X7 w.heap.size rfl _ _ 41 62 _ 32 rfl Try.underlying41 infoMove rfl (by decide) encMove_len encMove_one (.slice oA out.length oc) out ⟨(g : Int), (t : Int), mlo, mhi, (mp : Int)⟩ _ rfl rfl _ rfl (by simp) HR7.out.out (by simp only [maxLen]; omega) (by omega) HB7.out.size ?_; intro v8 w8 hown8 hgr8 hat8; have HOW8 := hid hown8; have HGR8 := hid hgr8; have HAT8 := hid hat8; clear hown8 hgr8 hat8)
                have hR8 := HR7.out.more HOW8.out HGR8.out HAT8.out
                have hbs8 := HGR8.out.size
                have hM8 : w8.heap[bm]? = some (.cells #[.int .u8 (g : Int), .int .u8 (t : Int), .int .u64 mlo, .int .u64 mhi, .int .i64 (mp : Int)] 62 (0, 0)) := (HGR8.out.block bm hbmX (fun e => HOBM.out e.symm)).trans HM7.out
                have hB8 : Below w.heap.size w w8 := HB7.out.grown HGR8.out HB7.out.size (fun kk hk => (HR1.out.out.lt kk hk).1)
                have hov8 : v8.ownBlock ≠ some bm := by
                  rcases HAT8.out with e | ⟨b, e, hb⟩
                  · rw [e]; exact HOBM.out
                  · rw [e]; intro e2; injection e2 with e2; omega
                have HR8 := hid hR8
                have HM8 := hid hM8
                have HB8 := hid hB8
                have HOV8 := hid hov8
                clear hR8 hM8 hB8 hov8 m0 m1 m2 m3 m4
                go_loopg [27] mp (fun gx sx wr => ∃ x : Nat, sx = .int .i64 x ∧ x ≤ mp ∧ mp - x ≤ gx ∧ Hid (Rows5 w.heap.size wr (.slice (some ⟨lb, 0, none⟩) L.length lc) v8 (.slice (some ⟨wb, 0, none⟩) ks.length k3) ks.length gb (gb + 1) H L (out ++ [⟨(g : Int), (t : Int), mlo, mhi, (mp : Int)⟩]) (ownAt ks (hostOf L) T x (t : Int)) ((List.range H).map dg) ((List.range H).map dt)) ∧ Hid (wr.heap[bm]? = some (.cells #[.int .u8 (g : Int), .int .u8 (t : Int), .int .u64 mlo, .int .u64 mhi, .int .i64 (mp : Int)] 62 (0, 0))) ∧ Hid (Below w.heap.size w wr) ∧ w8.heap.size ≤ wr.heap.size)
                case atStart => exact ⟨0, rfl, Nat.zero_le _, Nat.le_refl _, by rw [ownAt_zero]; exact HR8, HM8, HB8, Nat.le_refl _⟩
                case round =>
                  obtain ⟨x, rfl, hxm, hgx, HR9, HM9, HB9, hs9⟩ := hrel
                  have m4 : wr.cell? ⟨bm, 4, none⟩ = some (.int .i64 (mp : Int)) := by simp [World.cell?, HM9.out]
                  by_cases hlx : x < mp
                  · have hxx : (x : Int) < (mp : Int) := by omega
                    have hwx : IntKind.i64.wrap ((x : Int) + 1) = (x : Int) + 1 := wrap_small _ (by omega) (by omega)
                    have hwT : IntKind.i64.wrap ((T : Int) - (x : Int)) = ((T - x : Nat) : Int) := by rw [IntWalk.i64_in _ ⟨by omega, by omega⟩]; omega
                    have hTx : ((T - x : Nat) : Int) < (ks.length : Int) := by omega
                    have hTx0 : (0 : Int) ≤ ((T - x : Nat) : Int) := by omega
                    obtain ⟨y, hy⟩ : ∃ y, (ownAt ks (hostOf L) T x (t : Int))[T - x]? = some y := ⟨_, List.getElem?_eq_getElem (by rw [ownAt_len]; omega)⟩
                    have co := OwnInts.at1 HR9.out.own (T - x) y hy
                    have fo := HR9.out.own.frozenAt (T - x)
                    have hst := HR9.out.setOwn (T - x) (t : Int)
                    rw [ownAt_succ ks (hostOf L) (t : Int) (by omega)] at hst
                    have HST := hid hst
                    have hbw : bm ≠ wb := by omega
                    have hww := (HR1.out.own.lt wb rfl).1
                    clear hy hst
                    go_wp2_with fail
                    go_roundg (mp - (x + 1))
                    case measure => omega
                    case rel => exact ⟨x + 1, by go_num, hlx, Nat.le_refl _, HST, hid ((Below.heap_setCell _ _ _ _ hbw).trans HM9.out), hid (HB9.out.setCell (p := ⟨wb, T - x, none⟩) hww _), by simpa using hs9⟩
                  · obtain rfl : mp = x := by omega
                    have hxx : ¬ (mp : Int) < (mp : Int) := by omega
                    obtain ⟨eml, emh, emp⟩ := HMF.out
                    have hhost := HS.out.host
                    have hsg := HRR.out.tab.wf.seg s HS.out.mem
                    have c3 := HS.out.cut.hi
                    have c7 := HS.out.cut.most
                    obtain ⟨_, A9, k9, e9, _, _, hIl⟩ := owns_reads encSeg_len HR9.out.list (by decide)
                    cases e9
                    have hsz2 := HRR.out.sz
                    have hcu := cutRef_any wr (some ⟨lb, 0, none⟩) L.length lc L mlo mhi (t : Int) rfl (by omega) hIl HRR.out.tab.wf hlo0 hhi1 hloh
                    rw [Rng.cut_spec HRR.out.tab.wf hlo0 hloh (by omega) (by omega) (by rw [eml]; exact HS.out.atlo) (by omega)] at hcu
                    have hown9 := ownAt_done (x := mp) HRR.out.tab hH1 HINC.out HK.out HS.out HKT.out emp
                    rw [← eml, ← emh] at hown9
                    have hr9 := HR9.out
                    rw [hown9] at hr9
                    have hposL := HS.out.ok.wf.pos
                    rw [← eml, ← emh] at hposL
                    have hrunS := HSTEP.out
                    rw [HME.out] at hrunS
                    dsimp only at hrunS
                    have hmpd : (mp : Int) ≤ dg g ∧ (mp : Int) ≤ dt t ∧ dg g ≤ 100000000000 ∧ dt t ≤ 100000000000 := by
                      have a1 := HDG.out
                      have a2 := HDT.out
                      have a3 := (target_range HGOOD.out t).2
                      have a4 := (target_range HGOOD.out g).1
                      have a5 := cntH_range L ks (t : Int)
                      have a6 := cntH_range L ks (g : Int)
                      have a7 : wantL H L0 ks t = targetL (countsOf H L0 ks) t := rfl
                      have a8 : wantL H L0 ks g = targetL (countsOf H L0 ks) g := rfl
                      have a9 : overL ks (wantL H L0 ks) L t = cntH L ks (t : Int) - wantL H L0 ks t := rfl
                      have a0 : overL ks (wantL H L0 ks) L g = cntH L ks (g : Int) - wantL H L0 ks g := rfl
                      omega
                    have m1 : wr.cell? ⟨bm, 1, none⟩ = some (.int .u8 (t : Int)) := by simp [World.cell?, HM9.out]
                    have m2 : wr.cell? ⟨bm, 2, none⟩ = some (.int .u64 mlo) := by simp [World.cell?, HM9.out]
                    have m3 : wr.cell? ⟨bm, 3, none⟩ = some (.int .u64 mhi) := by simp [World.cell?, HM9.out]
                    have HCU := hid hcu
                    have HRS := hid hrunS
                    have HR9' := hid hr9
                    clear hcu hIl hown9 hr9 hrunS c3 c7 hsg hhost eml emh emp
                    go_wp2_with fail
                    refine HCU.out.mono ?_
                    rintro e w10 ⟨v10, rfl, hown10, hb10⟩
                    obtain ⟨lb', lc', rfl, hlb', _, hlc''⟩ := own_segs hown10 hposL
                    have hR10 := HR9'.out.newList hb10 HB9.out.size hown10
                    have hM10 := (hb10.block bm (Array.getElem?_eq_some_iff.1 HM9.out).1).trans HM9.out
                    have hB10 := HB9.out.trans (hb10.mono HB9.out.size)
                    have m4 : w10.cell? ⟨bm, 4, none⟩ = some (.int .i64 (mp : Int)) := by simp [World.cell?, hM10]
                    have cg := OwnInts.at1 hR10.give g (dg g) (map_get dg g1')
                    have fg := hR10.give.frozenAt g
                    have hwa : IntKind.i64.wrap (dg g - (mp : Int)) = dg g - (mp : Int) := IntWalk.i64_in _ ⟨by omega, by omega⟩
                    have hwb' : IntKind.i64.wrap (dt t - (mp : Int)) = dt t - (mp : Int) := IntWalk.i64_in _ ⟨by omega, by omega⟩
                    have hgbs := HR1.out.gsz
                    have HR10 := hid hR10
                    have HM10 := hid hM10
                    have HB10 := hid hB10
                    clear m1 m2 m3 hown10 hb10 hR10 hM10 hB10 hposL hlb'
                    go_upto_region 38 with fail
                    go_cut [21] from 97 to 191 (fun v wd => v = .int .i64 (out.length : Int) ∧ ∃ q, wd = (w10.setCell ⟨gb, g, none⟩ (.int .i64 (dg g - (mp : Int)))).drewN q)
                    case first =>
                      go_region
                      all_goals go_wp2_with fail
                      all_goals go_meet
                      all_goals exact ⟨rfl, _, rfl⟩
                    case rest =>
                    obtain ⟨rfl, qc, rfl⟩ := hcut
                    obtain ⟨W11, hW11⟩ : ∃ W11, W11 = (w10.setCell ⟨gb, g, none⟩ (.int .i64 (dg g - (mp : Int)))).drewN qc := ⟨_, rfl⟩
                    have hR11 := (HR10.out.setGive g (dg g - (mp : Int))).drewS qc
                    rw [range_set] at hR11
                    have hM11 : W11.heap[bm]? = some (.cells #[.int .u8 (g : Int), .int .u8 (t : Int), .int .u64 mlo, .int .u64 mhi, .int .i64 (mp : Int)] 62 (0, 0)) := by rw [hW11]; exact (Below.heap_setCell _ _ _ _ (by show bm ≠ gb; omega)).trans HM10.out
                    have hB11 : Below w.heap.size w W11 := by rw [hW11]; exact below_drewN' (HB10.out.setCell (p := ⟨gb, g, none⟩) hgbs.1.1 _) qc
                    rw [← hW11] at hR11 ⊢
                    have m4 : W11.cell? ⟨bm, 4, none⟩ = some (.int .i64 (mp : Int)) := by simp [World.cell?, hM11]
                    have ct := OwnInts.at1 hR11.take t (dt t) (map_get dt t1')
                    have ft := hR11.take.frozenAt t
                    have hR12 := hR11.setTake t (dt t - (mp : Int))
                    rw [range_set] at hR12
                    have HR12 := hid hR12
                    have HB11 := hid hB11
                    clear hR11 hM11 hB11 hR12 cg fg hW11
                    go_wp2_with fail
                    go_region
                    go_wp2_with fail
                    obtain ⟨_, oA', oc', rfl, _, _, _⟩ := owns_reads (l := out ++ [(⟨(g : Int), (t : Int), mlo, mhi, (mp : Int)⟩ : MoveL)]) encMove_len HOW8.out (by decide)
                    have hlen : (out ++ [(⟨(g : Int), (t : Int), mlo, mhi, (mp : Int)⟩ : MoveL)]).length = out.length + 1 := by simp
                    go_roundg f
                    case measure => omega
                    case rel =>
                      have hr13 := HR12.out.drewS 1
                      have hb13 := below_drewN' (HB11.out.setCell (p := ⟨gb + 1, t, none⟩) hgbs.2.1 (.int .i64 (dt t - (mp : Int)))) 1
                      exact ⟨f, Rng.withL L mlo mhi (t : Int), out ++ [(⟨(g : Int), (t : Int), mlo, mhi, (mp : Int)⟩ : MoveL)], lb', lc', oA', oc', (fun k => if k = g then dg g - (mp : Int) else dg k), (fun k => if k = t then dt t - (mp : Int) else dt k), by rw [hlen]; go_num, rfl, rfl, Nat.le_refl _, hlc'', HRS, hid hr13, hid hb13⟩
          · obtain rfl : f = 0 := by have := HRR.out.fuel; omega
            have hii2 : ¬ (out.length : Int) ≤ (ks.length : Int) := by omega
            have HF : Hid ((movesL H most ks (wantL H L0 ks) (ks.length + 1) L0).1 = out) := hid (by rw [HRR.out.all]; simp [movesL])
            go_wp2_with fail
            go_ret2
            exact ⟨_, by rw [HE.out]; rfl, by rw [HE.out]; dsimp only; rw [HF.out]; exact HRW.out.out, HBW.out⟩
end Go.Proofs.Ytpkcccphoolapaa
