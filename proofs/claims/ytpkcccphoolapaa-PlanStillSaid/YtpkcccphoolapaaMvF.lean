/- Layer 15: the program's Moves. -/
import Derived.Test.YtpkcccphoolapaaMvE
namespace Go.Proofs.Ytpkcccphoolapaa
open Go.RowKit

set_option maxRecDepth 100000 in
set_option maxHeartbeats 8000000 in
theorem moves_any (w : World) (hosts : Int) (A : Option Addr) (n c : Nat) (l : List Seg) (A' : Option Addr) (n' c' : Nat) (ks : List Int) (most : Int) (hl : l.length = n) (hbytes : n * 24 ≤ 140737488351232) (hok : ∀ s ∈ l, okSeg s) (hR : Segs w.heap.size w A l)
    (hl' : ks.length = n') (hk4 : n' ≤ 4096) (hks : ∀ k ∈ ks, 0 ≤ k ∧ k ≤ maxK) (hR' : Keys w.heap.size w A' ks) :
    Calls Try.prog 26 #[.int .i64 hosts, .slice A n c, .slice A' n' c', .int .i64 most] w fun e w' =>
      ∃ v, e = .returned (.tuple #[v, .int .i64 (movesOf hosts l ks most).1]) ∧ OwnMoves w' w.heap.size v (movesOf hosts l ks most).2 ∧ Below w.heap.size w w' := by
  subst hl
  subst hl'
  by_cases hargs : 1 ≤ hosts ∧ hosts ≤ 16 ∧ 1 ≤ most ∧ most ≤ 32
  case neg =>
    have e : Hid (movesOf hosts l ks most = (2, [])) := by show _ = _; unfold movesOf; rw [if_pos hargs]
    clear hR hR' hks hok
    by_cases h1 : hosts < 1
    · have b1 : decide (hosts < 1) = true := by simpa using h1
      clear hargs
      go_enter Try.func26, Try.ntmps26
      go_wp2_with fail
      go_ret2
      exact ⟨_, by rw [e.out]; rfl, by rw [e.out]; exact World.ownsRow_nil _ _ _ _, Below.refl _ _⟩
    · have b1 : decide (hosts < 1) = false := by simpa using h1
      by_cases h2 : 16 < hosts
      · have b2 : decide (hosts > 16) = true := by simpa using h2
        have b2' : decide (16 < hosts) = true := by simpa using h2
        clear hargs
        go_enter Try.func26, Try.ntmps26
        go_wp2_with fail
        go_ret2
        exact ⟨_, by rw [e.out]; rfl, by rw [e.out]; exact World.ownsRow_nil _ _ _ _, Below.refl _ _⟩
      · have b2 : decide (hosts > 16) = false := by simpa using h2
        have b2' : decide (16 < hosts) = false := by simpa using h2
        by_cases h3 : most < 1
        · have b3 : decide (most < 1) = true := by simpa using h3
          clear hargs
          go_enter Try.func26, Try.ntmps26
          go_wp2_with fail
          go_ret2
          exact ⟨_, by rw [e.out]; rfl, by rw [e.out]; exact World.ownsRow_nil _ _ _ _, Below.refl _ _⟩
        · have b3 : decide (most < 1) = false := by simpa using h3
          have h4 : 32 < most := by omega
          have b4 : decide (most > 32) = true := by simpa using h4
          have b4' : decide (32 < most) = true := by simpa using h4
          clear hargs
          go_enter Try.func26, Try.ntmps26
          go_wp2_with fail
          go_ret2
          exact ⟨_, by rw [e.out]; rfl, by rw [e.out]; exact World.ownsRow_nil _ _ _ _, Below.refl _ _⟩
  case pos =>
  obtain ⟨g1, g2, g3, g4⟩ := hargs
  obtain ⟨H, rfl⟩ : ∃ H : Nat, hosts = (H : Int) := ⟨hosts.toNat, by omega⟩
  have b1 : decide ((H : Int) < 1) = false := by simp; omega
  have b2 : decide ((H : Int) > 16) = false := by simp; omega
  have b2' : decide (16 < (H : Int)) = false := by simp; omega
  have b3 : decide (most < 1) = false := by simp; omega
  have b4 : decide (most > 32) = false := by simp; omega
  have b4' : decide (32 < most) = false := by simp; omega
  have hH0 : 1 ≤ H := by omega
  have hH1 : H ≤ 16 := by omega
  have HMO : Hid (∀ b : Bool, (b = true ↔ LayOk (H : Int) l ks) → movesOf (H : Int) l ks most = if b = true then (0, (movesL H most ks (wantL H (Rng.loadL l 8192).2 ks) (ks.length + 1) (Rng.loadL l 8192).2).1) else (151, [])) := by
    intro b hb
    unfold movesOf
    rw [if_neg (by omega)]
    cases b with
    | true => rw [if_pos (hb.1 rfl), Int.toNat_natCast]; rfl
    | false => rw [if_neg (fun h => by have := hb.2 h; cases this)]; rfl
  have hla := layout_any w (H : Int) A l.length c l A' ks.length c' ks rfl hbytes hok hR rfl (by omega) hR'
  have hLH : LayOk (H : Int) l ks → (∀ s ∈ (Rng.loadL l 8192).2, s.host < (H : Int)) ∧ Inc ks := fun h => ⟨h.2.1, h.2.2⟩
  have hln := loadL_len l
  have HR' := hid hR'
  have HK := hid hks
  have HLH := hid hLH
  clear hR hR' hks hok hLH
  generalize LayOk (H : Int) l ks = LO at *
  generalize hL0 : (Rng.loadL l 8192).2 = L0 at *
  have HLA := hid hla
  have HLN := hid hln
  clear hla hln hL0
  go_enter Try.func26, Try.ntmps26
  go_wp2_with fail
  refine HLA.out.mono ?_
  rintro e w1 ⟨v, b, rfl, hb, hown, hwf, hb1⟩
  have hE := HMO.out b hb
  cases b with
  | false =>
    have HE : Hid (movesOf (H : Int) l ks most = (151, [])) := hid (by rw [hE]; rfl)
    clear hown hwf hb hE
    go_wp2_with fail
    go_ret2
    exact ⟨_, by rw [HE.out]; rfl, by rw [HE.out]; exact World.ownsRow_nil _ _ _ _, hb1⟩
  | true =>
    have HE : Hid (movesOf (H : Int) l ks most = (0, (movesL H most ks (wantL H L0 ks) (ks.length + 1) L0).1)) := hid (by rw [hE]; rfl)
    have hWF := hwf rfl
    obtain ⟨hhs, hInc⟩ := HLH.out (hb.1 rfl)
    obtain ⟨_, A2, k2, rfl, _, _, hR2⟩ := owns_reads encSeg_len (hown rfl) (by decide)
    have hown2 := hown rfl
    have hKs1 := (HR'.out.below hb1).mono hb1.size
    have hct := count_any w1 H A2 L0.length k2 L0 A' ks.length c' ks hH1 rfl (by have := HLN.out; omega) hR2 hWF hhs rfl (by omega) hKs1 hInc HK.out
    have hgood := counts_good (H := H) (l := L0) (ks := ks) hH0 hH1 (by omega)
    have HCT := hid hct
    have HTAB : Hid (TabOk H L0) := hid ⟨hWF, hhs⟩
    have HINC := hid hInc
    have HGOOD := hid hgood
    have HO1 := hid hown2
    have HB1 := hid hb1
    clear hct hgood hWF hhs hInc hown hwf hb hE hR2 hown2 hKs1 hb1
    go_wp2_with fail
    refine HCT.out.mono ?_
    rintro e w2 ⟨v2, rfl, hown2, hb2⟩
    obtain ⟨_, A3, k3, rfl, _, _, hR3⟩ := owns_reads i64_len (l := countsOf H L0 ks) (n := H) hown2 (by decide)
    have htg := targets_any w2 A3 H k3 (countsOf H L0 ks) (countsOf_len ..) (by omega) hR3
    rw [if_pos HGOOD.out, if_pos HGOOD.out, targets_len, countsOf_len] at htg
    have HTG := hid htg
    have HO2 := hid hown2
    have HB2 := hid (HB1.out.trans (hb2.mono HB1.out.size))
    have HB12 := hid hb2
    clear htg hown2 hb2 hR3
    go_wp2_with fail
    refine HTG.out.mono ?_
    rintro e w3 ⟨v3, rfl, hown3, hb3⟩
    obtain ⟨_, A4, k4, rfl, _, _, _⟩ := owns_reads i64_len (l := targets (countsOf H L0 ks)) (n := H) hown3 (by decide)
    have hA3 : ∃ p3, A3 = some ⟨p3, 0, none⟩ ∧ p3 < w2.heap.size := by
      rcases HO2.out.2 with ⟨_, e⟩ | ⟨g, cap, cur, e, _, e3, _⟩
      · omega
      · injection e with e1; exact ⟨g, e1, (Array.getElem?_eq_some_iff.1 e3).1⟩
    have hA4 : ∃ p4, A4 = some ⟨p4, 0, none⟩ ∧ p4 < w3.heap.size := by
      rcases hown3.2 with ⟨_, e⟩ | ⟨g, cap, cur, e, _, e3, _⟩
      · omega
      · injection e with e1; exact ⟨g, e1, (Array.getElem?_eq_some_iff.1 e3).1⟩
    obtain ⟨p3, rfl, hp3⟩ := hA3
    obtain ⟨p4, rfl, hp4⟩ := hA4
    have hs32 := hb3.size
    have HLD : Hid (∀ W, Below w3.heap.size w3 W → ∀ h, h < H → W.cell? ⟨p3, h, none⟩ = some (.int .i64 (cntH L0 ks (h : Int))) ∧ W.cell? ⟨p4, h, none⟩ = some (.int .i64 (wantL H L0 ks h))) := hid fun W hW h hh => by
      have e1 := OwnInts.at1 HO2.out h _ (countsOf_get hh)
      have e2 := OwnInts.at1 hown3 h _ (targets_get (by rw [countsOf_len]; exact hh))
      exact ⟨(hW.cell (p := ⟨p3, h, none⟩) (by show p3 < _; omega)).trans ((hb3.cell (p := ⟨p3, h, none⟩) hp3).trans e1), (hW.cell (p := ⟨p4, h, none⟩) hp4).trans e2⟩
    have HB3 := hid (HB2.out.trans (hb3.mono HB2.out.size))
    have HB23 := hid hb3
    obtain ⟨W5, hW5⟩ : ∃ W5, W5 = (w3.alloc (.cells #[.slice none 0 0] 100)).alloc (.cells #[.slice none 0 0] 100) := ⟨_, rfl⟩
    have hS1 : SideAt W5 w3.heap.size w3.heap.size none 0 [] := by
      refine ⟨?_, World.ownsRow_nil _ _ _ _, (by simp), Nat.le_refl _⟩
      rw [hW5, heap_alloc_old _ _ (by simp)]; exact heap_alloc_new w3 _
    have hS2 : SideAt W5 w3.heap.size (w3.heap.size + 1) none 0 [] := by
      refine ⟨?_, World.ownsRow_nil _ _ _ _, (by simp), by omega⟩
      have := heap_alloc_new (w3.alloc (.cells #[.slice none 0 0] 100)) (.cells #[.slice none 0 0] 100)
      rw [hW5]; simpa using this
    have hB5 : Below w3.heap.size w3 W5 := by rw [hW5]; exact ((Below.refl _ w3).alloc (Nat.le_refl _) _).alloc (by simp) _
    have HS1 := hid hS1
    have HS2 := hid hS2
    have HB5 := hid hB5
    have HW5 := hid hW5
    clear hS1 hS2 hB5 hW5 hown3 hb3 hs32
    go_wp2_with fail
    rw [← HW5.out]
    have hrange : ∀ h, h < H → (0 ≤ cntH L0 ks (h : Int) ∧ cntH L0 ks (h : Int) ≤ 4096) ∧ 0 ≤ wantL H L0 ks h ∧ wantL H L0 ks h ≤ 17179869185 := fun h hh => by
      have e1 := cntH_range L0 ks (h : Int)
      exact ⟨⟨e1.1, by omega⟩, target_range HGOOD.out h⟩
    have HRG := hid hrange
    clear hrange
    go_loopg [59] H (fun gx si wr => ∃ (k c1 c2 : Nat) (A1 A2 : Option Addr), si = .int .i64 k ∧ k ≤ H ∧ H - k ≤ gx ∧ Hid (SideAt wr w3.heap.size w3.heap.size A1 c1 (gvK (overL ks (wantL H L0 ks) L0) k)) ∧ Hid (SideAt wr w3.heap.size (w3.heap.size + 1) A2 c2 (gvK (fun h => - overL ks (wantL H L0 ks) L0 h) k)) ∧ Hid (Apart w3.heap.size (w3.heap.size + 1) A1 A2) ∧ Hid (Below w3.heap.size w3 wr))
    case atStart => exact ⟨0, 0, 0, none, none, rfl, Nat.zero_le _, Nat.le_refl _, HS1, HS2, hid ⟨by omega, by simp, by simp, fun k h => by cases h⟩, HB5⟩
    case round =>
      obtain ⟨k, c1, c2, A1, A2', rfl, hkH, hgx, HA, HT, HAP, HB⟩ := hrel
      by_cases hlt : k < H
      · have hkk : (k : Int) < (H : Int) := by omega
        have hk0 : (0 : Int) ≤ (k : Int) := by omega
        have hwk : IntKind.i64.wrap ((k : Int) + 1) = (k : Int) + 1 := wrap_small _ (by omega) (by omega)
        obtain ⟨d0, d1⟩ := HLD.out wr HB.out k hlt
        obtain ⟨⟨r0, r1⟩, r2, r3⟩ := HRG.out k hlt
        obtain ⟨D, hD⟩ : ∃ D, D = cntH L0 ks (k : Int) - wantL H L0 ks k := ⟨_, rfl⟩
        have hwd : IntKind.i64.wrap (cntH L0 ks (k : Int) - wantL H L0 ks k) = D := by rw [IntWalk.i64_in _ ⟨by omega, by omega⟩, hD]
        have HOV : Hid (overL ks (wantL H L0 ks) L0 k = D) := hid hD.symm
        have hDr : -17179869186 ≤ D ∧ D ≤ 4096 := by omega
        have HG1 := hid (gvK_succ (overL ks (wantL H L0 ks) L0) k)
        have HG2 := hid (gvK_succ (fun h => - overL ks (wantL H L0 ks) L0 h) k)
        rw [HOV.out] at HG1 HG2
        have hgl1 := gvK_len (overL ks (wantL H L0 ks) L0) k
        have hgl2 := gvK_len (fun h => - overL ks (wantL H L0 ks) L0 h) k
        clear hD
        generalize cntH L0 ks (k : Int) = cc at *
        generalize wantL H L0 ks k = ww at *
        rcases Int.lt_trichotomy 0 D with hpos | hzero | hneg
        · have bp : decide (D > 0) = true := by simpa using hpos
          have bp' : decide (0 < D) = true := by simpa using hpos
          have HMd : Hid (SideAt wr w3.heap.size w3.heap.size A1 c1 (gvK (overL ks (wantL H L0 ks) L0) k)) := HA
          have HMN : Hid (gvK (overL ks (wantL H L0 ks) L0) (k + 1) = gvK (overL ks (wantL H L0 ks) L0) k ++ [((k : Int), D)]) := hid (by rw [HG1.out, if_pos (by omega)])
          have HON : Hid (gvK (fun h => - overL ks (wantL H L0 ks) L0 h) (k + 1) = gvK (fun h => - overL ks (wantL H L0 ks) L0 h) k) := hid (by rw [HG2.out, if_neg (by omega)])
          have e0 := HMd.out.c0
          have hlk : (gvK (overL ks (wantL H L0 ks) L0) k).length ≤ 16 := by omega
          go_wp2_with fail
          go_quiet (fail)
          have HMq := hid (HMd.out.drewS nq)
          go_wp2_with (at_builtin; refine wpList_append_one (enc := sdE) (wr.drewN nq) w3.heap.size rfl _ _ 100 102 _ 16 rfl Try.underlying100 infoSd rfl (by decide) sdE_len sdE_one (.slice A1 (gvK (overL ks (wantL H L0 ks) L0) k).length c1) (gvK (overL ks (wantL H L0 ks) L0) k) ((k : Int), D) _ rfl rfl _ rfl (by simp) HMq.out.row (by simp only [maxLen]; omega) (by omega) HB.out.size ?_; intro v6 w6 hown hgr hat; obtain ⟨A6, c6, rfl, hm6, hblk6, e6, f6, hk6, hs6⟩ := HMq.out.append hown hgr hat; have HM6' := hid hm6; have HK6 := hid hk6; have HBK6 := hid hblk6; have HGR := hid hgr; clear hown hgr hat hm6 hk6 hblk6)
          go_roundg (H - (k + 1))
          case measure => omega
          case rel =>
            have HM6 : Hid (SideAt _ w3.heap.size w3.heap.size A6 c6 (gvK (overL ks (wantL H L0 ks) L0) (k + 1))) := hid (by rw [HMN.out]; exact HM6'.out)
            have hblk6 := HBK6.out
            have HAP6 : Hid (Apart w3.heap.size (w3.heap.size + 1) A6 A2') := hid ((HAP.out).grow (HT.out.drewS nq) hblk6)
            have HO6 : Hid (SideAt _ w3.heap.size (w3.heap.size + 1) A2' c2 (gvK (fun h => - overL ks (wantL H L0 ks) L0 h) (k + 1))) := hid (by
              rw [HON.out]
              exact HT.out.keptB (HK6.out _ HT.out.lt (Ne.symm HAP.out.h12) HAP.out.a1) (fun g hg => HK6.out g (HT.out.blk hg).2 (fun e => HAP.out.a2 (by rw [← e]; exact hg)) (fun e => HAP.out.aa g e hg)))
            have HB6 := hid (((below_drewT HB.out nq).grown HGR.out (below_drewT HB.out nq).size (fun k hk => own_ge HMq.out.row k hk)).setCell (p := ⟨w3.heap.size, 0, none⟩) (Nat.le_refl _) (.slice A6 ((gvK (overL ks (wantL H L0 ks) L0) k).length + 1) c6))
            exact ⟨k + 1, c6, c2, A6, A2', by go_num, hlt, Nat.le_refl _, HM6, HO6, HAP6, HB6⟩
        · have bp : decide (D > 0) = false := by simp; omega
          have bp' : decide (0 < D) = false := by simp; omega
          have bn : decide (D < 0) = false := by simp; omega
          have HO1 : Hid (gvK (overL ks (wantL H L0 ks) L0) (k + 1) = gvK (overL ks (wantL H L0 ks) L0) k) := hid (by rw [HG1.out, if_neg (by omega)])
          have HO2 : Hid (gvK (fun h => - overL ks (wantL H L0 ks) L0 h) (k + 1) = gvK (fun h => - overL ks (wantL H L0 ks) L0 h) k) := hid (by rw [HG2.out, if_neg (by omega)])
          clear hzero
          go_wp2_with fail
          go_quiet (fail)
          go_wp2_with fail
          go_roundg (H - (k + 1))
          case measure => omega
          case rel => exact ⟨k + 1, c1, c2, A1, A2', by go_num, hlt, Nat.le_refl _, hid (by rw [HO1.out]; exact HA.out.drewS nq), hid (by rw [HO2.out]; exact HT.out.drewS nq), HAP, hid (below_drewT HB.out nq)⟩
        · have bp : decide (D > 0) = false := by simp; omega
          have bp' : decide (0 < D) = false := by simp; omega
          have bn : decide (D < 0) = true := by simpa using hneg
          have hwn : IntKind.i64.wrap (-D) = -D := IntWalk.i64_in _ ⟨by omega, by omega⟩
          have HMN : Hid (gvK (fun h => - overL ks (wantL H L0 ks) L0 h) (k + 1) = gvK (fun h => - overL ks (wantL H L0 ks) L0 h) k ++ [((k : Int), -D)]) := hid (by rw [HG2.out, if_pos (by omega)])
          have HON : Hid (gvK (overL ks (wantL H L0 ks) L0) (k + 1) = gvK (overL ks (wantL H L0 ks) L0) k) := hid (by rw [HG1.out, if_neg (by omega)])
          have e0 := HT.out.c0
          have hlk : (gvK (fun h => - overL ks (wantL H L0 ks) L0 h) k).length ≤ 16 := by omega
          go_wp2_with fail
          go_quiet (fail)
          have HMq := hid (HT.out.drewS nq)
          go_wp2_with (at_builtin; refine wpList_append_one (enc := sdE) (wr.drewN nq) w3.heap.size rfl _ _ 100 102 _ 16 rfl Try.underlying100 infoSd rfl (by decide) sdE_len sdE_one (.slice A2' (gvK (fun h => - overL ks (wantL H L0 ks) L0 h) k).length c2) (gvK (fun h => - overL ks (wantL H L0 ks) L0 h) k) ((k : Int), -D) _ rfl rfl _ rfl (by simp) HMq.out.row (by simp only [maxLen]; omega) (by omega) HB.out.size ?_; intro v6 w6 hown hgr hat; obtain ⟨A6, c6, rfl, hm6, hblk6, e6, f6, hk6, hs6⟩ := HMq.out.append hown hgr hat; have HM6' := hid hm6; have HK6 := hid hk6; have HBK6 := hid hblk6; have HGR := hid hgr; clear hown hgr hat hm6 hk6 hblk6)
          go_roundg (H - (k + 1))
          case measure => omega
          case rel =>
            have HM6 : Hid (SideAt _ w3.heap.size (w3.heap.size + 1) A6 c6 (gvK (fun h => - overL ks (wantL H L0 ks) L0 h) (k + 1))) := hid (by rw [HMN.out]; exact HM6'.out)
            have hblk6 := HBK6.out
            have HAP6 : Hid (Apart w3.heap.size (w3.heap.size + 1) A1 A6) := hid ((HAP.out.symm).grow (HA.out.drewS nq) hblk6).symm
            have HO6 : Hid (SideAt _ w3.heap.size w3.heap.size A1 c1 (gvK (overL ks (wantL H L0 ks) L0) (k + 1))) := hid (by
              rw [HON.out]
              exact HA.out.keptB (HK6.out _ HA.out.lt HAP.out.h12 HAP.out.a2) (fun g hg => HK6.out g (HA.out.blk hg).2 (fun e => HAP.out.a1 (by rw [← e]; exact hg)) (fun e => HAP.out.aa g hg e)))
            have HB6 := hid (((below_drewT HB.out nq).grown HGR.out (below_drewT HB.out nq).size (fun k hk => own_ge HMq.out.row k hk)).setCell (p := ⟨w3.heap.size + 1, 0, none⟩) (by show w3.heap.size ≤ w3.heap.size + 1; omega) (.slice A6 ((gvK (fun h => - overL ks (wantL H L0 ks) L0 h) k).length + 1) c6))
            exact ⟨k + 1, c1, c6, A1, A6, by go_num, hlt, Nat.le_refl _, HO6, HM6, HAP6, HB6⟩
      · obtain rfl : k = H := by omega
        have hkk : ¬ (k : Int) < (k : Int) := by omega
        have hgl1 := gvK_len (overL ks (wantL k L0 ks) L0) k
        have hgl2 := gvK_len (fun h => - overL ks (wantL k L0 ks) L0 h) k
        have hi1 := initSide_any wr w3.heap.size w3.heap.size c1 A1 _ HA.out (by omega)
        have HI1 := hid hi1
        clear hi1
        go_wp2_with fail
        refine HI1.out.mono ?_
        rintro e w6 ⟨z, gl, rfl, hs6, hp6, hh6, hg6⟩
        have hT6 : SideAt w6 w3.heap.size (w3.heap.size + 1) A2' c2 (gvK (fun h => - overL ks (wantL k L0 ks) L0 h) k) := HT.out.keptB (hg6.block _ HT.out.lt (fun e => HAP.out.a1 e.symm)) (fun g hg => hg6.block g (HT.out.blk hg).2 (fun e => HAP.out.aa g e.symm hg))
        have hB6 : Below w3.heap.size w3 w6 := HB.out.grown hg6 HB.out.size (fun b hb => (HA.out.blk hb).1)
        have hi2 := initSide_any w6 w3.heap.size (w3.heap.size + 1) c2 A2' _ hT6 (by omega)
        have HI2 := hid hi2
        have HS6 := hid hs6
        have HP6 := hid hp6
        have HH6 := hid hh6
        have HB6 := hid hB6
        clear hs6 hp6 hh6 hg6 hi2 hB6
        go_wp2_with fail
        refine HI2.out.mono ?_
        rintro e w7 ⟨z7, tl, rfl, hs7, hp7, hh7, hg7⟩
        have hG7 : SideAt w7 w3.heap.size w3.heap.size A1 c1 gl := HS6.out.keptB (hg7.block _ HS6.out.lt (fun e => HAP.out.a2 e.symm)) (fun g hg => hg7.block g (HS6.out.blk hg).2 (fun e => HAP.out.aa g hg e.symm))
        have hB7 : Below w3.heap.size w3 w7 := HB6.out.grown hg7 HB6.out.size (fun b hb => (hT6.blk hb).1)
        have HG7 := hid hG7
        have HT7 := hid hs7
        have HP7 := hid hp7
        have HH7 := hid hh7
        have HB7 := hid hB7
        clear hs7 hp7 hh7 hg7 hG7 hB7 hT6
        go_wp2_with fail
        have hL0 : ∃ lb lo, A2 = some ⟨lb, lo, none⟩ ∧ lb < w3.heap.size ∧ Segs w7.heap.size w7 (some ⟨lb, lo, none⟩) L0 := by
          obtain ⟨lb, cc, e, ⟨_, e2⟩, e3, _⟩ := own_segs HO1.out HTAB.out.wf.pos
          injection e with e1
          subst e1
          have hb13 := HB12.out.trans (HB23.out.mono HB12.out.size)
          have hb17 := hb13.trans (HB7.out.mono hb13.size)
          exact ⟨lb, 0, rfl, by have := hb13.size; omega, (e3.below hb17).mono hb17.size⟩
        obtain ⟨lb, lo, rfl, hlb, hseg⟩ := hL0
        have hst : RunSt w3 w7 k most ks (wantL k L0 ks) L0 A1 c1 A2' c2 (ks.length + 1) L0 gl tl [] lb lo none 0 := by
          refine ⟨HTAB.out, hseg, by have := HLN.out; simp; omega, by simp, ?_, rfl, HG7.out, HT7.out, HP6.out, HP7.out, HH6.out, HH7.out, World.ownsRow_nil _ _ _ _, HB7.out, ⟨by omega, by omega, fun e => ?_, fun e => ?_, by simp⟩, fun k hk => by cases hk⟩
          · have := overSum_le (H := k) (ks := ks) (l := L0) (want := wantL k L0 ks) (fun h => (target_range HGOOD.out h).1)
            omega
          · have := (HG7.out.blk e).1; omega
          · have := (HT7.out.blk e).1; omega
        have HST := hid hst
        clear hst hseg hlb
        go_loopg [10, 19] (ks.length + 1) (fun gx sl so wr => ∃ (f : Nat) (L : List Seg) (gl tl : List Sd) (out : List MoveL) (lb lo lc : Nat) (oA : Option Addr) (oc : Nat), sl = .slice (some ⟨lb, lo, none⟩) L.length lc ∧ so = .slice oA out.length oc ∧ f ≤ gx ∧ L.length ≤ lc ∧ Hid (RunSt w3 wr k most ks (wantL k L0 ks) L0 A1 c1 A2' c2 f L gl tl out lb lo oA oc))
        case atStart => exact ⟨ks.length + 1, L0, gl, tl, [], lb, lo, k2, none, 0, rfl, rfl, Nat.le_refl _, by assumption, HST⟩
        case round =>
          obtain ⟨f, L, gl, tl, out, lb, lo, lc, oA, oc, rfl, rfl, hfx, hlc, HS⟩ := hrel
          have e1 := HS.out.g.c0
          have e2 := HS.out.t.c0
          cases gl with
          | nil =>
            have hl0 : ¬ (0 : Int) < ((([] : List Sd).length : Nat) : Int) := by simp
            have hend : (movesL k most ks (wantL k L0 ks) (ks.length + 1) L0).1 = out := by
              rw [HS.out.all, movesL_none (.inl ((gv_none HS.out.gp).1 rfl)) f]
              simp
            have HEND := hid hend
            clear hend
            go_wp2_with fail
            go_ret2
            have hbw := HB3.out.trans (HS.out.bel.mono HB3.out.size)
            exact ⟨_, by rw [HE.out]; rfl, by rw [HE.out]; dsimp only; rw [HEND.out]; exact ownsRow_mono HS.out.out HB3.out.size, hbw⟩
          | cons x rg =>
            cases tl with
            | nil =>
              have hl1 : (0 : Int) < (((x :: rg).length : Nat) : Int) := by simp
              have hl0 : ¬ (0 : Int) < ((([] : List Sd).length : Nat) : Int) := by simp
              have hend : (movesL k most ks (wantL k L0 ks) (ks.length + 1) L0).1 = out := by
                rw [HS.out.all, movesL_none (.inr ((gv_none HS.out.tp).1 rfl)) f]
                simp
              have HEND := hid hend
              clear hend
              go_wp2_with fail
              go_ret2
              have hbw := HB3.out.trans (HS.out.bel.mono HB3.out.size)
              exact ⟨_, by rw [HE.out]; rfl, by rw [HE.out]; dsimp only; rw [HEND.out]; exact ownsRow_mono HS.out.out HB3.out.size, hbw⟩
            | cons y rt =>
              have hl1 : (0 : Int) < (((x :: rg).length : Nat) : Int) := by simp
              have hl2 : (0 : Int) < (((y :: rt).length : Nat) : Int) := by simp
              obtain ⟨gi, hg1, rfl⟩ := gv_top HS.out.gp HS.out.gh rfl
              obtain ⟨ti, ht1, rfl⟩ := gv_top HS.out.tp HS.out.th rfl
              have hA1 : ∃ g1, A1 = some ⟨g1, 0, none⟩ := by
                cases A1 with
                | none => have := HS.out.g.nilOf.1; cases this
                | some a => obtain ⟨g1, e, _⟩ := HS.out.g.heapAt rfl; exact ⟨g1, e⟩
              have hA2 : ∃ g2, A2' = some ⟨g2, 0, none⟩ := by
                cases A2' with
                | none => have := HS.out.t.nilOf.1; cases this
                | some a => obtain ⟨g2, e, _⟩ := HS.out.t.heapAt rfl; exact ⟨g2, e⟩
              obtain ⟨q1, rfl⟩ := hA1
              obtain ⟨q2, rfl⟩ := hA2
              obtain ⟨q1', eq1, hh1⟩ := HS.out.g.heapAt rfl
              obtain rfl : q1 = q1' := by injection eq1 with e; injection e
              obtain ⟨q2', eq2, hh2⟩ := HS.out.t.heapAt rfl
              obtain rfl : q2 = q2' := by injection eq2 with e; injection e
              obtain ⟨x0, x1⟩ := hh1.at' (i := 0) rfl
              obtain ⟨y0, y1⟩ := hh2.at' (i := 0) rfl
              simp only [Nat.zero_mul, Nat.zero_add] at x0 x1 y0 y1
              have HG1 := hid hg1
              have HT1 := hid ht1
              have ho1 := (best_some hg1).2.1
              have ho2 := (best_some ht1).2.1
              have ho3 := (best_some hg1).1
              have ho4 := (best_some ht1).1
              clear hh1 hh2 hg1 ht1 eq1 eq2
              have hgr := cntH_range L ks (gi : Int)
              have htr := cntH_range L ks (ti : Int)
              have hwg : 0 ≤ wantL k L0 ks gi ∧ wantL k L0 ks gi ≤ 17179869185 := target_range HGOOD.out gi
              have hwt : 0 ≤ wantL k L0 ks ti ∧ wantL k L0 ks ti ≤ 17179869185 := target_range HGOOD.out ti
              have HOG : Hid (overL ks (wantL k L0 ks) L gi = cntH L ks (gi : Int) - wantL k L0 ks gi) := hid rfl
              have HOT : Hid (overL ks (wantL k L0 ks) L ti = cntH L ks (ti : Int) - wantL k L0 ks ti) := hid rfl
              obtain ⟨WA, hWA⟩ : ∃ WA, WA = (wr.alloc (.cells #[.int .i64 0, .int .i64 0] 102)).alloc (.cells #[.int .i64 0, .int .i64 0] 102) := ⟨_, rfl⟩
              have hWB : Below wr.heap.size wr WA := by rw [hWA]; exact ((Below.refl _ wr).alloc (Nat.le_refl _) _).alloc (by simp) _
              have ltH1 := HS.out.g.lt
              have ltH2 := HS.out.t.lt
              have ltq1 := (HS.out.g.blk (k := q1) rfl).2
              have ltq2 := (HS.out.t.blk (k := q2) rfl).2
              have z1 := Tfact hWB (a := ⟨w3.heap.size, 0, none⟩) ltH1 e1
              have z2 := Tfact hWB (a := ⟨w3.heap.size + 1, 0, none⟩) ltH2 e2
              have z3 := Tfact hWB (a := ⟨q1, 0, none⟩) ltq1 x0
              have z4 := Tfact hWB (a := ⟨q1, 1, none⟩) ltq1 x1
              have z5 := Tfact hWB (a := ⟨q2, 0, none⟩) ltq2 y0
              have z6 := Tfact hWB (a := ⟨q2, 1, none⟩) ltq2 y1
              rw [hWA] at z1 z2 z3 z4 z5 z6
              have HWA := hid hWA
              have HWB := hid hWB
              clear hWA hWB
              go_upto_region 24 with fail
              go_cut [20, 21] from 95 to 137 (fun a b wc => BoxesAt wr wc ((gi : Int), overL ks (wantL k L0 ks) L gi) ((ti : Int), - overL ks (wantL k L0 ks) L ti) a b)
              case first =>
                go_region
                all_goals (go_wp2_with fail; go_meet)
                all_goals first | exact (two_boxes wr ((gi : Int), overL ks (wantL k L0 ks) L gi) ((ti : Int), - overL ks (wantL k L0 ks) L ti)).1 | exact (two_boxes wr ((ti : Int), - overL ks (wantL k L0 ks) L ti) ((gi : Int), overL ks (wantL k L0 ks) L gi)).2
              case rest =>
                obtain ⟨bp, bq, rfl, rfl, bps, bqs, p0, p1, q0, q1', hbx⟩ := hcut
                clear z1 z2 z3 z4 z5 z6 HWA HWB e1 e2 x0 x1 y0 y1 hl1 hl2
                obtain ⟨s, hs⟩ := topSeg_ex HS.out.tab.wf HINC.out HK.out (g := (gi : Int)) (by have := HOG.out; omega)
                have hmv : moveStep k most ks (wantL k L0 ks) L = some (cutMove ks s (gi : Int) (ti : Int) (min (min (overL ks (wantL k L0 ks) L gi) (- overL ks (wantL k L0 ks) L ti)) most), Rng.withL L (cutMove ks s (gi : Int) (ti : Int) (min (min (overL ks (wantL k L0 ks) L gi) (- overL ks (wantL k L0 ks) L ti)) most)).lo (cutMove ks s (gi : Int) (ti : Int) (min (min (overL ks (wantL k L0 ks) L gi) (- overL ks (wantL k L0 ks) L ti)) most)).hi (ti : Int)) := by
                  unfold moveStep
                  rw [HG1.out, HT1.out]
                  dsimp only
                  rw [hs]
                obtain ⟨g', t', s', hok⟩ := moveStep_some hH1 g3 HINC.out HK.out HS.out.tab hmv
                obtain rfl : gi = g' := Option.some.inj (HG1.out.symm.trans hok.gi)
                obtain rfl : ti = t' := Option.some.inj (HT1.out.symm.trans hok.ti)
                obtain rfl : s = s' := Option.some.inj (hs.symm.trans hok.top)
                have hD1 : overL ks (wantL k L0 ks) L gi ≤ 4096 := by have := HOG.out; omega
                have hD2 : - overL ks (wantL k L0 ks) L ti ≤ 17179869185 := by have := HOT.out; omega
                have hct := cutTop_any wc (some ⟨lb, lo, none⟩) L.length lc L A' ks.length c' ks (gi : Int) (min (min (overL ks (wantL k L0 ks) L gi) (- overL ks (wantL k L0 ks) L ti)) most) s rfl (by have := HS.out.sz; have := HS.out.fuel; omega) ((HS.out.segs.below hbx).mono hbx.size) HS.out.tab.wf rfl (by omega) ((HR'.out.below (HB3.out.trans ((HS.out.bel.trans (hbx.mono HS.out.bel.size)).mono HB3.out.size))).mono (by have := HB3.out.size; have := HS.out.bel.size; have := hbx.size; omega)) HINC.out (by omega) hs
                have HMV := hid hmv
                have HOK := hid hok
                have hwu : IntKind.u8.wrap (gi : Int) = (gi : Int) := IntWalk.u8_in _ ⟨by omega, by omega⟩
                have hwv : IntKind.u8.wrap (ti : Int) = (ti : Int) := IntWalk.u8_in _ ⟨by omega, by omega⟩
                have HBX := hid hbx
                have HBQ := hid bqs
                obtain ⟨N, hN⟩ : ∃ N, N = min (min (overL ks (wantL k L0 ks) L gi) (- overL ks (wantL k L0 ks) L ti)) most := ⟨_, rfl⟩
                rw [← hN] at hct HOK
                obtain ⟨hd1, hd2⟩ := cut_dst ks s (gi : Int) (ti : Int) N
                rw [hd1] at hct
                obtain ⟨mlo, hmlo⟩ : ∃ x, x = (cutMove ks s (gi : Int) (ti : Int) N).lo := ⟨_, rfl⟩
                obtain ⟨mhi, hmhi⟩ : ∃ x, x = (cutMove ks s (gi : Int) (ti : Int) N).hi := ⟨_, rfl⟩
                obtain ⟨mp, hmp⟩ : ∃ x, x = (cutMove ks s (gi : Int) (ti : Int) N).pairs := ⟨_, rfl⟩
                rw [← hN, ← hmlo, ← hmhi] at HMV
                rw [← hmlo, ← hmhi] at HOK
                rw [← hmlo, ← hmhi, ← hmp] at hct hd2
                rw [hd2] at HMV HOK
                clear hd1 hmlo hmhi hmp
                have HCT : Hid (∀ n', n' = N → Calls Try.prog 56 #[.slice (some ⟨lb, lo, none⟩) L.length lc, .slice A' ks.length c', .int .u8 (gi : Int), .int .i64 n'] wc fun e w' => e = .returned (.agg #[.int .u8 (gi : Int), .int .u8 0, .int .u64 mlo, .int .u64 mhi, .int .i64 mp]) ∧ Below wc.heap.size wc w') := hid (by rintro _ rfl; exact hct)
                have HN := hid hN
                clear hs hmv hok hct hbx hd2
                generalize hdg : overL ks (wantL k L0 ks) L gi = dg at *
                generalize hdt : (- overL ks (wantL k L0 ks) L ti) = dt at *
                have HDG := hid hdg
                have HDT := hid hdt
                clear hdg hdt
                go_upto_region 25 with fail
                go_cut [22] from 95 to 137 (fun v wd => ∃ bm, v = .pointer (some ⟨bm, 0, none⟩) ∧ wd.heap[bm]? = some (.cells #[.int .u8 (gi : Int), .int .u8 0, .int .u64 mlo, .int .u64 mhi, .int .i64 mp] 62 (0, 0)) ∧ wr.heap.size ≤ bm ∧ wd.cell? ⟨bq, 0, none⟩ = some (.int .i64 (ti : Int)) ∧ bq < wd.heap.size ∧ bq ≠ bm ∧ Below wr.heap.size wr wd)
                case first =>
                  go_wp2_with (go_at_call 56; refine (HCT.out _ (by have := HN.out; omega)).mono ?_; rintro e w5 ⟨rfl, hb5⟩; have HB5 := hid hb5; clear hb5)
                  all_goals go_meet
                  all_goals (have hb5 := HB5.out; have hs5 := hb5.size; have hqs := HBQ.out; have hx5 := HBX.out.size; have hbd := (HBX.out.trans (hb5.mono HBX.out.size)).alloc (by omega) (.cells #[.int .u8 (gi : Int), .int .u8 0, .int .u64 mlo, .int .u64 mhi, .int .i64 mp] 62); exact ⟨w5.heap.size, rfl, heap_alloc_new w5 _, by omega, ((World.cell?_alloc_past _ _ _ (by omega)).trans (hb5.cell (p := ⟨bq, 0, none⟩) hqs)).trans q0, by simp; omega, by omega, hbd⟩)
                case rest =>
                  obtain ⟨bm, rfl, hbm, hbms, hbq, hbqs, hbqm, hbd⟩ := hcut
                  have hHs1 := HS.out.g.lt
                  have hHs2 := HS.out.t.lt
                  have hq1s := (HS.out.g.blk (k := q1) rfl).2
                  have hq2s := (HS.out.t.blk (k := q2) rfl).2
                  have hsm := HS.out.tab.wf.seg s HOK.out.mem
                  have hc1 := HOK.out.cut.lo0
                  have hc2 := HOK.out.cut.le
                  have hc3 := HOK.out.cut.hi
                  have hc4 := HOK.out.cut.one
                  have hc5 := HOK.out.cut.most
                  have hh := HOK.out.host
                  have hne := HOK.out.ne
                  dsimp only at hc1 hc2 hc3 hc4 hc5
                  have hNm : N ≤ dg ∧ N ≤ dt := by have := HN.out; omega
                  have m0 : wc.cell? ⟨bm, 0, none⟩ = some (.int .u8 (gi : Int)) := by simp [World.cell?, hbm]
                  have m1 : wc.cell? ⟨bm, 1, none⟩ = some (.int .u8 0) := by simp [World.cell?, hbm]
                  have g1' : wc.frozen? ⟨bm, 1, none⟩ = false := by simp [World.frozen?, hbm]
                  obtain ⟨W4, hW4⟩ : ∃ W4, W4 = wc.setCell ⟨bm, 1, none⟩ (.int .u8 (ti : Int)) := ⟨_, rfl⟩
                  have hbm4 : W4.heap[bm]? = some (.cells #[.int .u8 (gi : Int), .int .u8 (ti : Int), .int .u64 mlo, .int .u64 mhi, .int .i64 mp] 62 (0, 0)) := by rw [hW4]; exact heap_setCell_at _ hbm
                  have n0 : (wc.setCell ⟨bm, 1, none⟩ (.int .u8 (ti : Int))).cell? ⟨bm, 0, none⟩ = some (.int .u8 (gi : Int)) := by rw [← hW4]; simp [World.cell?, hbm4]
                  have n1 : (wc.setCell ⟨bm, 1, none⟩ (.int .u8 (ti : Int))).cell? ⟨bm, 1, none⟩ = some (.int .u8 (ti : Int)) := by rw [← hW4]; simp [World.cell?, hbm4]
                  have n2 : (wc.setCell ⟨bm, 1, none⟩ (.int .u8 (ti : Int))).cell? ⟨bm, 2, none⟩ = some (.int .u64 mlo) := by rw [← hW4]; simp [World.cell?, hbm4]
                  have n3 : (wc.setCell ⟨bm, 1, none⟩ (.int .u8 (ti : Int))).cell? ⟨bm, 3, none⟩ = some (.int .u64 mhi) := by rw [← hW4]; simp [World.cell?, hbm4]
                  have n4 : (wc.setCell ⟨bm, 1, none⟩ (.int .u8 (ti : Int))).cell? ⟨bm, 4, none⟩ = some (.int .i64 mp) := by rw [← hW4]; simp [World.cell?, hbm4]
                  have hB4 : Below wr.heap.size wr W4 := by rw [hW4]; exact hbd.setCell (p := ⟨bm, 1, none⟩) hbms _
                  have has := assignP_any W4 (some ⟨lb, lo, none⟩) L.length lc L (gi : Int) (ti : Int) mlo mhi mp rfl hlc (by have := HS.out.sz; have := HS.out.fuel; omega) ((HS.out.segs.below hB4).mono hB4.size) HS.out.tab.wf (by omega) hc2 s HOK.out.atlo (by omega) (by rw [hh]; omega)
                  have HAS := hid has
                  have HW4 := hid hW4
                  have HBM4 := hid hbm4
                  have HB4 := hid hB4
                  clear has hW4 hbm4 hB4 hbm hbd hc1 hc2 hc3 hc4 hc5 hh hne hNm hsm
                  go_wp2_with fail
                  rw [← HW4.out]
                  refine HAS.out.mono ?_
                  rintro e w5 ⟨v5, rfl, hown5, hb5⟩
                  obtain ⟨lb', lo', rfl, hlb', hseg', hlc'⟩ : ∃ lb' lc', v5 = .slice (some ⟨lb', 0, none⟩) (Rng.withL L mlo mhi (ti : Int)).length lc' ∧ (W4.heap.size ≤ lb' ∧ lb' < w5.heap.size) ∧ Segs w5.heap.size w5 (some ⟨lb', 0, none⟩) (Rng.withL L mlo mhi (ti : Int)) ∧ (Rng.withL L mlo mhi (ti : Int)).length ≤ lc' := own_segs hown5 HOK.out.ok.wf.pos
                  have hbm5 := (hb5.block bm (by have := (Array.getElem?_eq_some_iff.1 HBM4.out).1; omega)).trans HBM4.out
                  have k0 : w5.cell? ⟨bm, 0, none⟩ = some (.int .u8 (gi : Int)) := by simp [World.cell?, hbm5]
                  have k1 : w5.cell? ⟨bm, 1, none⟩ = some (.int .u8 (ti : Int)) := by simp [World.cell?, hbm5]
                  have k2' : w5.cell? ⟨bm, 2, none⟩ = some (.int .u64 mlo) := by simp [World.cell?, hbm5]
                  have k3' : w5.cell? ⟨bm, 3, none⟩ = some (.int .u64 mhi) := by simp [World.cell?, hbm5]
                  have k4' : w5.cell? ⟨bm, 4, none⟩ = some (.int .i64 mp) := by simp [World.cell?, hbm5]
                  have hB5 := HB4.out.trans (hb5.mono HB4.out.size)
                  have HB5' := hid hB5
                  have HO5 : Hid (OwnMoves w5 w3.heap.size (.slice oA out.length oc) out) := hid (own_under HS.out.out hB5)
                  have HBM5 := hid hbm5
                  have HSG5 := hid hseg'
                  have HLB5 := hid hlb'
                  have hout : out.length ≤ 5000 := by have := HS.out.fuel; omega
                  clear hown5 hb5 hB5 hbm5 hseg' hlb' n0 n1 n2 n3 n4 m0 m1 g1'
                  have hoA : ∀ kk, oA.map Addr.block = some kk → kk < wr.heap.size := fun kk hkk => (HS.out.out.lt kk (by rw [SideAt.ownBlock_eq]; exact hkk)).2
                  have HOA := hid hoA
                  clear hoA
                  have HUG : Hid (∀ W, SideAt W w3.heap.size w3.heap.size (some ⟨q1, 0, none⟩) c1 (((gi : Int), dg) :: rg) → Calls Try.prog 57 #[.pointer (some ⟨w3.heap.size, 0, none⟩), .int .i64 mp] W fun e w' =>
                      ∃ z l', e = .returned z ∧ SideAt w' w3.heap.size w3.heap.size (some ⟨q1, 0, none⟩) c1 l' ∧ l'.Perm (if dg - mp = 0 then rg else ((gi : Int), dg - mp) :: rg) ∧ HeapFrom l' 0 l'.length ∧ TwoBy q1 w3.heap.size W w') := hid fun W hW =>
                    usedSide_any W w3.heap.size w3.heap.size c1 (some ⟨q1, 0, none⟩) _ (gi : Int) dg mp rg hW rfl (by rw [HS.out.gp.length_eq]; exact Nat.le_trans (gvK_len _ _) hH1) HS.out.gh (by have := HOK.out.cut.one; dsimp only at this; omega) (by have h5 := HOK.out.cut.most; dsimp only at h5; rw [HDG.out, HDT.out] at h5; omega) (by omega)
                  have HUT : Hid (∀ W, SideAt W w3.heap.size (w3.heap.size + 1) (some ⟨q2, 0, none⟩) c2 (((ti : Int), dt) :: rt) → Calls Try.prog 57 #[.pointer (some ⟨w3.heap.size + 1, 0, none⟩), .int .i64 mp] W fun e w' =>
                      ∃ z l', e = .returned z ∧ SideAt w' w3.heap.size (w3.heap.size + 1) (some ⟨q2, 0, none⟩) c2 l' ∧ l'.Perm (if dt - mp = 0 then rt else ((ti : Int), dt - mp) :: rt) ∧ HeapFrom l' 0 l'.length ∧ TwoBy q2 (w3.heap.size + 1) W w') := hid fun W hW =>
                    usedSide_any W w3.heap.size (w3.heap.size + 1) c2 (some ⟨q2, 0, none⟩) _ (ti : Int) dt mp rt hW rfl (by rw [HS.out.tp.length_eq]; exact Nat.le_trans (gvK_len _ _) hH1) HS.out.th (by have := HOK.out.cut.one; dsimp only at this; omega) (by have h5 := HOK.out.cut.most; dsimp only at h5; rw [HDG.out, HDT.out] at h5; omega) (by omega)
                  have HMB := hid hbms
                  go_wp2_with (at_builtin; refine wpList_append_one (enc := encMove) w5 w3.heap.size rfl _ _ 41 62 _ 32 rfl Try.underlying41 infoMove rfl (by decide) encMove_len encMove_one (.slice oA out.length oc) out ⟨(gi : Int), (ti : Int), mlo, mhi, mp⟩ _ rfl rfl _ rfl (by simp) HO5.out (by simp only [maxLen]; omega) (by omega) (by have := HB5'.out.size; have := HS.out.bel.size; omega) ?_; intro v6 w6 hown6 hgr6 hat6; have j4 : w6.cell? ⟨bm, 4, none⟩ = some (.int .i64 mp) := (World.cell?_of_block (a := ⟨bm, 4, none⟩) (hgr6.block bm (by have := (Array.getElem?_eq_some_iff.1 HBM5.out).1; omega) (fun e => by rw [SideAt.ownBlock_eq] at e; have := HOA.out bm e.symm; omega))).trans k4'; have HOW6 := hid hown6; have HGR6 := hid hgr6; have HAT6 := hid hat6; clear hown6 hgr6 hat6)
                  have hb56 := HB5'.out
                  have ho6 : ∀ kk, kk < wr.heap.size → oA.map Addr.block ≠ some kk → w6.heap[kk]? = wr.heap[kk]? := fun kk h1 h2 => (HGR6.out.block kk (by have := hb56.size; omega) (fun e => h2 (by rw [SideAt.ownBlock_eq] at e; exact e.symm))).trans (hb56.block kk h1)
                  have hoc := HS.out.safeO
                  have hg6 : SideAt w6 w3.heap.size w3.heap.size (some ⟨q1, 0, none⟩) c1 (((gi : Int), dg) :: rg) := HS.out.g.keptB (ho6 _ hHs1 (fun e => (hoc _ e).1 rfl)) (fun kk hk => ho6 kk (HS.out.g.blk hk).2 (fun e => (hoc _ e).2.2.1 hk))
                  have ht6 : SideAt w6 w3.heap.size (w3.heap.size + 1) (some ⟨q2, 0, none⟩) c2 (((ti : Int), dt) :: rt) := HS.out.t.keptB (ho6 _ hHs2 (fun e => (hoc _ e).2.1 rfl)) (fun kk hk => ho6 kk (HS.out.t.blk hk).2 (fun e => (hoc _ e).2.2.2 hk))
                  have hap := HAP.out
                  have HG6 := hid (HUG.out w6 hg6)
                  have HT6 := hid ht6
                  have HO6 := hid ho6
                  clear hb56 ho6 hoc hg6 ht6 hap
                  refine HG6.out.mono ?_
                  rintro e w7' ⟨z7', gl', rfl, hsg7, hpg7, hhg7, htw7⟩
                  have j4' : w7'.cell? ⟨bm, 4, none⟩ = some (.int .i64 mp) := (World.cell?_of_block (a := ⟨bm, 4, none⟩) (htw7.block bm (by have := HGR6.out.size; have := (Array.getElem?_eq_some_iff.1 HBM5.out).1; omega) (by have := HMB.out; omega) (by have := HMB.out; omega))).trans j4
                  have ht7 : SideAt w7' w3.heap.size (w3.heap.size + 1) (some ⟨q2, 0, none⟩) c2 (((ti : Int), dt) :: rt) := HT6.out.keptB (htw7.block _ HT6.out.lt (fun e => HAP.out.a1 (by rw [e]; rfl)) (by omega)) (fun kk hk => htw7.block kk (HT6.out.blk hk).2 (fun e => HAP.out.aa kk (by rw [e]; rfl) hk) (fun e => HAP.out.a2 (by rw [← e]; exact hk)))
                  have HUT7 := hid (HUT.out w7' ht7)
                  have HSG7 := hid hsg7
                  have HPG7 := hid hpg7
                  have HHG7 := hid hhg7
                  have HTW7 := hid htw7
                  clear j4 hsg7 hpg7 hhg7 htw7 ht7
                  go_wp2_with fail
                  refine HUT7.out.mono ?_
                  rintro e w8 ⟨z8, tl', rfl, hst8, hpt8, hht8, htw8⟩
                  have HST8 := hid hst8
                  have HPT8 := hid hpt8
                  have HHT8 := hid hht8
                  have HTW8 := hid htw8
                  clear j4' hst8 hpt8 hht8 htw8
                  go_wp2_with fail
                  obtain ⟨f', rfl⟩ : ∃ f', f = f' + 1 := ⟨f - 1, by have := HS.out.more; omega⟩
                  go_roundg f'
                  case measure => omega
                  case rel =>
                    have hov := HOK.out.over
                    dsimp only at hov
                    have hne := HOK.out.ne
                    have hp1 := HOK.out.cut.one
                    have hp2 := HOK.out.cut.most
                    dsimp only at hp1 hp2
                    rw [HDG.out, HDT.out] at hp2
                    have hog := HDG.out
                    have hot : overL ks (wantL k L0 ks) L ti = - dt := by have := HDT.out; omega
                    have gp0 := HS.out.gp
                    have tp0 := HS.out.tp
                    have gp' : gl'.Perm (gvK (overL ks (wantL k L0 ks) (Rng.withL L mlo mhi (ti : Int))) k) := by
                      refine HPG7.out.trans (gv_upd (e := overL ks (wantL k L0 ks) L) ho3 (by omega) (by rw [hov, if_neg hne, if_pos rfl, hog]; omega) (by omega) (fun h hh hhg => ?_) (by rw [hog]; exact gp0))
                      rw [hov, if_neg hhg]
                      by_cases e : h = ti
                      · subst e; rw [if_pos rfl, hot]; omega
                      · rw [if_neg e]; omega
                    have tp' : tl'.Perm (gvK (fun h => - overL ks (wantL k L0 ks) (Rng.withL L mlo mhi (ti : Int)) h) k) := by
                      refine HPT8.out.trans (gv_upd (e := fun h => - overL ks (wantL k L0 ks) L h) ho4 (by omega) (by rw [hov, if_pos rfl, if_neg (Ne.symm hne), hot]; omega) (by omega) (fun h hh hhg => ?_) (by rw [hot, Int.neg_neg]; exact tp0))
                      rw [hov, if_neg hhg]
                      by_cases e : h = gi
                      · subst e; rw [if_pos rfl, hog]; omega
                      · rw [if_neg e]; omega
                    have hlen : (out ++ [(⟨(gi : Int), (ti : Int), mlo, mhi, mp⟩ : MoveL)]).length = out.length + 1 := by simp
                    obtain ⟨_, oA', oc', rfl, _, _, _⟩ := owns_reads (l := out ++ [(⟨(gi : Int), (ti : Int), mlo, mhi, mp⟩ : MoveL)]) encMove_len HOW6.out (by decide)
                    have hs5 := HB5'.out.size
                    have hs6 := HGR6.out.size
                    have hs7 := HTW7.out.size
                    have hs8 := HTW8.out.size
                    have hb4s := HB4.out.size
                    have hlb1 := HLB5.out.1
                    have hlb2 := HLB5.out.2
                    have hat := HAT6.out
                    rw [SideAt.ownBlock_eq, SideAt.ownBlock_eq] at hat
                    have hoa : ∀ kk, oA'.map Addr.block = some kk → (oA.map Addr.block = some kk ∨ w5.heap.size ≤ kk) := fun kk hkk => by
                      rcases hat with e | ⟨b, e, hb⟩
                      · exact .inl (e.symm.trans hkk)
                      · rw [hkk] at e; injection e with e; exact .inr (by omega)
                    have hso : ∀ kk, oA'.map Addr.block = some kk → kk ≠ w3.heap.size ∧ kk ≠ w3.heap.size + 1 ∧ kk ≠ q1 ∧ kk ≠ q2 := fun kk hkk => by
                      rcases hoa kk hkk with e | e
                      · obtain ⟨a1, a2, a3, a4⟩ := HS.out.safeO kk e
                        exact ⟨a1, a2, fun e => a3 (by rw [e]; rfl), fun e => a4 (by rw [e]; rfl)⟩
                      · omega
                    have hkp : ∀ kk, kk < w6.heap.size → kk ≠ w3.heap.size → kk ≠ w3.heap.size + 1 → kk ≠ q1 → kk ≠ q2 → w8.heap[kk]? = w6.heap[kk]? := fun kk h1 h2 h3 h4 h5 =>
                      (HTW8.out.block kk (by omega) h5 h3).trans (HTW7.out.block kk h1 h4 h2)
                    have hseg8 : Segs w8.heap.size w8 (some ⟨lb', 0, none⟩) (Rng.withL L mlo mhi (ti : Int)) := by
                      refine (reads_keep (HSG5.out) ?_).mono (by omega)
                      refine (hkp lb' (by omega) (by omega) (by omega) (by omega) (by omega)).trans (HGR6.out.block lb' (by omega) (fun e => ?_))
                      rw [SideAt.ownBlock_eq] at e
                      have := HOA.out lb' e.symm
                      omega
                    have hg8 : SideAt w8 w3.heap.size w3.heap.size (some ⟨q1, 0, none⟩) c1 gl' := HSG7.out.keptB (HTW8.out.block _ HSG7.out.lt (fun e => HAP.out.a2 (by rw [← e]; rfl)) (by omega)) (fun kk hk => HTW8.out.block kk (HSG7.out.blk hk).2 (fun e => HAP.out.aa kk hk (by rw [e]; rfl)) (fun e => HAP.out.a1 (by rw [← e]; exact hk)))
                    have hq1b := (HS.out.g.blk (k := q1) rfl).1
                    have hq2b := (HS.out.t.blk (k := q2) rfl).1
                    refine ⟨f', _, gl', tl', _, lb', 0, lo', oA', oc', rfl, by rw [hlen], Nat.le_refl _, hlc', hid ⟨HOK.out.ok, hseg8, ?_, ?_, ?_, ?_, hg8, HST8.out, gp', tp', HHG7.out, HHT8.out, ?_, ?_, ⟨by omega, by omega, fun e => ?_, fun e => ?_, fun e => ?_⟩, fun kk hkk => ?_⟩⟩
                    · have a1 := HOK.out.len
                      have a2 := HS.out.sz
                      rw [hlen]; omega
                    · have := HS.out.fuel
                      rw [hlen]; omega
                    · have a1 := HOK.out.less
                      have a2 := HS.out.more
                      omega
                    · rw [HS.out.all]
                      conv => lhs; rw [movesL]
                      rw [HMV.out]
                      simp
                    · exact own_keep HOW6.out (w' := w8) (fun kk hk => by
                        rw [SideAt.ownBlock_eq] at hk
                        obtain ⟨a1, a2, a3, a4⟩ := hso kk hk
                        exact hkp kk (by have := (HOW6.out.lt kk (by rw [SideAt.ownBlock_eq]; exact hk)).2; omega) a1 a2 a3 a4)
                    · have hb := HS.out.bel.trans (HB5'.out.mono HS.out.bel.size)
                      have hb6 := hb.grown HGR6.out hb.size (fun kk hk => (HS.out.out.lt kk hk).1)
                      have hb7 := HTW7.out.below hb6 hq1b (Nat.le_refl _) hb6.size
                      exact HTW8.out.below hb7 hq2b (by omega) hb7.size
                    · injection e with e; have : q1 = lb' := e; omega
                    · injection e with e; have : q2 = lb' := e; omega
                    · rcases hoa lb' e with e2 | e2
                      · have := HOA.out lb' e2; omega
                      · omega
                    · obtain ⟨a1, a2, a3, a4⟩ := hso kk hkk
                      exact ⟨a1, a2, fun e => a3 (by injection e with e; exact e.symm), fun e => a4 (by injection e with e; exact e.symm)⟩
end Go.Proofs.Ytpkcccphoolapaa
