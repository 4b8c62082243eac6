/- Layer 6: steps of a script; good; the walk of RangePrice. -/
import Derived.Test.YtefdbhmjbfpeoaaRngE
namespace Go.Proofs.Ytefdbhmjbfpeoaa
open Go.RowKit

structure StepL where
  kind : Int
  lo : Int
  hi : Int
  host : Int
def encStep (s : StepL) : List Value := [.int .i64 s.kind, .int .u64 s.lo, .int .u64 s.hi, .int .u8 s.host]
def okStep (s : StepL) : Prop := 0 ≤ s.lo ∧ s.lo ≤ maxK ∧ 0 ≤ s.hi ∧ s.hi ≤ maxK ∧ 0 ≤ s.host ∧ s.host ≤ 255

theorem Steps.at4 {B : Nat} {w : World} {A : Option Addr} {l : List StepL} (h : Reads B w encStep 4 A l) (i : Nat) (hi : i < l.length) :
    ∃ b off s, Hid (l[i]? = some s) ∧ A = some ⟨b, off, none⟩ ∧ b < B ∧ w.cell? ⟨b, off + i * 4, none⟩ = some (.int .i64 s.kind) ∧ w.cell? ⟨b, off + i * 4 + 1, none⟩ = some (.int .u64 s.lo) ∧ w.cell? ⟨b, off + i * 4 + 2, none⟩ = some (.int .u64 s.hi) ∧ w.cell? ⟨b, off + i * 4 + 3, none⟩ = some (.int .u8 s.host) := by
  obtain ⟨b, off, s, hs, hA, hb, hc⟩ := h.at i hi
  exact ⟨b, off, s, hs, hA, hb, hc 0 _ rfl, hc 1 _ rfl, hc 2 _ rfl, hc 3 _ rfl⟩

theorem good_any (w : World) (k lo hi host : Int) : Calls Try.prog 13 #[.agg #[.int .i64 k, .int .u64 lo, .int .u64 hi, .int .u8 host]] w fun e w' =>
    e = .returned (.bool (decide (lo ≤ hi) && decide (host ≤ 15))) ∧ Below w.heap.size w w' := by
  by_cases h : lo ≤ hi
  · go_enter Try.func13, Try.ntmps13
    go_wp2
    go_ret
    exact ⟨ret_bool (by simp [h]), (Below.refl _ _).alloc (Nat.le_refl _) _⟩
  · go_enter Try.func13, Try.ntmps13
    go_wp2
    go_ret
    exact ⟨ret_bool (by simp; omega), (Below.refl _ _).alloc (Nat.le_refl _) _⟩

theorem WF_one (owner : Int) (h0 : 0 ≤ owner) (h1 : owner < 16) : Rng.WF [⟨0, maxK, owner⟩] := by
  refine ⟨⟨rfl, ?_, rfl⟩, trivial, ?_⟩
  · show (0 : Int) ≤ maxK; rw [maxK_eq]; omega
  · intro s hs; simp at hs; subst hs; exact ⟨h0, h1⟩

/-- What is known of a price and of what comes of it. -/
def PriceFacts (t : List Seg) (limit lo hi owner : Int) (cc : Int × Int) (aa : Int × List Seg) : Prop :=
  ((lo ≤ hi ∧ owner ≤ 15) → cc.2 = 0 ∧ 1 - (t.length : Int) ≤ cc.1 ∧ cc.1 ≤ 2 ∧
    (limit < t.length + cc.1 → aa = (61, t)) ∧ (¬ limit < t.length + cc.1 → aa.1 = 0 ∧ Rng.WF aa.2 ∧ (aa.2.length : Int) = t.length + cc.1 ∧ costL aa.2 lo hi owner = (0, 0))) ∧
  (¬ (lo ≤ hi ∧ owner ≤ 15) → cc.1 = 0 ∧ cc.2 ≠ 0 ∧ aa = (cc.2, t))

theorem price_facts {t : List Seg} {limit lo hi owner : Int} (hW : Rng.WF t) (h0 : 0 ≤ lo) (h2 : hi ≤ maxK) (h3 : 0 ≤ owner) :
    PriceFacts t limit lo hi owner (costL t lo hi owner) (assignL t limit lo hi owner) := by
  refine ⟨fun hg => ?_, fun hb => ?_⟩
  · obtain ⟨w1, k1, k2⟩ := Rng.withL_spec hW h0 hg.1 h2 h3 (by omega)
    have hcc : costL t lo hi owner = (((Rng.withL t lo hi owner).length : Int) - t.length, 0) := by unfold costL; rw [if_neg (by omega), if_neg (by omega)]
    have hp := w1.pos
    rw [hcc]
    refine ⟨rfl, by simp only; omega, by simp only; omega, fun hl => ?_, fun hl => ?_⟩
    · unfold assignL; rw [hcc]; rw [if_neg (by simp), if_pos hl]
    · have ea : assignL t limit lo hi owner = (0, Rng.withL t lo hi owner) := by unfold assignL; rw [hcc]; rw [if_neg (by simp), if_neg hl]
      rw [ea]
      refine ⟨rfl, w1, by simp only; omega, ?_⟩
      unfold costL
      rw [if_neg (by omega), if_neg (by omega), Rng.withL_again hW h0 hg.1 h2 h3 (by omega)]
      simp
  · by_cases a : hi < lo
    · have hcc : costL t lo hi owner = (0, 60) := by unfold costL; rw [if_pos a]
      unfold assignL; rw [hcc]; simp
    · have hcc : costL t lo hi owner = (0, 2) := by unfold costL; rw [if_neg a, if_pos (by omega)]
      unfold assignL; rw [hcc]; simp

set_option maxRecDepth 100000 in
set_option maxHeartbeats 4000000 in
theorem rangePrice_walk (w : World) (owner limit : Int) (A : Option Addr) (n c : Nat) (l : List StepL) (hw0 : (Lit.int .u8 owner).wf = true) (_ : (Lit.int .i64 limit).wf = true) (hl : l.length = n) (_ : n ≤ c) (_ : c ≤ maxLen) (hok : ∀ x ∈ l, okStep x) (hbytes : n * 32 ≤ 140737488351232)
    (hR : Reads w.heap.size w encStep 4 A l) :
    Calls Try.prog 3 #[.int .u8 owner, .int .i64 limit, .slice A n c] w fun e w' => e = .returned (.bool true) ∧ Below w.heap.size w w' := by
  subst hl
  have ho0 : 0 ≤ owner ∧ owner ≤ 255 := by simpa [Lit.wf, IntKind.min, IntKind.max, IntKind.signed, IntKind.bits] using hw0
  by_cases h1 : 15 < owner
  · go_enter Try.func3, Try.ntmps3
    go_wp2
    go_ret
    exact ⟨rfl, Below.refl _ _⟩
  by_cases h2 : limit < 1
  · go_enter Try.func3, Try.ntmps3
    go_wp2
    go_ret
    exact ⟨rfl, Below.refl _ _⟩
  by_cases h3 : 8192 < limit
  · go_enter Try.func3, Try.ntmps3
    go_wp2
    go_ret
    exact ⟨rfl, Below.refl _ _⟩
  have HR := hid hR
  have HO := hid hok
  clear hR hok hw0
  have hnew := new_ok w owner limit (by omega) (by omega) (by omega)
  go_enter Try.func3, Try.ntmps3
  go_wp2_with (first | (go_at_call 8; refine hnew.mono ?_; rintro e w1 ⟨rfl, hb1, ht1⟩) | (go_at_call 9; refine (num6_any _ _).mono ?_; rintro e w' ⟨rfl, rfl⟩))
  obtain ⟨T, hTe⟩ : ∃ T, T = w.heap.size + 1 := ⟨_, rfl⟩
  rw [← hTe]
  rw [← hTe] at ht1
  have hTw : w.heap.size ≤ T := by omega
  have HT1 := hid ht1
  have HW1 := hid (WF_one owner (by omega) (by omega))
  clear ht1 hnew hTe
  go_loopw [9] (fun i wr => ∃ (k : Nat) (t : List Seg), k ≤ l.length ∧ i = .int .i64 k ∧ Hid (IsTab wr T limit t) ∧ Hid (Rng.WF t) ∧ (t.length : Int) ≤ limit ∧ Below w.heap.size w wr) (fun i _ => l.length - (intOf i).toNat)
  case atStart => exact ⟨0, _, Nat.zero_le _, rfl, HT1, HW1, by simp; omega, hb1⟩
  case round =>
    obtain ⟨k, t, hk, rfl, HT, HW, htl, hbr⟩ := hrel
    by_cases hlt : k < l.length
    · obtain ⟨b, off, s, hs, rfl, hb, c0, c1, c2, c3⟩ := Steps.at4 HR.out k hlt
      have hoks := HO.out s (List.mem_of_getElem? hs.out)
      unfold okStep at hoks
      have hbr2 : b < wr.heap.size := Nat.lt_of_lt_of_le hb hbr.size
      replace c0 := Tfact hbr (a := ⟨b, _, none⟩) hb c0
      replace c1 := Tfact hbr (a := ⟨b, _, none⟩) hb c1
      replace c2 := Tfact hbr (a := ⟨b, _, none⟩) hb c2
      replace c3 := Tfact hbr (a := ⟨b, _, none⟩) hb c3
      have hkn : (k : Int) < l.length := by omega
      obtain ⟨sk, slo, shi, sh⟩ := s
      simp only at c0 c1 c2 c3 hoks
      obtain ⟨o1, o2, o3, o4, o5, o6⟩ := hoks
      obtain ⟨W, hW⟩ : ∃ W, W = wr.alloc (.cells #[.int .i64 sk, .int .u64 slo, .int .u64 shi, .int .u8 sh] 31) := ⟨_, rfl⟩
      have hRow : Row W wr.heap.size [.int .i64 sk, .int .u64 slo, .int .u64 shi, .int .u8 sh] := by rw [hW]; exact Row.new wr [.int .i64 sk, .int .u64 slo, .int .u64 shi, .int .u8 sh] _
      have hBW : Below wr.heap.size wr W := by rw [hW]; exact (Below.refl _ _).alloc (Nat.le_refl _) _
      have hTW := HT.out.below hBW
      have hBW2 : Below w.heap.size w W := hbr.trans (hBW.mono hbr.size)
      have hne : some wr.heap.size ≠ some T := fun e => Nat.ne_of_lt HT.out.lt (Option.some.inj e).symm
      have HWd := hid hW
      clear hW
      generalize hNB : wr.heap.size = NB at *
      have htm : t.length ≤ 1000000000 := by omega
      have hcost := price_facts (limit := limit) HW.out (lo := slo) (hi := shi) (owner := sh) o1 o4 o5
      have hC := fun w h => cost_any w T limit t slo shi sh h HW.out htm o1 o4 o5
      have hA := fun w h => assign_any w T limit t slo shi sh h HW.out htm o1 o4 o5
      generalize costL t slo shi sh = cc at *
      obtain ⟨cx, ce⟩ := cc
      generalize assignL t limit slo shi sh = aa at *
      obtain ⟨ae, t'⟩ := aa
      simp only at hcost hC hA
      have HCO := hid hcost
      have HCC := hid hC
      have HAA := hid hA
      clear hcost hC hA
      have hr4 := hRow.four
      obtain ⟨r0, r1, r2, r3⟩ := hr4
      go_wp2_with fail
      rw [← HWd.out]
      refine (len_any W T limit t hTW).mono ?_
      rintro e w' ⟨rfl, rfl⟩
      go_wp2_with fail
      refine (HCC.out W hTW).mono ?_
      rintro e w2 ⟨rfl, hb2⟩
      have hT2 := hTW.below hb2
      have hRow2 := hRow.below hb2
      have hB2 := hBW2.trans (hb2.mono hBW2.size)
      clear hRow hb2 hTW hBW2 r0 r1 r2 r3 hBW
      obtain ⟨r0, r1, r2, r3⟩ := hRow2.four
      go_wp2_with fail
      refine (HAA.out w2 hT2).mono ?_
      rintro e w3 ⟨rfl, ht3, hg3⟩
      have hRow3 := hRow2.grown hg3 hne
      have hB3 := hB2.grown hg3 hB2.size (by intro k hk; cases hk; exact hTw)
      clear hRow2 hg3 hT2 hB2 r0 r1 r2 r3
      go_wp2_with fail
      refine (len_any w3 T limit t' ht3).mono ?_
      rintro e w' ⟨rfl, rfl⟩
      obtain ⟨r0, r1, r2, r3⟩ := hRow3.four
      go_wp2_with fail
      refine (good_any w3 sk slo shi sh).mono ?_
      rintro e w4 ⟨rfl, hb4⟩
      have hT4 := ht3.below hb4
      have hRow4 := hRow3.below hb4
      have hB4 := hB3.trans (hb4.mono hB3.size)
      clear hRow3 hb4 ht3 hB3 r0 r1 r2 r3
      have HT4 := hid hT4
      have HR4 := hid hRow4
      clear hRow4 hT4
      by_cases hg : slo ≤ shi ∧ sh ≤ 15
      · have hgb : (decide (slo ≤ shi) && decide (sh ≤ 15)) = true := by simp [hg.1, hg.2]
        obtain ⟨f1, f2, f3, f4, f5⟩ := HCO.out.1 hg
        have f1 : ce = 0 := f1
        have b1 : (ce != 0) = false := by simp [f1]
        have f2 : 1 - (t.length : Int) ≤ cx := f2
        have f3 : cx ≤ 2 := f3
        clear f1
        by_cases hl : limit < (t.length : Int) + cx
        · have f4 := f4 hl
          have g1 : ae = 61 := (Prod.mk.inj f4).1
          have g2 : t' = t := (Prod.mk.inj f4).2
          have b2 : (ae == 0) = false := by simp [g1]
          have b3 : (ae != 0) = true := by simp [g1]
          have b4 : (ae != 61) = false := by simp [g1]
          have b5 : ((t'.length : Int) != (t.length : Int)) = false := by simp [g2]
          have G2 := hid g2
          clear f4 f5 g1 g2 hg
          go_wp2_with (go_at_call 9; refine (num6_any _ _).mono ?_; rintro e w' ⟨rfl, rfl⟩)
          go_roundw
          case rel => exact ⟨k + 1, t, by omega, by go_num, by rw [← G2.out]; exact HT4, HW, htl, hB4⟩
          case measure => simp [intOf]; omega
        · obtain ⟨g1, g2, g3, g4⟩ := f5 hl
          have g1 : ae = 0 := g1
          have b2 : (ae == 0) = true := by simp [g1]
          have b3 : (ae != 0) = false := by simp [g1]
          have g3 : (t'.length : Int) = t.length + cx := g3
          have b5 : ((t'.length : Int) != (t.length : Int) + cx) = false := by simp [g3]
          have htl' : (t'.length : Int) ≤ limit := by omega
          have hcc := cost_any w4 T limit t' slo shi sh HT4.out g2 (by omega) o1 o4 o5
          have g4 : costL t' slo shi sh = (0, 0) := g4
          rw [g4] at hcc
          have hl' : (t.length : Int) + cx ≤ limit := by omega
          have HW' := hid g2
          obtain ⟨r0, r1, r2, r3⟩ := HR4.out.four
          clear f4 f5 g1 g2 g3 g4 hg hl
          go_wp2_with (first | (go_at_call 9; refine (num6_any _ _).mono ?_; rintro e w' ⟨rfl, rfl⟩) | (go_at_call 11; refine hcc.mono ?_; rintro e w5 ⟨rfl, hb5⟩))
          go_roundw
          case rel => exact ⟨k + 1, t', by omega, by go_num, HT4.out.below hb5, HW', htl', hB4.trans (hb5.mono hB4.size)⟩
          case measure => simp [intOf]; omega
      · have hgb : (decide (slo ≤ shi) && decide (sh ≤ 15)) = false := by simp; omega
        obtain ⟨f1, f2, f3⟩ := HCO.out.2 hg
        have f1 : cx = 0 := f1
        have f2 : ce ≠ 0 := f2
        have g1 : ae = ce := (Prod.mk.inj f3).1
        have g2 : t' = t := (Prod.mk.inj f3).2
        have b1 : (ce == 0) = false := by simpa using f2
        have b2 : (ae != ce) = false := by simp [g1]
        have b3 : (cx != 0) = false := by simp [f1]
        have b5 : ((t'.length : Int) != (t.length : Int)) = false := by simp [g2]
        have G2 := hid g2
        clear f1 f2 f3 g1 g2 hg
        go_wp2_with (go_at_call 9; refine (num6_any _ _).mono ?_; rintro e w' ⟨rfl, rfl⟩)
        go_roundw
        case rel => exact ⟨k + 1, t, by omega, by go_num, by rw [← G2.out]; exact HT4, HW, htl, hB4⟩
        case measure => simp [intOf]; omega
    · go_wp2
      go_ret
      exact ⟨rfl, hbr⟩
end Go.Proofs.Ytefdbhmjbfpeoaa
