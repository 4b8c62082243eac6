/- Layer 6: the walk of RangePoint. -/
import Derived.Test.YtefdbhmjbfpeoaaRngG
namespace Go.Proofs.Ytefdbhmjbfpeoaa
open Go.RowKit

/-- What comes of an Assign where there is room enough, for one key. -/
theorem point_facts {t : List Seg} {limit lo hi owner key holder : Int} (hW : Rng.WF t) (h0 : 0 ≤ lo) (h2 : hi ≤ maxK) (h3 : 0 ≤ owner) (hroom : (t.length : Int) + 2 ≤ limit) (hh : Rng.Has t key holder) (hk0 : 0 ≤ key) (hk1 : key ≤ maxK) (hho : 0 ≤ holder ∧ holder < 16) :
    ∃ okb : Bool, (decide (lo ≤ hi) && decide (owner ≤ 15)) = okb ∧ ((assignL t limit lo hi owner).1 == 0) = okb ∧ Rng.WF (assignL t limit lo hi owner).2 ∧ ((assignL t limit lo hi owner).2.length : Int) ≤ t.length + 2 ∧
      ∃ h' : Int, (0 ≤ h' ∧ h' < 16) ∧ h' = (if (okb = true ∧ lo ≤ key) ∧ key ≤ hi then owner else holder) ∧ Rng.Has (assignL t limit lo hi owner).2 key h' ∧
        ∃ s, (assignL t limit lo hi owner).2[Rng.at' (assignL t limit lo hi owner).2 key]? = some s ∧ s.host = h' ∧ s.lo ≤ key ∧ key ≤ s.hi := by
  have seg : ∀ {l : List Seg} {x : Int}, Rng.WF l → Rng.Has l key x → ∃ s, l[Rng.at' l key]? = some s ∧ s.host = x ∧ s.lo ≤ key ∧ key ≤ s.hi := by
    intro l x hl hx
    obtain ⟨s, s1, s2, s3, _⟩ := Rng.at_split hl.tiles hk0 (show key < maxK + 1 by omega)
    exact ⟨s, s1, Rng.tile_unique hl.tiles ⟨s, List.mem_of_getElem? s1, s2, s3, rfl⟩ hx, s2, s3⟩
  obtain ⟨pg, pb⟩ := price_facts (limit := limit) hW h0 h2 h3
  by_cases hg : lo ≤ hi ∧ owner ≤ 15
  · obtain ⟨_, _, f3, _, f5⟩ := pg hg
    obtain ⟨g1, g2, g3, _⟩ := f5 (by omega)
    refine ⟨true, by simp [hg.1, hg.2], by simp [g1], g2, by omega, (if lo ≤ key ∧ key ≤ hi then owner else holder), by split <;> omega, by simp, ?_⟩
    have hx : Rng.Has (assignL t limit lo hi owner).2 key (if lo ≤ key ∧ key ≤ hi then owner else holder) := by
      have ea : (assignL t limit lo hi owner).2 = Rng.withL t lo hi owner := by
        unfold assignL
        have c1 : (costL t lo hi owner).2 = 0 := by unfold costL; rw [if_neg (by omega), if_neg (by omega)]
        rw [if_neg (by simpa using c1), if_neg (by omega)]
      rw [ea]
      obtain ⟨w1, k1, _⟩ := Rng.withL_spec hW h0 hg.1 h2 h3 (by omega)
      obtain ⟨y, hy⟩ := Rng.tile_has w1.tiles key hk0 (by omega)
      rcases k1 key y hy with ⟨a, b, e⟩ | ⟨a, b⟩
      · rw [if_pos ⟨a, b⟩, ← e]; exact e ▸ hy
      · rw [if_neg a, ← Rng.tile_unique hW.tiles b hh]; exact hy
    exact ⟨hx, seg g2 hx⟩
  · obtain ⟨_, f2, f3⟩ := pb hg
    rw [f3]
    refine ⟨false, by simp; omega, by simpa using f2, hW, by simp only; omega, holder, hho, by simp, hh, seg hW hh⟩

set_option maxRecDepth 100000 in
set_option maxHeartbeats 4000000 in
theorem rangePoint_walk (w : World) (owner : Int) (A : Option Addr) (n c : Nat) (l : List StepL) (key : Int) (hw0 : (Lit.int .u8 owner).wf = true) (hl : l.length = n) (_ : n ≤ c) (_ : c ≤ maxLen) (hok : ∀ x ∈ l, okStep x) (hbytes : n * 32 ≤ 140737488351232)
    (hR : Reads w.heap.size w encStep 4 A l) (hw1 : (Lit.int .u64 key).wf = true) :
    Calls Try.prog 4 #[.int .u8 owner, .slice A n c, .int .u64 key] w fun e w' => e = .returned (.bool true) ∧ Below w.heap.size w w' := by
  subst hl
  have ho0 : 0 ≤ owner ∧ owner ≤ 255 := by simpa [Lit.wf, IntKind.min, IntKind.max, IntKind.signed, IntKind.bits] using hw0
  have hk0 : 0 ≤ key ∧ key ≤ maxK := by rw [maxK_eq]; simpa [Lit.wf, IntKind.min, IntKind.max, IntKind.signed, IntKind.bits] using hw1
  clear hw0 hw1
  by_cases h1 : 15 < owner
  · go_enter Try.func4, Try.ntmps4
    go_wp2
    go_ret
    exact ⟨rfl, Below.refl _ _⟩
  by_cases h2 : (4095 : Int) < l.length
  · go_enter Try.func4, Try.ntmps4
    go_wp2
    go_ret
    exact ⟨rfl, Below.refl _ _⟩
  have HR := hid hR
  have HO := hid hok
  clear hR hok
  have hnew := new_ok w owner (2 * (l.length : Int) + 1) (by omega) (by omega) (by omega)
  have hnew' := new_ok w owner (1 + 2 * (l.length : Int)) (by omega) (by omega) (by omega)
  go_enter Try.func4, Try.ntmps4
  go_wp2_with fail
  refine hnew'.mono ?_
  rintro e w1 ⟨rfl, hb1, ht1⟩
  go_wp2_with (go_at_call 9; refine (num6_any _ _).mono ?_; rintro e w' ⟨rfl, rfl⟩)
  obtain ⟨T, hTe⟩ : ∃ T, T = w.heap.size + 1 := ⟨_, rfl⟩
  rw [← hTe]
  rw [← hTe] at ht1
  have hTw : w.heap.size ≤ T := by omega
  have HT1 := hid ht1
  have HW1 := hid (WF_one owner (by omega) (by omega))
  have HH1 : Hid (Rng.Has [⟨0, maxK, owner⟩] key owner) := ⟨_, List.mem_singleton.2 rfl, hk0.1, hk0.2, rfl⟩
  obtain ⟨limit, hlim⟩ : ∃ x, x = 1 + 2 * (l.length : Int) := ⟨_, rfl⟩
  rw [← hlim] at HT1
  have HL := hid hlim
  have ho1 := ho0.1
  have ho2 : owner < 16 := by omega
  clear ht1 hnew hnew' hTe hlim ho0
  go_loopw [9, 10] (fun h9 i wr => ∃ (k : Nat) (t : List Seg) (h : Int), k ≤ l.length ∧ i = .int .i64 k ∧ h9 = .int .u8 h ∧ Hid (IsTab wr T limit t) ∧ Hid (Rng.WF t) ∧ Hid ((t.length : Int) ≤ 1 + 2 * k) ∧ Hid (Rng.Has t key h) ∧ Hid (0 ≤ h ∧ h < 16) ∧ Below w.heap.size w wr) (fun _ i _ => l.length - (intOf i).toNat)
  case atStart => exact ⟨0, _, owner, Nat.zero_le _, rfl, rfl, HT1, HW1, by show _ ≤ _; simp, HH1, ⟨ho1, ho2⟩, hb1⟩
  case round =>
    obtain ⟨k, t, h, hk, rfl, rfl, HT, HW, HTL, HH, HHO, hbr⟩ := hrel
    by_cases hlt : k < l.length
    · obtain ⟨b, off, s, hs, rfl, hb, c0, c1, c2, c3⟩ := Steps.at4 HR.out k hlt
      have hoks := HO.out s (List.mem_of_getElem? hs.out)
      unfold okStep at hoks
      have hbr2 : b < wr.heap.size := Nat.lt_of_lt_of_le hb hbr.size
      replace c0 := Tfact hbr (a := ⟨b, _, none⟩) hb c0
      replace c1 := Tfact hbr (a := ⟨b, _, none⟩) hb c1
      replace c2 := Tfact hbr (a := ⟨b, _, none⟩) hb c2
      replace c3 := Tfact hbr (a := ⟨b, _, none⟩) hb c3
      have hkn : (k : Int) < l.length := by omega
      obtain ⟨sk, slo, shi, sh⟩ := s
      simp only at c0 c1 c2 c3 hoks
      obtain ⟨o1, o2, o3, o4, o5, o6⟩ := hoks
      obtain ⟨W, hW⟩ : ∃ W, W = wr.alloc (.cells #[.int .i64 sk, .int .u64 slo, .int .u64 shi, .int .u8 sh] 31) := ⟨_, rfl⟩
      have hRow : Row W wr.heap.size [.int .i64 sk, .int .u64 slo, .int .u64 shi, .int .u8 sh] := by rw [hW]; exact Row.new wr [.int .i64 sk, .int .u64 slo, .int .u64 shi, .int .u8 sh] _
      have hBW : Below wr.heap.size wr W := by rw [hW]; exact (Below.refl _ _).alloc (Nat.le_refl _) _
      have hTW := HT.out.below hBW
      have hBW2 : Below w.heap.size w W := hbr.trans (hBW.mono hbr.size)
      have hne : some wr.heap.size ≠ some T := fun e => Nat.ne_of_lt HT.out.lt (Option.some.inj e).symm
      have HWd := hid hW
      clear hW
      generalize hNB : wr.heap.size = NB at *
      have htm : t.length ≤ 1000000000 := by have := HTL.out; omega
      have hA := fun w h => assign_any w T limit t slo shi sh h HW.out htm o1 o4 o5
      obtain ⟨okb, p1, p2, p3, p4, h', p5, p6, p7, s', p8, p9, p10, p11⟩ := point_facts (limit := limit) (owner := sh) HW.out o1 o4 o5 (by have := HTL.out; have := HL.out; omega) HH.out hk0.1 hk0.2 HHO.out
      obtain ⟨glo, ghi, gh⟩ := s'
      simp only at p9 p10 p11
      subst p9
      generalize assignL t limit slo shi sh = aa at *
      obtain ⟨ae, t'⟩ := aa
      simp only at p2 p3 p4 p7 p8 hA
      have HAA := hid hA
      have P3 := hid p3
      have P4 := hid p4
      have P5 := hid p5
      have P6 := hid p6
      have P7 := hid p7
      have P8 := hid p8
      clear hA p3 p4 p5 p6 p7 p8
      obtain ⟨r0, r1, r2, r3⟩ := hRow.four
      go_wp2_with fail
      rw [← HWd.out]
      refine (HAA.out W hTW).mono ?_
      rintro e w3 ⟨rfl, ht3, hg3⟩
      have hRow3 := hRow.grown hg3 hne
      have hB3 := hBW2.grown hg3 hBW2.size (by intro k hk; cases hk; exact hTw)
      clear hRow hg3 hTW hBW hBW2 r0 r1 r2 r3
      obtain ⟨r0, r1, r2, r3⟩ := hRow3.four
      go_wp2_with fail
      refine (good_any w3 sk slo shi sh).mono ?_
      rintro e w4 ⟨rfl, hb4⟩
      have hT4 := ht3.below hb4
      have hRow4 := hRow3.below hb4
      have hB4 := hB3.trans (hb4.mono hB3.size)
      have HT4 := hid hT4
      clear hRow3 hb4 ht3 hB3 r0 r1 r2 r3 hT4
      obtain ⟨r0, r1, r2, r3⟩ := hRow4.four
      obtain ⟨bb, hbb⟩ : ∃ bb : Bool, bb = decide ((okb = true ∧ slo ≤ key) ∧ key ≤ shi) := ⟨_, rfl⟩
      have HBB := hid hbb
      clear hbb
      go_upto_region 15 with (go_at_call 9; refine (num6_any _ _).mono ?_; rintro e w' ⟨rfl, rfl⟩)
      go_cut [78] (fun v wc => v = .bool bb ∧ wc = w4)
      case first =>
        cases okb with
        | false =>
          go_wp2_with fail
          go_meet
          exact ⟨by rw [HBB.out]; simp, rfl⟩
        | true =>
          by_cases q1 : slo ≤ key
          · go_wp2_with fail
            go_meet
            exact ⟨by rw [HBB.out]; simp [q1], rfl⟩
          · go_wp2_with fail
            go_meet
            exact ⟨by rw [HBB.out]; simp; omega, rfl⟩
      case rest =>
      obtain ⟨rfl, rfl⟩ := hcut
      go_upto_if 78 with fail
      go_cut [9] (fun v wc' => v = .int .u8 gh ∧ wc' = wc)
      case first =>
        cases bb with
        | true =>
          go_wp2_with fail
          go_meet
          have e := of_decide_eq_true HBB.out.symm
          exact ⟨by rw [P6.out, if_pos e], rfl⟩
        | false =>
          go_wp2_with fail
          go_meet
          have e := of_decide_eq_false HBB.out.symm
          exact ⟨by rw [P6.out, if_neg e], rfl⟩
      case rest =>
      obtain ⟨rfl, rfl⟩ := hcut
      have P4b : t'.length ≤ 1000000000 := by have := P4.out; have := HTL.out; omega
      have ho : ownsL ⟨glo, ghi, gh⟩ key key gh = true := by
        unfold ownsL; have := P5.out; simp; omega
      have hgl1 : glo ≤ key := p10
      have hgl2 : key ≤ ghi := p11
      go_wp2_with fail
      refine (lookup_any _ T limit t' key HT4.out P3.out P4b ⟨glo, ghi, gh⟩ P8.out).mono ?_
      rintro e w5 ⟨rfl, hb5⟩
      have hT5 := HT4.out.below hb5
      have hB5 := hB4.trans (hb5.mono hB4.size)
      clear hb5 hB4 r0 r1 r2 r3 hRow4
      have HT5 := hid hT5
      clear hT5
      go_wp2_with fail
      refine (segment_any _ T limit t' key HT5.out P3.out P4b ⟨glo, ghi, gh⟩ P8.out).mono ?_
      rintro e w6 ⟨rfl, hb6⟩
      have HT6 := hid ((HT5.out.below hb6).below ((Below.refl _ w6).alloc (Nat.le_refl _) (.cells #[.int .u64 glo, .int .u64 ghi, .int .u8 gh] 40)))
      have hB6 := (hB5.trans (hb6.mono hB5.size)).alloc (hB5.trans (hb6.mono hB5.size)).size (.cells #[.int .u64 glo, .int .u64 ghi, .int .u8 gh] 40)
      have hR6 := Row.new w6 [.int .u64 glo, .int .u64 ghi, .int .u8 gh] 40
      clear hb6 hB5
      go_wp2_with fail
      refine (owns_any _ T limit t' key key gh HT6.out P3.out P4b ⟨glo, ghi, gh⟩ P8.out).mono ?_
      rw [ho]
      rintro e w7 ⟨rfl, hb7⟩
      have HT7 := hid (HT6.out.below hb7)
      have hB7 := hB6.trans (hb7.mono hB6.size)
      have hR7 := hR6.below hb7
      have r0 := hR7.2 0 _ rfl
      have r1 := hR7.2 1 _ rfl
      have r2 := hR7.2 2 _ rfl
      have hne2 : (gh != gh) = false := by simp
      clear hb7 hB6 hR6 ho
      go_wp2
      go_roundw
      case rel => exact ⟨k + 1, t', gh, by omega, by go_num, rfl, HT7, P3, by show _ ≤ _; have := P4.out; have := HTL.out; omega, P7, P5, hB7⟩
      case measure => simp [intOf]; omega
    · go_wp2
      go_ret
      exact ⟨rfl, hbr⟩
end Go.Proofs.Ytefdbhmjbfpeoaa
