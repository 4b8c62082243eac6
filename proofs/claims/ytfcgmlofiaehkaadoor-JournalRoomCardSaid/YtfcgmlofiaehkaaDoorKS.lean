/- Layer 9: JournalRoom: a slot takes records up to its limit and no byte further: the walk. -/
import Derived.Test.YtfcgmlofiaehkaaDoorKO
import Derived.Test.YtfcgmlofiaehkaaDoorOpenV
namespace Go.Proofs.YtfcgmlofiaehkaaDoor
open Go.RowKit

/-- Stat, with the numbers as the walk has them -/
theorem stat_as {W : World} {V : Value} {q : PS} {limit : Int} {P : Nat → Prop} (h : Jn W V q limit P) (sz n : Int) (h1 : (q.len : Int) = sz) (h2 : (q.rs.length : Int) = n) :
    Calls Tryd.prog 43 #[V] W fun e w' => e = .returned (.agg #[.int .u64 q.gen, .int .i64 (slotOf q.gen : Nat), .int .i64 n, .int .i64 sz, .int .i64 q.wa, .int .i64 (q.len - q.sy : Nat)]) ∧ Below W.heap.size W w' := by
  have := jn_stat h
  rw [h1, h2] at this
  exact this
set_option maxRecDepth 100000 in
set_option maxHeartbeats 8000000 in
theorem room_walk (w : World) (limit : Int) (A : Option Addr) (n c : Nat) (steps : List StepV) (hl : steps.length = n) (hn : n ≤ 140737488351232) (hok : ∀ s ∈ steps, okStep w s) (hR : Reads w.heap.size w stE 3 A steps) (h64 : 64 ≤ limit) (hsm : limit ≤ 65536) :
    Calls Tryd.prog 8 #[.int .i64 limit, .slice A n c] w fun e w' => e = .returned (.bool true) ∧ Below w.heap.size w w' := by
  subst hl
  have hlim : goodLim limit = true := by unfold goodLim; simp; omega
  have HN := hid (fun W x => num_any W x)
  have HF := hid (jn_fresh w limit none 0 0 [] rfl (by omega) hlim (by simp; omega) (by simp) (.inl rfl))
  have HLIM := hid hlim
  have HOK := hid hok
  have HR := hid hR
  have hfit : 24 + (([] : List Int).length : Int) ≤ limit := by simp; omega
  have HFIT := hid hfit
  clear hlim hok hR hfit
  go_enter Tryd.func8, Tryd.ntmps8
  go_wp2_with fail
  refine HF.out.mono ?_
  rintro e W1 ⟨A0, c0, rfl, ho, hb1⟩
  obtain ⟨W2, hW2⟩ : ∃ W, W = W1.alloc (.cells #[.slice A0 24 c0, .slice none 0 0] 25) := ⟨_, rfl⟩
  have hb2 : Below W1.heap.size W1 W2 := by rw [hW2]; exact (Below.refl _ W1).alloc (Nat.le_refl _) _
  have ho' : OwnB W1 w.heap.size (.slice A0 24 c0) (begunB 1 []) := ho
  obtain ⟨hl, hcap, _, hrd⟩ := OwnB.reads ho'
  have HO := hid (jn_open W2 A0 24 c0 none 0 0 (begunB 1 []) [] limit (PS.fresh []) 0 hl hcap rfl (Nat.le_refl _) (begunB_byte ⟨by omega, by omega⟩ (by simp) (by simp)) (by simp) ((hrd.below hb2).mono hb2.size) (.inl rfl) (open_fresh (by simp) (by simp) HFIT.out HLIM.out) rfl)
  have HB2 := hid ((hb1.trans (hb2.mono hb1.size)))
  clear ho ho' hb1 hb2 hrd HF
  go_wp2_with fail
  rw [← hW2]
  clear hW2
  refine HO.out.mono ?_
  rintro e W3 ⟨V, sv, rv, P, m1, m2, rfl, hne, hb3, hJn, hP, hm1, hm2, hh, hs⟩
  obtain ⟨j, s0, s1, rfl, hJ, hPj⟩ := hJn.at'
  obtain ⟨Ar, cr, rfl, _, _⟩ := hh.holds.slice
  obtain ⟨_, As, cs, rfl, _, _, _⟩ := owns_reads u8s_len hs (by decide)
  have hl1 : (PS.fresh []).rs.length = 0 := rfl
  have hl2 : (PS.fresh []).st.length = 0 := rfl
  have hg1 : (PS.fresh []).gen = 1 := rfl
  rw [hl1, hl2, hg1]
  obtain ⟨W4, hW4⟩ : ∃ W, W = W3.alloc (.cells #[.int .u64 1, .slice As 0 cs, .slice Ar 0 cr, .int .i64 0] 30) := ⟨_, rfl⟩
  have hb4 : Below W3.heap.size W3 W4 := by rw [hW4]; exact (Below.refl _ W3).alloc (Nat.le_refl _) _
  have HJ := hid (hJn.below hb4)
  have hw2 := HB2.out.size
  have HP : Hid (∀ k, P k → w.heap.size ≤ k) := hid (fun k hk => by have := (hP k hk).1; omega)
  have HB4 := hid ((HB2.out.trans (hb3.mono hw2)).trans (hb4.mono (Nat.le_trans hw2 hb3.size)))
  clear hP hm1 hm2 hb3 hJn hh hs hJ hPj hne hl1 hl2 hg1 HO hb4 hw2
  go_wp2_with fail
  refine (HN.out _ _).mono ?_
  rintro e Wx ⟨rfl, hwx⟩
  subst hwx
  rw [← hW4]
  clear hW4
  go_wp2_with fail
  go_loopg [10, 11, 12] steps.length (fun gx s10 s11 s12 wr => ∃ (i : Nat) (p : PS) (P : Nat → Prop), s12 = .int .i64 i ∧ s10 = .int .i64 p.len ∧ s11 = .int .i64 p.rs.length ∧ i ≤ steps.length ∧ steps.length - i ≤ gx ∧ Hid (Below w.heap.size w wr) ∧ Hid (Jn wr (.pointer (some ⟨j, 0, none⟩)) p limit P) ∧ Hid (∀ k, P k → w.heap.size ≤ k) ∧ p.gen ≤ i + 1)
  case atStart => exact ⟨0, PS.fresh [], P, rfl, rfl, rfl, Nat.zero_le _, Nat.le_refl _, HB4, HJ, HP, by decide⟩
  case round =>
    obtain ⟨i, p, P, rfl, rfl, rfl, hi, hgx, HBr, HJr, HPr, hpg⟩ := hrel
    by_cases hlt : i < steps.length
    · obtain ⟨b, off, s, hs, rfl, hbk, hc⟩ := HR.out.at i hlt
      obtain ⟨kind, nn, sA, sn, sc⟩ := s
      obtain ⟨hk, _, bs, hbl, hcap, hmx, hbig, hnil, hU, hbb⟩ := HOK.out _ (List.mem_of_getElem? hs)
      have e0 := hc 0 _ rfl
      have e2 := hc 2 _ rfl
      simp only [Nat.add_zero] at e0
      dsimp only at e0 e2 hbl hcap hU hbig
      subst hbl
      have hbr := HBr.out
      have c0 := (hbr.cell (p := ⟨b, off + i * 3, none⟩) hbk).trans e0
      have c2 := (hbr.cell (p := ⟨b, off + i * 3 + 2, none⟩) hbk).trans e2
      have hUr : U8s wr.heap.size wr sA bs := (hU.below hbr).mono hbr.size
      have hA : bs ≠ [] → ∀ q, sA = some q → ¬ P q.block := fun hne q hq hpq => by
        have h1 := reads_lt hU hne q hq
        have h2 := HPr.out _ hpq
        omega
      have hii : (i : Int) < (steps.length : Int) := by omega
      have hwi : IntKind.i64.wrap ((i : Int) + 1) = (i : Int) + 1 := wrap_small _ (by omega) (by omega)
      have hLp := HJr.out.ok.lim
      have hgp := HJr.out.ok.gen1
      have hrl := HJr.out.ok.recs_le (by omega)
      have hw24 : IntKind.i64.wrap (24 + (bs.length : Int)) = 24 + (bs.length : Int) := wrap_small _ (by omega) (by omega)
      have hw12 : IntKind.i64.wrap ((p.len : Int) + 12) = (p.len : Int) + 12 := wrap_small _ (by omega) (by omega)
      have hw13 : IntKind.i64.wrap ((p.len : Int) + 12 + (bs.length : Int)) = (p.len : Int) + 12 + (bs.length : Int) := wrap_small _ (by omega) (by omega)
      have hwr1 : IntKind.i64.wrap ((p.rs.length : Int) + 1) = (p.rs.length : Int) + 1 := wrap_small _ (by omega) (by omega)
      have HSN := hid (jn_snap HJr.out sA bs.length sc bs rfl hbb hUr hA)
      have HAP := hid (jn_append HJr.out sA bs.length sc bs rfl hbb hUr hA)
      clear hUr hA hU e0 e2 hc hbr hbb hs hnil
      by_cases hk3 : kind = 3
      · subst hk3
        by_cases hf : 24 + (bs.length : Int) ≤ limit
        · have hE : snapErr p limit bs = 0 := by unfold snapErr; rw [if_neg (by omega), if_neg (by omega), if_neg (by omega)]
          have HQ : Hid (Calls Tryd.prog 41 #[.pointer (some ⟨j, 0, none⟩), .slice sA bs.length sc] wr fun e w' => e = .returned (.int .i64 0) ∧ Did wr w' (.pointer (some ⟨j, 0, none⟩)) (p.snap bs) limit P) := hid (by
            have := HSN.out
            rw [hE, if_pos rfl] at this
            exact this)
          have d0 : decide (24 + (bs.length : Int) ≤ limit) = true := by simpa using hf
          have d1 : decide (limit < 24 + (bs.length : Int)) = false := by simp; omega
          clear HSN HAP hE
          go_wp2_with fail
          refine HQ.out.mono ?_
          rintro e w5 ⟨rfl, P5, hJ5, hst5⟩
          have HST := hid (stat_as hJ5 (24 + (bs.length : Int)) (0) (by simp [PS.len, PS.snap, logLen]) rfl)
          have HJ5 := hid hJ5
          have HS5 := hid hst5
          clear hJ5 hst5 HQ
          go_wp2_with (go_at_call 19; refine (HN.out _ _).mono ?_; rintro e wh ⟨rfl, hwh⟩; obtain rfl : w5 = wh := hwh.symm)
          refine HST.out.mono ?_
          rintro e w6 ⟨rfl, hb6⟩
          have HB6 := hid hb6
          clear hb6 HST
          go_wp2_with fail
          have hb5 : Below w.heap.size w w5 := HBr.out.trans (HS5.out.tch.toBelow HBr.out.size HPr.out)
          have hal : Below w6.heap.size w6 (w6.alloc (.cells #[.int .u64 (p.snap bs).gen, .int .i64 (slotOf (p.snap bs).gen : Nat), .int .i64 (0), .int .i64 (24 + (bs.length : Int)), .int .i64 (p.snap bs).wa, .int .i64 ((p.snap bs).len - (p.snap bs).sy : Nat)] 89)) := (Below.refl _ _).alloc (Nat.le_refl _) _
          go_roundg (steps.length - (i + 1))
          case measure => omega
          case rel => exact ⟨i + 1, (p.snap bs), P5, by go_num, by simp [PS.len, PS.snap, logLen], by rfl, hlt, Nat.le_refl _, hid (hb5.trans ((HB6.out.mono hb5.size).trans (hal.mono (Nat.le_trans hb5.size HB6.out.size)))), hid ((HJ5.out.below HB6.out).below hal), hid (fun k hk => (HS5.out.new k hk).elim (HPr.out k) (fun h => Nat.le_trans HBr.out.size h)), by show p.gen + 1 ≤ ((i + 1 : Nat) : Int) + 1; omega⟩
        · by_cases hbg : 4194304 < bs.length
          · have hE : snapErr p limit bs = 90 := by unfold snapErr; rw [if_pos hbg]
            have HQ : Hid (Calls Tryd.prog 41 #[.pointer (some ⟨j, 0, none⟩), .slice sA bs.length sc] wr fun e w' => e = .returned (.int .i64 90) ∧ Did wr w' (.pointer (some ⟨j, 0, none⟩)) (p) limit P) := hid (by
              have := HSN.out
              rw [hE, if_neg (by decide)] at this
              exact this)
            have d0 : decide (24 + (bs.length : Int) ≤ limit) = false := by simp; omega
            have d1 : decide (limit < (p.len : Int)) = false := by simp; omega
            clear HSN HAP hE
            go_wp2_with fail
            refine HQ.out.mono ?_
            rintro e w5 ⟨rfl, P5, hJ5, hst5⟩
            have HST := hid (stat_as hJ5 (p.len) (p.rs.length) rfl rfl)
            have HJ5 := hid hJ5
            have HS5 := hid hst5
            clear hJ5 hst5 HQ
            go_wp2_with (go_at_call 19; refine (HN.out _ _).mono ?_; rintro e wh ⟨rfl, hwh⟩; obtain rfl : w5 = wh := hwh.symm)
            refine HST.out.mono ?_
            rintro e w6 ⟨rfl, hb6⟩
            have HB6 := hid hb6
            clear hb6 HST
            go_wp2_with fail
            have hb5 : Below w.heap.size w w5 := HBr.out.trans (HS5.out.tch.toBelow HBr.out.size HPr.out)
            have hal : Below w6.heap.size w6 (w6.alloc (.cells #[.int .u64 (p).gen, .int .i64 (slotOf (p).gen : Nat), .int .i64 (p.rs.length), .int .i64 (p.len), .int .i64 (p).wa, .int .i64 ((p).len - (p).sy : Nat)] 89)) := (Below.refl _ _).alloc (Nat.le_refl _) _
            go_roundg (steps.length - (i + 1))
            case measure => omega
            case rel => exact ⟨i + 1, (p), P5, by go_num, by rfl, by rfl, hlt, Nat.le_refl _, hid (hb5.trans ((HB6.out.mono hb5.size).trans (hal.mono (Nat.le_trans hb5.size HB6.out.size)))), hid ((HJ5.out.below HB6.out).below hal), hid (fun k hk => (HS5.out.new k hk).elim (HPr.out k) (fun h => Nat.le_trans HBr.out.size h)), by omega⟩
          · have hE : snapErr p limit bs = 91 := by unfold snapErr; rw [if_neg hbg, if_neg (by omega), if_pos (by omega)]
            have HQ : Hid (Calls Tryd.prog 41 #[.pointer (some ⟨j, 0, none⟩), .slice sA bs.length sc] wr fun e w' => e = .returned (.int .i64 91) ∧ Did wr w' (.pointer (some ⟨j, 0, none⟩)) (p) limit P) := hid (by
              have := HSN.out
              rw [hE, if_neg (by decide)] at this
              exact this)
            have d0 : decide (24 + (bs.length : Int) ≤ limit) = false := by simp; omega
            have d1 : decide (limit < (p.len : Int)) = false := by simp; omega
            clear HSN HAP hE
            go_wp2_with fail
            refine HQ.out.mono ?_
            rintro e w5 ⟨rfl, P5, hJ5, hst5⟩
            have HST := hid (stat_as hJ5 (p.len) (p.rs.length) rfl rfl)
            have HJ5 := hid hJ5
            have HS5 := hid hst5
            clear hJ5 hst5 HQ
            go_wp2_with (go_at_call 19; refine (HN.out _ _).mono ?_; rintro e wh ⟨rfl, hwh⟩; obtain rfl : w5 = wh := hwh.symm)
            refine HST.out.mono ?_
            rintro e w6 ⟨rfl, hb6⟩
            have HB6 := hid hb6
            clear hb6 HST
            go_wp2_with fail
            have hb5 : Below w.heap.size w w5 := HBr.out.trans (HS5.out.tch.toBelow HBr.out.size HPr.out)
            have hal : Below w6.heap.size w6 (w6.alloc (.cells #[.int .u64 (p).gen, .int .i64 (slotOf (p).gen : Nat), .int .i64 (p.rs.length), .int .i64 (p.len), .int .i64 (p).wa, .int .i64 ((p).len - (p).sy : Nat)] 89)) := (Below.refl _ _).alloc (Nat.le_refl _) _
            go_roundg (steps.length - (i + 1))
            case measure => omega
            case rel => exact ⟨i + 1, (p), P5, by go_num, by rfl, by rfl, hlt, Nat.le_refl _, hid (hb5.trans ((HB6.out.mono hb5.size).trans (hal.mono (Nat.le_trans hb5.size HB6.out.size)))), hid ((HJ5.out.below HB6.out).below hal), hid (fun k hk => (HS5.out.new k hk).elim (HPr.out k) (fun h => Nat.le_trans HBr.out.size h)), by omega⟩
      · have hkb : (kind == 3) = false := by simpa using hk3
        by_cases hz : bs.length = 0
        · have hE : appErr p limit bs = 90 := by unfold appErr; rw [if_pos (.inl hz)]
          have HQ : Hid (Calls Tryd.prog 42 #[.pointer (some ⟨j, 0, none⟩), .slice sA bs.length sc] wr fun e w' => e = .returned (.int .i64 90) ∧ Did wr w' (.pointer (some ⟨j, 0, none⟩)) (p) limit P) := hid (by
            have := HAP.out
            rw [hE, if_neg (by decide)] at this
            exact this)
          have d1 : decide (limit < (p.len : Int)) = false := by simp; omega
          have d2 : decide ((0 : Int) < (bs.length : Int)) = false := by rw [hz]; rfl
          have d3 : decide (0 < bs.length) = false := by rw [hz]; rfl
          have HZ := hid hz
          clear hz
          clear HSN HAP hE
          go_wp2_with fail
          refine HQ.out.mono ?_
          rintro e w5 ⟨rfl, P5, hJ5, hst5⟩
          have HST := hid (stat_as hJ5 (p.len) (p.rs.length) rfl rfl)
          have HJ5 := hid hJ5
          have HS5 := hid hst5
          clear hJ5 hst5 HQ
          go_wp2_with (go_at_call 19; refine (HN.out _ _).mono ?_; rintro e wh ⟨rfl, hwh⟩; obtain rfl : w5 = wh := hwh.symm)
          refine HST.out.mono ?_
          rintro e w6 ⟨rfl, hb6⟩
          have HB6 := hid hb6
          clear hb6 HST
          go_wp2_with fail
          have hb5 : Below w.heap.size w w5 := HBr.out.trans (HS5.out.tch.toBelow HBr.out.size HPr.out)
          have hal : Below w6.heap.size w6 (w6.alloc (.cells #[.int .u64 (p).gen, .int .i64 (slotOf (p).gen : Nat), .int .i64 (p.rs.length), .int .i64 (p.len), .int .i64 (p).wa, .int .i64 ((p).len - (p).sy : Nat)] 89)) := (Below.refl _ _).alloc (Nat.le_refl _) _
          go_roundg (steps.length - (i + 1))
          case measure => omega
          case rel => exact ⟨i + 1, (p), P5, by go_num, by rfl, by rfl, hlt, Nat.le_refl _, hid (hb5.trans ((HB6.out.mono hb5.size).trans (hal.mono (Nat.le_trans hb5.size HB6.out.size)))), hid ((HJ5.out.below HB6.out).below hal), hid (fun k hk => (HS5.out.new k hk).elim (HPr.out k) (fun h => Nat.le_trans HBr.out.size h)), by omega⟩
        by_cases hg : 8192 < bs.length
        · have hE : appErr p limit bs = 90 := by unfold appErr; rw [if_pos (.inr hg)]
          have HQ : Hid (Calls Tryd.prog 42 #[.pointer (some ⟨j, 0, none⟩), .slice sA bs.length sc] wr fun e w' => e = .returned (.int .i64 90) ∧ Did wr w' (.pointer (some ⟨j, 0, none⟩)) (p) limit P) := hid (by
            have := HAP.out
            rw [hE, if_neg (by decide)] at this
            exact this)
          have d1 : decide (limit < (p.len : Int)) = false := by simp; omega
          have d2 : decide ((0 : Int) < (bs.length : Int)) = true := by simp; omega
          have d3 : decide (0 < bs.length) = true := by simp; omega
          have d4 : decide ((bs.length : Int) ≤ 8192) = false := by simp; omega
          have d5 : decide (bs.length ≤ 8192) = false := by simp; omega
          clear HSN HAP hE
          go_wp2_with fail
          refine HQ.out.mono ?_
          rintro e w5 ⟨rfl, P5, hJ5, hst5⟩
          have HST := hid (stat_as hJ5 (p.len) (p.rs.length) rfl rfl)
          have HJ5 := hid hJ5
          have HS5 := hid hst5
          clear hJ5 hst5 HQ
          go_wp2_with (go_at_call 19; refine (HN.out _ _).mono ?_; rintro e wh ⟨rfl, hwh⟩; obtain rfl : w5 = wh := hwh.symm)
          refine HST.out.mono ?_
          rintro e w6 ⟨rfl, hb6⟩
          have HB6 := hid hb6
          clear hb6 HST
          go_wp2_with fail
          have hb5 : Below w.heap.size w w5 := HBr.out.trans (HS5.out.tch.toBelow HBr.out.size HPr.out)
          have hal : Below w6.heap.size w6 (w6.alloc (.cells #[.int .u64 (p).gen, .int .i64 (slotOf (p).gen : Nat), .int .i64 (p.rs.length), .int .i64 (p.len), .int .i64 (p).wa, .int .i64 ((p).len - (p).sy : Nat)] 89)) := (Below.refl _ _).alloc (Nat.le_refl _) _
          go_roundg (steps.length - (i + 1))
          case measure => omega
          case rel => exact ⟨i + 1, (p), P5, by go_num, by rfl, by rfl, hlt, Nat.le_refl _, hid (hb5.trans ((HB6.out.mono hb5.size).trans (hal.mono (Nat.le_trans hb5.size HB6.out.size)))), hid ((HJ5.out.below HB6.out).below hal), hid (fun k hk => (HS5.out.new k hk).elim (HPr.out k) (fun h => Nat.le_trans HBr.out.size h)), by omega⟩
        by_cases hf : (p.len : Int) + 12 + (bs.length : Int) ≤ limit
        · have hE : appErr p limit bs = 0 := by unfold appErr; rw [if_neg (by omega), if_neg (by omega)]
          have HQ : Hid (Calls Tryd.prog 42 #[.pointer (some ⟨j, 0, none⟩), .slice sA bs.length sc] wr fun e w' => e = .returned (.int .i64 0) ∧ Did wr w' (.pointer (some ⟨j, 0, none⟩)) (p.app bs) limit P) := hid (by
            have := HAP.out
            rw [hE, if_pos rfl] at this
            exact this)
          have d2 : decide ((0 : Int) < (bs.length : Int)) = true := by simp; omega
          have d3 : decide (0 < bs.length) = true := by simp; omega
          have d4 : decide ((bs.length : Int) ≤ 8192) = true := by simp; omega
          have d5 : decide (bs.length ≤ 8192) = true := by simp; omega
          have d0 : decide ((p.len : Int) + 12 + (bs.length : Int) ≤ limit) = true := by simpa using hf
          have d1 : decide (limit < (p.len : Int) + 12 + (bs.length : Int)) = false := by simp; omega
          clear HSN HAP hE
          go_wp2_with fail
          refine HQ.out.mono ?_
          rintro e w5 ⟨rfl, P5, hJ5, hst5⟩
          have HST := hid (stat_as hJ5 ((p.len : Int) + 12 + (bs.length : Int)) ((p.rs.length : Int) + 1) (by rw [PS.app_len]; omega) (by simp [PS.app]))
          have HJ5 := hid hJ5
          have HS5 := hid hst5
          clear hJ5 hst5 HQ
          go_wp2_with (go_at_call 19; refine (HN.out _ _).mono ?_; rintro e wh ⟨rfl, hwh⟩; obtain rfl : w5 = wh := hwh.symm)
          refine HST.out.mono ?_
          rintro e w6 ⟨rfl, hb6⟩
          have HB6 := hid hb6
          clear hb6 HST
          go_wp2_with fail
          have hb5 : Below w.heap.size w w5 := HBr.out.trans (HS5.out.tch.toBelow HBr.out.size HPr.out)
          have hal : Below w6.heap.size w6 (w6.alloc (.cells #[.int .u64 (p.app bs).gen, .int .i64 (slotOf (p.app bs).gen : Nat), .int .i64 ((p.rs.length : Int) + 1), .int .i64 ((p.len : Int) + 12 + (bs.length : Int)), .int .i64 (p.app bs).wa, .int .i64 ((p.app bs).len - (p.app bs).sy : Nat)] 89)) := (Below.refl _ _).alloc (Nat.le_refl _) _
          go_roundg (steps.length - (i + 1))
          case measure => omega
          case rel => exact ⟨i + 1, (p.app bs), P5, by go_num, by rw [PS.app_len]; go_num, by simp [PS.app], hlt, Nat.le_refl _, hid (hb5.trans ((HB6.out.mono hb5.size).trans (hal.mono (Nat.le_trans hb5.size HB6.out.size)))), hid ((HJ5.out.below HB6.out).below hal), hid (fun k hk => (HS5.out.new k hk).elim (HPr.out k) (fun h => Nat.le_trans HBr.out.size h)), by show p.gen ≤ ((i + 1 : Nat) : Int) + 1; omega⟩
        · have hE : appErr p limit bs = 91 := by unfold appErr; rw [if_neg (by omega), if_pos (by omega)]
          have HQ : Hid (Calls Tryd.prog 42 #[.pointer (some ⟨j, 0, none⟩), .slice sA bs.length sc] wr fun e w' => e = .returned (.int .i64 91) ∧ Did wr w' (.pointer (some ⟨j, 0, none⟩)) (p) limit P) := hid (by
            have := HAP.out
            rw [hE, if_neg (by decide)] at this
            exact this)
          have d2 : decide ((0 : Int) < (bs.length : Int)) = true := by simp; omega
          have d3 : decide (0 < bs.length) = true := by simp; omega
          have d4 : decide ((bs.length : Int) ≤ 8192) = true := by simp; omega
          have d5 : decide (bs.length ≤ 8192) = true := by simp; omega
          have d1 : decide (limit < (p.len : Int)) = false := by simp; omega
          have d0 : decide ((p.len : Int) + 12 + (bs.length : Int) ≤ limit) = false := by simp; omega
          clear HSN HAP hE
          go_wp2_with fail
          refine HQ.out.mono ?_
          rintro e w5 ⟨rfl, P5, hJ5, hst5⟩
          have HST := hid (stat_as hJ5 (p.len) (p.rs.length) rfl rfl)
          have HJ5 := hid hJ5
          have HS5 := hid hst5
          clear hJ5 hst5 HQ
          go_wp2_with (go_at_call 19; refine (HN.out _ _).mono ?_; rintro e wh ⟨rfl, hwh⟩; obtain rfl : w5 = wh := hwh.symm)
          refine HST.out.mono ?_
          rintro e w6 ⟨rfl, hb6⟩
          have HB6 := hid hb6
          clear hb6 HST
          go_wp2_with fail
          have hb5 : Below w.heap.size w w5 := HBr.out.trans (HS5.out.tch.toBelow HBr.out.size HPr.out)
          have hal : Below w6.heap.size w6 (w6.alloc (.cells #[.int .u64 (p).gen, .int .i64 (slotOf (p).gen : Nat), .int .i64 (p.rs.length), .int .i64 (p.len), .int .i64 (p).wa, .int .i64 ((p).len - (p).sy : Nat)] 89)) := (Below.refl _ _).alloc (Nat.le_refl _) _
          go_roundg (steps.length - (i + 1))
          case measure => omega
          case rel => exact ⟨i + 1, (p), P5, by go_num, by rfl, by rfl, hlt, Nat.le_refl _, hid (hb5.trans ((HB6.out.mono hb5.size).trans (hal.mono (Nat.le_trans hb5.size HB6.out.size)))), hid ((HJ5.out.below HB6.out).below hal), hid (fun k hk => (HS5.out.new k hk).elim (HPr.out k) (fun h => Nat.le_trans HBr.out.size h)), by omega⟩
    · have hii : ¬ (i : Int) < (steps.length : Int) := by omega
      go_wp2_with fail
      go_ret
      exact ⟨rfl, HBr.out⟩
theorem room_small (w : World) (limit : Int) (A : Option Addr) (n c : Nat) (h : limit < 64 ∨ 65536 < limit) :
    Calls Tryd.prog 8 #[.int .i64 limit, .slice A n c] w fun e w' => e = .returned (.bool true) ∧ Below w.heap.size w w' := by
  rcases h with h | h
  · have d0 : decide (limit < 64) = true := by simp; omega
    go_enter Tryd.func8, Tryd.ntmps8
    go_wp2_with fail
    go_ret
    exact ⟨rfl, Below.refl _ _⟩
  · have d0 : decide (limit < 64) = false := by simp; omega
    have d1 : decide (65536 < limit) = true := by simp; omega
    go_enter Tryd.func8, Tryd.ntmps8
    go_wp2_with fail
    go_ret
    exact ⟨rfl, Below.refl _ _⟩
theorem journalRoom_row (w : World) (limit : Int) (A : Option Addr) (n c : Nat) (steps : List StepV) (_ : (Lit.int .i64 limit).wf = true) (hl : steps.length = n) (_ : n ≤ c) (_ : c ≤ maxLen) (hok : ∀ s ∈ steps, okStep w s) (hn : n * 40 ≤ 140737488351232) (hR : Reads w.heap.size w stE 3 A steps) :
    Calls Tryd.prog 8 #[.int .i64 limit, .slice A n c] w fun e w' => e = .returned (.bool true) ∧ Below w.heap.size w w' := by
  by_cases h : limit < 64 ∨ 65536 < limit
  · exact room_small w limit A n c h
  · exact room_walk w limit A n c steps hl (by omega) hok hR (by omega) (by omega)
end Go.Proofs.YtfcgmlofiaehkaaDoor
