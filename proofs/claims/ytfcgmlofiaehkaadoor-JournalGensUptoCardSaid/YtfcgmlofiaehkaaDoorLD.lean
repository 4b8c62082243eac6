/- Layer 9: JournalGens: a new beginning has the next generation, in the other slot: the walk. -/
import Derived.Test.YtfcgmlofiaehkaaDoorKV
namespace Go.Proofs.YtfcgmlofiaehkaaDoor
open Go.RowKit

def sumL : List (List Int) → Nat
  | [] => 0
  | b :: l => b.length + sumL l
theorem sumL_snoc (l : List (List Int)) (b : List Int) : sumL (l ++ [b]) = sumL l + b.length := by
  induction l with
  | nil => simp [sumL]
  | cons x l ih => rw [List.cons_append, sumL, ih, sumL]; omega
theorem sumL_take (l : List (List Int)) (i : Nat) : sumL (l.take i) ≤ sumL l := by
  induction l generalizing i with
  | nil => simp
  | cons x l ih => cases i with
    | zero => simp [sumL]
    | succ i => rw [List.take_succ_cons, sumL, sumL]; have := ih i; omega
theorem sumL_mem {l : List (List Int)} {i : Nat} {b : List Int} (h : l[i]? = some b) : b.length ≤ sumL l := by
  have := sumL_take l (i + 1)
  rw [take_snoc h, sumL_snoc] at this
  omega
/-- the journal behind i new beginnings -/
def gP (ls : List (List Int)) (rec : List Int) : Nat → PS
  | 0 => PS.fresh []
  | i + 1 => ((gP ls rec i).app rec).snap (ls[i]?.getD [])
/-- the state of the i-th generation -/
def gS (ls : List (List Int)) : Nat → List Int
  | 0 => []
  | i + 1 => ls[i]?.getD []
theorem gP_st (ls : List (List Int)) (rec : List Int) (i : Nat) : (gP ls rec i).st = gS ls i ∧ (gP ls rec i).rs = [] ∧ (gP ls rec i).gen = (i : Int) + 1 := by
  induction i with
  | zero => exact ⟨rfl, rfl, rfl⟩
  | succ i ih => exact ⟨rfl, rfl, by show (gP ls rec i).gen + 1 = _; rw [ih.2.2]; omega⟩
theorem gP_len (ls : List (List Int)) (rec : List Int) (i : Nat) : (gP ls rec i).len = 24 + (gS ls i).length := by
  obtain ⟨h1, h2, _⟩ := gP_st ls rec i
  unfold PS.len
  rw [h1, h2]
  rfl
theorem gS_le {ls : List (List Int)} (i : Nat) (h : sumL ls ≤ 65536) : (gS ls i).length ≤ 65536 := by
  cases i with
  | zero => exact Nat.zero_le _
  | succ i =>
    show (ls[i]?.getD []).length ≤ _
    cases e : ls[i]? with
    | none => exact Nat.zero_le _
    | some b => have := sumL_mem e; simpa using (by omega : b.length ≤ 65536)
theorem gP_prev (ls : List (List Int)) (rec : List Int) (i : Nat) : (gP ls rec (i + 1)).prev = some (gS ls i, [rec]) ∧ (gP ls rec (i + 1)).sy = 0 := by
  obtain ⟨h1, h2, _⟩ := gP_st ls rec i
  exact ⟨by show some ((gP ls rec i).st, (gP ls rec i).rs ++ [rec]) = _; rw [h1, h2]; rfl, rfl⟩
/-- all bytes kept: the new generation -/
theorem gP_whole (ls : List (List Int)) (rec : List Int) (i : Nat) (k : Int) (hk : 24 + ((gS ls (i + 1)).length : Int) ≤ k) : ((gP ls rec (i + 1)).cut ((gP ls rec (i + 1)).left k)).st = gS ls (i + 1) ∧ ((gP ls rec (i + 1)).cut ((gP ls rec (i + 1)).left k)).rs = [] ∧ ((gP ls rec (i + 1)).cut ((gP ls rec (i + 1)).left k)).gen = (i : Int) + 2 ∧ (gP ls rec (i + 1)).torn ((gP ls rec (i + 1)).left k) = 0 := by
  obtain ⟨h1, h2, h3⟩ := gP_st ls rec (i + 1)
  have h4 := gP_len ls rec (i + 1)
  have h5 := (gP_prev ls rec i).2
  have e : (gP ls rec (i + 1)).left k = 24 + (gS ls (i + 1)).length := by
    unfold PS.left
    rw [h4, h5]
    omega
  have hc : 24 + (gP ls rec (i + 1)).st.length ≤ (gP ls rec (i + 1)).left k := by rw [e, h1]; exact Nat.le_refl _
  unfold PS.cut PS.torn
  rw [if_pos hc, if_pos hc]
  refine ⟨h1, ?_, ?_, ?_⟩
  · show (gP ls rec (i + 1)).rs.take _ = _; rw [h2]; simp
  · show (gP ls rec (i + 1)).gen = _; rw [h3]; push_cast; omega
  · rw [h2]; rfl
/-- torn: the generation before -/
theorem gP_torn (ls : List (List Int)) (rec : List Int) (i : Nat) (k : Int) (hk0 : 0 ≤ k) (hk : k < 24 + ((gS ls (i + 1)).length : Int)) : ((gP ls rec (i + 1)).cut ((gP ls rec (i + 1)).left k)).st = gS ls i ∧ ((gP ls rec (i + 1)).cut ((gP ls rec (i + 1)).left k)).rs = [rec] ∧ ((gP ls rec (i + 1)).cut ((gP ls rec (i + 1)).left k)).gen = (i : Int) + 1 ∧ ((gP ls rec (i + 1)).torn ((gP ls rec (i + 1)).left k) : Int) = k := by
  obtain ⟨h1, h2, h3⟩ := gP_st ls rec (i + 1)
  have h4 := gP_len ls rec (i + 1)
  obtain ⟨h5, h6⟩ := gP_prev ls rec i
  have e : (gP ls rec (i + 1)).left k = k.toNat := by
    unfold PS.left
    rw [h4, h6]
    omega
  have hc : ¬ 24 + (gP ls rec (i + 1)).st.length ≤ (gP ls rec (i + 1)).left k := by rw [e, h1]; omega
  unfold PS.cut PS.torn
  rw [if_neg hc, if_neg hc, h5]
  refine ⟨rfl, rfl, ?_, by rw [e]; omega⟩
  show (gP ls rec (i + 1)).gen - 1 = _
  rw [h3]; push_cast; omega
set_option maxRecDepth 100000 in
set_option maxHeartbeats 8000000 in
theorem gens_walk (w : World) (A : Option Addr) (n c : Nat) (ls : List (List Int)) (B : Option Addr) (m d : Nat) (rec : List Int) (keep : Int) (hL : LsRd w A n c ls) (hm : rec.length = m) (hmb : m ≤ 140737488351232) (hn : n ≤ 140737488351232) (hr : ∀ x ∈ rec, isB x) (hU : U8s w.heap.size w B rec) (hk : okI64 keep) (hsum : sumL ls ≤ 4503599627370496) :
    Calls Tryd.prog 9 #[.slice A n c, .slice B m d, .int .i64 keep] w fun e w' => e = .returned (.bool true) ∧ Below w.heap.size w w' := by
  subst hm
  obtain ⟨hk0, hk1⟩ := hk
  obtain ⟨hln, hnc⟩ := hL.len
  have HL := hid hL
  have HRB := hid hr
  have HU := hid hU
  have HN := hid (fun W => num_any W 0)
  have HLN := hid hln
  clear hL hr hU hln
  go_enter Tryd.func9, Tryd.ntmps9
  go_wp2_with fail
  go_loopg [7, 8] n (fun gx sn si wr => ∃ (i s : Nat), si = .int .i64 i ∧ sn = .int .i64 s ∧ i ≤ n ∧ n - i ≤ gx ∧ Hid (s = sumL (ls.take i)) ∧ s ≤ 4503599627370496 ∧ wr = w)
  case atStart => exact ⟨0, 0, rfl, rfl, Nat.zero_le _, Nat.le_refl _, hid rfl, by omega, rfl⟩
  case round =>
    obtain ⟨i, s, rfl, rfl, hi, hgx, HS, hsb, rfl⟩ := hrel
    by_cases hlt : i < n
    · have hii : (i : Int) < (n : Int) := by omega
      have hwi : IntKind.i64.wrap ((i : Int) + 1) = (i : Int) + 1 := wrap_small _ (by omega) (by omega)
      obtain ⟨b, off, sv, l, rfl, hb, hc, hl, hr⟩ := HL.out.at i hlt
      obtain ⟨sA, sn, sc⟩ := sv
      obtain ⟨r1, _⟩ := hr
      dsimp only at hc r1
      subst r1
      have hlb := sumL_mem hl
      have HSS := hid (show s + l.length = sumL (ls.take (i + 1)) by rw [take_snoc hl, sumL_snoc, HS.out])
      have hsb2 : s + l.length ≤ 4503599627370496 := by have := HSS.out; have := sumL_take ls (i + 1); omega
      have hws : IntKind.i64.wrap ((s : Int) + (l.length : Int)) = (s : Int) + (l.length : Int) := wrap_small _ (by omega) (by omega)
      clear hl hlb
      go_wp2_with fail
      go_roundg (n - (i + 1))
      case measure => omega
      case rel => exact ⟨i + 1, s + l.length, by go_num, by go_num, hlt, Nat.le_refl _, HSS, hsb2, rfl⟩
    · have hii : ¬ (i : Int) < (n : Int) := by omega
      have hse : s = sumL ls := by rw [HS.out, List.take_of_length_le (by rw [HLN.out]; omega)]
      have HSE := hid hse
      clear hse HS
      obtain ⟨wz, hwz⟩ : ∃ W, W = wr := ⟨_, rfl⟩
      subst hwz
      by_cases hs1 : 65536 < s
      · have a1 : decide ((65536 : Int) < (s : Int)) = true := by simp; omega
        go_wp2_with fail
        go_ret
        exact ⟨rfl, Below.refl _ _⟩
      have a1 : decide ((65536 : Int) < (s : Int)) = false := by simp; omega
      by_cases hs2 : rec.length = 0
      · have a2 : ((rec.length : Int) == 0) = true := by rw [hs2]; rfl
        have HQ := hid hs2
        clear hs2
        go_wp2_with fail
        go_ret
        exact ⟨rfl, Below.refl _ _⟩
      have a2 : ((rec.length : Int) == 0) = false := by simpa using hs2
      by_cases hs3 : 8192 < rec.length
      · have a3 : decide ((8192 : Int) < (rec.length : Int)) = true := by simp; omega
        go_wp2_with fail
        go_ret
        exact ⟨rfl, Below.refl _ _⟩
      have a3 : decide ((8192 : Int) < (rec.length : Int)) = false := by simp; omega
      by_cases hs4 : keep < 0
      · have a4 : decide (keep < 0) = true := by simp; omega
        go_wp2_with fail
        go_ret
        exact ⟨rfl, Below.refl _ _⟩
      have a4 : decide (keep < 0) = false := by simpa using hs4
      by_cases hs5 : 65536 < n
      · have a5 : decide ((65536 : Int) < (n : Int)) = true := by simp; omega
        go_wp2_with fail
        go_ret
        exact ⟨rfl, Below.refl _ _⟩
      have a5 : decide ((65536 : Int) < (n : Int)) = false := by simp; omega
      have hsm : sumL ls ≤ 65536 := by rw [← HSE.out]; omega
      have hgr : GoodR rec := ⟨by omega, by omega, HRB.out⟩
      have HSM := hid hsm
      have HGR := hid hgr
      clear hsm hgr
      go_upto_region 8 with fail
      go_wp2_with fail
      refine (begin_any _).mono ?_
      rintro e w1 ⟨j, P, rfl, hJ, hP, hb1⟩
      obtain ⟨W2, hW2⟩ : ∃ W, W = w1.alloc (.cells #[.pointer (some ⟨j, 0, none⟩), .slice none 0 0, .int .i64 0] 64) := ⟨_, rfl⟩
      have hb2 : Below w1.heap.size w1 W2 := by rw [hW2]; exact (Below.refl _ w1).alloc (Nat.le_refl _) _
      have hx2 : W2.heap[w1.heap.size]? = some (.cells #[.pointer (some ⟨j, 0, none⟩), .slice none 0 0, .int .i64 0] 64 (0, 0)) := by rw [hW2]; exact heap_alloc_new w1 _
      have HJ2 := hid (hJ.below hb2)
      have HP := hid hP
      have HB2 := hid (hb1.trans (hb2.mono hb1.size))
      obtain ⟨R, hR⟩ : ∃ R, R = w1.heap.size := ⟨_, rfl⟩
      have hPR : ¬ P R := fun e => by have := hJ.lt _ e; omega
      rw [← hR] at hx2
      have HPR := hid hPR
      have HX2 := hid hx2
      have HRW := hid (show wz.heap.size ≤ R by rw [hR]; exact hb1.size)
      clear hJ hP hb1 hb2 hx2 hPR
      go_wp2_with fail
      rw [← hW2, ← hR]
      clear hW2 hR
      go_loopg [11, 12] n (fun gx sl si wr => ∃ (i ln lc : Nat) (lA : Option Addr) (P : Nat → Prop), si = .int .i64 i ∧ sl = .slice lA ln lc ∧ i ≤ n ∧ n - i ≤ gx ∧ Hid (Jn wr (.pointer (some ⟨j, 0, none⟩)) (gP ls rec i) room P) ∧ Hid (∀ k, P k → wz.heap.size ≤ k) ∧ Hid (¬ P R) ∧ Hid (wr.heap[R]? = some (.cells #[.pointer (some ⟨j, 0, none⟩), .slice none 0 0, .int .i64 0] 64 (0, 0))) ∧ Hid (Below wz.heap.size wz wr) ∧ Hid (BRd wz (lA, ln, lc) (gS ls (min i (n - 1)))))
      case atStart => exact ⟨0, 0, 0, none, P, rfl, rfl, Nat.zero_le _, Nat.le_refl _, HJ2, HP, HPR, HX2, HB2, hid (by rw [Nat.zero_min]; exact ⟨rfl, Nat.le_refl _, fun _ => ⟨rfl, rfl⟩, .inl rfl, by simp [gS]⟩)⟩
      case round =>
        obtain ⟨i, ln, lc, lA, P, rfl, rfl, hi, hgx, HJr, HPr, HPR, HXr, HBr, HLA⟩ := hrel
        have xr : wr.cell? ⟨R, 0, none⟩ = some (.pointer (some ⟨j, 0, none⟩)) := by simp [World.cell?, HXr.out]
        by_cases hlt : i < n
        · have hii : (i : Int) < (n : Int) := by omega
          have hwi : IntKind.i64.wrap ((i : Int) + 1) = (i : Int) + 1 := wrap_small _ (by omega) (by omega)
          have hwi2 : IntKind.i64.wrap ((i : Int) + 2) = (i : Int) + 2 := wrap_small _ (by omega) (by omega)
          have hwu2 : IntKind.u64.wrap ((i : Int) + 2) = (i : Int) + 2 := wrap_u64_in (by omega) (by omega)
          obtain ⟨b, off, sv, l, rfl, hb, hc, hl, hr⟩ := HL.out.at i hlt
          obtain ⟨sA, sn, sc⟩ := sv
          obtain ⟨r1, r2, r3, r4, r5⟩ := hr
          dsimp only at hc r1 r2 r3 r4
          subst r1
          have hgS : gS ls (i + 1) = l := by show ls[i]?.getD [] = l; rw [hl]; rfl
          have hll := sumL_mem hl
          have hsm := HSM.out
          obtain ⟨g1, g2, g3⟩ := gP_st ls rec i
          have g4 := gP_len ls rec i
          have g5 := gS_le i hsm
          have hbr := HBr.out
          have hap := jn_append HJr.out B rec.length d rec rfl HRB.out ((HU.out.below hbr).mono hbr.size) (fun hne q hq hp => by
            have h1 := reads_lt HU.out hne q hq
            have h2 := HPr.out _ hp
            omega)
          have hE : appErr (gP ls rec i) room rec = 0 := by unfold appErr; rw [if_neg (by omega), if_neg (by rw [g4]; show ¬ (16777216 : Int) < _; omega)]
          rw [hE, if_pos rfl] at hap
          have HAP := hid hap
          have HC := hid hc
          have HSA := hid r4
          have HLB := hid r5
          have HLL := hid hl
          have HGS := hid hgS
          have HBRD := hid (show BRd wz (sA, l.length, sc) l from ⟨rfl, r2, r3, r4, r5⟩)
          have hlb : l.length ≤ 65536 := by omega
          have HG3 := hid g3
          clear hap hE g1 g2 g3 g4 g5 hll hsm hbr hc r2 r3 r4 r5 hl hgS
          go_upto_region 16 with (go_at_call 42; refine HAP.out.mono ?_; rintro e w2 ⟨rfl, P2, hJ2, hS2⟩; have HJ2' := hid hJ2; have HS2' := hid hS2; clear hJ2 hS2 HAP)
          have hb2 : Below wz.heap.size wr w2 := HS2'.out.tch.toBelow HBr.out.size HPr.out
          have HBw2 := hid (HBr.out.trans hb2)
          have HP2 : Hid (∀ k, P2 k → wz.heap.size ≤ k) := hid (fun k hk => (HS2'.out.new k hk).elim (HPr.out k) (fun h => Nat.le_trans HBr.out.size h))
          have hRr : R < wr.heap.size := (Array.getElem?_eq_some_iff.1 HXr.out).1
          have HPR2 : Hid (¬ P2 R) := hid (fun e => (HS2'.out.new R e).elim HPR.out (fun h => by omega))
          have hx2 := HS2'.out.tch.box HXr.out HPR.out
          have x2 : w2.cell? ⟨R, 0, none⟩ = some (.pointer (some ⟨j, 0, none⟩)) := by simp [World.cell?, hx2]
          have c2 := (HBw2.out.cell (p := ⟨b, off + i, none⟩) hb).trans HC.out
          have HX2' := hid hx2
          have hsnp : ∀ W, Drawn w2 W → Calls Tryd.prog 41 #[.pointer (some ⟨j, 0, none⟩), .slice sA l.length sc] W fun e w' => e = .returned (.int .i64 0) ∧ Did w2 w' (.pointer (some ⟨j, 0, none⟩)) (gP ls rec (i + 1)) room P2 := fun W hW => by
            have hs := jn_snap (HJ2'.out.below (hW.below _)) sA l.length sc l rfl HLB.out ((HSA.out.below (HBw2.out.trans (hW.below _))).mono (Nat.le_trans HBw2.out.size (by rw [hW.heap]; exact Nat.le_refl _))) (fun hne q hq hp => by
              have h1 := reads_lt HSA.out hne q hq
              have h2 := HP2.out _ hp
              omega)
            have hE : snapErr ((gP ls rec i).app rec) room l = 0 := by
              unfold snapErr
              rw [if_neg (by omega), if_neg (by show ¬ (gP ls rec i).gen = _; rw [HG3.out]; omega), if_neg (by show ¬ (16777216 : Int) < _; omega)]
            rw [hE, if_pos rfl] at hs
            have hq : ((gP ls rec i).app rec).snap l = gP ls rec (i + 1) := by
              show _ = ((gP ls rec i).app rec).snap (ls[i]?.getD [])
              rw [HLL.out]; rfl
            rw [hq] at hs
            exact hs.mono fun e w' h => ⟨h.1, h.2.imp fun P' h => ⟨h.1, ⟨(Tch.drawn (P := P2) hW).trans h.2.tch (fun k hk => .inl hk), fun k hk => (h.2.new k hk).imp id (fun h => by rw [hW.heap] at h; exact h)⟩⟩⟩
          have HSNP := hid hsnp
          clear hb2 hx2 hsnp xr
          go_region_with (go_at_call 41; (with_reducible refine (HSNP.out _ (by first | assumption | exact (Drawn.refl _).drew | exact Drawn.refl _)).mono ?_); go_loud (rintro e w3 ⟨rfl, P3, hJ3, hS3⟩; have HJ3 := hid hJ3; have HS3 := hid hS3; clear hJ3 hS3))
          all_goals
            have hst := jn_stat HJ3.out
            have hgp := gP_st ls rec (i + 1)
            have hgl := gP_len ls rec (i + 1)
            have hgsy := (gP_prev ls rec i).2
            rw [HGS.out] at hgp hgl
            have hun : (gP ls rec (i + 1)).len - (gP ls rec (i + 1)).sy = 24 + l.length := by rw [hgl, hgsy]; omega
            have hwa : (gP ls rec (i + 1)).wa = 0 := rfl
            have hge : (gP ls rec (i + 1)).gen = (i : Int) + 2 := by rw [hgp.2.2]; push_cast; omega
            obtain ⟨sl, hsl⟩ : ∃ sl : Int, sl = (slotOf ((i : Int) + 2) : Nat) := ⟨_, rfl⟩
            have hslv : ((i : Int) + 1).tmod 2 = sl ∧ ((i : Int) + 1) % 2 = sl := by
              rw [hsl]
              have h1 : ((i : Int) + 1).tmod 2 = ((i : Int) + 1) % 2 := Int.tmod_eq_emod_of_nonneg (by omega)
              rcases slotOf_cases ((i : Int) + 2) with ⟨h2, h3⟩ | ⟨h2, h3⟩ <;> rw [h1, h2] <;> constructor <;> omega
            rw [hun, hwa, hgp.2.1, hgl, hge, ← hsl] at hst
            have hx3 := HS3.out.tch.box HX2'.out HPR2.out
            have x3 : w3.cell? ⟨R, 0, none⟩ = some (.pointer (some ⟨j, 0, none⟩)) := by simp [World.cell?, hx3]
            have hb3 : Below wz.heap.size w2 w3 := HS3.out.tch.toBelow HBw2.out.size HP2.out
            have HBw3 := hid (HBw2.out.trans hb3)
            have HX3 := hid hx3
            have HST := hid hst
            obtain ⟨hsv1, hsv2⟩ := hslv
            clear hst hgp hgl hgsy hun hwa hge hsl hx3 hb3
            go_wp2_with fail
            refine HST.out.mono ?_
            rintro e w4 ⟨rfl, hb4⟩
            obtain ⟨W5, hW5⟩ : ∃ W, W = w4.alloc (.cells #[.int .u64 ((i : Int) + 2), .int .i64 sl, .int .i64 0, .int .i64 (24 + (l.length : Int)), .int .i64 0, .int .i64 (24 + (l.length : Int))] 89) := ⟨_, rfl⟩
            have hb5 : Below w4.heap.size w4 W5 := by rw [hW5]; exact (Below.refl _ w4).alloc (Nat.le_refl _) _
            have hx5 : W5.heap[w4.heap.size]? = some (.cells #[.int .u64 ((i : Int) + 2), .int .i64 sl, .int .i64 0, .int .i64 (24 + (l.length : Int)), .int .i64 0, .int .i64 (24 + (l.length : Int))] 89 (0, 0)) := by rw [hW5]; exact heap_alloc_new w4 _
            obtain ⟨s0, s1, s2, s3, s5⟩ : W5.cell? ⟨w4.heap.size, 0, none⟩ = some (.int .u64 ((i : Int) + 2)) ∧ W5.cell? ⟨w4.heap.size, 1, none⟩ = some (.int .i64 sl) ∧ W5.cell? ⟨w4.heap.size, 2, none⟩ = some (.int .i64 0) ∧ W5.cell? ⟨w4.heap.size, 3, none⟩ = some (.int .i64 (24 + (l.length : Int))) ∧ W5.cell? ⟨w4.heap.size, 5, none⟩ = some (.int .i64 (24 + (l.length : Int))) := by
              refine ⟨?_, ?_, ?_, ?_, ?_⟩ <;> simp [World.cell?, hx5]
            have HB35 := hid (hb4.trans (hb5.mono hb4.size))
            have HBw5 := hid (HBw3.out.trans (HB35.out.mono HBw3.out.size))
            have c5 := (HBw5.out.cell (p := ⟨b, off + i, none⟩) hb).trans HC.out
            have HX5 := hid (box_below HX3.out HB35.out)
            have HJ5 := hid (HJ3.out.below HB35.out)
            have HP3 : Hid (∀ k, P3 k → wz.heap.size ≤ k) := hid (fun k hk => (HS3.out.new k hk).elim (HP2.out k) (fun h => Nat.le_trans HBw2.out.size h))
            have HPR3 : Hid (¬ P3 R) := hid (fun e => (HS3.out.new R e).elim HPR2.out (fun h => by have h2 := (Array.getElem?_eq_some_iff.1 HX2'.out).1; omega))
            have hw24 : IntKind.i64.wrap (24 + (l.length : Int)) = 24 + (l.length : Int) := wrap_small _ (by omega) (by omega)
            have m1 : ((i : Int) + 2 != (i : Int) + 2) = false := by simp
            have m2 : (sl != sl) = false := by simp
            have m3 : (24 + (l.length : Int) != 24 + (l.length : Int)) = false := by simp
            have i1 : (0 : Int) ≤ (i : Int) := by omega
            clear hb4 hb5 hx5 x3 HST
            go_upto_region 18 with fail
            rw [← hW5]
            clear hW5
            go_quiet ((go_at_call 19; exact Calls.quiet_of_same (HN.out _)))
            have HJq := hid (fun (nq : Nat) => HJ5.out.below (below_drewN' (Below.refl _ _) nq : Below W5.heap.size W5 (W5.drewN nq)))
            clear s0 s1 s2 s3 s5 m1 m2 m3
            by_cases hnx : i + 1 < n
            · have dx : decide ((i : Int) + 1 < (n : Int)) = true := by simp; omega
              have dx2 : decide (i + 1 < n) = true := by simpa using hnx
              have hmn : min (i + 1) (n - 1) = i + 1 := by omega
              have HMN := hid hmn
              clear hmn
              go_wp2_with fail
              go_roundg (n - (i + 1))
              case measure => omega
              case rel => exact ⟨i + 1, l.length, sc, sA, P3, by go_num, rfl, hlt, Nat.le_refl _, hid (HJq.out _), HP3, HPR3, hid HX5.out, hid (HBw5.out.trans (below_drewN' (Below.refl _ _) _)), hid (by rw [HMN.out, HGS.out]; exact HBRD.out)⟩
            · have dx : decide ((i : Int) + 1 < (n : Int)) = false := by simp; omega
              have dx2 : decide (i + 1 < n) = false := by simpa using hnx
              have hmn : min (i + 1) (n - 1) = min i (n - 1) := by omega
              have HMN := hid hmn
              clear hmn
              go_wp2_with fail
              go_roundg (n - (i + 1))
              case measure => omega
              case rel => exact ⟨i + 1, ln, lc, lA, P3, by go_num, rfl, hlt, Nat.le_refl _, hid (HJq.out _), HP3, HPR3, hid HX5.out, hid (HBw5.out.trans (below_drewN' (Below.refl _ _) _)), hid (by rw [HMN.out]; exact HLA.out)⟩
        · have hii : ¬ (i : Int) < (n : Int) := by omega
          by_cases hn0 : n = 0
          · have dz : ((n : Int) == 0) = true := by rw [hn0]; rfl
            have HN0 := hid hn0
            clear hn0
            go_wp2_with fail
            go_ret
            exact ⟨rfl, HBr.out⟩
          obtain ⟨k, hk⟩ : ∃ k, n = k + 1 := ⟨n - 1, by omega⟩
          have hik : i = k + 1 := by omega
          have HIK := hid hik
          have HNK := hid hk
          have dz : ((n : Int) == 0) = false := by simpa using hn0
          obtain ⟨b, off, sv, l, rfl, hb, hc, hl, hr⟩ := HL.out.at k (by omega)
          obtain ⟨sA, sn, sc⟩ := sv
          obtain ⟨r1, r2, r3, r4, r5⟩ := hr
          dsimp only at hc r1 r2 r3 r4
          subst r1
          have hgS : gS ls (k + 1) = l := by show ls[k]?.getD [] = l; rw [hl]; rfl
          have hJr := HJr.out
          rw [hik] at hJr
          have hla := HLA.out
          rw [show min i (n - 1) = k by omega] at hla
          obtain ⟨p, hp⟩ : ∃ p, gP ls rec (k + 1) = p := ⟨_, rfl⟩
          rw [hp] at hJr
          have hC := jn_crash hJr keep ⟨by omega, hk1⟩
          have hol := open_left hJr.ok room_lim keep
          have hdb := hJr.ok.d_byte (p.left keep)
          have hcw := PS.cut_wa hJr.ok (p.left_le hJr.ok keep).1
          have hlb : l.length ≤ 65536 := by have h1 := sumL_mem hl; have h2 := HSM.out; omega
          have hwn : IntKind.i64.wrap ((n : Int) - 1) = (k : Int) := by rw [wrap_small _ (by omega) (by omega)]; omega
          have hwn1 : IntKind.i64.wrap ((n : Int) + 1) = (n : Int) + 1 := wrap_small _ (by omega) (by omega)
          have hwu1 : IntKind.u64.wrap ((n : Int) + 1) = (n : Int) + 1 := wrap_u64_in (by omega) (by omega)
          have hwu0 : IntKind.u64.wrap (n : Int) = (n : Int) := wrap_u64_in (by omega) (by omega)
          have hw24 : IntKind.i64.wrap (24 + (l.length : Int)) = 24 + (l.length : Int) := wrap_small _ (by omega) (by omega)
          have hkn : (k : Int) < (n : Int) := by omega
          have hk00 : (0 : Int) ≤ (k : Int) := by omega
          have hq : (24 + (l.length : Int) ≤ keep ∧ (p.cut (p.left keep)).st = l ∧ (p.cut (p.left keep)).rs = [] ∧ (p.cut (p.left keep)).gen = (n : Int) + 1 ∧ (p.torn (p.left keep) : Int) = 0) ∨ (keep < 24 + (l.length : Int) ∧ (p.cut (p.left keep)).st = gS ls k ∧ (p.cut (p.left keep)).rs = [rec] ∧ (p.cut (p.left keep)).gen = (n : Int) ∧ (p.torn (p.left keep) : Int) = keep) := by
            rw [← hp, ← hgS]
            by_cases hkp : 24 + ((gS ls (k + 1)).length : Int) ≤ keep
            · obtain ⟨h1, h2, h3, h4⟩ := gP_whole ls rec k keep hkp
              exact .inl ⟨hkp, h1, h2, by rw [h3]; omega, by rw [h4]; rfl⟩
            · obtain ⟨h1, h2, h3, h4⟩ := gP_torn ls rec k keep (by omega) (by omega)
              exact .inr ⟨by omega, h1, h2, by rw [h3]; omega, h4⟩
          obtain ⟨q, hqe⟩ : ∃ q, p.cut (p.left keep) = q := ⟨_, rfl⟩
          obtain ⟨T, hT⟩ : ∃ T, p.torn (p.left keep) = T := ⟨_, rfl⟩
          rw [hqe] at hol hcw hq
          rw [hT] at hol hq
          have HQ := hid hq
          have HC := hid hC
          have HOL := hid hol
          have HDB := hid hdb
          have HCW := hid hcw
          have HLAST := hid hla
          have HCC := hid hc
          have HNOW := hid (show BRd wz (sA, l.length, sc) l from ⟨rfl, r2, r3, r4, r5⟩)
          clear hC hol hdb hcw hq hqe hT hp hJr hla hgS hl r2 r3 r4 r5 hc hik
          go_wp2_with fail
          refine HC.out.mono ?_
          rintro e w3 ⟨A0, n0, c0, A1, n1, c1, rfl, hD, hG, ht⟩
          have hrd := DskRd.of hD HDB.out.1 HDB.out.2
          have hb3 : Below wz.heap.size wr w3 := ht.toBelow HBr.out.size HPr.out
          obtain ⟨W4, hW4⟩ : ∃ W, W = w3.alloc (.cells #[.slice A0 n0 c0, .slice A1 n1 c1] 25) := ⟨_, rfl⟩
          have hb4 : Below w3.heap.size w3 W4 := by rw [hW4]; exact (Below.refl _ w3).alloc (Nat.le_refl _) _
          have hrd4 := hrd.below hb4
          have HO := hid (jn_open W4 A0 n0 c0 A1 n1 c1 _ _ room q T hrd4.len0 hrd4.cap0 hrd4.len1 hrd4.cap1 hrd4.byte0 hrd4.byte1 hrd4.rd0 hrd4.rd1 HOL.out HCW.out)
          have HB4 := hid ((HBr.out.trans hb3).trans (hb4.mono (Nat.le_trans HBr.out.size hb3.size)))
          clear hD hG ht hrd hb3 hb4 hrd4 HC
          go_wp2_with fail
          rw [← hW4]
          clear hW4
          refine HO.out.mono ?_
          rintro e w5 ⟨V5, sv, rv, P5, m1, m2, rfl, hne, hb5, hJn, hP5, hm1, hm2, hh, hs5⟩
          obtain ⟨j5, s0, s1, rfl, _, _⟩ := hJn.at'
          obtain ⟨Ar, cr, rfl, _, _⟩ := hh.holds.slice
          obtain ⟨_, As, cs, rfl, hcs, _, hsr⟩ := owns_reads u8s_len hs5 (by decide)
          have hnil : NilOk As q.st.length cs := NilOk.of_own hs5
          have HQB := hid HOL.out.good.st1
          obtain ⟨W6, hW6⟩ : ∃ W, W = w5.alloc (.cells #[.int .u64 q.gen, .slice As q.st.length cs, .slice Ar q.rs.length cr, .int .i64 (T : Int)] 30) := ⟨_, rfl⟩
          have hb6 : Below w5.heap.size w5 W6 := by rw [hW6]; exact (Below.refl _ w5).alloc (Nat.le_refl _) _
          have hx6 : W6.heap[w5.heap.size]? = some (.cells #[.int .u64 q.gen, .slice As q.st.length cs, .slice Ar q.rs.length cr, .int .i64 (T : Int)] 30 (0, 0)) := by rw [hW6]; exact heap_alloc_new w5 _
          have HB6 := hid ((HB4.out.trans (hb5.mono HB4.out.size)).trans (hb6.mono (Nat.le_trans HB4.out.size hb5.size)))
          have HSR := hid ((hsr.below hb6).mono hb6.size)
          have HCS := hid hcs
          have HNIL := hid hnil
          have c6 := (HB6.out.cell (p := ⟨b, off + k, none⟩) hb).trans HCC.out
          have HX6 := hid hx6
          clear hne hb5 hJn hP5 hm1 hm2 hh hs5 hb6 hx6 HO hcs hsr hnil
          go_wp2_with fail
          refine (HN.out _).mono ?_
          rintro e wx ⟨rfl, hwx⟩
          subst hwx
          rcases HQ.out with ⟨hkp, h1, h2, h3, h4⟩ | ⟨hkp, h1, h2, h3, h4⟩
          · have dk : decide (24 + (l.length : Int) ≤ keep) = true := by simpa using hkp
            rw [h1] at HSR HCS HNIL HQB
            have hx6 := HX6.out
            rw [h1, h2, h3, h4] at hx6
            clear h1 h2 h3 h4
            obtain ⟨p0, p1, p2, p3⟩ : W6.cell? ⟨w5.heap.size, 0, none⟩ = some (.int .u64 ((n : Int) + 1)) ∧ W6.cell? ⟨w5.heap.size, 1, none⟩ = some (.slice As l.length cs) ∧ W6.cell? ⟨w5.heap.size, 2, none⟩ = some (.slice Ar 0 cr) ∧ W6.cell? ⟨w5.heap.size, 3, none⟩ = some (.int .i64 0) := by
              refine ⟨?_, ?_, ?_, ?_⟩ <;> simp [World.cell?, hx6]
            have hnow := HNOW.out.below HB6.out
            have hsb := sameBytes_any W6 As l.length cs l sA l.length sc l rfl rfl HNIL.out hnow.2.2.1 HQB.out hnow.2.2.2.2 HSR.out hnow.2.2.2.1
            rw [show beqL l l = true by unfold beqL; simp] at hsb
            have HSB := hid hsb
            clear hx6 hnow hsb
            go_upto_region 28 with fail
            rw [← hW6]
            clear hW6
            go_wp2_with fail
            refine HSB.out.mono ?_
            rintro e wy ⟨rfl, hwy⟩
            obtain rfl : W6 = wy := hwy.symm
            go_wp2_with fail
            go_ret
            exact ⟨rfl, HB6.out⟩
          · have dk : decide (24 + (l.length : Int) ≤ keep) = false := by simp; omega
            rw [h1] at HSR HCS HNIL HQB
            have hx6 := HX6.out
            rw [h1, h2, h3, h4] at hx6
            clear h1 h2 h3 h4
            have hlast := HLAST.out.below HB6.out
            obtain ⟨hll, _⟩ := HLAST.out
            dsimp only at hll
            obtain ⟨p0, p1, p2, p3⟩ : W6.cell? ⟨w5.heap.size, 0, none⟩ = some (.int .u64 (n : Int)) ∧ W6.cell? ⟨w5.heap.size, 1, none⟩ = some (.slice As (gS ls k).length cs) ∧ W6.cell? ⟨w5.heap.size, 2, none⟩ = some (.slice Ar 1 cr) ∧ W6.cell? ⟨w5.heap.size, 3, none⟩ = some (.int .i64 keep) := by
              refine ⟨?_, ?_, ?_, ?_⟩ <;> simp [World.cell?, hx6]
            have hsb := sameBytes_any W6 As (gS ls k).length cs (gS ls k) lA ln lc (gS ls k) rfl hll HNIL.out hlast.2.2.1 HQB.out hlast.2.2.2.2 HSR.out hlast.2.2.2.1
            rw [show beqL (gS ls k) (gS ls k) = true by unfold beqL; simp] at hsb
            have HSB := hid hsb
            clear hx6 hlast hsb hll
            go_upto_region 28 with fail
            rw [← hW6]
            clear hW6
            go_wp2_with fail
            refine HSB.out.mono ?_
            rintro e wy ⟨rfl, hwy⟩
            obtain rfl : W6 = wy := hwy.symm
            go_wp2_with fail
            go_ret
            exact ⟨rfl, HB6.out⟩
end Go.Proofs.YtfcgmlofiaehkaaDoor
