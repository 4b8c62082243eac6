/- Layer 9: the head of a slot, walked. -/
import Derived.Test.YtfcgmlofiaehkaaDoorJP
import Derived.Deep.RegionHeld3
import Derived.StillTailTactics
namespace Go.Proofs.YtfcgmlofiaehkaaDoor
open Go.RowKit

def tornS : ByteArray := { data := #[116, 104, 101, 32, 98, 121, 116, 101, 115, 32, 101, 110, 100, 32, 104, 101, 114, 101] }
def rotS : ByteArray := { data := #[110, 111, 32, 99, 114, 97, 115, 104, 32, 108, 101, 97, 118, 101, 115, 32, 115, 117, 99, 104, 32, 98, 121, 116, 101, 115] }
def endS (rot : Bool) : ByteArray := if rot = true then rotS else tornS
/-- an ending, in a box of its own -/
def Ended (w w' : World) (v : Value) (at' : Nat) (rot : Bool) : Prop :=
  ∃ b, v = .iface 113 (.pointer (some ⟨b, 0, none⟩)) ∧ w.heap.size ≤ b ∧ Row w' b [.int .i64 at', .string (endS rot)] ∧ Below w.heap.size w w'
def HeadErr (w w' : World) (v : Value) : Option Bool → Prop
  | .none => v = .nilIface ∧ Below w.heap.size w w'
  | some rot => Ended w w' v 0 rot

set_option maxRecDepth 100000 in
set_option maxHeartbeats 4000000 in
theorem head_any (w : World) (A : Option Addr) (n c : Nat) (b : List Int) (which : Int) (hl : b.length = n) (hnc : n ≤ c) (hm : n ≤ 1000000000) (hb : ∀ x ∈ b, isB x) (hR : U8s w.heap.size w A b) :
    Calls Tryd.prog 77 #[.slice A n c, .int .i64 which] w fun e w' => ∃ err, e = .returned (.tuple #[.int .u64 (headG b which), .int .i64 (headN b which), err]) ∧ HeadErr w w' err (headBad b which) := by
  subst hl
  by_cases h20 : b.length < 20
  · have e : headBad b which = some false := by unfold headBad; rw [if_pos h20]
    have hlt : (b.length : Int) < 20 := by omega
    have eg : headG b which = 0 := by unfold headG; rw [e]; rfl
    have en : headN b which = 0 := by unfold headN; rw [e]; rfl
    rw [e, eg, en]
    clear hR hb e h20 eg en
    go_enter Tryd.func77, Tryd.ntmps77
    go_wp2_with fail
    go_ret3
    exact ⟨_, rfl, _, rfl, Nat.le_refl _, Row.new w [.int .i64 0, .string tornS] _, (Below.refl _ w).alloc (Nat.le_refl _) _⟩
  · have hlt : ¬ (b.length : Int) < 20 := by omega
    obtain ⟨A4, run4, rd4⟩ := drop_run (P := Tryd.prog) (enc := u8s) 22 5 _ 1 1 Tryd.underlying22 infoU8 A b.length c 4 4 rfl (by omega) hnc
    obtain ⟨A8, run8, rd8⟩ := drop_run (P := Tryd.prog) (enc := u8s) 22 5 _ 1 1 Tryd.underlying22 infoU8 A b.length c 8 8 rfl (by omega) hnc
    obtain ⟨A12, run12, rd12⟩ := drop_run (P := Tryd.prog) (enc := u8s) 22 5 _ 1 1 Tryd.underlying22 infoU8 A b.length c 12 12 rfl (by omega) hnc
    obtain ⟨Ah4, runh4, rdh4, hn4⟩ := headB_run A b.length c 4 4 rfl (by omega) hnc
    obtain ⟨Ah16, runh16, rdh16, _⟩ := headB_run A b.length c 16 16 rfl (by omega) hnc
    have hbd : ∀ k, ∀ x ∈ b.drop k, isB x := fun k x hx => hb x (List.mem_of_mem_drop hx)
    have hbt : ∀ k, ∀ x ∈ b.take k, isB x := fun k x hx => hb x (List.mem_of_mem_take hx)
    have HG4 := hid (get32_at w A4 (b.length - 4) (c - 4) (b.drop 4) (by simp) (by omega) (by omega) (hbd 4) (rd4 _ _ _ rfl hR))
    have HG8 := hid (get32_at w A8 (b.length - 8) (c - 8) (b.drop 8) (by simp) (by omega) (by omega) (hbd 8) (rd8 _ _ _ rfl hR))
    have HG12 := hid (get32_at w A12 (b.length - 12) (c - 12) (b.drop 12) (by simp) (by omega) (by omega) (hbd 12) (rd12 _ _ _ rfl hR))
    have HC16 := hid (crc_at w Ah16 16 c (b.take 16) (by rw [List.length_take]; omega) (by omega) (hbt 16) (rdh16 _ _ _ rfl hR))
    have HS16 := hid (fun sum => sealed_at w A b.length c b 16 16 rfl sum rfl hnc hm (by omega) hb hR)
    have hcv : ∀ W, Drawn w W → (convert 22 9 (.slice Ah4 4 c)).run Tryd.prog W = .ok (.string (toStr (b.take 4))) W := fun W hW => by
      have := conv_bytes W Ah4 c (b.take 4) (fun h => by
        have := hn4 h
        rcases hR with h0 | ⟨_, _, h1, _⟩
        · rw [h0] at h20; simp at h20
        · rw [this] at h1; cases h1) (by rw [hW.heap]; exact hW.reads (rdh4 _ _ _ rfl hR)) (hbt 4)
      rwa [List.length_take, Nat.min_eq_left (by omega)] at this
    have hg4 := get4_W (hbd 4)
    have hg8 := get4_W (hbd 8)
    have hg12 := get4_W (hbd 12)
    have eG : genB b = get4 (b.drop 4) * 4294967296 + get4 (b.drop 8) := rfl
    have eN : lenB b = get4 (b.drop 12) := rfl
    have hgr := genB_range hb
    have eR : headBad b which = if headRot b which = true then some true else none := by unfold headBad; rw [if_neg h20]
    have hor : bits .or .u64 (get4 (b.drop 4) * 4294967296) (get4 (b.drop 8)) = genB b := by
      rw [bits_join .u64 64 (by decide) (fun n h0 h1 => by rw [IntKind.wrap_u64]; omega) 32 _ _ (by have := hg4.1; omega) (by omega) (by have := hg4.2; omega) hg8.1 (by have := hg8.2; omega) (by have := hg8.2; omega)]
      exact eG.symm
    generalize hx4 : get4 (b.drop 4) = x4 at *
    generalize hx8 : get4 (b.drop 8) = x8 at *
    generalize hx12 : get4 (b.drop 12) = x12 at *
    obtain ⟨g, hg⟩ : ∃ g, genB b = g := ⟨_, rfl⟩
    rw [hg] at hor hgr
    obtain ⟨p4, q4⟩ := hg4
    obtain ⟨p8, q8⟩ := hg8
    obtain ⟨p12, q12⟩ := hg12
    have w4 : IntKind.u64.wrap x4 = x4 := wrap_u64_in p4 (by omega)
    have w4' : IntKind.u64.wrap (x4 * 4294967296) = x4 * 4294967296 := wrap_u64_in (by omega) (by omega)
    have w8 : IntKind.u64.wrap x8 = x8 := wrap_u64_in p8 (by omega)
    have HE := hid eR
    have HN := hid eN
    have hmg := magic_eq (hbt 4)
    have HROT : Hid (headRot b which = true → headBad b which = some true ∧ headG b which = 0 ∧ headN b which = 0) := hid (fun h => by
      have e : headBad b which = some true := by rw [HE.out, if_pos h]
      exact ⟨e, by unfold headG; rw [e]; rfl, by unfold headN; rw [e]; rfl⟩)
    have HOK : Hid (headRot b which = false → headBad b which = none ∧ headG b which = genB b ∧ headN b which = lenB b) := hid (fun h => by
      have e : headBad b which = none := by rw [HE.out, h]; rfl
      exact ⟨e, by unfold headG; rw [e]; rfl, by unfold headN; rw [e]; rfl⟩)
    have hROT : headRot b which = decide (b.take 4 ≠ magic ∨ get4 (b.drop 16) ≠ crcM 0 (b.take 16) ∨ g = 0 ∨ g % 2 = which ∨ 4194304 < x12) := by
      unfold headRot; rw [hg, eN]
    have HR2 := hid hROT
    have HG0 := hid hg
    clear eR eN hROT hg hx4 hx8 hx12 eG rdh4 rdh16 rd4 rd8 rd12 hbd hbt hn4 hb hR
    generalize hG : headG b which = G at *
    generalize hNN : headN b which = NN at *
    generalize hBd : headBad b which = bd at *
    clear hG hNN hBd
    go_enter Tryd.func77, Tryd.ntmps77
    go_upto_region 3 with fail
    have hDr := Drawn.refl w
    go_region_held3 (fun w' => Drawn w w') (first | assumption | exact Drawn.drew (by assumption))
      (first
        | (go_at_call 80; with_reducible refine (HG4.out _ (by assumption)).mono ?_; rintro e w' ⟨rfl, hDr2⟩)
        | (go_at_call 80; with_reducible refine (HG8.out _ (by assumption)).mono ?_; rintro e w' ⟨rfl, hDr2⟩))
    all_goals
      rename_i hDrw
      go_wp2_with fail
      with_reducible refine (HG12.out _ (by assumption)).mono ?_
      rintro e w5 ⟨rfl, hD5⟩
      have hcv5 := hcv w5 hD5
      have HFIN : Hid (∀ at' : List Value, at' = [.int .i64 0, .string rotS] → Ended w (w5.alloc (.cells at'.toArray 118)) (.iface 113 (.pointer (some ⟨w5.heap.size, 0, none⟩))) 0 true) := hid (fun at' e => by
        subst e
        exact ⟨w5.heap.size, rfl, by rw [hD5.heap]; exact Nat.le_refl _, Row.new w5 _ _, (hD5.below _).alloc (by rw [hD5.heap]; exact Nat.le_refl _) _⟩)
      by_cases c1 : b.take 4 = magic
      case neg =>
        have hz : ((toStr (b.take 4)).toList == [83, 72, 74, 49]) = false := by rw [hmg]; simp [c1]
        obtain ⟨rfl, rfl, rfl⟩ := HROT.out (by rw [HR2.out]; simp [c1])
        clear hmg c1
        go_wp2_with fail
        go_ret3
        exact ⟨_, rfl, HFIN.out _ rfl⟩
      case pos =>
      have hz : ((toStr (b.take 4)).toList == [83, 72, 74, 49]) = true := by rw [hmg]; simp [c1]
      clear hmg
      by_cases c2 : get4 (b.drop 16) = crcM 0 (b.take 16)
      case neg =>
        obtain ⟨rfl, rfl, rfl⟩ := HROT.out (by rw [HR2.out]; simp [c2])
        have hs := HS16.out (crcM 0 (b.take 16))
        rw [show (get4 (b.drop 16) == crcM 0 (b.take 16)) = false by simpa using c2] at hs
        have HS := hid hs
        clear c1 c2 hs
        go_wp2_with fail
        with_reducible refine (HC16.out _ (by assumption)).mono ?_
        rintro e w6 ⟨rfl, hD6⟩
        go_wp2_with fail
        with_reducible refine (HS.out _ (by assumption)).mono ?_
        rintro e w7 ⟨rfl, hD7⟩
        go_wp2_with fail
        go_ret3
        exact ⟨_, rfl, w7.heap.size, rfl, by rw [hD7.heap]; exact Nat.le_refl _, Row.new w7 [.int .i64 0, .string rotS] _, (hD7.below _).alloc (by rw [hD7.heap]; exact Nat.le_refl _) _⟩
      case pos =>
      have hs := HS16.out (crcM 0 (b.take 16))
      rw [show (get4 (b.drop 16) == crcM 0 (b.take 16)) = true by simpa using c2] at hs
      have HS := hid hs
      clear hs
      have hq2 : 0 ≤ g % 2 ∧ g % 2 ≤ 1 := ⟨by omega, by omega⟩
      have hw2 : wrap64 (g.tmod 2) = g % 2 := by
        rw [Int.tmod_eq_emod_of_nonneg hgr.1]
        unfold wrap64; omega
      have hwx : IntKind.i64.wrap x12 = x12 := wrap_small _ (by omega) (by omega)
      by_cases c3 : g = 0
      case pos =>
        obtain ⟨rfl, rfl, rfl⟩ := HROT.out (by rw [HR2.out]; simp [c3])
        have f3 : (g == 0) = true := by simpa using c3
        clear c1 c2 c3 hq2 hw2 hgr
        go_wp2_with fail
        with_reducible refine (HC16.out _ (by assumption)).mono ?_
        rintro e w6 ⟨rfl, hD6⟩
        go_wp2_with fail
        with_reducible refine (HS.out _ (by assumption)).mono ?_
        rintro e w7 ⟨rfl, hD7⟩
        go_wp2_with fail
        go_ret3
        exact ⟨_, rfl, w7.heap.size, rfl, by rw [hD7.heap]; exact Nat.le_refl _, Row.new w7 [.int .i64 0, .string rotS] _, (hD7.below _).alloc (by rw [hD7.heap]; exact Nat.le_refl _) _⟩
      case neg =>
      have f3 : (g == 0) = false := by simpa using c3
      by_cases c4 : g % 2 = which
      case pos =>
        obtain ⟨rfl, rfl, rfl⟩ := HROT.out (by rw [HR2.out]; simp [c4])
        have f4 : (g % 2 == which) = true := by simpa using c4
        clear c1 c2 c3 c4 hgr
        go_wp2_with fail
        with_reducible refine (HC16.out _ (by assumption)).mono ?_
        rintro e w6 ⟨rfl, hD6⟩
        go_wp2_with fail
        with_reducible refine (HS.out _ (by assumption)).mono ?_
        rintro e w7 ⟨rfl, hD7⟩
        go_wp2_with fail
        go_ret3
        exact ⟨_, rfl, w7.heap.size, rfl, by rw [hD7.heap]; exact Nat.le_refl _, Row.new w7 [.int .i64 0, .string rotS] _, (hD7.below _).alloc (by rw [hD7.heap]; exact Nat.le_refl _) _⟩
      case neg =>
      have f4 : (g % 2 == which) = false := by simpa using c4
      by_cases c5 : 4194304 < x12
      case pos =>
        obtain ⟨rfl, rfl, rfl⟩ := HROT.out (by rw [HR2.out]; simp [c5])
        have f5 : decide (x12 > 4194304) = true := by simpa using c5
        have f5' : decide (4194304 < x12) = true := by simpa using c5
        clear c1 c2 c3 c4 c5 hgr
        go_wp2_with fail
        with_reducible refine (HC16.out _ (by assumption)).mono ?_
        rintro e w6 ⟨rfl, hD6⟩
        go_wp2_with fail
        with_reducible refine (HS.out _ (by assumption)).mono ?_
        rintro e w7 ⟨rfl, hD7⟩
        go_wp2_with fail
        go_ret3
        exact ⟨_, rfl, w7.heap.size, rfl, by rw [hD7.heap]; exact Nat.le_refl _, Row.new w7 [.int .i64 0, .string rotS] _, (hD7.below _).alloc (by rw [hD7.heap]; exact Nat.le_refl _) _⟩
      case neg =>
        have f5 : decide (x12 > 4194304) = false := by simpa using c5
        have f5' : decide (4194304 < x12) = false := by simpa using c5
        obtain ⟨rfl, hG2, hN2⟩ := HOK.out (by rw [HR2.out]; simp [c1, c2, c3, c4, c5])
        obtain rfl : G = g := hG2.trans HG0.out
        obtain rfl : NN = x12 := hN2.trans HN.out
        clear c1 c2 c3 c4 c5 hgr hG2 hN2
        go_wp2_with fail
        with_reducible refine (HC16.out _ (by assumption)).mono ?_
        rintro e w6 ⟨rfl, hD6⟩
        go_wp2_with fail
        with_reducible refine (HS.out _ (by assumption)).mono ?_
        rintro e w7 ⟨rfl, hD7⟩
        go_wp2_with fail
        go_ret3
        exact ⟨_, rfl, rfl, hD7.below _⟩
end Go.Proofs.YtfcgmlofiaehkaaDoor
