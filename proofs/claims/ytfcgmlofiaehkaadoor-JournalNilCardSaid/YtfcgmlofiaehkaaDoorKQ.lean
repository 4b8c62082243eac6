/- Layer 9: JournalNil: a nil journal and a dead one hold nothing and take nothing: the walk. -/
import Derived.Test.YtfcgmlofiaehkaaDoorKO
namespace Go.Proofs.YtfcgmlofiaehkaaDoor
open Go.RowKit

theorem Gone.keep {w w' : World} {V : Value} {x : Int} {Q : Nat → Prop} (h : Gone w V x) (ht : Tch Q w w') (hd : ∀ j, V = .pointer (some ⟨j, 0, none⟩) → ¬ Q j) : Gone w' V x := by
  rcases h with ⟨rfl, rfl⟩ | ⟨j, rfl, rfl, hb⟩
  · exact .inl ⟨rfl, rfl⟩
  · exact .inr ⟨j, rfl, rfl, ht.box hb (hd j rfl)⟩
set_option maxRecDepth 100000 in
set_option maxHeartbeats 4000000 in
theorem journalNil_walk (w : World) (A : Option Addr) (n c : Nat) (k : Int) : Calls Tryd.prog 11 #[.slice A n c, .int .i64 k] w fun e w' => e = .returned (.bool true) ∧ Below w.heap.size w w' := by
  have HN := hid (fun W x => num_any W x)
  go_enter Tryd.func11, Tryd.ntmps11
  go_wp2_with fail
  refine (begin_any w).mono ?_
  rintro e w1 ⟨j, P, rfl, hJ, hP, hb1⟩
  obtain ⟨W2, hW2⟩ : ∃ W, W = w1.alloc (.cells #[.pointer (some ⟨j, 0, none⟩), .slice none 0 0, .int .i64 0] 64) := ⟨_, rfl⟩
  have hb2 : Below w1.heap.size w1 W2 := by rw [hW2]; exact (Below.refl _ w1).alloc (Nat.le_refl _) _
  have hr2 : W2.heap[w1.heap.size]? = some (.cells #[.pointer (some ⟨j, 0, none⟩), .slice none 0 0, .int .i64 0] 64 (0, 0)) := by rw [hW2]; exact heap_alloc_new w1 _
  have hC := jn_crash (hJ.below hb2) 0 ⟨by omega, by omega⟩
  have hPr : ¬ P w1.heap.size := fun h => by have := hJ.lt _ h; omega
  have HC := hid hC
  have HP := hid hP
  have HB2 := hid (hb1.trans (hb2.mono hb1.size))
  have HR2 := hid hr2
  have HPR := hid hPr
  have x2 : W2.cell? ⟨w1.heap.size, 0, none⟩ = some (.pointer (some ⟨j, 0, none⟩)) := by simp [World.cell?, hr2]
  have hsz2 := hb2.size
  have hsz1 := hb1.size
  clear hC hJ hP hr2 hb1 hb2 hPr
  go_upto_region 5 with fail
  rw [← hW2]
  clear hW2
  go_wp2_with fail
  refine HC.out.mono ?_
  rintro e w3 ⟨A0, n0, c0, A1, n1, c1, rfl, _, hG, ht⟩
  have hb3 : Below w.heap.size w w3 := HB2.out.trans (ht.toBelow (by omega) HP.out)
  have hr3 := ht.box HR2.out HPR.out
  have x3 : w3.cell? ⟨w1.heap.size, 0, none⟩ = some (.pointer (some ⟨j, 0, none⟩)) := by simp [World.cell?, hr3]
  have hlt3 : w1.heap.size < w3.heap.size := (Array.getElem?_eq_some_iff.1 hr3).1
  have HG := hid hG
  have HB3 := hid hb3
  clear hG hb3 hr3 ht x2
  go_wp2_with fail
  refine (HN.out _ _).mono ?_
  rintro e w4 ⟨rfl, hw4⟩
  subst hw4
  obtain ⟨W5, hW5⟩ : ∃ W, W = w3.alloc (.cells #[.slice A0 n0 c0, .slice A1 n1 c1] 25) := ⟨_, rfl⟩
  have hb5 : Below w3.heap.size w3 W5 := by rw [hW5]; exact (Below.refl _ w3).alloc (Nat.le_refl _) _
  have HG5 := hid (HG.out.kept hb5)
  have HB5 := hid (HB3.out.trans (hb5.mono HB3.out.size))
  have x5 : W5.cell? ⟨w1.heap.size, 0, none⟩ = some (.pointer (some ⟨j, 0, none⟩)) := (hb5.cell (p := ⟨w1.heap.size, 0, none⟩) hlt3).trans x3
  have hl5 : w1.heap.size < W5.heap.size := Nat.lt_of_lt_of_le hlt3 hb5.size
  rw [← hW5]
  clear HG HB3 x3 hb5 hW5 HC HP HB2 HR2 HPR
  have HK := hid hl5
  go_wp2_with fail
  go_loopg [10] 2 (fun gx si wr => ∃ i : Nat, si = .int .i64 i ∧ i ≤ 2 ∧ 2 - i ≤ gx ∧ Below W5.heap.size W5 wr)
  case atStart => exact ⟨0, rfl, by omega, Nat.le_refl _, Below.refl _ _⟩
  case round =>
    obtain ⟨i, rfl, hi, hgx, hbr⟩ := hrel
    have hrz := hbr.size
    have xr : wr.cell? ⟨w1.heap.size, 0, none⟩ = some (.pointer (some ⟨j, 0, none⟩)) := (hbr.cell (p := ⟨w1.heap.size, 0, none⟩) HK.out).trans x5
    have hlr : w1.heap.size < wr.heap.size := Nat.lt_of_lt_of_le HK.out hbr.size
    have HGR := hid (HG5.out.kept hbr)
    have HBR := hid hbr
    clear hbr x5
    have h3 : i = 0 ∨ i = 1 ∨ i = 2 := by omega
    rcases h3 with rfl | rfl | rfl
    · have hgg := hgx
      have HV : Hid (∀ W, Below wr.heap.size wr W → Gone W (.pointer none) 1) := hid (fun W hW => .inl ⟨rfl, rfl⟩)
      clear HGR
      go_wp2_with fail
      refine (gone_append _ _ _ _ (HV.out _ (by repeat' (first | assumption | exact Below.refl _ _ | refine Below.alloc ?_ ?_ _ | exact Nat.le_refl _ | (exact Below.size (by assumption)) | (simp; done) | (simp; omega))))).mono ?_
      rintro e wa ⟨rfl, hwa⟩
      obtain rfl : wr = wa := hwa.symm
      go_wp2_with fail
      refine (gone_sync _ _ _ (HV.out _ (by repeat' (first | assumption | exact Below.refl _ _ | refine Below.alloc ?_ ?_ _ | exact Nat.le_refl _ | (exact Below.size (by assumption)) | (simp; done) | (simp; omega))))).mono ?_
      rintro e wa ⟨rfl, hwa⟩
      obtain rfl : wr = wa := hwa.symm
      go_wp2_with fail
      refine (gone_snapshot _ _ _ _ (HV.out _ (by repeat' (first | assumption | exact Below.refl _ _ | refine Below.alloc ?_ ?_ _ | exact Nat.le_refl _ | (exact Below.size (by assumption)) | (simp; done) | (simp; omega))))).mono ?_
      rintro e wa ⟨rfl, hwa⟩
      obtain rfl : wr = wa := hwa.symm
      go_wp2_with fail
      refine (gone_crash _ _ _ _ (HV.out _ (by repeat' (first | assumption | exact Below.refl _ _ | refine Below.alloc ?_ ?_ _ | exact Nat.le_refl _ | (exact Below.size (by assumption)) | (simp; done) | (simp; omega))))).mono ?_
      rintro e wc ⟨rfl, hbc⟩
      obtain ⟨W6, hW6⟩ : ∃ W, W = wc.alloc (.cells #[.slice none 0 0, .slice none 0 0] 25) := ⟨_, rfl⟩
      have hn6 : Below wc.heap.size wc W6 := by rw [hW6]; exact (Below.refl _ wc).alloc (Nat.le_refl _) _
      have hb6 : Below wr.heap.size wr W6 := hbc.trans (hn6.mono hbc.size)
      have hx6 : W6.heap[wc.heap.size]? = some (.cells #[.slice none 0 0, .slice none 0 0] 25 (0, 0)) := by rw [hW6]; exact heap_alloc_new wc _
      have HX6 := hid hx6
      clear hn6 hx6 hbc
      go_wp2_with fail
      rw [← hW6]
      clear hW6
      refine (gone_disk W6 _ _ (HV.out _ hb6)).mono ?_
      rintro e wd ⟨rfl, hbd⟩
      obtain ⟨W7, hW7⟩ : ∃ W, W = wd.alloc (.cells #[.slice none 0 0, .slice none 0 0] 25) := ⟨_, rfl⟩
      have hn7 : Below wd.heap.size wd W7 := by rw [hW7]; exact (Below.refl _ wd).alloc (Nat.le_refl _) _
      have hb7 : Below wr.heap.size wr W7 := (hb6.trans (hbd.mono hb6.size)).trans (hn7.mono (Nat.le_trans hb6.size hbd.size))
      have HX7 := hid (box_below (box_below HX6.out hbd) hn7)
      clear hn7 hbd hb6
      go_wp2_with fail
      rw [← hW7]
      clear hW7
      refine (sameDisk_any W7 none 0 0 none 0 0 [] [] none 0 0 none 0 0 [] [] (DskRd.none _) (DskRd.none _)).mono ?_
      rintro e we ⟨rfl, hbe⟩
      have hb8 : Below wr.heap.size wr we := hb7.trans (hbe.mono hb7.size)
      obtain ⟨z0, z1, _, _⟩ := disk_box (box_below HX7.out hbe)
      rw [show (beqL ([] : List Int) [] && beqL ([] : List Int) []) = true from rfl]
      clear hbe hb7
      go_wp2_with fail
      refine (sameDisk_any we none 0 0 none 0 0 [] [] none 0 0 none 0 0 [] [] (DskRd.none _) (DskRd.none _)).mono ?_
      rintro e wf ⟨rfl, hbf⟩
      have hb9 : Below wr.heap.size wr wf := hb8.trans (hbf.mono hb8.size)
      rw [show (beqL ([] : List Int) [] && beqL ([] : List Int) []) = true from rfl]
      clear hbf hb8 z0 z1
      go_wp2_with fail
      refine (gone_stat wf _ _ (HV.out _ hb9)).mono ?_
      rintro e wg ⟨rfl, hbg⟩
      have hb10 : Below wr.heap.size wr wg := hb9.trans (hbg.mono hb9.size)
      obtain ⟨W8, hW8⟩ : ∃ W, W = wg.alloc (.cells #[.int .u64 0, .int .i64 0, .int .i64 0, .int .i64 0, .int .i64 0, .int .i64 0] 89) := ⟨_, rfl⟩
      have hn8 : Below wg.heap.size wg W8 := by rw [hW8]; exact (Below.refl _ wg).alloc (Nat.le_refl _) _
      have HB11 := hid (hb10.trans (hn8.mono hb10.size))
      have hx8 : W8.heap[wg.heap.size]? = some (.cells #[.int .u64 0, .int .i64 0, .int .i64 0, .int .i64 0, .int .i64 0, .int .i64 0] 89 (0, 0)) := by rw [hW8]; exact heap_alloc_new wg _
      obtain ⟨s0, s1, s2, s3, s4, s5⟩ : W8.cell? ⟨wg.heap.size, 0, none⟩ = some (.int .u64 0) ∧ W8.cell? ⟨wg.heap.size, 1, none⟩ = some (.int .i64 0) ∧ W8.cell? ⟨wg.heap.size, 2, none⟩ = some (.int .i64 0) ∧ W8.cell? ⟨wg.heap.size, 3, none⟩ = some (.int .i64 0) ∧ W8.cell? ⟨wg.heap.size, 4, none⟩ = some (.int .i64 0) ∧ W8.cell? ⟨wg.heap.size, 5, none⟩ = some (.int .i64 0) := by
        refine ⟨?_, ?_, ?_, ?_, ?_, ?_⟩ <;> simp [World.cell?, hx8]
      clear hn8 hx8 hbg hb9 hb10
      go_upto_region 24 with fail
      rw [← hW8]
      clear hW8
      go_wp2_with (go_at_call 19; refine (HN.out _ _).mono ?_; rintro e wh ⟨rfl, hwh⟩; obtain rfl : W8 = wh := hwh.symm)
      go_roundg (2 - (0 + 1))
      case measure => omega
      case rel => exact ⟨0 + 1, by go_num, by omega, Nat.le_refl _, HBR.out.trans (HB11.out.mono HBR.out.size)⟩
    · have hgg := hgx
      have HV : Hid (∀ W, Below wr.heap.size wr W → Gone W (.pointer (some ⟨j, 0, none⟩)) 92) := hid (fun W hW => HGR.out.kept hW)
      clear HGR
      go_wp2_with fail
      refine (gone_append _ _ _ _ (HV.out _ (by repeat' (first | assumption | exact Below.refl _ _ | refine Below.alloc ?_ ?_ _ | exact Nat.le_refl _ | (exact Below.size (by assumption)) | (simp; done) | (simp; omega))))).mono ?_
      rintro e wa ⟨rfl, hwa⟩
      obtain rfl : wr = wa := hwa.symm
      go_wp2_with fail
      refine (gone_sync _ _ _ (HV.out _ (by repeat' (first | assumption | exact Below.refl _ _ | refine Below.alloc ?_ ?_ _ | exact Nat.le_refl _ | (exact Below.size (by assumption)) | (simp; done) | (simp; omega))))).mono ?_
      rintro e wa ⟨rfl, hwa⟩
      obtain rfl : wr = wa := hwa.symm
      go_wp2_with fail
      refine (gone_snapshot _ _ _ _ (HV.out _ (by repeat' (first | assumption | exact Below.refl _ _ | refine Below.alloc ?_ ?_ _ | exact Nat.le_refl _ | (exact Below.size (by assumption)) | (simp; done) | (simp; omega))))).mono ?_
      rintro e wa ⟨rfl, hwa⟩
      obtain rfl : wr = wa := hwa.symm
      go_wp2_with fail
      refine (gone_crash _ _ _ _ (HV.out _ (by repeat' (first | assumption | exact Below.refl _ _ | refine Below.alloc ?_ ?_ _ | exact Nat.le_refl _ | (exact Below.size (by assumption)) | (simp; done) | (simp; omega))))).mono ?_
      rintro e wc ⟨rfl, hbc⟩
      obtain ⟨W6, hW6⟩ : ∃ W, W = wc.alloc (.cells #[.slice none 0 0, .slice none 0 0] 25) := ⟨_, rfl⟩
      have hn6 : Below wc.heap.size wc W6 := by rw [hW6]; exact (Below.refl _ wc).alloc (Nat.le_refl _) _
      have hb6 : Below wr.heap.size wr W6 := hbc.trans (hn6.mono hbc.size)
      have hx6 : W6.heap[wc.heap.size]? = some (.cells #[.slice none 0 0, .slice none 0 0] 25 (0, 0)) := by rw [hW6]; exact heap_alloc_new wc _
      have HX6 := hid hx6
      clear hn6 hx6 hbc
      go_wp2_with fail
      rw [← hW6]
      clear hW6
      refine (gone_disk W6 _ _ (HV.out _ hb6)).mono ?_
      rintro e wd ⟨rfl, hbd⟩
      obtain ⟨W7, hW7⟩ : ∃ W, W = wd.alloc (.cells #[.slice none 0 0, .slice none 0 0] 25) := ⟨_, rfl⟩
      have hn7 : Below wd.heap.size wd W7 := by rw [hW7]; exact (Below.refl _ wd).alloc (Nat.le_refl _) _
      have hb7 : Below wr.heap.size wr W7 := (hb6.trans (hbd.mono hb6.size)).trans (hn7.mono (Nat.le_trans hb6.size hbd.size))
      have HX7 := hid (box_below (box_below HX6.out hbd) hn7)
      clear hn7 hbd hb6
      go_wp2_with fail
      rw [← hW7]
      clear hW7
      refine (sameDisk_any W7 none 0 0 none 0 0 [] [] none 0 0 none 0 0 [] [] (DskRd.none _) (DskRd.none _)).mono ?_
      rintro e we ⟨rfl, hbe⟩
      have hb8 : Below wr.heap.size wr we := hb7.trans (hbe.mono hb7.size)
      obtain ⟨z0, z1, _, _⟩ := disk_box (box_below HX7.out hbe)
      rw [show (beqL ([] : List Int) [] && beqL ([] : List Int) []) = true from rfl]
      clear hbe hb7
      go_wp2_with fail
      refine (sameDisk_any we none 0 0 none 0 0 [] [] none 0 0 none 0 0 [] [] (DskRd.none _) (DskRd.none _)).mono ?_
      rintro e wf ⟨rfl, hbf⟩
      have hb9 : Below wr.heap.size wr wf := hb8.trans (hbf.mono hb8.size)
      rw [show (beqL ([] : List Int) [] && beqL ([] : List Int) []) = true from rfl]
      clear hbf hb8 z0 z1
      go_wp2_with fail
      refine (gone_stat wf _ _ (HV.out _ hb9)).mono ?_
      rintro e wg ⟨rfl, hbg⟩
      have hb10 : Below wr.heap.size wr wg := hb9.trans (hbg.mono hb9.size)
      obtain ⟨W8, hW8⟩ : ∃ W, W = wg.alloc (.cells #[.int .u64 0, .int .i64 0, .int .i64 0, .int .i64 0, .int .i64 0, .int .i64 0] 89) := ⟨_, rfl⟩
      have hn8 : Below wg.heap.size wg W8 := by rw [hW8]; exact (Below.refl _ wg).alloc (Nat.le_refl _) _
      have HB11 := hid (hb10.trans (hn8.mono hb10.size))
      have hx8 : W8.heap[wg.heap.size]? = some (.cells #[.int .u64 0, .int .i64 0, .int .i64 0, .int .i64 0, .int .i64 0, .int .i64 0] 89 (0, 0)) := by rw [hW8]; exact heap_alloc_new wg _
      obtain ⟨s0, s1, s2, s3, s4, s5⟩ : W8.cell? ⟨wg.heap.size, 0, none⟩ = some (.int .u64 0) ∧ W8.cell? ⟨wg.heap.size, 1, none⟩ = some (.int .i64 0) ∧ W8.cell? ⟨wg.heap.size, 2, none⟩ = some (.int .i64 0) ∧ W8.cell? ⟨wg.heap.size, 3, none⟩ = some (.int .i64 0) ∧ W8.cell? ⟨wg.heap.size, 4, none⟩ = some (.int .i64 0) ∧ W8.cell? ⟨wg.heap.size, 5, none⟩ = some (.int .i64 0) := by
        refine ⟨?_, ?_, ?_, ?_, ?_, ?_⟩ <;> simp [World.cell?, hx8]
      clear hn8 hx8 hbg hb9 hb10
      go_upto_region 24 with fail
      rw [← hW8]
      clear hW8
      go_wp2_with (go_at_call 19; refine (HN.out _ _).mono ?_; rintro e wh ⟨rfl, hwh⟩; obtain rfl : W8 = wh := hwh.symm)
      go_roundg (2 - (1 + 1))
      case measure => omega
      case rel => exact ⟨1 + 1, by go_num, by omega, Nat.le_refl _, HBR.out.trans (HB11.out.mono HBR.out.size)⟩
    · go_wp2_with fail
      go_ret
      exact ⟨rfl, HB5.out.trans (HBR.out.mono HB5.out.size)⟩
theorem journalNil_row (w : World) (A : Option Addr) (n c : Nat) (l : List Int) (k : Int) (_ : l.length = n) (_ : n ≤ c) (_ : c ≤ maxLen) (_ : ∀ x ∈ l, (Lit.int .u8 x).wf = true) (_ : n * 1 ≤ 140737488351232) (_ : U8s w.heap.size w A l) (_ : (Lit.int .i64 k).wf = true) :
    Calls Tryd.prog 11 #[.slice A n c, .int .i64 k] w fun e w' => e = .returned (.bool true) ∧ Below w.heap.size w w' := journalNil_walk w A n c k
end Go.Proofs.YtfcgmlofiaehkaaDoor
