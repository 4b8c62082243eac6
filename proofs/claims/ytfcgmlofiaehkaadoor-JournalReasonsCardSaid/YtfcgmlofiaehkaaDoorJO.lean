/- Layer 9: Open of a disk that opens, walked. -/
import Derived.Test.YtfcgmlofiaehkaaDoorJM
namespace Go.Proofs.YtfcgmlofiaehkaaDoor
open Go.RowKit

/-- what stands while Open runs: the disk's box, the answer's box -/
structure OBase (w : World) (d0 d1 : Value) (W : World) : Prop where
  bel : Below w.heap.size w W
  d : W.heap[w.heap.size]? = some (.cells #[d0, d1] 25 (0, 0))
  r : W.heap[w.heap.size + 1]? = some (.cells #[.int .u64 0, .slice none 0 0, .slice none 0 0, .int .i64 0] 30 (0, 0))
theorem OBase.kept {w : World} {d0 d1 : Value} {W W' : World} (h : OBase w d0 d1 W) (hb : Below W.heap.size W W') : OBase w d0 d1 W' :=
  ⟨h.bel.trans (hb.mono h.bel.size), (hb.block _ (Array.getElem?_eq_some_iff.1 h.d).1).trans h.d, (hb.block _ (Array.getElem?_eq_some_iff.1 h.r).1).trans h.r⟩
theorem OBase.lt {w : World} {d0 d1 : Value} {W : World} (h : OBase w d0 d1 W) : w.heap.size + 1 < W.heap.size := (Array.getElem?_eq_some_iff.1 h.r).1
theorem OBase.cells {w : World} {d0 d1 : Value} {W : World} (h : OBase w d0 d1 W) : W.cell? ⟨w.heap.size, 0, none⟩ = some d0 ∧ W.cell? ⟨w.heap.size, 1, none⟩ = some d1 := by
  have := h.d
  constructor <;> simp [World.cell?, this]
theorem OBase.drawn {w : World} {d0 d1 : Value} {W W' : World} (h : OBase w d0 d1 W) (hd : Drawn W W') : OBase w d0 d1 W' := by
  obtain ⟨q, rfl⟩ := hd
  exact ⟨below_drewN' h.bel q, h.d, h.r⟩
theorem Holds.drawn {W W' : World} {lo : Nat} {V : Value} {ls : List (List Int)} (h : Holds W lo V ls) (hd : Drawn W W') : Holds W' lo V ls := h.keep fun k o _ ho => by rw [hd.heap]; exact ho
/-- the box of the two slots held -/
def HBox (W : World) (g : Nat) (x0 x1 x2 x3 x4 x5 y0 y1 y2 y3 y4 y5 : Value) : Prop := W.heap[g]? = some (.cells #[x0, x1, x2, x3, x4, x5, y0, y1, y2, y3, y4, y5] 110 (0, 0))
theorem HBox.kept {W W' : World} {g : Nat} {x0 x1 x2 x3 x4 x5 y0 y1 y2 y3 y4 y5 : Value} (h : HBox W g x0 x1 x2 x3 x4 x5 y0 y1 y2 y3 y4 y5) (hb : Below W.heap.size W W') : HBox W' g x0 x1 x2 x3 x4 x5 y0 y1 y2 y3 y4 y5 := (hb.block g (Array.getElem?_eq_some_iff.1 h).1).trans h
theorem HBox.lt {W : World} {g : Nat} {x0 x1 x2 x3 x4 x5 y0 y1 y2 y3 y4 y5 : Value} (h : HBox W g x0 x1 x2 x3 x4 x5 y0 y1 y2 y3 y4 y5) : g < W.heap.size := (Array.getElem?_eq_some_iff.1 h).1
theorem HBox.fz {W : World} {g : Nat} {x0 x1 x2 x3 x4 x5 y0 y1 y2 y3 y4 y5 : Value} (h : HBox W g x0 x1 x2 x3 x4 x5 y0 y1 y2 y3 y4 y5) (i : Nat) : W.frozen? ⟨g, i, none⟩ = false := by
  unfold HBox at h; simp [World.frozen?, h]
theorem HBox.lo {W : World} {g : Nat} {x0 x1 x2 x3 x4 x5 y0 y1 y2 y3 y4 y5 : Value} (h : HBox W g x0 x1 x2 x3 x4 x5 y0 y1 y2 y3 y4 y5) : W.cell? ⟨g, 0, none⟩ = some x0 ∧ W.cell? ⟨g, 1, none⟩ = some x1 ∧ W.cell? ⟨g, 2, none⟩ = some x2 ∧ W.cell? ⟨g, 3, none⟩ = some x3 ∧ W.cell? ⟨g, 4, none⟩ = some x4 ∧ W.cell? ⟨g, 5, none⟩ = some x5 := by
  unfold HBox at h
  refine ⟨?_, ?_, ?_, ?_, ?_, ?_⟩ <;> simp [World.cell?, h]
theorem HBox.hi {W : World} {g : Nat} {x0 x1 x2 x3 x4 x5 y0 y1 y2 y3 y4 y5 : Value} (h : HBox W g x0 x1 x2 x3 x4 x5 y0 y1 y2 y3 y4 y5) : W.cell? ⟨g, 6, none⟩ = some y0 ∧ W.cell? ⟨g, 7, none⟩ = some y1 ∧ W.cell? ⟨g, 8, none⟩ = some y2 ∧ W.cell? ⟨g, 9, none⟩ = some y3 ∧ W.cell? ⟨g, 10, none⟩ = some y4 ∧ W.cell? ⟨g, 11, none⟩ = some y5 := by
  unfold HBox at h
  refine ⟨?_, ?_, ?_, ?_, ?_, ?_⟩ <;> simp [World.cell?, h]
theorem HBox.setLo {W : World} {g : Nat} {x0 x1 x2 x3 x4 x5 y0 y1 y2 y3 y4 y5 : Value} (h : HBox W g x0 x1 x2 x3 x4 x5 y0 y1 y2 y3 y4 y5) (z0 z1 z2 z3 z4 z5 : Value) :
    HBox ((((((W.setCell ⟨g, 0, none⟩ z0).setCell ⟨g, 1, none⟩ z1).setCell ⟨g, 2, none⟩ z2).setCell ⟨g, 3, none⟩ z3).setCell ⟨g, 4, none⟩ z4).setCell ⟨g, 5, none⟩ z5) g z0 z1 z2 z3 z4 z5 y0 y1 y2 y3 y4 y5 :=
  heap_setCell_at z5 (heap_setCell_at z4 (heap_setCell_at z3 (heap_setCell_at z2 (heap_setCell_at z1 (heap_setCell_at z0 h)))))
theorem HBox.setHi {W : World} {g : Nat} {x0 x1 x2 x3 x4 x5 y0 y1 y2 y3 y4 y5 : Value} (h : HBox W g x0 x1 x2 x3 x4 x5 y0 y1 y2 y3 y4 y5) (z0 z1 z2 z3 z4 z5 : Value) :
    HBox ((((((W.setCell ⟨g, 6, none⟩ z0).setCell ⟨g, 7, none⟩ z1).setCell ⟨g, 8, none⟩ z2).setCell ⟨g, 9, none⟩ z3).setCell ⟨g, 10, none⟩ z4).setCell ⟨g, 11, none⟩ z5) g x0 x1 x2 x3 x4 x5 z0 z1 z2 z3 z4 z5 :=
  heap_setCell_at z5 (heap_setCell_at z4 (heap_setCell_at z3 (heap_setCell_at z2 (heap_setCell_at z1 (heap_setCell_at z0 h)))))
theorem HBox.noByte {W : World} {g : Nat} {a0 b0 : Bool} {a1 a4 a5 b1 b4 b5 : Int} {A2 A3 B2 B3 : Option Addr} {n2 c2 n3 c3 m2 d2 m3 d3 : Nat}
    (h : HBox W g (.bool a0) (.int .u64 a1) (.slice A2 n2 c2) (.slice A3 n3 c3) (.int .i64 a4) (.int .u32 a5) (.bool b0) (.int .u64 b1) (.slice B2 m2 d2) (.slice B3 m3 d3) (.int .i64 b4) (.int .u32 b5)) (k : Nat) (x : Int) : W.cell? ⟨g, k, none⟩ ≠ some (.int .u8 x) := by
  intro e
  rw [box_cell h k] at e
  match k, e with
  | 0, e => cases e
  | 1, e => cases e
  | 2, e => cases e
  | 3, e => cases e
  | 4, e => cases e
  | 5, e => cases e
  | 6, e => cases e
  | 7, e => cases e
  | 8, e => cases e
  | 9, e => cases e
  | 10, e => cases e
  | 11, e => cases e
  | k + 12, e => simp at e
/-- bytes that do not lie in the box g go on reading where all other blocks stay -/
theorem reads_but {B g : Nat} {W W' : World} {A : Option Addr} {l : List Int} (h : U8s B W A l) (hn : ∀ k x, W.cell? ⟨g, k, none⟩ ≠ some (.int .u8 x)) (hk : ∀ k, k < B → k ≠ g → W'.heap[k]? = W.heap[k]?) : U8s B W' A l := by
  rcases h with h | ⟨b, off, h1, h2, h3⟩
  · exact .inl h
  · by_cases hl : l = []
    · exact .inl hl
    · have hne : b ≠ g := by
        rintro rfl
        obtain ⟨x, hx⟩ : ∃ x, l[0]? = some x := ⟨_, List.getElem?_eq_getElem (List.length_pos_iff.2 hl)⟩
        exact hn _ _ (h3 0 x hx 0 _ rfl)
      exact .inr ⟨b, off, h1, h2, fun i x hx j v hv => by
        rw [← h3 i x hx j v hv]
        simp [World.cell?, hk b h2 hne]⟩
theorem results_open {fn : Func} {p q r : Tmp} (h : fn.results = #[.tmp p, .cell q 30, .tmp r]) (tmps : Array Value) (w : World) (g : Nat) (cs : Array Value) (v1 v3 : Value)
    (h1 : tmps.getD p undef = v1) (hp : tmps.getD q undef = .pointer (some ⟨g, 0, none⟩)) (hg : w.heap[g]? = some (.cells cs 30 (0, 0))) (hi : cs.size = 4) (h3 : tmps.getD r undef = v3) : (results fn tmps).run Tryd.prog w = .ok (.tuple #[v1, .agg cs, v3]) w := by
  have h1' : tmps[p]?.getD undef = v1 := by simpa using h1
  have hp' : tmps[q]?.getD undef = .pointer (some ⟨g, 0, none⟩) := by simpa using hp
  have h3' : tmps[r]?.getD undef = v3 := by simpa using h3
  have hr := run_loadVar_row w g 30 30 cs (0, 0) _ hg Tryd.underlying30 rfl (by rw [hi]; kernel_rfl)
  simp [results, h, h1', hp', h3', asAddr, hr, Result.andThen]
/-- one box of another type written over: rows and the other boxes stay -/
structure OneSet (g : Nat) (W W' : World) : Prop where
  size : W'.heap.size = W.heap.size
  os : W'.os = W.os
  tape : W'.tape = W.tape
  output : W'.output = W.output
  block : ∀ k, k ≠ g → W'.heap[k]? = W.heap[k]?
theorem OneSet.refl (g : Nat) (W : World) : OneSet g W W := ⟨rfl, rfl, rfl, rfl, fun _ _ => rfl⟩
theorem OneSet.setCell {g : Nat} {W W' : World} (h : OneSet g W W') (i : Nat) (v : Value) : OneSet g W (W'.setCell ⟨g, i, none⟩ v) :=
  ⟨(size_setCell' ..).trans h.size, h.os, h.tape, h.output, fun k hk => (Below.heap_setCell _ _ _ _ hk).trans (h.block k hk)⟩
theorem OneSet.rows {g : Nat} {W W' : World} (h : OneSet g W W') {cs : Array Value} {e : TypeId} (hg : W.heap[g]? = some (.cells cs e (0, 0))) (h1 : e ≠ 22) (h2 : e ≠ 5) : KeepRows W W' := fun k o hr ho => by
  rw [h.block k (fun ek => ?_)]
  · exact ho
  · subst ek
    rw [hg] at ho
    obtain ⟨cs', hr | hr⟩ := hr
    · rw [hr] at ho; injection ho with ho; injection ho with _ ho; exact h1 ho
    · rw [hr] at ho; injection ho with ho; injection ho with _ ho; exact h2 ho
theorem OneSet.below {g B : Nat} {W W' : World} (h : OneSet g W W') (hg : B ≤ g) : Below B W W' := ⟨h.os, h.tape, h.output, Nat.le_of_eq h.size.symm, fun k hk => h.block k (by omega)⟩
theorem OneSet.row {g : Nat} {W W' : World} (h : OneSet g W W') {b : Nat} {vs : List Value} (hr : Row W b vs) (hne : b ≠ g) : Row W' b vs :=
  ⟨by rw [h.size]; exact hr.1, fun j v hv => by rw [← hr.2 j v hv]; simp [World.cell?, h.block b hne]⟩
theorem OBase.oneSet {w : World} {d0 d1 : Value} {W W' : World} {g : Nat} (h : OBase w d0 d1 W) (hs : OneSet g W W') (hg : w.heap.size + 1 < g) : OBase w d0 d1 W' :=
  ⟨h.bel.trans (hs.below (by omega)), (hs.block _ (by omega)).trans h.d, (hs.block _ (by omega)).trans h.r⟩

theorem open_done {w WC Wb W6 W7 W9 wn W10 : World} {d0 d1 V : Value} {recs : List (List Int)} {lo : Nat} {J : JL} {s0 s1 : SV} {sv : Value} {st : List Int} (hO9 : OBase w d0 d1 W9) (hJ9 : W9.heap[WC.heap.size]? = some (.cells (jCells J s0 s1) 120 (0, 0))) (hRC : Holds WC lo V recs) (hlo : w.heap.size ≤ lo) (hwc : w.heap.size + 1 < WC.heap.size)
    (hkC9 : KeepRows WC W9) (hk69 : KeepRows W6 W9) (hk79 : KeepRows W7 W9) (own0 : OwnB W6 Wb.heap.size s0.v J.l0) (own1 : OwnB W7 W6.heap.size s1.v J.l1) (z1 : WC.heap.size ≤ Wb.heap.size) (z2 : Wb.heap.size ≤ W6.heap.size) (z3 : W6.heap.size ≤ W7.heap.size) (z4 : W7.heap.size ≤ W9.heap.size)
    (hbC : Below W9.heap.size W9 wn) (hoC : OwnB wn W9.heap.size sv st) (hos : OneSet (w.heap.size + 1) wn W10) :
    Below w.heap.size w W10 ∧ w.heap.size ≤ WC.heap.size ∧ WC.heap.size ≤ W9.heap.size ∧ HoldsIn W10 w.heap.size WC.heap.size V recs ∧ JAt W10 WC.heap.size W9.heap.size WC.heap.size J s0 s1 ∧ OwnB W10 W9.heap.size sv st := by
  have hr := box_below hO9.r hbC
  have hk10 : KeepRows wn W10 := hos.rows hr (by decide) (by decide)
  have hk9 : KeepRows W9 W10 := (keep_below hbC).trans hk10
  refine ⟨(hO9.bel.trans (hbC.mono hO9.bel.size)).trans (hos.below (by omega)), by omega, by omega, ((hRC.mono hlo).in).keep (hkC9.trans hk9), ⟨(hos.block _ (by omega)).trans (box_below hJ9 hbC), Nat.le_refl _, box_lt hJ9, own_mono (ownB_keep row_u8 own0 (hk69.trans hk9)) z1, own_mono (ownB_keep row_u8 own1 (hk79.trans hk9)) (by omega), fun k e => ?_, fun k e => ?_, fun k e e2 => ?_⟩, ownB_keep row_u8 hoC hk10⟩
  · have := (own0.lt k e).2; omega
  · have := (own1.lt k e).2; omega
  · have h1 := (own0.lt k e).2
    have h2 := (own1.lt k e2).1
    omega

set_option maxRecDepth 100000 in
set_option maxHeartbeats 16000000 in
theorem open_ok (w : World) (A0 : Option Addr) (n0 c0 : Nat) (A1 : Option Addr) (n1 c1 : Nat) (b0 b1 : List Int) (limit : Int) (hl0 : b0.length = n0) (hc0 : n0 ≤ c0) (hl1 : b1.length = n1) (hc1 : n1 ≤ c1)
    (hb0 : ∀ x ∈ b0, isB x) (hb1 : ∀ x ∈ b1, isB x) (hR0 : U8s w.heap.size w A0 b0) (hR1 : U8s w.heap.size w A1 b1) (hok : OkOpen b0 b1 limit) :
    Calls Tryd.prog 16 #[.agg #[.slice A0 n0 c0, .slice A1 n1 c1], .int .i64 limit] w fun e w' => ∃ j s0 s1 sv V m1 m2, e = .returned (.tuple #[.pointer (some ⟨j, 0, none⟩), .agg #[.int .u64 (openJ b0 b1 limit).gen, sv, V, .int .i64 (openTorn b0 b1 : Int)], .nilIface]) ∧
      Below w.heap.size w w' ∧ w.heap.size ≤ m1 ∧ m1 ≤ m2 ∧ HoldsIn w' w.heap.size m1 V (heldAt (scanL b0 0).1 (scanL b1 1).1 (useOf (scanL b0 0).1 (scanL b1 1).1)).recs ∧ JAt w' m1 m2 j (openJ b0 b1 limit) s0 s1 ∧
      OwnB w' m2 sv (heldAt (scanL b0 0).1 (scanL b1 1).1 (useOf (scanL b0 0).1 (scanL b1 1).1)).state := by
  subst hl0 hl1
  have hlim := hok.lim
  unfold goodLim at hlim
  simp only [decide_eq_true_eq] at hlim
  obtain ⟨hlm0, hlm1⟩ := hlim
  have hln0 := hok.len0
  have hln1 := hok.len1
  have hgl := goodLimit_any
  have HOK := hid hok
  have HB0 := hid hb0
  have HB1 := hid hb1
  have HR0 := hid hR0
  have HR1 := hid hR1
  have HGL := hid (fun W => (goodLimit_any W limit))
  have f0 : decide ((b0.length : Int) > limit) = false := by simp; omega
  have f0' : decide (limit < (b0.length : Int)) = false := by simp; omega
  have f1 : decide ((b1.length : Int) > limit) = false := by simp; omega
  have f1' : decide (limit < (b1.length : Int)) = false := by simp; omega
  have hgt : goodLim limit = true := hok.lim
  have ix0 := arr_index0 A0 b0.length c0 A1 b1.length c1
  have ix1 := arr_index1 A0 b0.length c0 A1 b1.length c1
  clear hok hb0 hb1 hR0 hR1 hgl
  go_enter Tryd.func16, Tryd.ntmps16
  go_wp2_with fail
  refine (HGL.out _).mono ?_
  rintro e w1 ⟨rfl, hw1⟩
  rw [hgt]
  subst hw1
  go_wp2_with fail
  obtain ⟨W0, hW0⟩ : ∃ W0, W0 = (w.alloc (.cells #[.slice A0 b0.length c0, .slice A1 b1.length c1] 25)).alloc (.cells #[.int .u64 0, .slice none 0 0, .slice none 0 0, .int .i64 0] 30) := ⟨_, rfl⟩
  have hDb : W0.heap[w.heap.size]? = some (.cells #[.slice A0 b0.length c0, .slice A1 b1.length c1] 25 (0, 0)) := by
    rw [hW0]
    exact ((World.grownBy_alloc _ _ none).block w.heap.size (by simp) (by simp)).trans (heap_alloc_new w _)
  have hRb : W0.heap[w.heap.size + 1]? = some (.cells #[.int .u64 0, .slice none 0 0, .slice none 0 0, .int .i64 0] 30 (0, 0)) := by
    rw [hW0]
    have := heap_alloc_new (w.alloc (.cells #[.slice A0 b0.length c0, .slice A1 b1.length c1] 25)) (.cells #[.int .u64 0, .slice none 0 0, .slice none 0 0, .int .i64 0] 30)
    simpa using this
  have hB0' : Below w.heap.size w W0 := by rw [hW0]; exact ((Below.refl _ w).alloc (Nat.le_refl _) _).alloc (by simp) _
  have hsz0 : W0.heap.size = w.heap.size + 2 := by rw [hW0]; simp
  rw [← hW0]
  have HW0 := hid hW0
  have HDb := hid hDb
  have HRb := hid hRb
  have HBW0 := hid hB0'
  have HSZ0 := hid hsz0
  clear hW0 hDb hRb hB0' hsz0
  have hO0 : OBase w (.slice A0 b0.length c0) (.slice A1 b1.length c1) W0 := ⟨HBW0.out, HDb.out, HRb.out⟩
  obtain ⟨W1, hW1⟩ : ∃ W1, W1 = W0.alloc (.cells #[.bool false, .int .u64 0, .slice none 0 0, .slice none 0 0, .int .i64 0, .int .u32 0, .bool false, .int .u64 0, .slice none 0 0, .slice none 0 0, .int .i64 0, .int .u32 0] 110) := ⟨_, rfl⟩
  have hb01 : Below W0.heap.size W0 W1 := by rw [hW1]; exact (Below.refl _ _).alloc (Nat.le_refl _) _
  have hO1 := hO0.kept hb01
  obtain ⟨H, hH⟩ : ∃ H, H = W0.heap.size := ⟨_, rfl⟩
  have hHB : HBox W1 H (.bool false) (.int .u64 0) (.slice none 0 0) (.slice none 0 0) (.int .i64 0) (.int .u32 0) (.bool false) (.int .u64 0) (.slice none 0 0) (.slice none 0 0) (.int .i64 0) (.int .u32 0) := by
    rw [hW1, hH]; exact heap_alloc_new _ _
  have hHgt : w.heap.size + 1 < H := by rw [hH]; exact hO0.lt
  obtain ⟨e0, e1⟩ := hO1.cells
  rw [hW1] at e0 e1
  have HOW1 := hid hO1
  have HW1 := hid hW1
  have HHB := hid hHB
  have HHG := hid hHgt
  have HHE := hid hH
  clear hO0 hb01 hO1 hW1 hHB hHgt hH HW0 HDb HRb HBW0 HSZ0
  refine wp_loop_rounds 3 ?_
  rw [rounds_succ]
  go_wp2_with fail
  rw [rounds_succ]
  go_wp2_with fail
  rw [rounds_succ]
  go_wp2_with fail
  rw [← HW1.out, ← HHE.out]
  clear e0 e1
  refine wp_loop_rounds 3 ?_
  rw [rounds_succ]
  go_wp2_with fail
  --R
  have hsc := scan_any W1 A0 b0.length c0 b0 0 rfl hc0 (by omega) HB0.out ((HR0.out.below HOW1.out.bel).mono HOW1.out.bel.size)
  obtain ⟨x0, hx0⟩ : ∃ x, scanL b0 0 = x := ⟨_, rfl⟩
  rw [hx0] at hsc
  have hrot : x0.2.2 = false := by rw [← hx0]; exact HOK.out.rot0
  refine hsc.mono ?_
  rintro e V0w ⟨sv, err, rfl, hsl, hend⟩
  obtain ⟨As0, ns0, cs0, VV0, rfl, hst0, hcs0, hsr0, hho0⟩ := hsl
  obtain ⟨AV0, cV0, rfl, _, _⟩ := hho0.slice
  obtain ⟨eb0, rfl, heb0, hrow0, hbel0⟩ := hend
  have hHk := HHB.out.kept hbel0
  obtain ⟨l0, l1, l2, l3, l4, l5⟩ := hHk.lo
  have z0 := hHk.fz 0
  have z1 := hHk.fz 1
  have z2 := hHk.fz 2
  have z3 := hHk.fz 3
  have z4 := hHk.fz 4
  have z5 := hHk.fz 5
  have hO2 := HOW1.out.kept hbel0
  obtain ⟨U0, hU0⟩ : ∃ U, U = ((((((V0w.setCell ⟨H, 0, none⟩ (.bool x0.1.whole)).setCell ⟨H, 1, none⟩ (.int .u64 x0.1.gen)).setCell ⟨H, 2, none⟩ (.slice As0 ns0 cs0)).setCell ⟨H, 3, none⟩ (.slice AV0 x0.1.recs.length cV0)).setCell ⟨H, 4, none⟩ (.int .i64 x0.1.good)).setCell ⟨H, 5, none⟩ (.int .u32 x0.1.sum)) := ⟨_, rfl⟩
  have hos : OneSet H V0w U0 := by rw [hU0]; exact ((((((OneSet.refl H V0w).setCell 0 _).setCell 1 _).setCell 2 _).setCell 3 _).setCell 4 _).setCell 5 _
  have hHs := hHk.setLo (.bool x0.1.whole) (.int .u64 x0.1.gen) (.slice As0 ns0 cs0) (.slice AV0 x0.1.recs.length cV0) (.int .i64 x0.1.good) (.int .u32 x0.1.sum)
  rw [← hU0] at hHs
  have hO3 := hO2.oneSet hos HHG.out
  obtain ⟨W3, hW3⟩ : ∃ W, W = U0.alloc (.cells #[.pointer none] 113) := ⟨_, rfl⟩
  have hba : Below U0.heap.size U0 W3 := by rw [hW3]; exact (Below.refl _ _).alloc (Nat.le_refl _) _
  have hO4 := hO3.kept hba
  have hH4 := hHs.kept hba
  have hho4 := (hho0.keep (hos.rows hHk (by decide) (by decide))).below hba
  have hrow4 := (hos.row hrow0 (by have := HHB.out.lt; omega)).below hba
  have his := is_end eb0 x0.2.2 _ W3 hrow4
  rw [hrot] at his
  have hbR0 : ∀ k, k < W1.heap.size → k ≠ H → W3.heap[k]? = W1.heap[k]? := fun k hk hne => (hba.block k (by rw [hos.size]; have := hbel0.size; omega)).trans ((hos.block k hne).trans (hbel0.block k hk))
  have HIS := hid his
  have HOW3 := hid hO4
  have HHB3 := hid hH4
  have HHO0 := hid hho4
  have HX0 := hid hx0
  have HST0 := hid hst0
  have HCS0 := hid hcs0
  have HSR0 := hid hsr0
  have HKR0 := hid hbR0
  have HU0 := hid hU0
  have HW3 := hid hW3
  have HSZ0 : Hid (W1.heap.size ≤ W3.heap.size) := hid (Nat.le_trans hbel0.size (by rw [← hos.size]; exact hba.size))
  clear hsc hrot hHk hO2 hos hHs hO3 hba hO4 hH4 hho4 hrow4 his hbR0 hx0 hst0 hcs0 hsr0 hho0 heb0 hrow0 hbel0 hU0 hW3
  go_wp2_with fail
  rw [← HU0.out, ← HW3.out]
  refine HIS.out.mono ?_
  rintro e w9 ⟨rfl, hw9⟩
  obtain rfl : W3 = w9 := hw9.symm
  clear HIS l0 l1 l2 l3 l4 l5 z0 z1 z2 z3 z4 z5
  go_wp2_with fail
  rw [rounds_succ]
  go_wp2_with fail
  have hsc := scan_any W3 A1 b1.length c1 b1 1 rfl hc1 (by omega) HB1.out ((HR1.out.below HOW3.out.bel).mono HOW3.out.bel.size)
  obtain ⟨x1, hx1⟩ : ∃ x, scanL b1 1 = x := ⟨_, rfl⟩
  rw [hx1] at hsc
  have hrot : x1.2.2 = false := by rw [← hx1]; exact HOK.out.rot1
  refine hsc.mono ?_
  rintro e V1w ⟨sv, err, rfl, hsl, hend⟩
  obtain ⟨As1, ns1, cs1, VV1, rfl, hst1, hcs1, hsr1, hho1⟩ := hsl
  obtain ⟨AV1, cV1, rfl, _, _⟩ := hho1.slice
  obtain ⟨eb1, rfl, heb1, hrow1, hbel1⟩ := hend
  have hHk := HHB3.out.kept hbel1
  obtain ⟨l0, l1, l2, l3, l4, l5⟩ := hHk.hi
  have z6 := hHk.fz 6
  have z7 := hHk.fz 7
  have z8 := hHk.fz 8
  have z9 := hHk.fz 9
  have z10 := hHk.fz 10
  have z11 := hHk.fz 11
  have hO2 := HOW3.out.kept hbel1
  obtain ⟨U1, hU1⟩ : ∃ U, U = ((((((V1w.setCell ⟨H, 6, none⟩ (.bool x1.1.whole)).setCell ⟨H, 7, none⟩ (.int .u64 x1.1.gen)).setCell ⟨H, 8, none⟩ (.slice As1 ns1 cs1)).setCell ⟨H, 9, none⟩ (.slice AV1 x1.1.recs.length cV1)).setCell ⟨H, 10, none⟩ (.int .i64 x1.1.good)).setCell ⟨H, 11, none⟩ (.int .u32 x1.1.sum)) := ⟨_, rfl⟩
  have hos : OneSet H V1w U1 := by rw [hU1]; exact ((((((OneSet.refl H V1w).setCell 6 _).setCell 7 _).setCell 8 _).setCell 9 _).setCell 10 _).setCell 11 _
  have hHs := hHk.setHi (.bool x1.1.whole) (.int .u64 x1.1.gen) (.slice As1 ns1 cs1) (.slice AV1 x1.1.recs.length cV1) (.int .i64 x1.1.good) (.int .u32 x1.1.sum)
  rw [← hU1] at hHs
  have hO3 := hO2.oneSet hos HHG.out
  obtain ⟨W5, hW5⟩ : ∃ W, W = U1.alloc (.cells #[.pointer none] 113) := ⟨_, rfl⟩
  have hba : Below U1.heap.size U1 W5 := by rw [hW5]; exact (Below.refl _ _).alloc (Nat.le_refl _) _
  have hO4 := hO3.kept hba
  have hH4 := hHs.kept hba
  have hho4 := (hho1.keep (hos.rows hHk (by decide) (by decide))).below hba
  have hrow4 := (hos.row hrow1 (by have := HHB3.out.lt; omega)).below hba
  have his := is_end eb1 x1.2.2 _ W5 hrow4
  rw [hrot] at his
  have hbR1 : ∀ k, k < W3.heap.size → k ≠ H → W5.heap[k]? = W3.heap[k]? := fun k hk hne => (hba.block k (by rw [hos.size]; have := hbel1.size; omega)).trans ((hos.block k hne).trans (hbel1.block k hk))
  have HIS := hid his
  have HOW5 := hid hO4
  have HHB5 := hid hH4
  have HHO1 := hid hho4
  have HX1 := hid hx1
  have HST1 := hid hst1
  have HCS1 := hid hcs1
  have HSR1 := hid hsr1
  have HKR1 := hid hbR1
  have HU1 := hid hU1
  have HW5 := hid hW5
  have HSZ1 : Hid (W3.heap.size ≤ W5.heap.size) := hid (Nat.le_trans hbel1.size (by rw [← hos.size]; exact hba.size))
  clear hsc hrot hHk hO2 hos hHs hO3 hba hO4 hH4 hho4 hrow4 his hbR1 hx1 hst1 hcs1 hsr1 hho1 heb1 hrow1 hbel1 hU1 hW5
  go_wp2_with fail
  rw [← HU1.out, ← HW5.out]
  refine HIS.out.mono ?_
  rintro e w9 ⟨rfl, hw9⟩
  obtain rfl : W5 = w9 := hw9.symm
  clear HIS l0 l1 l2 l3 l4 l5 z6 z7 z8 z9 z10 z11
  go_wp2_with fail
  rw [rounds_succ]
  go_wp2_with fail
  obtain ⟨l0, l1, l2, l3, l4, l5⟩ := HHB5.out.lo
  obtain ⟨k0, k1, k2, k3, k4, k5⟩ := HHB5.out.hi
  have ha1 : ∀ o, HBox (W5.alloc o) H _ _ _ _ _ _ _ _ _ _ _ _ := fun o => HHB5.out.kept ((Below.refl _ _).alloc (Nat.le_refl _) _)
  have ha2 : ∀ o o2, HBox ((W5.alloc o).alloc o2) H _ _ _ _ _ _ _ _ _ _ _ _ := fun o o2 => (ha1 o).kept ((Below.refl _ _).alloc (Nat.le_refl _) _)
  have m0 := fun o => (ha1 o).lo.1
  have n0 := fun o => (ha1 o).hi.1
  have o0 := fun o o2 => (ha2 o o2).lo.1
  have p0 := fun o o2 => (ha2 o o2).hi.1
  have m1 := fun o => (ha1 o).lo.2.1
  have n1 := fun o => (ha1 o).hi.2.1
  have o1 := fun o o2 => (ha2 o o2).lo.2.1
  have p1 := fun o o2 => (ha2 o o2).hi.2.1
  have m2 := fun o => (ha1 o).lo.2.2.1
  have n2 := fun o => (ha1 o).hi.2.2.1
  have o2 := fun o o2 => (ha2 o o2).lo.2.2.1
  have p2 := fun o o2 => (ha2 o o2).hi.2.2.1
  have m3 := fun o => (ha1 o).lo.2.2.2.1
  have n3 := fun o => (ha1 o).hi.2.2.2.1
  have o3 := fun o o2 => (ha2 o o2).lo.2.2.2.1
  have p3 := fun o o2 => (ha2 o o2).hi.2.2.2.1
  have m4 := fun o => (ha1 o).lo.2.2.2.2.1
  have n4 := fun o => (ha1 o).hi.2.2.2.2.1
  have o4 := fun o o2 => (ha2 o o2).lo.2.2.2.2.1
  have p4 := fun o o2 => (ha2 o o2).hi.2.2.2.2.1
  have m5 := fun o => (ha1 o).lo.2.2.2.2.2
  have n5 := fun o => (ha1 o).hi.2.2.2.2.2
  have o5 := fun o o2 => (ha2 o o2).lo.2.2.2.2.2
  have p5 := fun o o2 => (ha2 o o2).hi.2.2.2.2.2
  clear ha1 ha2
  go_cut [15, 16] from 78 to 192 (fun va vb wd => ∃ a b, va = .pointer (some ⟨a, 0, none⟩) ∧ vb = .pointer (some ⟨b, 0, none⟩) ∧ Box6 wd a (.bool x0.1.whole) (.int .u64 x0.1.gen) (.slice As0 ns0 cs0) (.slice AV0 x0.1.recs.length cV0) (.int .i64 x0.1.good) (.int .u32 x0.1.sum) ∧ Box6 wd b (.bool x1.1.whole) (.int .u64 x1.1.gen) (.slice As1 ns1 cs1) (.slice AV1 x1.1.recs.length cV1) (.int .i64 x1.1.good) (.int .u32 x1.1.sum) ∧ Below W5.heap.size W5 wd)
  case first =>
    --H
    go_region
    all_goals go_wp2_with fail
    all_goals go_meet
    · exact ⟨_, _, rfl, rfl, (two_alloc W5 _ _).1, (two_alloc W5 _ _).2.1, (two_alloc W5 _ _).2.2.drew⟩
    · exact ⟨_, _, rfl, rfl, (two_alloc W5 _ _).2.1, (two_alloc W5 _ _).1, (two_alloc W5 _ _).2.2.drew⟩
    --E
  case rest =>
  obtain ⟨ba, bb, rfl, rfl, hA6, hB6, hbc⟩ := hcut
  clear m0 n0 o0 p0 l0 k0
  clear m1 n1 o1 p1 l1 k1
  clear m2 n2 o2 p2 l2 k2
  clear m3 n3 o3 p3 l3 k3
  clear m4 n4 o4 p4 l4 k4
  clear m5 n5 o5 p5 l5 k5
  have hOc := HOW5.out.kept hbc
  have hHc := HHB5.out.kept hbc
  obtain ⟨a0, a1, a2, a3, a4, a5⟩ := hA6.cells
  obtain ⟨q0, q1, q2, q3, q4, q5⟩ := hB6.cells
  obtain ⟨l0, l1, l2, l3, l4, l5⟩ := hHc.lo
  obtain ⟨k0, k1, k2, k3, k4, k5⟩ := hHc.hi
  have HOC := hid hOc
  have HHC := hid hHc
  have HBC := hid hbc
  clear hOc hHc hbc hA6 hB6
  obtain ⟨us, hus⟩ : ∃ us, useOf x0.1 x1.1 = us := ⟨_, rfl⟩
  have HUS := hid hus
  have hws : x0.1.whole = true ∨ x1.1.whole = true := by have := HOK.out.some'; rwa [HX0.out, HX1.out] at this
  have hnx : x0.1.whole = true → x1.1.whole = true → (heldAt x0.1 x1.1 (useOf x0.1 x1.1)).gen - 1 = (heldAt x0.1 x1.1 (1 - useOf x0.1 x1.1)).gen := by have := HOK.out.next; rwa [HX0.out, HX1.out] at this
  have HWS := hid hws
  have HNX := hid hnx
  clear hus hws hnx
  go_upto_block 4 with fail
  go_cut [4, 6, 14] from 82 to 192 (fun v4 v6 v wd => v4 = .pointer none ∧ v6 = .nilIface ∧ v = .int .i64 (us : Int) ∧ Drawn wc wd)
  case first =>
    --H
    have hg0 : x0.1.whole = true → 1 ≤ x0.1.gen ∧ x0.1.gen ≤ 18446744073709551615 := fun h => by rw [← HX0.out] at h ⊢; exact scanL_gen HB0.out 0 h
    have hg1 : x1.1.whole = true → 1 ≤ x1.1.gen ∧ x1.1.gen ≤ 18446744073709551615 := fun h => by rw [← HX1.out] at h ⊢; exact scanL_gen HB1.out 1 h
    have hb0w : x0.1.whole = false ∨ x0.1.whole = true := Bool.eq_false_or_eq_true _ |>.symm
    have hb1w : x1.1.whole = false ∨ x1.1.whole = true := Bool.eq_false_or_eq_true _ |>.symm
    rcases hb0w with hw0 | hw0
    · have hw1 : x1.1.whole = true := by rcases HWS.out with h | h; rw [hw0] at h; cases h; exact h
      have hu : us = 1 := by rw [← HUS.out]; unfold useOf; rw [hw0, hw1]; rfl
      subst hu
      rw [hw0] at a0
      rw [hw1] at q0
      clear hg0 hg1 hw0 hw1 hb1w
      go_wp2_with fail
      go_meet
      exact ⟨rfl, rfl, rfl, Drawn.refl _⟩
    rcases hb1w with hw1 | hw1
    · have hu : us = 0 := by rw [← HUS.out]; unfold useOf; rw [hw0, hw1]; rfl
      subst hu
      rw [hw0] at a0
      rw [hw1] at q0
      clear hg0 hg1 hw0 hw1
      go_wp2_with fail
      go_meet
      exact ⟨rfl, rfl, rfl, Drawn.refl _⟩
    rw [hw0] at a0
    rw [hw1] at q0
    obtain ⟨g00, g01⟩ := hg0 hw0
    obtain ⟨g10, g11⟩ := hg1 hw1
    have hnx := HNX.out hw0 hw1
    by_cases hlt : x0.1.gen < x1.1.gen
    · have hu : us = 1 := by rw [← HUS.out]; unfold useOf; rw [if_pos ⟨hw0, hw1⟩, if_pos hlt]
      have hu2 : useOf x0.1 x1.1 = 1 := HUS.out.trans hu
      rw [hu2] at hnx
      have hnx2 : x1.1.gen - 1 = x0.1.gen := hnx
      have d1 : decide (x0.1.gen < x1.1.gen) = true := by simpa using hlt
      have w1 : IntKind.u64.wrap (x1.1.gen - 1) = x0.1.gen := by rw [wrap_u64_in (by omega) (by omega)]; exact hnx2
      have w2 : (x0.1.gen != x0.1.gen) = false := by simp
      subst hu
      clear hg0 hg1 hw0 hw1 hnx hnx2 hu2 hlt g00 g01 g10 g11
      go_upto_region 26 with fail
      go_quiet (fail)
      go_wp2_with fail
      go_meet
      exact ⟨rfl, rfl, rfl, _, rfl⟩
    · have hu : us = 0 := by rw [← HUS.out]; unfold useOf; rw [if_pos ⟨hw0, hw1⟩, if_neg hlt]
      have hu2 : useOf x0.1 x1.1 = 0 := HUS.out.trans hu
      rw [hu2] at hnx
      have hnx2 : x0.1.gen - 1 = x1.1.gen := hnx
      have d1 : decide (x0.1.gen < x1.1.gen) = false := by simpa using hlt
      have w1 : IntKind.u64.wrap (x0.1.gen - 1) = x1.1.gen := by rw [wrap_u64_in (by omega) (by omega)]; exact hnx2
      have w2 : (x1.1.gen != x1.1.gen) = false := by simp
      subst hu
      clear hg0 hg1 hw0 hw1 hnx hnx2 hu2 hlt g00 g01 g10 g11
      go_upto_region 26 with fail
      go_quiet (fail)
      go_wp2_with fail
      go_meet
      exact ⟨rfl, rfl, rfl, _, rfl⟩
    --E
  case rest =>
  obtain ⟨rfl, rfl, rfl, hdr⟩ := hcut
  clear a0 a1 a2 a3 a4 a5 q0 q1 q2 q3 q4 q5 l0 l1 l2 l3 l4 l5 k0 k1 k2 k3 k4 k5
  have HOD := hid (HOC.out.drawn hdr)
  have HHD : Hid (HBox wc H _ _ _ _ _ _ _ _ _ _ _ _) := hid (by have := HHC.out; unfold HBox at this ⊢; rw [hdr.heap]; exact this)
  have hk35 : KeepRows W3 W5 := fun k o hr ho => by
    rw [HKR1.out k (box_lt ho) (fun ek => ?_)]
    · exact ho
    · subst ek
      have hh := HHB3.out
      unfold HBox at hh
      rw [hh] at ho
      obtain ⟨cs', hr | hr⟩ := hr <;> rw [hr] at ho <;> cases ho
  have hk5c := keep_below HBC.out
  have HR0D := hid (((HHO0.out.keep hk35).keep hk5c).drawn hdr)
  have HR1D := hid ((HHO1.out.keep hk5c).drawn hdr)
  have hW3c : W1.heap.size ≤ W5.heap.size := Nat.le_trans HSZ0.out HSZ1.out
  clear hk35 hk5c HOC HHC
  have hu01 : us = 0 ∨ us = 1 := by rw [← HUS.out]; unfold useOf; split; split <;> simp; split <;> simp
  rcases hu01 with rfl | rfl
  · obtain ⟨WC, hWC⟩ : ∃ W, W = wc := ⟨_, rfl⟩
    subst hWC
    obtain ⟨Wa, hWa⟩ : ∃ W, W = WC.alloc (.cells #[.int .i64 limit, .slice none 0 0, .slice none 0 0, .int .i64 0, .int .i64 0, .int .u64 0, .int .u32 0, .int .i64 0, .int .i64 0, .bool false] 120) := ⟨_, rfl⟩
    obtain ⟨Wb, hWb⟩ : ∃ W, W = Wa.alloc (.cells #[.bool x0.1.whole, .int .u64 x0.1.gen, .slice As0 ns0 cs0, .slice AV0 x0.1.recs.length cV0, .int .i64 x0.1.good, .int .u32 x0.1.sum] 109) := ⟨_, rfl⟩
    have hba : Below WC.heap.size WC Wa := by rw [hWa]; exact (Below.refl _ _).alloc (Nat.le_refl _) _
    have hbb : Below Wa.heap.size Wa Wb := by rw [hWb]; exact (Below.refl _ _).alloc (Nat.le_refl _) _
    have hHa := HHD.out.kept hba
    have hHb := hHa.kept hbb
    have hOb := (HOD.out.kept hba).kept hbb
    obtain ⟨l0, l1, l2, l3, l4, l5⟩ := hHa.lo
    obtain ⟨e0, e1⟩ := hOb.cells
    have hJa : Wa.heap[WC.heap.size]? = some (.cells #[.int .i64 limit, .slice none 0 0, .slice none 0 0, .int .i64 0, .int .i64 0, .int .u64 0, .int .u32 0, .int .i64 0, .int .i64 0, .bool false] 120 (0, 0)) := by rw [hWa]; exact heap_alloc_new _ _
    have hJb := box_below hJa hbb
    have hSb : Box6 Wb Wa.heap.size (.bool x0.1.whole) (.int .u64 x0.1.gen) (.slice As0 ns0 cs0) (.slice AV0 x0.1.recs.length cV0) (.int .i64 x0.1.good) (.int .u32 x0.1.sum) := by rw [hWb]; exact heap_alloc_new _ _
    have HJb := hid hJb
    have HSb := hid hSb
    have HHb := hid hHb
    have HOb := hid hOb
    have HBab := hid (hba.trans (hbb.mono hba.size))
    rw [hWb, hWa] at e0 e1
    rw [hWa] at l0 l1 l2 l3 l4 l5
    have hsza : Wa.heap.size = WC.heap.size + 1 := by rw [hWa]; simp
    have HSZA := hid hsza
    have HWab := hid (And.intro hWa hWb)
    clear hWa hWb hba hbb hHa hHb hOb hJa hJb hSb hsza
    go_wp2_with fail
    rw [← HWab.out.1, ← HWab.out.2]
    clear l0 l1 l2 l3 l4 l5 e0 e1
    rw [HSZA.out] at HSb
    have HDR := hid hdr
    have HJG : Hid (w.heap.size + 1 < WC.heap.size) := hid HOD.out.lt
    have HHJ : Hid (H ≠ WC.heap.size) := hid (Nat.ne_of_lt HHD.out.lt)
    refine wp_loop_rounds 3 ?_
    rw [rounds_succ]
    go_upto_region 36 with fail
    have hgd0 : x0.1.good ≤ b0.length := by rw [← HX0.out]; exact scanL_good HB0.out 0
    obtain ⟨Ah0, runh0, rdh0, _⟩ := headB_run A0 b0.length c0 x0.1.good (x0.1.good : Int) rfl hgd0 hc0
    have HCP0 : Hid (∀ W, Drawn Wb W → Calls Tryd.prog 54 #[.slice Ah0 x0.1.good c0] W fun e w' => ∃ A n c, e = .returned (.slice A n c) ∧ Below Wb.heap.size Wb w' ∧ OwnB w' Wb.heap.size (SV.v (A, n, c)) (b0.take x0.1.good)) := hid (fun W hW => by
      have hbw := HOb.out.bel.trans ((hW.below _).mono (Nat.le_refl _))
      have hln : (b0.take x0.1.good).length = x0.1.good := by rw [List.length_take]; omega
      refine (copied_any W Ah0 x0.1.good c0 (b0.take x0.1.good) hln (by omega) (rdh0 _ _ _ rfl ((HR0.out.below hbw).mono hbw.size))).mono ?_
      rintro e w' ⟨v, rfl, ho, hb⟩
      have ho2 : OwnB w' W.heap.size v (b0.take x0.1.good) := by unfold OwnB; rw [hln]; exact ho
      obtain ⟨_, A', c', rfl, _, _, _⟩ := owns_reads u8s_len ho2 (by decide)
      exact ⟨A', _, c', rfl, (hW.below _).trans (hb.mono (by rw [hW.heap]; exact Nat.le_refl _)), by rw [hW.heap] at ho2; exact ho2⟩)
    have h4 : Wb.cell? ⟨H, 4, none⟩ = some (.int .i64 x0.1.good) := box_cell HHb.out 4
    have HJ1 : Hid (∀ wn, Below Wb.heap.size Wb wn → wn.cell? ⟨WC.heap.size, 1, none⟩ = some (.slice none 0 0) ∧ wn.frozen? ⟨WC.heap.size, 1, none⟩ = false) := hid (fun wn hb => ⟨box_cell (box_below HJb.out hb) 1, box_fz (box_below HJb.out hb) 1⟩)
    go_cut [19] from 140 to 192 (fun v wd => v = .int .i64 0 ∧ ∃ Ac nc cc w1, Below Wb.heap.size Wb w1 ∧ OneSet WC.heap.size w1 wd ∧ wd.heap[WC.heap.size]? = some (.cells #[.int .i64 limit, .slice Ac nc cc, .slice none 0 0, .int .i64 0, .int .i64 0, .int .u64 0, .int .u32 0, .int .i64 0, .int .i64 0, .bool false] 120 (0, 0)) ∧ OwnB wd Wb.heap.size (SV.v (Ac, nc, cc)) (b0.take x0.1.good))
    case first =>
      go_region_with (go_at_call 54; with_reducible refine (HCP0.out _ (by first | assumption | exact (Drawn.refl _).drew | exact Drawn.refl _)).mono ?_; go_loud (rintro e wn ⟨Ac, nc, cc, rfl, hbC, hoC⟩; obtain ⟨j1, f1⟩ := HJ1.out _ hbC; have HBC2 := hid hbC; have HOC2 := hid hoC; clear hbC hoC))
      all_goals go_wp2_with fail
      all_goals go_meet
      exact ⟨by first | rfl | simp, _, _, _, wn, HBC2.out, (OneSet.refl _ _).setCell 1 _, heap_setCell_at (k := 1) _ (box_below HJb.out HBC2.out), ownB_keep row_u8 HOC2.out (keep_setCell (a := ⟨WC.heap.size, 1, none⟩) (box_below HJb.out HBC2.out) (by decide) (by decide) _)⟩
    case rest =>
    obtain ⟨rfl, Ac0, nc0, cc0, w1, hb1, hos1, hJ1, hown1⟩ := hcut
    obtain ⟨W6, hWn⟩ : ∃ W, W = wc := ⟨_, rfl⟩
    subst hWn
    have hJw1 := box_below HJb.out hb1
    have HW6O := hid ((HOb.out.kept hb1).oneSet hos1 HJG.out)
    have HW6H : Hid (HBox W6 H _ _ _ _ _ _ _ _ _ _ _ _) := hid ((hos1.block H HHJ.out).trans (HHb.out.kept hb1))
    have HW6S : Hid (Box6 W6 (WC.heap.size + 1) _ _ _ _ _ _) := hid ((hos1.block _ (by omega)).trans (HSb.out.kept hb1))
    have HW6K := hid ((keep_below hb1).trans (hos1.rows hJw1 (by decide) (by decide)))
    have HW6Z : Hid (Wb.heap.size ≤ W6.heap.size) := hid (by rw [hos1.size]; exact hb1.size)
    have HW6B : Hid (∀ k, k < Wb.heap.size → k ≠ WC.heap.size → W6.heap[k]? = Wb.heap[k]?) := hid (fun k hk hne => (hos1.block k hne).trans (hb1.block k hk))
    have HW6J := hid hJ1
    have HOW0 := hid hown1
    have h4 : W6.cell? ⟨H, 4, none⟩ = some (.int .i64 x0.1.good) := box_cell HW6H.out 4
    have hwt : IntKind.i64.wrap ((b0.length : Int) - (x0.1.good : Int)) = ((b0.length - x0.1.good : Nat) : Int) := by rw [wrap_small _ (by omega) (by omega)]; omega
    have hwt2 : IntKind.i64.wrap (0 + ((b0.length - x0.1.good : Nat) : Int)) = ((b0.length - x0.1.good : Nat) : Int) := by rw [wrap_small _ (by omega) (by omega)]; omega
    clear hb1 hos1 hJ1 hown1 hJw1 HJ1
    go_wp2_with fail
    clear h4 hwt hwt2
    rw [rounds_succ]
    go_upto_region 36 with fail
    have hgd1 : x1.1.good ≤ b1.length := by rw [← HX1.out]; exact scanL_good HB1.out 1
    obtain ⟨Ah1, runh1, rdh1, _⟩ := headB_run A1 b1.length c1 x1.1.good (x1.1.good : Int) rfl hgd1 hc1
    have HCP1 : Hid (∀ W, Drawn W6 W → Calls Tryd.prog 54 #[.slice Ah1 x1.1.good c1] W fun e w' => ∃ A n c, e = .returned (.slice A n c) ∧ Below W6.heap.size W6 w' ∧ OwnB w' W6.heap.size (SV.v (A, n, c)) (b1.take x1.1.good)) := hid (fun W hW => by
      have hbw := HW6O.out.bel.trans ((hW.below _).mono (Nat.le_refl _))
      have hln : (b1.take x1.1.good).length = x1.1.good := by rw [List.length_take]; omega
      refine (copied_any W Ah1 x1.1.good c1 (b1.take x1.1.good) hln (by omega) (rdh1 _ _ _ rfl ((HR1.out.below hbw).mono hbw.size))).mono ?_
      rintro e w' ⟨v, rfl, ho, hb⟩
      have ho2 : OwnB w' W.heap.size v (b1.take x1.1.good) := by unfold OwnB; rw [hln]; exact ho
      obtain ⟨_, A', c', rfl, _, _, _⟩ := owns_reads u8s_len ho2 (by decide)
      exact ⟨A', _, c', rfl, (hW.below _).trans (hb.mono (by rw [hW.heap]; exact Nat.le_refl _)), by rw [hW.heap] at ho2; exact ho2⟩)
    have h4 : W6.cell? ⟨H, 10, none⟩ = some (.int .i64 x1.1.good) := box_cell HW6H.out 10
    have HJ1 : Hid (∀ wn, Below W6.heap.size W6 wn → wn.cell? ⟨WC.heap.size, 2, none⟩ = some (.slice none 0 0) ∧ wn.frozen? ⟨WC.heap.size, 2, none⟩ = false) := hid (fun wn hb => ⟨box_cell (box_below HW6J.out hb) 2, box_fz (box_below HW6J.out hb) 2⟩)
    go_cut [19] from 140 to 192 (fun v wd => v = .int .i64 ((b0.length - x0.1.good : Nat) : Int) ∧ ∃ Ac nc cc w1, Below W6.heap.size W6 w1 ∧ OneSet WC.heap.size w1 wd ∧ wd.heap[WC.heap.size]? = some (.cells #[.int .i64 limit, .slice Ac0 nc0 cc0, .slice Ac nc cc, .int .i64 0, .int .i64 0, .int .u64 0, .int .u32 0, .int .i64 0, .int .i64 0, .bool false] 120 (0, 0)) ∧ OwnB wd W6.heap.size (SV.v (Ac, nc, cc)) (b1.take x1.1.good))
    case first =>
      go_region_with (go_at_call 54; with_reducible refine (HCP1.out _ (by first | assumption | exact (Drawn.refl _).drew | exact Drawn.refl _)).mono ?_; go_loud (rintro e wn ⟨Ac, nc, cc, rfl, hbC, hoC⟩; obtain ⟨j1, f1⟩ := HJ1.out _ hbC; have HBC2 := hid hbC; have HOC2 := hid hoC; clear hbC hoC))
      all_goals go_wp2_with fail
      all_goals go_meet
      exact ⟨by first | rfl | simp, _, _, _, wn, HBC2.out, (OneSet.refl _ _).setCell 2 _, heap_setCell_at (k := 2) _ (box_below HW6J.out HBC2.out), ownB_keep row_u8 HOC2.out (keep_setCell (a := ⟨WC.heap.size, 2, none⟩) (box_below HW6J.out HBC2.out) (by decide) (by decide) _)⟩
    case rest =>
    obtain ⟨rfl, Ac1, nc1, cc1, w1, hb1, hos1, hJ1, hown1⟩ := hcut
    obtain ⟨W7, hWn⟩ : ∃ W, W = wc := ⟨_, rfl⟩
    subst hWn
    have hJw1 := box_below HW6J.out hb1
    have HW7O := hid ((HW6O.out.kept hb1).oneSet hos1 HJG.out)
    have HW7H : Hid (HBox W7 H _ _ _ _ _ _ _ _ _ _ _ _) := hid ((hos1.block H HHJ.out).trans (HW6H.out.kept hb1))
    have HW7S : Hid (Box6 W7 (WC.heap.size + 1) _ _ _ _ _ _) := hid ((hos1.block _ (by omega)).trans (HW6S.out.kept hb1))
    have HW7K := hid ((keep_below hb1).trans (hos1.rows hJw1 (by decide) (by decide)))
    have HW7Z : Hid (W6.heap.size ≤ W7.heap.size) := hid (by rw [hos1.size]; exact hb1.size)
    have HW7B : Hid (∀ k, k < W6.heap.size → k ≠ WC.heap.size → W7.heap[k]? = W6.heap[k]?) := hid (fun k hk hne => (hos1.block k hne).trans (hb1.block k hk))
    have HW7J := hid hJ1
    have HOW1x := hid hown1
    have h4 : W7.cell? ⟨H, 10, none⟩ = some (.int .i64 x1.1.good) := box_cell HW7H.out 10
    have hwt : IntKind.i64.wrap ((b1.length : Int) - (x1.1.good : Int)) = ((b1.length - x1.1.good : Nat) : Int) := by rw [wrap_small _ (by omega) (by omega)]; omega
    have hwt2 : IntKind.i64.wrap (((b0.length - x0.1.good : Nat) : Int) + ((b1.length - x1.1.good : Nat) : Int)) = (((b0.length - x0.1.good) + (b1.length - x1.1.good) : Nat) : Int) := by rw [wrap_small _ (by omega) (by omega)]; omega
    clear hb1 hos1 hJ1 hown1 hJw1 HJ1
    go_wp2_with fail
    clear h4 hwt hwt2
    rw [rounds_succ]
    go_upto_region 39 with fail
    have s1 := box_cell HW7S.out 1
    have s3 := box_cell HW7S.out 3
    have s4 := box_cell HW7S.out 4
    have s5 := box_cell HW7S.out 5
    have j4 := box_cell HW7J.out 4
    have j5 := box_cell HW7J.out 5
    have j6 := box_cell HW7J.out 6
    have j7 := box_cell HW7J.out 7
    have f4 := box_fz HW7J.out 4
    have f5 := box_fz HW7J.out 5
    have f6 := box_fz HW7J.out 6
    have f7 := box_fz HW7J.out 7
    simp only [List.getElem?_toArray, List.getElem?_cons_succ, List.getElem?_cons_zero] at s1 s3 s4 s5 j4 j5 j6 j7
    obtain ⟨W8, hW8⟩ : ∃ W, W = (((W7.setCell ⟨WC.heap.size, 4, none⟩ (.int .i64 x0.1.good)).setCell ⟨WC.heap.size, 5, none⟩ (.int .u64 x0.1.gen)).setCell ⟨WC.heap.size, 6, none⟩ (.int .u32 x0.1.sum)).setCell ⟨WC.heap.size, 7, none⟩ (.int .i64 x0.1.recs.length) := ⟨_, rfl⟩
    have hos8 : OneSet WC.heap.size W7 W8 := by rw [hW8]; exact ((((OneSet.refl _ W7).setCell 4 _).setCell 5 _).setCell 6 _).setCell 7 _
    have hJ8 : W8.heap[WC.heap.size]? = some (.cells #[.int .i64 limit, .slice Ac0 nc0 cc0, .slice Ac1 nc1 cc1, .int .i64 0, .int .i64 x0.1.good, .int .u64 x0.1.gen, .int .u32 x0.1.sum, .int .i64 x0.1.recs.length, .int .i64 0, .bool false] 120 (0, 0)) := by rw [hW8]; exact heap_setCell_at (k := 7) _ (heap_setCell_at (k := 6) _ (heap_setCell_at (k := 5) _ (heap_setCell_at (k := 4) _ HW7J.out)))
    go_cut [19] from 162 to 192 (fun v wd => v = .int .i64 (((b0.length - x0.1.good) + (b1.length - x1.1.good) : Nat) : Int) ∧ Drawn W8 wd)
    case first =>
      go_region
      all_goals go_wp2_with fail
      all_goals go_meet
      all_goals rw [← hW8]
      all_goals exact ⟨by first | rfl | (congr 1; omega) | simp, (Drawn.refl _).drew⟩
    case rest =>
    obtain ⟨rfl, hd8⟩ := hcut
    obtain ⟨W9, hW9⟩ : ∃ W, W = wc := ⟨_, rfl⟩
    subst hW9
    clear s1 s3 s4 s5 j4 j5 j6 j7 f4 f5 f6 f7
    have hc5 : W5.heap.size ≤ WC.heap.size := by rw [HDR.out.heap]; exact HBC.out.size
    have hcb : WC.heap.size ≤ Wb.heap.size := HBab.out.size
    have hz67 := HW7Z.out
    have hzb6 := HW6Z.out
    have hz78 := hos8.size
    have hk59 : ∀ k, k < W5.heap.size → W9.heap[k]? = W5.heap[k]? := fun k hk =>
      (congrArg (fun h : Array Obj => h[k]?) hd8.heap).trans ((hos8.block k (by omega)).trans ((HW7B.out k (by omega) (by omega)).trans ((HW6B.out k (by omega) (by omega)).trans ((HBab.out.block k (by omega)).trans ((congrArg (fun h : Array Obj => h[k]?) HDR.out.heap).trans (HBC.out.block k hk))))))
    have hstR : U8s W1.heap.size W9 As0 x0.1.state := reads_but HSR0.out (HBox.noByte HHB.out) (fun k hk hne => (hk59 k (by have := HSZ0.out; have := HSZ1.out; omega)).trans ((HKR1.out k (by have := HSZ0.out; omega) hne).trans (HKR0.out k hk hne)))
    have hst9 : U8s W9.heap.size W9 As0 x0.1.state := hstR.mono (by rw [hd8.heap]; have := HSZ0.out; have := HSZ1.out; omega)
    have hRc := HR0D.out
    have hO8 := HW7O.out.oneSet hos8 HJG.out
    have hO9 := hO8.drawn hd8
    have hS9 : Box6 W9 (WC.heap.size + 1) _ _ _ _ _ _ := (congrArg (fun h : Array Obj => h[WC.heap.size + 1]?) hd8.heap).trans ((hos8.block _ (by omega)).trans HW7S.out)
    have hJ9 := (congrArg (fun h : Array Obj => h[WC.heap.size]?) hd8.heap).trans hJ8
    have hrows8 := hos8.rows HW7J.out (by decide) (by decide)
    have hk79 : KeepRows W7 W9 := hrows8.trans (fun k o _ ho => by rw [hd8.heap]; exact ho)
    have hst : x0.1.state.length = ns0 := HST0.out
    have hns : ns0 ≤ 100000000 := by
      have h1 : x0.1.state.length ≤ b0.length := by rw [← HX0.out]; exact scanL_state HB0.out 0
      omega
    have HCPS : Hid (∀ W, Drawn W9 W → Calls Tryd.prog 54 #[.slice As0 ns0 cs0] W fun e w' => ∃ A n c, e = .returned (.slice A n c) ∧ Below W9.heap.size W9 w' ∧ OwnB w' W9.heap.size (SV.v (A, n, c)) x0.1.state) := hid (fun W hW => by
      refine (copied_any W As0 ns0 cs0 x0.1.state hst (by omega) (by rw [hW.heap]; exact hW.reads hst9)).mono ?_
      rintro e w' ⟨v, rfl, ho, hb⟩
      have ho2 : OwnB w' W.heap.size v x0.1.state := by unfold OwnB; rw [hst]; exact ho
      obtain ⟨_, A', c', rfl, _, _, _⟩ := owns_reads u8s_len ho2 (by decide)
      exact ⟨A', _, c', rfl, (hW.below _).trans (hb.mono (by rw [hW.heap]; exact Nat.le_refl _)), by rw [hW.heap] at ho2; exact ho2⟩)
    have HSN : Hid (∀ wn, Below W9.heap.size W9 wn → wn.cell? ⟨WC.heap.size + 1, 1, none⟩ = some (.int .u64 x0.1.gen) ∧ wn.cell? ⟨WC.heap.size + 1, 2, none⟩ = some (.slice As0 ns0 cs0) ∧ wn.cell? ⟨WC.heap.size + 1, 3, none⟩ = some (.slice AV0 x0.1.recs.length cV0)) := hid (fun wn hb => ⟨box_cell (box_below hS9 hb) 1, box_cell (box_below hS9 hb) 2, box_cell (box_below hS9 hb) 3⟩)
    have HRN : Hid (∀ wn, Below W9.heap.size W9 wn → (wn.cell? ⟨w.heap.size + 1, 0, none⟩ = some (.int .u64 0) ∧ wn.cell? ⟨w.heap.size + 1, 1, none⟩ = some (.slice none 0 0) ∧ wn.cell? ⟨w.heap.size + 1, 2, none⟩ = some (.slice none 0 0) ∧ wn.cell? ⟨w.heap.size + 1, 3, none⟩ = some (.int .i64 0)) ∧ (wn.frozen? ⟨w.heap.size + 1, 0, none⟩ = false ∧ wn.frozen? ⟨w.heap.size + 1, 1, none⟩ = false ∧ wn.frozen? ⟨w.heap.size + 1, 2, none⟩ = false ∧ wn.frozen? ⟨w.heap.size + 1, 3, none⟩ = false)) := hid (fun wn hb => ⟨⟨box_cell (box_below hO9.r hb) 0, box_cell (box_below hO9.r hb) 1, box_cell (box_below hO9.r hb) 2, box_cell (box_below hO9.r hb) 3⟩, ⟨box_fz (box_below hO9.r hb) 0, box_fz (box_below hO9.r hb) 1, box_fz (box_below hO9.r hb) 2, box_fz (box_below hO9.r hb) 3⟩⟩)
    obtain ⟨t1, t2, t3⟩ := HSN.out W9 (Below.refl _ _)
    have HO9 := hid hO9
    have HJ9 := hid hJ9
    have HK79 := hid hk79
    have HRC := hid hRc
    have HD8 := hid hd8
    have HOS8 := hid hos8
    have HZ := hid (And.intro hc5 (And.intro hcb (And.intro hz67 (And.intro hzb6 hz78))))
    clear hc5 hcb hz67 hzb6 hz78 hk59 hstR hst9 hRc hO8 hO9 hS9 hJ9 hrows8 hk79 hst hns hd8 hos8 hJ8 hW8
    go_upto_region 40 with fail
    have HEQ : Hid ((openJ b0 b1 limit).gen = x0.1.gen ∧ openTorn b0 b1 = (b0.length - x0.1.good) + (b1.length - x1.1.good) ∧ heldAt (scanL b0 0).1 (scanL b1 1).1 (useOf (scanL b0 0).1 (scanL b1 1).1) = x0.1 ∧ openJ b0 b1 limit = ⟨limit, 0, b0.take x0.1.good, b1.take x1.1.good, x0.1.good, x0.1.gen, x0.1.sum, x0.1.recs.length, 0⟩) := hid (by
      unfold openJ openTorn
      rw [HX0.out, HX1.out]
      dsimp only
      rw [HUS.out]
      exact ⟨rfl, rfl, rfl, rfl⟩)
    have HKC9 : Hid (KeepRows WC W9) := hid ((keep_below HBab.out).trans (HW6K.out.trans (HW7K.out.trans HK79.out)))
    have HK69 : Hid (KeepRows W6 W9) := hid (HW7K.out.trans HK79.out)
    have HZ4 : Hid (W7.heap.size ≤ W9.heap.size) := hid (by rw [HD8.out.heap, HOS8.out.size]; exact Nat.le_refl _)
    have HLO : Hid (w.heap.size ≤ W1.heap.size) := hid (Nat.le_trans HOW1.out.bel.size (Nat.le_refl _))
    go_region_with (go_at_call 54; with_reducible refine (HCPS.out _ (by first | assumption | exact (Drawn.refl _).drew | exact Drawn.refl _)).mono ?_; rintro e wn ⟨Ac, nc, cc, rfl, hbC, hoC⟩; obtain ⟨y1, y2, y3⟩ := HSN.out _ hbC; obtain ⟨⟨z0, z1, z2, z3⟩, ⟨z4, z5, z6, z7⟩⟩ := HRN.out _ hbC; have HBC2 := hid hbC; have HOC2 := hid hoC; clear hbC hoC)
    all_goals go_wp2_with fail
    all_goals refine bodyPost_ret (results_open rfl _ _ _ _ _ _ rfl rfl (heap_setCell_at (k := 3) _ (heap_setCell_at (k := 2) _ (heap_setCell_at (k := 1) _ (heap_setCell_at (k := 0) _ (box_below HO9.out.r HBC2.out))))) rfl rfl) rfl ?_
    all_goals rw [HEQ.out.1, HEQ.out.2.1, HEQ.out.2.2.1, HEQ.out.2.2.2]
    all_goals exact ⟨WC.heap.size, (Ac0, nc0, cc0), (Ac1, nc1, cc1), _, _, WC.heap.size, W9.heap.size, rfl, open_done HO9.out HJ9.out HRC.out HLO.out HJG.out HKC9.out HK69.out HK79.out HOW0.out HOW1x.out HBab.out.size HW6Z.out HW7Z.out HZ4.out HBC2.out HOC2.out ((((OneSet.refl _ _).setCell 0 _).setCell 1 _).setCell 2 _ |>.setCell 3 _)⟩
  · obtain ⟨WC, hWC⟩ : ∃ W, W = wc := ⟨_, rfl⟩
    subst hWC
    obtain ⟨Wa, hWa⟩ : ∃ W, W = WC.alloc (.cells #[.int .i64 limit, .slice none 0 0, .slice none 0 0, .int .i64 1, .int .i64 0, .int .u64 0, .int .u32 0, .int .i64 0, .int .i64 0, .bool false] 120) := ⟨_, rfl⟩
    obtain ⟨Wb, hWb⟩ : ∃ W, W = Wa.alloc (.cells #[.bool x1.1.whole, .int .u64 x1.1.gen, .slice As1 ns1 cs1, .slice AV1 x1.1.recs.length cV1, .int .i64 x1.1.good, .int .u32 x1.1.sum] 109) := ⟨_, rfl⟩
    have hba : Below WC.heap.size WC Wa := by rw [hWa]; exact (Below.refl _ _).alloc (Nat.le_refl _) _
    have hbb : Below Wa.heap.size Wa Wb := by rw [hWb]; exact (Below.refl _ _).alloc (Nat.le_refl _) _
    have hHa := HHD.out.kept hba
    have hHb := hHa.kept hbb
    have hOb := (HOD.out.kept hba).kept hbb
    obtain ⟨l0, l1, l2, l3, l4, l5⟩ := hHa.hi
    obtain ⟨e0, e1⟩ := hOb.cells
    have hJa : Wa.heap[WC.heap.size]? = some (.cells #[.int .i64 limit, .slice none 0 0, .slice none 0 0, .int .i64 1, .int .i64 0, .int .u64 0, .int .u32 0, .int .i64 0, .int .i64 0, .bool false] 120 (0, 0)) := by rw [hWa]; exact heap_alloc_new _ _
    have hJb := box_below hJa hbb
    have hSb : Box6 Wb Wa.heap.size (.bool x1.1.whole) (.int .u64 x1.1.gen) (.slice As1 ns1 cs1) (.slice AV1 x1.1.recs.length cV1) (.int .i64 x1.1.good) (.int .u32 x1.1.sum) := by rw [hWb]; exact heap_alloc_new _ _
    have HJb := hid hJb
    have HSb := hid hSb
    have HHb := hid hHb
    have HOb := hid hOb
    have HBab := hid (hba.trans (hbb.mono hba.size))
    rw [hWb, hWa] at e0 e1
    rw [hWa] at l0 l1 l2 l3 l4 l5
    have hsza : Wa.heap.size = WC.heap.size + 1 := by rw [hWa]; simp
    have HSZA := hid hsza
    have HWab := hid (And.intro hWa hWb)
    clear hWa hWb hba hbb hHa hHb hOb hJa hJb hSb hsza
    go_wp2_with fail
    rw [← HWab.out.1, ← HWab.out.2]
    clear l0 l1 l2 l3 l4 l5 e0 e1
    rw [HSZA.out] at HSb
    have HDR := hid hdr
    have HJG : Hid (w.heap.size + 1 < WC.heap.size) := hid HOD.out.lt
    have HHJ : Hid (H ≠ WC.heap.size) := hid (Nat.ne_of_lt HHD.out.lt)
    refine wp_loop_rounds 3 ?_
    rw [rounds_succ]
    go_upto_region 36 with fail
    have hgd0 : x0.1.good ≤ b0.length := by rw [← HX0.out]; exact scanL_good HB0.out 0
    obtain ⟨Ah0, runh0, rdh0, _⟩ := headB_run A0 b0.length c0 x0.1.good (x0.1.good : Int) rfl hgd0 hc0
    have HCP0 : Hid (∀ W, Drawn Wb W → Calls Tryd.prog 54 #[.slice Ah0 x0.1.good c0] W fun e w' => ∃ A n c, e = .returned (.slice A n c) ∧ Below Wb.heap.size Wb w' ∧ OwnB w' Wb.heap.size (SV.v (A, n, c)) (b0.take x0.1.good)) := hid (fun W hW => by
      have hbw := HOb.out.bel.trans ((hW.below _).mono (Nat.le_refl _))
      have hln : (b0.take x0.1.good).length = x0.1.good := by rw [List.length_take]; omega
      refine (copied_any W Ah0 x0.1.good c0 (b0.take x0.1.good) hln (by omega) (rdh0 _ _ _ rfl ((HR0.out.below hbw).mono hbw.size))).mono ?_
      rintro e w' ⟨v, rfl, ho, hb⟩
      have ho2 : OwnB w' W.heap.size v (b0.take x0.1.good) := by unfold OwnB; rw [hln]; exact ho
      obtain ⟨_, A', c', rfl, _, _, _⟩ := owns_reads u8s_len ho2 (by decide)
      exact ⟨A', _, c', rfl, (hW.below _).trans (hb.mono (by rw [hW.heap]; exact Nat.le_refl _)), by rw [hW.heap] at ho2; exact ho2⟩)
    have h4 : Wb.cell? ⟨H, 4, none⟩ = some (.int .i64 x0.1.good) := box_cell HHb.out 4
    have HJ1 : Hid (∀ wn, Below Wb.heap.size Wb wn → wn.cell? ⟨WC.heap.size, 1, none⟩ = some (.slice none 0 0) ∧ wn.frozen? ⟨WC.heap.size, 1, none⟩ = false) := hid (fun wn hb => ⟨box_cell (box_below HJb.out hb) 1, box_fz (box_below HJb.out hb) 1⟩)
    go_cut [19] from 140 to 192 (fun v wd => v = .int .i64 0 ∧ ∃ Ac nc cc w1, Below Wb.heap.size Wb w1 ∧ OneSet WC.heap.size w1 wd ∧ wd.heap[WC.heap.size]? = some (.cells #[.int .i64 limit, .slice Ac nc cc, .slice none 0 0, .int .i64 1, .int .i64 0, .int .u64 0, .int .u32 0, .int .i64 0, .int .i64 0, .bool false] 120 (0, 0)) ∧ OwnB wd Wb.heap.size (SV.v (Ac, nc, cc)) (b0.take x0.1.good))
    case first =>
      go_region_with (go_at_call 54; with_reducible refine (HCP0.out _ (by first | assumption | exact (Drawn.refl _).drew | exact Drawn.refl _)).mono ?_; go_loud (rintro e wn ⟨Ac, nc, cc, rfl, hbC, hoC⟩; obtain ⟨j1, f1⟩ := HJ1.out _ hbC; have HBC2 := hid hbC; have HOC2 := hid hoC; clear hbC hoC))
      all_goals go_wp2_with fail
      all_goals go_meet
      exact ⟨by first | rfl | simp, _, _, _, wn, HBC2.out, (OneSet.refl _ _).setCell 1 _, heap_setCell_at (k := 1) _ (box_below HJb.out HBC2.out), ownB_keep row_u8 HOC2.out (keep_setCell (a := ⟨WC.heap.size, 1, none⟩) (box_below HJb.out HBC2.out) (by decide) (by decide) _)⟩
    case rest =>
    obtain ⟨rfl, Ac0, nc0, cc0, w1, hb1, hos1, hJ1, hown1⟩ := hcut
    obtain ⟨W6, hWn⟩ : ∃ W, W = wc := ⟨_, rfl⟩
    subst hWn
    have hJw1 := box_below HJb.out hb1
    have HW6O := hid ((HOb.out.kept hb1).oneSet hos1 HJG.out)
    have HW6H : Hid (HBox W6 H _ _ _ _ _ _ _ _ _ _ _ _) := hid ((hos1.block H HHJ.out).trans (HHb.out.kept hb1))
    have HW6S : Hid (Box6 W6 (WC.heap.size + 1) _ _ _ _ _ _) := hid ((hos1.block _ (by omega)).trans (HSb.out.kept hb1))
    have HW6K := hid ((keep_below hb1).trans (hos1.rows hJw1 (by decide) (by decide)))
    have HW6Z : Hid (Wb.heap.size ≤ W6.heap.size) := hid (by rw [hos1.size]; exact hb1.size)
    have HW6B : Hid (∀ k, k < Wb.heap.size → k ≠ WC.heap.size → W6.heap[k]? = Wb.heap[k]?) := hid (fun k hk hne => (hos1.block k hne).trans (hb1.block k hk))
    have HW6J := hid hJ1
    have HOW0 := hid hown1
    have h4 : W6.cell? ⟨H, 4, none⟩ = some (.int .i64 x0.1.good) := box_cell HW6H.out 4
    have hwt : IntKind.i64.wrap ((b0.length : Int) - (x0.1.good : Int)) = ((b0.length - x0.1.good : Nat) : Int) := by rw [wrap_small _ (by omega) (by omega)]; omega
    have hwt2 : IntKind.i64.wrap (0 + ((b0.length - x0.1.good : Nat) : Int)) = ((b0.length - x0.1.good : Nat) : Int) := by rw [wrap_small _ (by omega) (by omega)]; omega
    clear hb1 hos1 hJ1 hown1 hJw1 HJ1
    go_wp2_with fail
    clear h4 hwt hwt2
    rw [rounds_succ]
    go_upto_region 36 with fail
    have hgd1 : x1.1.good ≤ b1.length := by rw [← HX1.out]; exact scanL_good HB1.out 1
    obtain ⟨Ah1, runh1, rdh1, _⟩ := headB_run A1 b1.length c1 x1.1.good (x1.1.good : Int) rfl hgd1 hc1
    have HCP1 : Hid (∀ W, Drawn W6 W → Calls Tryd.prog 54 #[.slice Ah1 x1.1.good c1] W fun e w' => ∃ A n c, e = .returned (.slice A n c) ∧ Below W6.heap.size W6 w' ∧ OwnB w' W6.heap.size (SV.v (A, n, c)) (b1.take x1.1.good)) := hid (fun W hW => by
      have hbw := HW6O.out.bel.trans ((hW.below _).mono (Nat.le_refl _))
      have hln : (b1.take x1.1.good).length = x1.1.good := by rw [List.length_take]; omega
      refine (copied_any W Ah1 x1.1.good c1 (b1.take x1.1.good) hln (by omega) (rdh1 _ _ _ rfl ((HR1.out.below hbw).mono hbw.size))).mono ?_
      rintro e w' ⟨v, rfl, ho, hb⟩
      have ho2 : OwnB w' W.heap.size v (b1.take x1.1.good) := by unfold OwnB; rw [hln]; exact ho
      obtain ⟨_, A', c', rfl, _, _, _⟩ := owns_reads u8s_len ho2 (by decide)
      exact ⟨A', _, c', rfl, (hW.below _).trans (hb.mono (by rw [hW.heap]; exact Nat.le_refl _)), by rw [hW.heap] at ho2; exact ho2⟩)
    have h4 : W6.cell? ⟨H, 10, none⟩ = some (.int .i64 x1.1.good) := box_cell HW6H.out 10
    have HJ1 : Hid (∀ wn, Below W6.heap.size W6 wn → wn.cell? ⟨WC.heap.size, 2, none⟩ = some (.slice none 0 0) ∧ wn.frozen? ⟨WC.heap.size, 2, none⟩ = false) := hid (fun wn hb => ⟨box_cell (box_below HW6J.out hb) 2, box_fz (box_below HW6J.out hb) 2⟩)
    go_cut [19] from 140 to 192 (fun v wd => v = .int .i64 ((b0.length - x0.1.good : Nat) : Int) ∧ ∃ Ac nc cc w1, Below W6.heap.size W6 w1 ∧ OneSet WC.heap.size w1 wd ∧ wd.heap[WC.heap.size]? = some (.cells #[.int .i64 limit, .slice Ac0 nc0 cc0, .slice Ac nc cc, .int .i64 1, .int .i64 0, .int .u64 0, .int .u32 0, .int .i64 0, .int .i64 0, .bool false] 120 (0, 0)) ∧ OwnB wd W6.heap.size (SV.v (Ac, nc, cc)) (b1.take x1.1.good))
    case first =>
      go_region_with (go_at_call 54; with_reducible refine (HCP1.out _ (by first | assumption | exact (Drawn.refl _).drew | exact Drawn.refl _)).mono ?_; go_loud (rintro e wn ⟨Ac, nc, cc, rfl, hbC, hoC⟩; obtain ⟨j1, f1⟩ := HJ1.out _ hbC; have HBC2 := hid hbC; have HOC2 := hid hoC; clear hbC hoC))
      all_goals go_wp2_with fail
      all_goals go_meet
      exact ⟨by first | rfl | simp, _, _, _, wn, HBC2.out, (OneSet.refl _ _).setCell 2 _, heap_setCell_at (k := 2) _ (box_below HW6J.out HBC2.out), ownB_keep row_u8 HOC2.out (keep_setCell (a := ⟨WC.heap.size, 2, none⟩) (box_below HW6J.out HBC2.out) (by decide) (by decide) _)⟩
    case rest =>
    obtain ⟨rfl, Ac1, nc1, cc1, w1, hb1, hos1, hJ1, hown1⟩ := hcut
    obtain ⟨W7, hWn⟩ : ∃ W, W = wc := ⟨_, rfl⟩
    subst hWn
    have hJw1 := box_below HW6J.out hb1
    have HW7O := hid ((HW6O.out.kept hb1).oneSet hos1 HJG.out)
    have HW7H : Hid (HBox W7 H _ _ _ _ _ _ _ _ _ _ _ _) := hid ((hos1.block H HHJ.out).trans (HW6H.out.kept hb1))
    have HW7S : Hid (Box6 W7 (WC.heap.size + 1) _ _ _ _ _ _) := hid ((hos1.block _ (by omega)).trans (HW6S.out.kept hb1))
    have HW7K := hid ((keep_below hb1).trans (hos1.rows hJw1 (by decide) (by decide)))
    have HW7Z : Hid (W6.heap.size ≤ W7.heap.size) := hid (by rw [hos1.size]; exact hb1.size)
    have HW7B : Hid (∀ k, k < W6.heap.size → k ≠ WC.heap.size → W7.heap[k]? = W6.heap[k]?) := hid (fun k hk hne => (hos1.block k hne).trans (hb1.block k hk))
    have HW7J := hid hJ1
    have HOW1x := hid hown1
    have h4 : W7.cell? ⟨H, 10, none⟩ = some (.int .i64 x1.1.good) := box_cell HW7H.out 10
    have hwt : IntKind.i64.wrap ((b1.length : Int) - (x1.1.good : Int)) = ((b1.length - x1.1.good : Nat) : Int) := by rw [wrap_small _ (by omega) (by omega)]; omega
    have hwt2 : IntKind.i64.wrap (((b0.length - x0.1.good : Nat) : Int) + ((b1.length - x1.1.good : Nat) : Int)) = (((b0.length - x0.1.good) + (b1.length - x1.1.good) : Nat) : Int) := by rw [wrap_small _ (by omega) (by omega)]; omega
    clear hb1 hos1 hJ1 hown1 hJw1 HJ1
    go_wp2_with fail
    clear h4 hwt hwt2
    rw [rounds_succ]
    go_upto_region 39 with fail
    have s1 := box_cell HW7S.out 1
    have s3 := box_cell HW7S.out 3
    have s4 := box_cell HW7S.out 4
    have s5 := box_cell HW7S.out 5
    have j4 := box_cell HW7J.out 4
    have j5 := box_cell HW7J.out 5
    have j6 := box_cell HW7J.out 6
    have j7 := box_cell HW7J.out 7
    have f4 := box_fz HW7J.out 4
    have f5 := box_fz HW7J.out 5
    have f6 := box_fz HW7J.out 6
    have f7 := box_fz HW7J.out 7
    simp only [List.getElem?_toArray, List.getElem?_cons_succ, List.getElem?_cons_zero] at s1 s3 s4 s5 j4 j5 j6 j7
    obtain ⟨W8, hW8⟩ : ∃ W, W = (((W7.setCell ⟨WC.heap.size, 4, none⟩ (.int .i64 x1.1.good)).setCell ⟨WC.heap.size, 5, none⟩ (.int .u64 x1.1.gen)).setCell ⟨WC.heap.size, 6, none⟩ (.int .u32 x1.1.sum)).setCell ⟨WC.heap.size, 7, none⟩ (.int .i64 x1.1.recs.length) := ⟨_, rfl⟩
    have hos8 : OneSet WC.heap.size W7 W8 := by rw [hW8]; exact ((((OneSet.refl _ W7).setCell 4 _).setCell 5 _).setCell 6 _).setCell 7 _
    have hJ8 : W8.heap[WC.heap.size]? = some (.cells #[.int .i64 limit, .slice Ac0 nc0 cc0, .slice Ac1 nc1 cc1, .int .i64 1, .int .i64 x1.1.good, .int .u64 x1.1.gen, .int .u32 x1.1.sum, .int .i64 x1.1.recs.length, .int .i64 0, .bool false] 120 (0, 0)) := by rw [hW8]; exact heap_setCell_at (k := 7) _ (heap_setCell_at (k := 6) _ (heap_setCell_at (k := 5) _ (heap_setCell_at (k := 4) _ HW7J.out)))
    go_cut [19] from 162 to 192 (fun v wd => v = .int .i64 (((b0.length - x0.1.good) + (b1.length - x1.1.good) : Nat) : Int) ∧ Drawn W8 wd)
    case first =>
      go_region
      all_goals go_wp2_with fail
      all_goals go_meet
      all_goals rw [← hW8]
      all_goals exact ⟨by first | rfl | (congr 1; omega) | simp, (Drawn.refl _).drew⟩
    case rest =>
    obtain ⟨rfl, hd8⟩ := hcut
    obtain ⟨W9, hW9⟩ : ∃ W, W = wc := ⟨_, rfl⟩
    subst hW9
    clear s1 s3 s4 s5 j4 j5 j6 j7 f4 f5 f6 f7
    have hc5 : W5.heap.size ≤ WC.heap.size := by rw [HDR.out.heap]; exact HBC.out.size
    have hcb : WC.heap.size ≤ Wb.heap.size := HBab.out.size
    have hz67 := HW7Z.out
    have hzb6 := HW6Z.out
    have hz78 := hos8.size
    have hk59 : ∀ k, k < W5.heap.size → W9.heap[k]? = W5.heap[k]? := fun k hk =>
      (congrArg (fun h : Array Obj => h[k]?) hd8.heap).trans ((hos8.block k (by omega)).trans ((HW7B.out k (by omega) (by omega)).trans ((HW6B.out k (by omega) (by omega)).trans ((HBab.out.block k (by omega)).trans ((congrArg (fun h : Array Obj => h[k]?) HDR.out.heap).trans (HBC.out.block k hk))))))
    have hstR : U8s W3.heap.size W9 As1 x1.1.state := reads_but HSR1.out (HBox.noByte HHB3.out) (fun k hk hne => (hk59 k (by have := HSZ1.out; omega)).trans (HKR1.out k hk hne))
    have hst9 : U8s W9.heap.size W9 As1 x1.1.state := hstR.mono (by rw [hd8.heap]; have := HSZ1.out; omega)
    have hRc := HR1D.out
    have hO8 := HW7O.out.oneSet hos8 HJG.out
    have hO9 := hO8.drawn hd8
    have hS9 : Box6 W9 (WC.heap.size + 1) _ _ _ _ _ _ := (congrArg (fun h : Array Obj => h[WC.heap.size + 1]?) hd8.heap).trans ((hos8.block _ (by omega)).trans HW7S.out)
    have hJ9 := (congrArg (fun h : Array Obj => h[WC.heap.size]?) hd8.heap).trans hJ8
    have hrows8 := hos8.rows HW7J.out (by decide) (by decide)
    have hk79 : KeepRows W7 W9 := hrows8.trans (fun k o _ ho => by rw [hd8.heap]; exact ho)
    have hst : x1.1.state.length = ns1 := HST1.out
    have hns : ns1 ≤ 100000000 := by
      have h1 : x1.1.state.length ≤ b1.length := by rw [← HX1.out]; exact scanL_state HB1.out 1
      omega
    have HCPS : Hid (∀ W, Drawn W9 W → Calls Tryd.prog 54 #[.slice As1 ns1 cs1] W fun e w' => ∃ A n c, e = .returned (.slice A n c) ∧ Below W9.heap.size W9 w' ∧ OwnB w' W9.heap.size (SV.v (A, n, c)) x1.1.state) := hid (fun W hW => by
      refine (copied_any W As1 ns1 cs1 x1.1.state hst (by omega) (by rw [hW.heap]; exact hW.reads hst9)).mono ?_
      rintro e w' ⟨v, rfl, ho, hb⟩
      have ho2 : OwnB w' W.heap.size v x1.1.state := by unfold OwnB; rw [hst]; exact ho
      obtain ⟨_, A', c', rfl, _, _, _⟩ := owns_reads u8s_len ho2 (by decide)
      exact ⟨A', _, c', rfl, (hW.below _).trans (hb.mono (by rw [hW.heap]; exact Nat.le_refl _)), by rw [hW.heap] at ho2; exact ho2⟩)
    have HSN : Hid (∀ wn, Below W9.heap.size W9 wn → wn.cell? ⟨WC.heap.size + 1, 1, none⟩ = some (.int .u64 x1.1.gen) ∧ wn.cell? ⟨WC.heap.size + 1, 2, none⟩ = some (.slice As1 ns1 cs1) ∧ wn.cell? ⟨WC.heap.size + 1, 3, none⟩ = some (.slice AV1 x1.1.recs.length cV1)) := hid (fun wn hb => ⟨box_cell (box_below hS9 hb) 1, box_cell (box_below hS9 hb) 2, box_cell (box_below hS9 hb) 3⟩)
    have HRN : Hid (∀ wn, Below W9.heap.size W9 wn → (wn.cell? ⟨w.heap.size + 1, 0, none⟩ = some (.int .u64 0) ∧ wn.cell? ⟨w.heap.size + 1, 1, none⟩ = some (.slice none 0 0) ∧ wn.cell? ⟨w.heap.size + 1, 2, none⟩ = some (.slice none 0 0) ∧ wn.cell? ⟨w.heap.size + 1, 3, none⟩ = some (.int .i64 0)) ∧ (wn.frozen? ⟨w.heap.size + 1, 0, none⟩ = false ∧ wn.frozen? ⟨w.heap.size + 1, 1, none⟩ = false ∧ wn.frozen? ⟨w.heap.size + 1, 2, none⟩ = false ∧ wn.frozen? ⟨w.heap.size + 1, 3, none⟩ = false)) := hid (fun wn hb => ⟨⟨box_cell (box_below hO9.r hb) 0, box_cell (box_below hO9.r hb) 1, box_cell (box_below hO9.r hb) 2, box_cell (box_below hO9.r hb) 3⟩, ⟨box_fz (box_below hO9.r hb) 0, box_fz (box_below hO9.r hb) 1, box_fz (box_below hO9.r hb) 2, box_fz (box_below hO9.r hb) 3⟩⟩)
    obtain ⟨t1, t2, t3⟩ := HSN.out W9 (Below.refl _ _)
    have HO9 := hid hO9
    have HJ9 := hid hJ9
    have HK79 := hid hk79
    have HRC := hid hRc
    have HD8 := hid hd8
    have HOS8 := hid hos8
    have HZ := hid (And.intro hc5 (And.intro hcb (And.intro hz67 (And.intro hzb6 hz78))))
    clear hc5 hcb hz67 hzb6 hz78 hk59 hstR hst9 hRc hO8 hO9 hS9 hJ9 hrows8 hk79 hst hns hd8 hos8 hJ8 hW8
    go_upto_region 40 with fail
    have HEQ : Hid ((openJ b0 b1 limit).gen = x1.1.gen ∧ openTorn b0 b1 = (b0.length - x0.1.good) + (b1.length - x1.1.good) ∧ heldAt (scanL b0 0).1 (scanL b1 1).1 (useOf (scanL b0 0).1 (scanL b1 1).1) = x1.1 ∧ openJ b0 b1 limit = ⟨limit, 1, b0.take x0.1.good, b1.take x1.1.good, x1.1.good, x1.1.gen, x1.1.sum, x1.1.recs.length, 0⟩) := hid (by
      unfold openJ openTorn
      rw [HX0.out, HX1.out]
      dsimp only
      rw [HUS.out]
      exact ⟨rfl, rfl, rfl, rfl⟩)
    have HKC9 : Hid (KeepRows WC W9) := hid ((keep_below HBab.out).trans (HW6K.out.trans (HW7K.out.trans HK79.out)))
    have HK69 : Hid (KeepRows W6 W9) := hid (HW7K.out.trans HK79.out)
    have HZ4 : Hid (W7.heap.size ≤ W9.heap.size) := hid (by rw [HD8.out.heap, HOS8.out.size]; exact Nat.le_refl _)
    have HLO : Hid (w.heap.size ≤ W3.heap.size) := hid (Nat.le_trans HOW1.out.bel.size HSZ0.out)
    go_region_with (go_at_call 54; with_reducible refine (HCPS.out _ (by first | assumption | exact (Drawn.refl _).drew | exact Drawn.refl _)).mono ?_; rintro e wn ⟨Ac, nc, cc, rfl, hbC, hoC⟩; obtain ⟨y1, y2, y3⟩ := HSN.out _ hbC; obtain ⟨⟨z0, z1, z2, z3⟩, ⟨z4, z5, z6, z7⟩⟩ := HRN.out _ hbC; have HBC2 := hid hbC; have HOC2 := hid hoC; clear hbC hoC)
    all_goals go_wp2_with fail
    all_goals refine bodyPost_ret (results_open rfl _ _ _ _ _ _ rfl rfl (heap_setCell_at (k := 3) _ (heap_setCell_at (k := 2) _ (heap_setCell_at (k := 1) _ (heap_setCell_at (k := 0) _ (box_below HO9.out.r HBC2.out))))) rfl rfl) rfl ?_
    all_goals rw [HEQ.out.1, HEQ.out.2.1, HEQ.out.2.2.1, HEQ.out.2.2.2]
    all_goals exact ⟨WC.heap.size, (Ac0, nc0, cc0), (Ac1, nc1, cc1), _, _, WC.heap.size, W9.heap.size, rfl, open_done HO9.out HJ9.out HRC.out HLO.out HJG.out HKC9.out HK69.out HK79.out HOW0.out HOW1x.out HBab.out.size HW6Z.out HW7Z.out HZ4.out HBC2.out HOC2.out ((((OneSet.refl _ _).setCell 0 _).setCell 1 _).setCell 2 _ |>.setCell 3 _)⟩
end Go.Proofs.YtfcgmlofiaehkaaDoor
