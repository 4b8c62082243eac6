/- Layer 9: Crash of a journal that lives. -/
import Derived.Test.YtfcgmlofiaehkaaDoorJL
namespace Go.Proofs.YtfcgmlofiaehkaaDoor
open Go.RowKit

/-- as Below, but for the block j -/
structure BelowBut (j : Nat) (w w' : World) : Prop where
  os : w'.os = w.os
  tape : w'.tape = w.tape
  output : w'.output = w.output
  size : w.heap.size ≤ w'.heap.size
  block : ∀ k, k < w.heap.size → k ≠ j → w'.heap[k]? = w.heap[k]?
theorem BelowBut.of {j : Nat} {w w1 w2 w' : World} {g : Nat} (h1 : Below w.heap.size w w1) (h2 : OneSet j w1 w2) (h3 : OneSet g w2 w') (hg : w.heap.size ≤ g) : BelowBut j w w' :=
  ⟨h3.os.trans (h2.os.trans h1.os), h3.tape.trans (h2.tape.trans h1.tape), h3.output.trans (h2.output.trans h1.output), by rw [h3.size, h2.size]; exact h1.size, fun k hk hne => (h3.block k (by omega)).trans ((h2.block k hne).trans (h1.block k hk))⟩
def keepL (J : JL) (l : List Int) (k : Int) : Nat := J.synced + min k.toNat (l.length - J.synced)
theorem min_run (x y m : Int) (hm : m = min x y) (ats : Array TypeId) (ty : TypeId) : ∀ W : World, (Builtin.min_ ats ty #[.int .i64 x, .int .i64 y]).run Tryd.prog W = .ok (.int .i64 m) W := fun W => by
  subst hm
  have e : (if y < x then y else x) = min x y := by split <;> omega
  simp [Builtin.min_, Builtin.min2, e]
/-- behind the call of left: the disk lies in a box of its own -/
def MidC (W1 : World) (l0 l1 : List Int) (vv : Value) (wd : World) : Prop :=
  ∃ g a0 b0 d0 a1 b1 d1 w1, vv = .pointer (some ⟨g, 0, none⟩) ∧ W1.heap.size ≤ g ∧ Below W1.heap.size W1 w1 ∧ OneSet g w1 wd ∧ wd.heap[g]? = some (.cells #[.slice a0 b0 d0, .slice a1 b1 d1] 25 (0, 0)) ∧ OwnB wd W1.heap.size (SV.v (a0, b0, d0)) l0 ∧ OwnB wd W1.heap.size (SV.v (a1, b1, d1)) l1 ∧ (∀ k, (SV.v (a0, b0, d0)).ownBlock = some k → (SV.v (a1, b1, d1)).ownBlock ≠ some k)
theorem crash_mid {W1 wn w1 : World} {t0 t1 : SV} {l0 l1 : List Int} {g : Nat} (hb : Below W1.heap.size W1 wn) (ho0 : OwnB wn W1.heap.size t0.v l0) (ho1 : OwnB wn W1.heap.size t1.v l1) (hap : ∀ k, t0.v.ownBlock = some k → t1.v.ownBlock ≠ some k)
    (hw : w1 = wn ∧ wn.heap[g]? = some (.cells #[.slice none 0 0, .slice none 0 0] 25 (0, 0)) ∧ W1.heap.size ≤ g ∨ g = wn.heap.size ∧ w1 = wn.alloc (.cells #[.slice none 0 0, .slice none 0 0] 25)) :
    MidC W1 l0 l1 (.pointer (some ⟨g, 0, none⟩)) ((w1.setCell ⟨g, 0, none⟩ (.slice t0.1 t0.2.1 t0.2.2)).setCell ⟨g, 1, none⟩ (.slice t1.1 t1.2.1 t1.2.2)) := by
  have h1 : Below wn.heap.size wn w1 ∧ w1.heap[g]? = some (.cells #[.slice none 0 0, .slice none 0 0] 25 (0, 0)) ∧ W1.heap.size ≤ g := by
    rcases hw with ⟨rfl, h, h2⟩ | ⟨rfl, rfl⟩
    · exact ⟨Below.refl _ _, h, h2⟩
    · exact ⟨(Below.refl _ _).alloc (Nat.le_refl _) _, heap_alloc_new wn _, hb.size⟩
  obtain ⟨hn, hg, hgl⟩ := h1
  have hos : OneSet g w1 ((w1.setCell ⟨g, 0, none⟩ (.slice t0.1 t0.2.1 t0.2.2)).setCell ⟨g, 1, none⟩ (.slice t1.1 t1.2.1 t1.2.2)) := ((OneSet.refl _ _).setCell 0 _).setCell 1 _
  have hk := (keep_below hn).trans (hos.rows hg (by decide) (by decide))
  exact ⟨g, t0.1, t0.2.1, t0.2.2, t1.1, t1.2.1, t1.2.2, w1, rfl, hgl, hb.trans (hn.mono hb.size), hos, heap_setCell_at _ (heap_setCell_at _ hg), ownB_keep row_u8 ho0 hk, ownB_keep row_u8 ho1 hk, hap⟩
theorem crash_mid2 {W1 wn : World} {t0 t1 : SV} {l0 l1 : List Int} (hb : Below W1.heap.size W1 wn) (ho0 : OwnB wn W1.heap.size t0.v l0) (ho1 : OwnB wn W1.heap.size t1.v l1) (hap : ∀ k, t0.v.ownBlock = some k → t1.v.ownBlock ≠ some k) :
    MidC W1 l0 l1 (.pointer (some ⟨wn.heap.size, 0, none⟩)) (wn.alloc (.cells #[.slice t0.1 t0.2.1 t0.2.2, .slice t1.1 t1.2.1 t1.2.2] 25)) := by
  have hn : Below wn.heap.size wn (wn.alloc (.cells #[.slice t0.1 t0.2.1 t0.2.2, .slice t1.1 t1.2.1 t1.2.2] 25)) := (Below.refl _ _).alloc (Nat.le_refl _) _
  have hk := keep_below hn
  exact ⟨wn.heap.size, t0.1, t0.2.1, t0.2.2, t1.1, t1.2.1, t1.2.2, _, rfl, hb.size, hb.trans (hn.mono hb.size), OneSet.refl _ _, heap_alloc_new wn _, ownB_keep row_u8 ho0 hk, ownB_keep row_u8 ho1 hk, hap⟩
theorem set10 {W : World} {j : Nat} {T : TypeId} {v : Value} {l l2 : List Value} (k : Nat) (h : W.heap[j]? = some (.cells ⟨l⟩ T (0, 0))) (hl : l.set k v = l2) : (W.setCell ⟨j, k, none⟩ v).heap[j]? = some (.cells ⟨l2⟩ T (0, 0)) := by
  rw [heap_setCell_at v h, ← hl, List.setIfInBounds_toArray]
theorem dead_box {W : World} {j : Nat} {J : JL} {s0 s1 : SV} (h : W.heap[j]? = some (.cells (jCells J s0 s1) 120 (0, 0))) :
    ((((((((((W.setCell ⟨j, 0, none⟩ (.int .i64 0)).setCell ⟨j, 1, none⟩ (.slice none 0 0)).setCell ⟨j, 2, none⟩ (.slice none 0 0)).setCell ⟨j, 3, none⟩ (.int .i64 0)).setCell ⟨j, 4, none⟩ (.int .i64 0)).setCell ⟨j, 5, none⟩ (.int .u64 0)).setCell ⟨j, 6, none⟩ (.int .u32 0)).setCell ⟨j, 7, none⟩ (.int .i64 0)).setCell ⟨j, 8, none⟩ (.int .i64 0)).setCell ⟨j, 9, none⟩ (.bool true)).heap[j]? = some (.cells deadCells 120 (0, 0)) :=
  (set10 9 (set10 8 (set10 7 (set10 6 (set10 5 (set10 4 (set10 3 (set10 2 (set10 1 (set10 0 h rfl) rfl) rfl) rfl) rfl) rfl) rfl) rfl) rfl) rfl)
set_option maxRecDepth 100000 in
set_option maxHeartbeats 4000000 in
theorem crash_0 (w : World) (lo hi j : Nat) (J : JL) (s0 s1 : SV) (hJ : JAt w lo hi j J s0 s1) (hu : J.use = 0) (hm0 : J.l0.length ≤ 1000000000) (hm1 : J.l1.length ≤ 1000000000) (hs : J.synced ≤ J.l0.length) (k : Int) (hk : 0 ≤ k ∧ k ≤ 9223372036854775807) : Calls Tryd.prog 27 #[.pointer (some ⟨j, 0, none⟩), .int .i64 k] w fun e w' =>
    ∃ t0 t1 : SV, e = .returned (.tuple #[.agg #[.slice t0.1 t0.2.1 t0.2.2, .slice t1.1 t1.2.1 t1.2.2], .int .i64 0]) ∧ OwnB w' w.heap.size t0.v (J.l0.take (keepL J J.l0 k)) ∧ OwnB w' w.heap.size t1.v J.l1 ∧ (∀ k, t0.v.ownBlock = some k → t1.v.ownBlock ≠ some k) ∧ w'.heap[j]? = some (.cells deadCells 120 (0, 0)) ∧ BelowBut j w w' := by
  obtain ⟨hk0, hk1⟩ := hk
  have hbox := hJ.box
  have hjw : j < w.heap.size := (Array.getElem?_eq_some_iff.1 hbox).1
  have HAL := hid (fun (o : Obj) => alive_live (w.alloc o) j J s0 s1 (((Below.refl w.heap.size w).alloc (Nat.le_refl _) o).block j hjw |>.trans hbox))
  obtain ⟨A0, n0, c0⟩ := s0
  obtain ⟨hl, _, _, _⟩ := OwnB.reads hJ.own0
  subst hl
  obtain ⟨d, hd⟩ : ∃ d, d = J.l0.length - J.synced := ⟨_, rfl⟩
  obtain ⟨m, hm⟩ : ∃ m, m = min k.toNat d := ⟨_, rfl⟩
  obtain ⟨N, hN⟩ : ∃ N, N = keepL J J.l0 k := ⟨_, rfl⟩
  have hN2 : N = J.synced + m := by rw [hN, hm, hd]; rfl
  have hw1 : IntKind.i64.wrap ((J.l0.length : Int) - (J.synced : Int)) = (d : Int) := by rw [wrap_small _ (by omega) (by omega)]; omega
  have hw2 : IntKind.i64.wrap ((J.synced : Int) + (m : Int)) = (N : Int) := by rw [wrap_small _ (by omega) (by omega)]; omega
  have hmin := min_run k (d : Int) (m : Int) (by omega) #[3, 3] 3
  have hNl : N ≤ J.l0.length := by omega
  have HNE := hid hN
  clear hd hm hN hN2
  obtain ⟨W1, hW1⟩ : ∃ W, W = w.alloc (.cells #[.slice none 0 0, .slice none 0 0] 25) := ⟨_, rfl⟩
  have hb1 : Below w.heap.size w W1 := by rw [hW1]; exact (Below.refl _ w).alloc (Nat.le_refl _) _
  have hz1 : W1.heap.size = w.heap.size + 1 := by rw [hW1]; simp
  have hr1 : W1.heap[w.heap.size]? = some (.cells #[.slice none 0 0, .slice none 0 0] 25 (0, 0)) := by rw [hW1]; exact heap_alloc_new w _
  have hj1 := hJ.below hb1
  have hL : ∀ W, Below W1.heap.size W1 W → Calls Tryd.prog 60 #[.pointer (some ⟨j, 0, none⟩), .int .i64 N] W fun e w' =>
      ∃ t0 t1 : SV, e = .returned (.agg #[.slice t0.1 t0.2.1 t0.2.2, .slice t1.1 t1.2.1 t1.2.2]) ∧ OwnB w' W1.heap.size t0.v (J.l0.take N) ∧ OwnB w' W1.heap.size t1.v J.l1 ∧ (∀ k, t0.v.ownBlock = some k → t1.v.ownBlock ≠ some k) ∧ Below W1.heap.size W1 w' ∧ Below W.heap.size W w' := fun W hb => by
    refine (left_0 W lo hi j J _ _ (hj1.below hb) hu hm0 hm1 N hNl).mono ?_
    rintro e w' ⟨t0, t1, he, o0, o1, hap, hb2⟩
    exact ⟨t0, t1, he, own_mono o0 hb.size, own_mono o1 hb.size, hap, hb.trans (hb2.mono hb.size), hb2⟩
  have HL := hid hL
  have HLA := hid (fun W (h0 : W.heap[W1.heap.size]? = some (.cells #[.slice none 0 0, .slice none 0 0] 25 (0, 0))) (hb : Below W1.heap.size W1 W) => (hL W hb).mono (fun e w' h => show ∃ t0 t1 : SV, e = .returned (.agg #[.slice t0.1 t0.2.1 t0.2.2, .slice t1.1 t1.2.1 t1.2.2]) ∧ (OwnB w' W1.heap.size t0.v (J.l0.take N) ∧ OwnB w' W1.heap.size t1.v J.l1 ∧ (∀ k, t0.v.ownBlock = some k → t1.v.ownBlock ≠ some k) ∧ w'.heap[W1.heap.size]? = some (.cells #[.slice none 0 0, .slice none 0 0] 25 (0, 0))) ∧ Below W1.heap.size W1 w' ∧ w'.cell? ⟨W1.heap.size, 0, none⟩ = some (.slice none 0 0) ∧ w'.cell? ⟨W1.heap.size, 1, none⟩ = some (.slice none 0 0) ∧ w'.frozen? ⟨W1.heap.size, 0, none⟩ = false ∧ w'.frozen? ⟨W1.heap.size, 1, none⟩ = false by
    obtain ⟨t0, t1, he, o0, o1, hap, hb1, hb2⟩ := h
    have hx := box_below h0 hb2
    exact ⟨t0, t1, he, ⟨o0, o1, hap, hx⟩, hb1, disk_box hx⟩))
  obtain ⟨x0, x1, x2, x3, x4, x5, x6, x7, x8, x9⟩ := jcells hbox
  have KP := hid (show ∀ W, Below W1.heap.size W1 W → W.cell? ⟨j, 3, none⟩ = some (.int .i64 0) ∧ W.cell? ⟨j, 4, none⟩ = some (.int .i64 J.synced) ∧ W.cell? ⟨j, 1, none⟩ = some (.slice A0 J.l0.length c0) ∧ Below W1.heap.size W1 W from fun W hb => by
    obtain ⟨y0, y1, y2, y3, y4, _⟩ := jcells (hj1.below hb).box
    rw [hu] at y3
    exact ⟨y3, y4, y1, hb⟩)
  obtain ⟨z0, z1, z2, hbz⟩ := KP.out W1 (Below.refl _ _)
  have HB1 := hid hb1
  have HZ1 := hid hz1
  have HR1 := hid hr1
  have HJ1 := hid hj1
  clear x0 x5 x6 x7 x8 x9 hbox hJ hb1 hz1 hr1 hj1 hL hjw
  go_enter Tryd.func27, Tryd.ntmps27
  go_wp2_with fail
  refine (HAL.out _).mono ?_
  rintro e w1 ⟨rfl, hw1⟩
  subst hw1
  clear HAL
  go_upto_region 6 with fail
  rw [← hW1]
  clear hW1
  go_cut [7] from 8 to 44 (fun vv wd => MidC W1 (J.l0.take N) J.l1 vv wd)
  case first =>
    go_region_held3 (fun w' => w'.cell? ⟨j, 3, none⟩ = some (.int .i64 0) ∧ w'.cell? ⟨j, 4, none⟩ = some (.int .i64 J.synced) ∧ w'.cell? ⟨j, 1, none⟩ = some (.slice A0 J.l0.length c0) ∧ Below W1.heap.size W1 w')
      (first | (refine KP.out _ ?_; repeat' (first | assumption | exact Below.refl _ _ | refine Below.drew ?_ | refine below_drewN' ?_ _ | refine Below.alloc ?_ ?_ _ | refine Below.setCell ?_ ?_ _ | exact Nat.le_refl _ | exact Below.size (by assumption) | (simp; done) | (simp; omega))))
      (first
        | (go_simp; with_reducible refine (HLA.out _ (by with_unfolding_all exact heap_alloc_new W1 _) (by repeat' (first | assumption | exact Below.refl _ _ | refine Below.drew ?_ | refine below_drewN' ?_ _ | refine Below.alloc ?_ ?_ _ | exact Nat.le_refl _ | exact Below.size (by assumption)))).mono ?_; rintro e w4 ⟨t0, t1, rfl, ho, hb4, q1, q2, q3, q4⟩; have HO := hid ho; clear ho)
        | (go_simp; with_reducible refine (HL.out _ (by repeat' (first | assumption | exact Below.refl _ _ | refine Below.drew ?_ | refine below_drewN' ?_ _ | refine Below.alloc ?_ ?_ _ | exact Nat.le_refl _ | exact Below.size (by assumption)))).mono ?_; rintro e w4 ⟨t0, t1, rfl, ho0, ho1, hap, hb4, hb5⟩; have HO0 := hid ho0; have HO1 := hid ho1; have HAP := hid hap; clear ho0 ho1 hap hb5))
    all_goals go_wp2_with fail
    all_goals go_meet
    all_goals first
      | exact crash_mid2 (by assumption) HO0.out HO1.out HAP.out
      | exact crash_mid (by assumption) HO.out.1 HO.out.2.1 HO.out.2.2.1 (.inl ⟨rfl, HO.out.2.2.2, Nat.le_refl _⟩)
  case rest =>
  obtain ⟨g, a0, b0, e0, a1, b1, e1, w1, rfl, hg, hbl, hos, hbx, o0, o1, hap⟩ := hcut
  obtain ⟨W6, hWn⟩ : ∃ W, W = wc := ⟨_, rfl⟩
  subst hWn
  have hjz : j < W1.heap.size := (Array.getElem?_eq_some_iff.1 HJ1.out.box).1
  have hz1 := HZ1.out
  have hj6 : W6.heap[j]? = _ := (hos.block j (by omega)).trans (box_below HJ1.out.box hbl)
  have hr6 : W6.heap[w.heap.size]? = _ := (hos.block _ (by omega)).trans (box_below HR1.out hbl)
  have hjr : j < w.heap.size := Nat.lt_of_lt_of_le (Nat.lt_of_le_of_ne (by omega) (fun h => by
    have h2 := HR1.out
    rw [← h, HJ1.out.box] at h2
    injection h2 with h2
    injection h2 with _ h2
    exact absurd h2 (by decide))) (Nat.le_refl _)
  obtain ⟨y0, y1, y2, y3, y4, y5, y6, y7, y8, y9⟩ := jcells hj6
  have g0 : W6.frozen? ⟨j, 0, none⟩ = false := box_fz hj6 0
  have g1 : W6.frozen? ⟨j, 1, none⟩ = false := box_fz hj6 1
  have g2 : W6.frozen? ⟨j, 2, none⟩ = false := box_fz hj6 2
  have g3 : W6.frozen? ⟨j, 3, none⟩ = false := box_fz hj6 3
  have g4 : W6.frozen? ⟨j, 4, none⟩ = false := box_fz hj6 4
  have g5 : W6.frozen? ⟨j, 5, none⟩ = false := box_fz hj6 5
  have g6 : W6.frozen? ⟨j, 6, none⟩ = false := box_fz hj6 6
  have g7 : W6.frozen? ⟨j, 7, none⟩ = false := box_fz hj6 7
  have g8 : W6.frozen? ⟨j, 8, none⟩ = false := box_fz hj6 8
  have g9 : W6.frozen? ⟨j, 9, none⟩ = false := box_fz hj6 9
  have n1 : j ≠ w.heap.size := by omega
  have n2 : j ≠ g := by omega
  obtain ⟨p0, p1, q0, q1⟩ := disk_box hr6
  obtain ⟨c0', c1', _, _⟩ := disk_box hbx
  have HH := hid (And.intro hbl (And.intro hos (And.intro o0 (And.intro o1 (And.intro hap (And.intro hj6 (And.intro hr6 hbx)))))))
  have HGZ := hid hg
  have HJR := hid hjr
  clear hbl hos o0 o1 hap hj6 hr6 hbx z0 z1 z2 hbz x1 x2 x3 x4 HL HLA KP hjz hz1 hg hjr hw1 hw2 hmin
  go_wp2_with fail
  obtain ⟨V, hV⟩ : ∃ V, V = ((((((((((W6.setCell ⟨j, 0, none⟩ (.int .i64 0)).setCell ⟨j, 1, none⟩ (.slice none 0 0)).setCell ⟨j, 2, none⟩ (.slice none 0 0)).setCell ⟨j, 3, none⟩ (.int .i64 0)).setCell ⟨j, 4, none⟩ (.int .i64 0)).setCell ⟨j, 5, none⟩ (.int .u64 0)).setCell ⟨j, 6, none⟩ (.int .u32 0)).setCell ⟨j, 7, none⟩ (.int .i64 0)).setCell ⟨j, 8, none⟩ (.int .i64 0)).setCell ⟨j, 9, none⟩ (.bool true)) := ⟨_, rfl⟩
  have hosj : OneSet j W6 V := by rw [hV]; exact (((((((((((OneSet.refl _ _).setCell 0 _).setCell 1 _).setCell 2 _).setCell 3 _).setCell 4 _).setCell 5 _).setCell 6 _).setCell 7 _).setCell 8 _).setCell 9 _)
  have hjd : V.heap[j]? = some (.cells deadCells 120 (0, 0)) := by
    rw [hV]
    exact dead_box HH.out.2.2.2.2.2.1
  rw [← hV]
  obtain ⟨U, hU⟩ : ∃ U, U = (V.setCell ⟨w.heap.size, 0, none⟩ (.slice a0 b0 e0)).setCell ⟨w.heap.size, 1, none⟩ (.slice a1 b1 e1) := ⟨_, rfl⟩
  have hosr : OneSet w.heap.size V U := by rw [hU]; exact ((OneSet.refl _ _).setCell 0 _).setCell 1 _
  obtain ⟨hbl, hos, o0, o1, hap, hj6, hr6, hbx⟩ := HH.out
  have hrV : V.heap[w.heap.size]? = _ := (hosj.block _ (fun h => n1 h.symm)).trans hr6
  have hrU : U.heap[w.heap.size]? = some (.cells #[.slice a0 b0 e0, .slice a1 b1 e1] 25 (0, 0)) := by
    rw [hU]
    exact heap_setCell_at _ (heap_setCell_at _ hrV)
  rw [← hU]
  refine bodyPost_ret (results_disk rfl _ _ _ _ _ rfl hrU rfl rfl) rfl ?_
  have hk : KeepRows W6 U := (hosj.rows hj6 (by decide) (by decide)).trans (hosr.rows hrV (by decide) (by decide))
  have hz1 := HZ1.out
  have hg := HGZ.out
  have b6 : Below w.heap.size w W6 := (HB1.out.trans (hbl.mono (by omega))).trans (hos.below (by omega))
  rw [HNE.out] at o0
  exact ⟨a0, b0, e0, a1, b1, e1, rfl, own_mono (ownB_keep row_u8 o0 hk) (by omega), own_mono (ownB_keep row_u8 o1 hk) (by omega), hap, (hosr.block _ n1).trans hjd, BelowBut.of b6 hosj hosr (Nat.le_refl _)⟩
set_option maxRecDepth 100000 in
set_option maxHeartbeats 4000000 in
theorem crash_1 (w : World) (lo hi j : Nat) (J : JL) (s0 s1 : SV) (hJ : JAt w lo hi j J s0 s1) (hu : J.use = 1) (hm0 : J.l0.length ≤ 1000000000) (hm1 : J.l1.length ≤ 1000000000) (hs : J.synced ≤ J.l1.length) (k : Int) (hk : 0 ≤ k ∧ k ≤ 9223372036854775807) : Calls Tryd.prog 27 #[.pointer (some ⟨j, 0, none⟩), .int .i64 k] w fun e w' =>
    ∃ t0 t1 : SV, e = .returned (.tuple #[.agg #[.slice t0.1 t0.2.1 t0.2.2, .slice t1.1 t1.2.1 t1.2.2], .int .i64 0]) ∧ OwnB w' w.heap.size t0.v J.l0 ∧ OwnB w' w.heap.size t1.v (J.l1.take (keepL J J.l1 k)) ∧ (∀ k, t0.v.ownBlock = some k → t1.v.ownBlock ≠ some k) ∧ w'.heap[j]? = some (.cells deadCells 120 (0, 0)) ∧ BelowBut j w w' := by
  obtain ⟨hk0, hk1⟩ := hk
  have hbox := hJ.box
  have hjw : j < w.heap.size := (Array.getElem?_eq_some_iff.1 hbox).1
  have HAL := hid (fun (o : Obj) => alive_live (w.alloc o) j J s0 s1 (((Below.refl w.heap.size w).alloc (Nat.le_refl _) o).block j hjw |>.trans hbox))
  obtain ⟨A1, n1, c1⟩ := s1
  obtain ⟨hl, _, _, _⟩ := OwnB.reads hJ.own1
  subst hl
  obtain ⟨d, hd⟩ : ∃ d, d = J.l1.length - J.synced := ⟨_, rfl⟩
  obtain ⟨m, hm⟩ : ∃ m, m = min k.toNat d := ⟨_, rfl⟩
  obtain ⟨N, hN⟩ : ∃ N, N = keepL J J.l1 k := ⟨_, rfl⟩
  have hN2 : N = J.synced + m := by rw [hN, hm, hd]; rfl
  have hw1 : IntKind.i64.wrap ((J.l1.length : Int) - (J.synced : Int)) = (d : Int) := by rw [wrap_small _ (by omega) (by omega)]; omega
  have hw2 : IntKind.i64.wrap ((J.synced : Int) + (m : Int)) = (N : Int) := by rw [wrap_small _ (by omega) (by omega)]; omega
  have hmin := min_run k (d : Int) (m : Int) (by omega) #[3, 3] 3
  have hNl : N ≤ J.l1.length := by omega
  have HNE := hid hN
  clear hd hm hN hN2
  obtain ⟨W1, hW1⟩ : ∃ W, W = w.alloc (.cells #[.slice none 0 0, .slice none 0 0] 25) := ⟨_, rfl⟩
  have hb1 : Below w.heap.size w W1 := by rw [hW1]; exact (Below.refl _ w).alloc (Nat.le_refl _) _
  have hz1 : W1.heap.size = w.heap.size + 1 := by rw [hW1]; simp
  have hr1 : W1.heap[w.heap.size]? = some (.cells #[.slice none 0 0, .slice none 0 0] 25 (0, 0)) := by rw [hW1]; exact heap_alloc_new w _
  have hj1 := hJ.below hb1
  have hL : ∀ W, Below W1.heap.size W1 W → Calls Tryd.prog 60 #[.pointer (some ⟨j, 0, none⟩), .int .i64 N] W fun e w' =>
      ∃ t0 t1 : SV, e = .returned (.agg #[.slice t0.1 t0.2.1 t0.2.2, .slice t1.1 t1.2.1 t1.2.2]) ∧ OwnB w' W1.heap.size t0.v J.l0 ∧ OwnB w' W1.heap.size t1.v (J.l1.take N) ∧ (∀ k, t0.v.ownBlock = some k → t1.v.ownBlock ≠ some k) ∧ Below W1.heap.size W1 w' ∧ Below W.heap.size W w' := fun W hb => by
    refine (left_1 W lo hi j J _ _ (hj1.below hb) hu hm0 hm1 N hNl).mono ?_
    rintro e w' ⟨t0, t1, he, o0, o1, hap, hb2⟩
    exact ⟨t0, t1, he, own_mono o0 hb.size, own_mono o1 hb.size, hap, hb.trans (hb2.mono hb.size), hb2⟩
  have HL := hid hL
  have HLA := hid (fun W (h0 : W.heap[W1.heap.size]? = some (.cells #[.slice none 0 0, .slice none 0 0] 25 (0, 0))) (hb : Below W1.heap.size W1 W) => (hL W hb).mono (fun e w' h => show ∃ t0 t1 : SV, e = .returned (.agg #[.slice t0.1 t0.2.1 t0.2.2, .slice t1.1 t1.2.1 t1.2.2]) ∧ (OwnB w' W1.heap.size t0.v J.l0 ∧ OwnB w' W1.heap.size t1.v (J.l1.take N) ∧ (∀ k, t0.v.ownBlock = some k → t1.v.ownBlock ≠ some k) ∧ w'.heap[W1.heap.size]? = some (.cells #[.slice none 0 0, .slice none 0 0] 25 (0, 0))) ∧ Below W1.heap.size W1 w' ∧ w'.cell? ⟨W1.heap.size, 0, none⟩ = some (.slice none 0 0) ∧ w'.cell? ⟨W1.heap.size, 1, none⟩ = some (.slice none 0 0) ∧ w'.frozen? ⟨W1.heap.size, 0, none⟩ = false ∧ w'.frozen? ⟨W1.heap.size, 1, none⟩ = false by
    obtain ⟨t0, t1, he, o0, o1, hap, hb1, hb2⟩ := h
    have hx := box_below h0 hb2
    exact ⟨t0, t1, he, ⟨o0, o1, hap, hx⟩, hb1, disk_box hx⟩))
  obtain ⟨x0, x1, x2, x3, x4, x5, x6, x7, x8, x9⟩ := jcells hbox
  have KP := hid (show ∀ W, Below W1.heap.size W1 W → W.cell? ⟨j, 3, none⟩ = some (.int .i64 1) ∧ W.cell? ⟨j, 4, none⟩ = some (.int .i64 J.synced) ∧ W.cell? ⟨j, 2, none⟩ = some (.slice A1 J.l1.length c1) ∧ Below W1.heap.size W1 W from fun W hb => by
    obtain ⟨y0, y1, y2, y3, y4, _⟩ := jcells (hj1.below hb).box
    rw [hu] at y3
    exact ⟨y3, y4, y2, hb⟩)
  obtain ⟨z0, z1, z2, hbz⟩ := KP.out W1 (Below.refl _ _)
  have HB1 := hid hb1
  have HZ1 := hid hz1
  have HR1 := hid hr1
  have HJ1 := hid hj1
  clear x0 x5 x6 x7 x8 x9 hbox hJ hb1 hz1 hr1 hj1 hL hjw
  go_enter Tryd.func27, Tryd.ntmps27
  go_wp2_with fail
  refine (HAL.out _).mono ?_
  rintro e w1 ⟨rfl, hw1⟩
  subst hw1
  clear HAL
  go_upto_region 6 with fail
  rw [← hW1]
  clear hW1
  go_cut [7] from 8 to 44 (fun vv wd => MidC W1 J.l0 (J.l1.take N) vv wd)
  case first =>
    go_region_held3 (fun w' => w'.cell? ⟨j, 3, none⟩ = some (.int .i64 1) ∧ w'.cell? ⟨j, 4, none⟩ = some (.int .i64 J.synced) ∧ w'.cell? ⟨j, 2, none⟩ = some (.slice A1 J.l1.length c1) ∧ Below W1.heap.size W1 w')
      (first | (refine KP.out _ ?_; repeat' (first | assumption | exact Below.refl _ _ | refine Below.drew ?_ | refine below_drewN' ?_ _ | refine Below.alloc ?_ ?_ _ | refine Below.setCell ?_ ?_ _ | exact Nat.le_refl _ | exact Below.size (by assumption) | (simp; done) | (simp; omega))))
      (first
        | (go_simp; with_reducible refine (HLA.out _ (by with_unfolding_all exact heap_alloc_new W1 _) (by repeat' (first | assumption | exact Below.refl _ _ | refine Below.drew ?_ | refine below_drewN' ?_ _ | refine Below.alloc ?_ ?_ _ | exact Nat.le_refl _ | exact Below.size (by assumption)))).mono ?_; rintro e w4 ⟨t0, t1, rfl, ho, hb4, q1, q2, q3, q4⟩; have HO := hid ho; clear ho)
        | (go_simp; with_reducible refine (HL.out _ (by repeat' (first | assumption | exact Below.refl _ _ | refine Below.drew ?_ | refine below_drewN' ?_ _ | refine Below.alloc ?_ ?_ _ | exact Nat.le_refl _ | exact Below.size (by assumption)))).mono ?_; rintro e w4 ⟨t0, t1, rfl, ho0, ho1, hap, hb4, hb5⟩; have HO0 := hid ho0; have HO1 := hid ho1; have HAP := hid hap; clear ho0 ho1 hap hb5))
    all_goals go_wp2_with fail
    all_goals go_meet
    all_goals first
      | exact crash_mid2 (by assumption) HO0.out HO1.out HAP.out
      | exact crash_mid (by assumption) HO.out.1 HO.out.2.1 HO.out.2.2.1 (.inl ⟨rfl, HO.out.2.2.2, Nat.le_refl _⟩)
  case rest =>
  obtain ⟨g, a0, b0, e0, a1, b1, e1, w1, rfl, hg, hbl, hos, hbx, o0, o1, hap⟩ := hcut
  obtain ⟨W6, hWn⟩ : ∃ W, W = wc := ⟨_, rfl⟩
  subst hWn
  have hjz : j < W1.heap.size := (Array.getElem?_eq_some_iff.1 HJ1.out.box).1
  have hz1 := HZ1.out
  have hj6 : W6.heap[j]? = _ := (hos.block j (by omega)).trans (box_below HJ1.out.box hbl)
  have hr6 : W6.heap[w.heap.size]? = _ := (hos.block _ (by omega)).trans (box_below HR1.out hbl)
  have hjr : j < w.heap.size := Nat.lt_of_lt_of_le (Nat.lt_of_le_of_ne (by omega) (fun h => by
    have h2 := HR1.out
    rw [← h, HJ1.out.box] at h2
    injection h2 with h2
    injection h2 with _ h2
    exact absurd h2 (by decide))) (Nat.le_refl _)
  obtain ⟨y0, y1, y2, y3, y4, y5, y6, y7, y8, y9⟩ := jcells hj6
  have g0 : W6.frozen? ⟨j, 0, none⟩ = false := box_fz hj6 0
  have g1 : W6.frozen? ⟨j, 1, none⟩ = false := box_fz hj6 1
  have g2 : W6.frozen? ⟨j, 2, none⟩ = false := box_fz hj6 2
  have g3 : W6.frozen? ⟨j, 3, none⟩ = false := box_fz hj6 3
  have g4 : W6.frozen? ⟨j, 4, none⟩ = false := box_fz hj6 4
  have g5 : W6.frozen? ⟨j, 5, none⟩ = false := box_fz hj6 5
  have g6 : W6.frozen? ⟨j, 6, none⟩ = false := box_fz hj6 6
  have g7 : W6.frozen? ⟨j, 7, none⟩ = false := box_fz hj6 7
  have g8 : W6.frozen? ⟨j, 8, none⟩ = false := box_fz hj6 8
  have g9 : W6.frozen? ⟨j, 9, none⟩ = false := box_fz hj6 9
  have n1 : j ≠ w.heap.size := by omega
  have n2 : j ≠ g := by omega
  obtain ⟨p0, p1, q0, q1⟩ := disk_box hr6
  obtain ⟨c0', c1', _, _⟩ := disk_box hbx
  have HH := hid (And.intro hbl (And.intro hos (And.intro o0 (And.intro o1 (And.intro hap (And.intro hj6 (And.intro hr6 hbx)))))))
  have HGZ := hid hg
  have HJR := hid hjr
  clear hbl hos o0 o1 hap hj6 hr6 hbx z0 z1 z2 hbz x1 x2 x3 x4 HL HLA KP hjz hz1 hg hjr hw1 hw2 hmin
  go_wp2_with fail
  obtain ⟨V, hV⟩ : ∃ V, V = ((((((((((W6.setCell ⟨j, 0, none⟩ (.int .i64 0)).setCell ⟨j, 1, none⟩ (.slice none 0 0)).setCell ⟨j, 2, none⟩ (.slice none 0 0)).setCell ⟨j, 3, none⟩ (.int .i64 0)).setCell ⟨j, 4, none⟩ (.int .i64 0)).setCell ⟨j, 5, none⟩ (.int .u64 0)).setCell ⟨j, 6, none⟩ (.int .u32 0)).setCell ⟨j, 7, none⟩ (.int .i64 0)).setCell ⟨j, 8, none⟩ (.int .i64 0)).setCell ⟨j, 9, none⟩ (.bool true)) := ⟨_, rfl⟩
  have hosj : OneSet j W6 V := by rw [hV]; exact (((((((((((OneSet.refl _ _).setCell 0 _).setCell 1 _).setCell 2 _).setCell 3 _).setCell 4 _).setCell 5 _).setCell 6 _).setCell 7 _).setCell 8 _).setCell 9 _)
  have hjd : V.heap[j]? = some (.cells deadCells 120 (0, 0)) := by
    rw [hV]
    exact dead_box HH.out.2.2.2.2.2.1
  rw [← hV]
  obtain ⟨U, hU⟩ : ∃ U, U = (V.setCell ⟨w.heap.size, 0, none⟩ (.slice a0 b0 e0)).setCell ⟨w.heap.size, 1, none⟩ (.slice a1 b1 e1) := ⟨_, rfl⟩
  have hosr : OneSet w.heap.size V U := by rw [hU]; exact ((OneSet.refl _ _).setCell 0 _).setCell 1 _
  obtain ⟨hbl, hos, o0, o1, hap, hj6, hr6, hbx⟩ := HH.out
  have hrV : V.heap[w.heap.size]? = _ := (hosj.block _ (fun h => n1 h.symm)).trans hr6
  have hrU : U.heap[w.heap.size]? = some (.cells #[.slice a0 b0 e0, .slice a1 b1 e1] 25 (0, 0)) := by
    rw [hU]
    exact heap_setCell_at _ (heap_setCell_at _ hrV)
  rw [← hU]
  refine bodyPost_ret (results_disk rfl _ _ _ _ _ rfl hrU rfl rfl) rfl ?_
  have hk : KeepRows W6 U := (hosj.rows hj6 (by decide) (by decide)).trans (hosr.rows hrV (by decide) (by decide))
  have hz1 := HZ1.out
  have hg := HGZ.out
  have b6 : Below w.heap.size w W6 := (HB1.out.trans (hbl.mono (by omega))).trans (hos.below (by omega))
  rw [HNE.out] at o1
  exact ⟨a0, b0, e0, a1, b1, e1, rfl, own_mono (ownB_keep row_u8 o0 hk) (by omega), own_mono (ownB_keep row_u8 o1 hk) (by omega), hap, (hosr.block _ n1).trans hjd, BelowBut.of b6 hosj hosr (Nat.le_refl _)⟩
end Go.Proofs.YtfcgmlofiaehkaaDoor
