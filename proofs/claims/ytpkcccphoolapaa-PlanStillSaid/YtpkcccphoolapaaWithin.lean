/- Layer 6: Within and All: the iterator that they hand back. -/
import Derived.Test.YtpkcccphoolapaaRngB
import Derived.Test.YtpkcccphoolapaaTab
import Derived.RangeFuncBox
import Derived.RangeFuncLeaves
import Derived.Shelf.Abstract
import Derived.WalkKit
import Derived.OwnWalkIn
import Derived.TacticsInMore
import Derived.LoopNIn
import Derived.LoopIn
import Derived.Maps.AppendAt
import Derived.RangeFuncNested
import Derived.RangeFuncBound
import Derived.RangeFuncCalls
import Derived.Deep.RegionHeld3
namespace Go.Proofs.Ytpkcccphoolapaa
open Go.RowKit

/-- 'at', told from an elder world. -/
theorem at_from (w0 w : World) (B T : Nat) (A : Option Addr) (n c : Nat) (l : List Seg) (key : Int) (hl : l.length = n) (hm : n < 4611686018427387904)
    (hT : w0.cell? ⟨T, 1, none⟩ = some (.slice A n c)) (hTB : T < B) (hB : B ≤ w0.heap.size) (hR : Segs B w0 A l) {a b : Int} (ht : Rng.tile a l b) (hb : Below B w0 w) :
    Calls Try.prog 96 #[.pointer (some ⟨T, 0, none⟩), .int .u64 key] w fun e w' => e = .returned (.int .i64 (Rng.at' l key : Nat)) ∧ Below w.heap.size w w' ∧ Below B w0 w' :=
  (at_any w T A n c l key hl hm (Tfact hb hTB hT) ((hR.below hb).mono (Nat.le_trans hB hb.size)) ht).mono fun _ _ ⟨he, hb2⟩ => ⟨he, hb2, hb.trans (hb2.mono (Nat.le_trans hB hb.size))⟩

/-- A block that was laid ahead of a quiet call. -/
theorem new_kept {W W2 : World} {v : Value} {t : TypeId} (h : Below (W.alloc (.cells #[v] t)).heap.size (W.alloc (.cells #[v] t)) W2) :
    W2.cell? ⟨W.heap.size, 0, none⟩ = some v ∧ W2.frozen? ⟨W.heap.size, 0, none⟩ = false ∧ W.heap.size < W2.heap.size :=
  ⟨(h.cell (by simp)).trans (Boxed.new W t v).cell, (h.frozen (by simp)).trans (Boxed.new W t v).frozen, Nat.lt_of_lt_of_le (by simp) h.size⟩
theorem new_kept_drew {W W2 : World} {v : Value} {t : TypeId} (h : Below (W.alloc (.cells #[v] t)).drew.heap.size (W.alloc (.cells #[v] t)).drew W2) :
    W2.cell? ⟨W.heap.size, 0, none⟩ = some v ∧ W2.frozen? ⟨W.heap.size, 0, none⟩ = false ∧ W.heap.size < W2.heap.size := new_kept ⟨h.os, h.tape, h.output, h.size, h.block⟩
theorem old_kept {W W2 : World} {v : Value} {k : Nat} (h : Below W.heap.size W W2) (hc : W.cell? ⟨k, 0, none⟩ = some v) (hf : W.frozen? ⟨k, 0, none⟩ = false) (hk : k < W.heap.size) :
    W2.cell? ⟨k, 0, none⟩ = some v ∧ W2.frozen? ⟨k, 0, none⟩ = false ∧ k < W2.heap.size :=
  ⟨(h.cell hk).trans hc, (h.frozen hk).trans hf, Nat.lt_of_lt_of_le hk h.size⟩

/-- S, Lo, Hi hold what an iterator of Within goes through: these segments, which lie in block b; its ends. -/
structure IsIter (W : World) (S Lo Hi b : Nat) (lo hi : Int) (l' : List Seg) : Prop where
  sl : ∃ off c, W.cell? ⟨S, 0, none⟩ = some (.slice (some ⟨b, off, none⟩) l'.length c) ∧ Segs (b + 1) W (some ⟨b, off, none⟩) l'
  lo : W.cell? ⟨Lo, 0, none⟩ = some (.int .u64 lo)
  hi : W.cell? ⟨Hi, 0, none⟩ = some (.int .u64 hi)

abbrev iterOf (S Lo Hi : Nat) : Value := .func (.func 97) #[] #[.pointer (some ⟨S, 0, none⟩), .pointer (some ⟨Lo, 0, none⟩), .pointer (some ⟨Hi, 0, none⟩)]

theorem segs_narrow {B : Nat} {w : World} {b off : Nat} {l : List Seg} (h : Segs B w (some ⟨b, off, none⟩) l) : Segs (b + 1) w (some ⟨b, off, none⟩) l := by
  rcases h with h | ⟨b', off', e, _, h3⟩
  · exact .inl h
  · cases e; exact .inr ⟨b, off, rfl, Nat.lt_succ_self _, h3⟩

set_option maxRecDepth 100000 in
set_option maxHeartbeats 4000000 in
theorem within_any (w : World) (T b off c : Nat) (l : List Seg) (lo hi : Int) (h1s : w.cell? ⟨T, 1, none⟩ = some (.slice (some ⟨b, off, none⟩) l.length c)) (hc : l.length ≤ c)
    (hR : Segs w.heap.size w (some ⟨b, off, none⟩) l) (hW : Rng.WF l) (hm : l.length ≤ 1000000000) (h0 : 0 ≤ lo) (h1 : lo ≤ hi) (h2 : hi ≤ maxK) :
    Calls Try.prog 82 #[.pointer (some ⟨T, 0, none⟩), .int .u64 lo, .int .u64 hi] w fun e w' =>
      ∃ S, e = .returned (iterOf S w.heap.size (w.heap.size + 1)) ∧ w.heap.size + 1 < S ∧ IsIter w' S w.heap.size (w.heap.size + 1) b lo hi ((l.take (Rng.at' l hi + 1)).drop (Rng.at' l lo)) ∧ Below w.heap.size w w' := by
  have hT : T < w.heap.size := World.block_lt_of_cell? _ _ h1s
  have hpos : Hid (0 < l.length) := hW.pos
  have hnz : ((l.length : Int) == 0) = false := by have := hpos.out; rw [beq_eq_false_iff_ne]; omega
  have hdl : decide (hi < lo) = false := by simp; omega
  obtain ⟨w0, hw0⟩ : ∃ w0, w0 = (w.alloc (.cells #[.int .u64 lo] 59)).alloc (.cells #[.int .u64 hi] 59) := ⟨_, rfl⟩
  have hsz : w0.heap.size = w.heap.size + 2 := by rw [hw0]; simp
  have hB0 : Below w.heap.size w w0 := by rw [hw0]; exact ((Below.refl _ w).alloc (Nat.le_refl _) _).alloc (by simp) _
  have t1 := Tfact hB0 hT h1s
  have t2 : w0.cell? ⟨w.heap.size, 0, none⟩ = some (.int .u64 lo) := by rw [hw0]; simp
  have t3 : w0.cell? ⟨w.heap.size + 1, 0, none⟩ = some (.int .u64 hi) := by rw [hw0]; simp
  have hR0 := (hR.below hB0).mono (Nat.le_of_lt (show w.heap.size < w0.heap.size by omega))
  have hq1 : ∀ w', Below w0.heap.size w0 w' → _ := fun w' hb => at_from w0 w' w0.heap.size T _ l.length c l lo rfl (by omega) t1 (by omega) (Nat.le_refl _) hR0 hW.tiles hb
  have hq2 : ∀ w', Below w0.heap.size w0 w' → _ := fun w' hb => at_from w0 w' w0.heap.size T _ l.length c l hi rfl (by omega) t1 (by omega) (Nat.le_refl _) hR0 hW.tiles hb
  have Q1 := hid hq1
  have Q2 := hid hq2
  have HW0 := hid hw0
  have HSZ := hid hsz
  have T1 := hid t1
  have T2 := hid t2
  have T3 := hid t3
  have FIN := hid (show ∀ (w' : World) (i j : Nat), i ≤ j → j < l.length → Below w0.heap.size w0 w' → ∀ S c', w0.heap.size ≤ S → w'.cell? ⟨S, 0, none⟩ = some (.slice (some ⟨b, off + i * 3, none⟩) (j + 1 - i) c') →
      IsIter w' S w.heap.size (w.heap.size + 1) b lo hi ((l.take (j + 1)).drop i) from fun w' i j hij hj hb S c' hS hcell =>
    ⟨⟨off + i * 3, c', by rw [hcell]; congr 2; simp; omega, segs_narrow ((((hR0.below hb).take (j + 1)).drop i))⟩, (hb.cell (by show w.heap.size < _; omega)).trans t2, (hb.cell (by show w.heap.size + 1 < _; omega)).trans t3⟩)
  clear hq1 hq2 hw0 hsz hR hR0 t1 t2 t3
  have hij := Rng.at_mono (l := l) h1
  have hjl := Rng.at_lt hW.tiles (show 0 ≤ hi by omega) (show hi < maxK + 1 by omega)
  generalize Rng.at' l lo = i at *
  generalize Rng.at' l hi = j at *
  have s0 : IntKind.i64.wrap ((j : Int) + 1) = (j : Int) + 1 := wrap_small _ (by omega) (by omega)
  have s1 : (0 : Int) ≤ ↑i := by omega
  have s2 : (↑i : Int) ≤ ↑j + 1 := by omega
  have s3 : (↑j : Int) + 1 ≤ ↑c := by omega
  have s4 : (0 : Int) ≤ ↑j + 1 := by omega
  have s5 : ¬ c = i := by omega
  have FN := hid (fun w' => FIN.out w' i j hij hjl)
  have HB0 := hid hB0
  clear hB0 FIN
  go_enter Try.func82, Try.ntmps82
  go_upto_region 3 with fail
  rw [← HW0.out]
  have t1 := T1.out
  have t2 := T2.out
  have t3 := T3.out
  have hsz := HSZ.out
  have KP := hid (show ∀ w', Below w0.heap.size w0 w' → w'.cell? ⟨T, 1, none⟩ = some (.slice (some ⟨b, off, none⟩) l.length c) ∧ w'.cell? ⟨w.heap.size, 0, none⟩ = some (.int .u64 lo) ∧ w'.cell? ⟨w.heap.size + 1, 0, none⟩ = some (.int .u64 hi) ∧ Below w0.heap.size w0 w' from fun w' hb => ⟨Tfact hb (by show T < _; omega) T1.out, (hb.cell (by show w.heap.size < _; omega)).trans T2.out, (hb.cell (by show w.heap.size + 1 < _; omega)).trans T3.out, hb⟩)
  clear hsz
  go_region_held3 (fun w' => w'.cell? ⟨T, 1, none⟩ = some (.slice (some ⟨b, off, none⟩) l.length c) ∧ w'.cell? ⟨w.heap.size, 0, none⟩ = some (.int .u64 lo) ∧ w'.cell? ⟨w.heap.size + 1, 0, none⟩ = some (.int .u64 hi) ∧ Below w0.heap.size w0 w')
    (first | (refine KP.out _ ?_; (repeat' (first | assumption | exact Below.refl _ _ | refine Below.drew ?_ | refine Below.alloc ?_ ?_ _ | refine Below.setCell ?_ ?_ _ | exact Nat.le_refl _ | exact Below.size (by assumption) | (simp; done) | (simp; omega)))))
    (first
      | (go_simp; with_reducible refine (Q1.out _ (by first | assumption | exact (Below.refl _ _).drew | exact ((Below.refl _ _).alloc (Nat.le_refl _) _).drew | exact Below.alloc (by assumption) (Below.size (by assumption)) _)).mono ?_; rintro e w' ⟨rfl, hbi, hb1⟩; first | (with_reducible have hn := new_kept_drew hbi; obtain ⟨hn1, hn2, hn3⟩ := hn) | (with_reducible have hn := new_kept hbi; obtain ⟨hn1, hn2, hn3⟩ := hn) | (have hn := old_kept (v := .slice none 0 0) hbi (by assumption) (by assumption) (by assumption); obtain ⟨hn1, hn2, hn3⟩ := hn) | skip)
      | (go_simp; with_reducible refine (Q2.out _ (by first | assumption | exact (Below.refl _ _).drew | exact ((Below.refl _ _).alloc (Nat.le_refl _) _).drew | exact Below.alloc (by assumption) (Below.size (by assumption)) _)).mono ?_; rintro e w' ⟨rfl, hbi, hb1⟩; first | (with_reducible have hn := new_kept_drew hbi; obtain ⟨hn1, hn2, hn3⟩ := hn) | (with_reducible have hn := new_kept hbi; obtain ⟨hn1, hn2, hn3⟩ := hn) | (have hn := old_kept (v := .slice none 0 0) hbi (by assumption) (by assumption) (by assumption); obtain ⟨hn1, hn2, hn3⟩ := hn) | skip))
  all_goals go_wp2
  all_goals refine bodyPost_ret (results_tmp rfl _ _ _) rfl ?_
  all_goals have hsz := HSZ.out
  all_goals refine ⟨_, rfl, ?_, FN.out _ (by (repeat' (first | assumption | exact Below.refl _ _ | refine Below.drew ?_ | refine Below.alloc ?_ ?_ _ | refine Below.setCell ?_ ?_ _ | exact Nat.le_refl _ | exact Below.size (by assumption) | (simp; done) | (simp; omega)))) _ (c - i) ?_ ?_, HB0.out.trans (Below.mono (B := w0.heap.size) (by (repeat' (first | assumption | exact Below.refl _ _ | refine Below.drew ?_ | refine Below.alloc ?_ ?_ _ | refine Below.setCell ?_ ?_ _ | exact Nat.le_refl _ | exact Below.size (by assumption) | (simp; done) | (simp; omega)))) (by omega))⟩
  all_goals first
    | exact World.cell?_setCell_same' _ _ _ (by rw [hn1]; rfl)
    | (simp; done)
    | exact Nat.le_refl _
    | omega
    | exact Below.size (by assumption)
    | exact Nat.lt_of_lt_of_le (show w.heap.size + 1 < w0.heap.size by omega) (Below.size (by assumption))
end Go.Proofs.Ytpkcccphoolapaa
