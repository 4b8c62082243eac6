/- Layer 7: Compare, NewOrdered, Put, Delete, Len, Height of a map of ints. -/
import Derived.Test.YtfjeagffdijcoaaTrE
import Derived.RangeFuncBox
import Derived.RangeFuncLeaves
import Derived.Shelf.Abstract
import Derived.OwnWalkIn
import Derived.TacticsInMore
import Derived.LoopNIn
import Derived.LoopIn
import Derived.Maps.AppendAt
import Derived.RangeFuncNested
import Derived.RangeFuncBound
import Derived.RangeFuncCalls
namespace Go.Proofs.Ytfjeagffdijcoaa
namespace TI
open Go.RowKit Go.Shelf

def cmpI (a b : Int) : Int := if a < b then -1 else if b < a then 1 else 0
theorem cmpI_ord : WOrd cmpI where
  anti a b := by unfold cmpI; (repeat' split) <;> omega
  trans a b d := by unfold cmpI; (repeat' split) <;> omega

theorem isNaN_any (w : World) (a : Int) : Calls Try.prog 126 #[.int .i64 a] w fun e w' => e = .returned (.bool false) ∧ w' = w := by
  go_enter Try.func126, Try.ntmps126
  go_wp2_with fail
  go_ret
  exact ⟨by simp, rfl⟩

theorem compare_any (w : World) (a b : Int) : Calls Try.prog 76 #[.int .i64 a, .int .i64 b] w fun e w' => e = .returned (.int .i64 (cmpI a b)) ∧ ∃ q, w' = w.drewN q := by
  rcases Int.lt_trichotomy a b with h | h | h
  · have e : Hid (cmpI a b = -1) := by show _ = _; unfold cmpI; rw [if_pos h]
    go_enter Try.func76, Try.ntmps76
    go_wp2_with (go_at_call 126; refine (isNaN_any _ _).mono ?_; rintro e w' ⟨rfl, rfl⟩)
    go_ret
    exact ⟨by rw [e.out]; rfl, 0, rfl⟩
  · have e : Hid (cmpI a b = 0) := by show _ = _; unfold cmpI; rw [if_neg (by omega), if_neg (by omega)]
    go_enter Try.func76, Try.ntmps76
    go_wp2_with (go_at_call 126; refine (isNaN_any _ _).mono ?_; rintro e w' ⟨rfl, rfl⟩)
    go_ret
    exact ⟨by rw [e.out]; rfl, 0, rfl⟩
  · have e : Hid (cmpI a b = 1) := by show _ = _; unfold cmpI; rw [if_neg (by omega), if_pos h]
    go_enter Try.func76, Try.ntmps76
    go_wp2_with (go_at_call 126; refine (isNaN_any _ _).mono ?_; rintro e w' ⟨rfl, rfl⟩)
    go_ret
    exact ⟨by rw [e.out]; rfl, 0, rfl⟩

theorem cmp_fn : OrdFn 76 #[] cmpI (fun _ => True) (fun _ => False) where
  eg := enters_of Try.func76 (by kernel_rfl) rfl
  call w a b _ := compare_any w a b
  keep _ _ _ _ _ _ := trivial

/-- a map: where it lies, its order, its tree -/
structure IsMap (w : World) (M g : Nat) (cb : Array Value) (t : Tr Int Int) : Prop where
  ord : w.cell? ⟨M, 0, none⟩ = some (ordV g cb)
  root : w.cell? ⟨M, 1, none⟩ = some t.ptr
  fz : w.frozen? ⟨M, 1, none⟩ = false
  held : Held ek ev w t
  nodup : t.blocks.Nodup
  bal : t.bal
  out : M ∉ t.blocks

namespace IsMap
variable {w w' : World} {M g : Nat} {cb : Array Value} {t : Tr Int Int} {S : Nat → Prop}
theorem lt (h : IsMap w M g cb t) : M < w.heap.size := World.block_lt_of_cell? _ _ h.ord
theorem wrote (h : IsMap w M g cb t) (hw : Wrote S w w') (hM : ¬ S M) (hs : ∀ x ∈ t.blocks, ¬ S x) : IsMap w' M g cb t :=
  ⟨hw.cell hM h.ord, hw.cell hM h.root, (hw.fz ⟨M, 1, none⟩ h.lt).trans h.fz, h.held.wrote hw hs, h.nodup, h.bal, h.out⟩
theorem below (h : IsMap w M g cb t) (hb : Below w.heap.size w w') : IsMap w' M g cb t := h.wrote (S := fun _ => False) (Wrote.below hb) id (fun _ _ => id)
end IsMap

theorem newOrdered_any (w : World) : Calls Try.prog 16 #[] w fun e w' => e = .returned (.pointer (some ⟨w.heap.size, 0, none⟩)) ∧ IsMap w' w.heap.size 76 #[] .nil ∧ Below w.heap.size w w' := by
  go_enter Try.func16, Try.ntmps16
  go_wp2_with fail
  go_ret
  refine ⟨rfl, ⟨?_, ?_, ?_, trivial, List.nodup_nil, trivial, by simp [Tr.blocks]⟩, (Below.refl _ w).alloc (Nat.le_refl _) _⟩
  · simp
  · simp [Tr.addr]
  · exact World.frozen?_alloc_new w _ _ 1

set_option maxRecDepth 100000 in
set_option maxHeartbeats 1000000 in
theorem mapPut_any (g : Nat) (cb : Array Value) (c : Int → Int → Int) (I : World → Prop) (K : Nat → Prop) (ho : OrdFn g cb c I K) (w : World) (M : Nat) (t : Tr Int Int) (key val : Int) (h : IsMap w M g cb t) (hm : t.many ≤ 70368744177664) (hi : I w) (hk : ∀ x ∈ t.blocks, ¬ K x) (kM : ¬ K M) :
    Calls Try.prog 17 #[.pointer (some ⟨M, 0, none⟩), .int .i64 key, .int .i64 val] w fun e w' =>
      ∃ nb, w.heap.size ≤ nb ∧ e = .returned (.tuple #[.int .i64 ((Tr.get c key t).getD 0), .bool (Tr.get c key t).isSome]) ∧ IsMap w' M g cb (Tr.put c key val nb t) ∧ Wrote (fun x => x = M ∨ x ∈ t.blocks) w w' ∧ I w' := by
  obtain ⟨W1, hW1⟩ : ∃ W1, W1 = w.alloc (.cells #[.int .i64 0] 3) := ⟨_, rfl⟩
  obtain ⟨O, hO⟩ : ∃ O, O = w.heap.size := ⟨_, rfl⟩
  have hb1 : Below w.heap.size w W1 := by rw [hW1]; exact (Below.refl _ w).alloc (Nat.le_refl _) _
  have o1 : W1.cell? ⟨O, 0, none⟩ = some (.int .i64 0) := by rw [hW1, hO]; simp
  have f1 : W1.frozen? ⟨O, 0, none⟩ = false := by rw [hW1, hO]; exact World.frozen?_alloc_new w _ _ 0
  have h1 := h.below hb1
  have hlt := h.held.lt
  have hOt : O ∉ t.blocks := fun hx => by have := hlt O hx; omega
  have i1 : I W1 := ho.keep (fun _ => False) _ _ (Wrote.below hb1) (fun _ h => h.elim) hi
  have hML := h.lt
  have hsz := hb1.size
  have hOl := World.block_lt_of_cell? _ _ o1
  simp only at hOl
  have c0 := h1.ord
  have c1 := h1.root
  have c0w : w.cell? ⟨M, 0, none⟩ = some (.func (.func g) #[] cb) := h.ord
  have f2 := h1.fz
  have H1 := hid h1
  have HB := hid hb1
  have HPUT := hid (put_any g cb c I K ho key val O t W1.drew 0 (h1.held.drewN 1) h1.nodup hm hOt o1 f1 (ho.keep (fun _ => False) _ _ ((Wrote.refl _ W1).drewN 1) (fun _ h => h.elim) i1) hk)
  have HO := hid hO
  have HW1 := hid hW1
  have HOt := hid hOt
  have HBal := hid h.bal
  have HND := hid h.nodup
  have HLT := hid hlt
  have HMO := hid h.out
  have HKM := hid kM
  have HKT := hid hk
  have HI := hid hi
  clear h1 hb1 hW1 hOt i1 hi h hO hk hlt o1 f1 c0 c1 f2 kM
  have hfn := fun w f a c => run_eql_func_nil (P := Try.prog) w 95 f a c Try.underlying95
  go_enter Try.func17, Try.ntmps17
  go_wp2_with fail
  rw [← HW1.out, ← HO.out]
  have c0 : W1.cell? ⟨M, 0, none⟩ = some (.func (.func g) #[] cb) := H1.out.ord
  have c1 := H1.out.root
  have hMn : ¬ (M = O ∨ M ∈ t.blocks) := by
    rintro (e | e)
    · have := HO.out; omega
    · exact HMO.out e
  have HMn := hid hMn
  have f1M := H1.out.fz
  clear hMn c0w
  go_region_with (go_at_call 77; refine HPUT.out.mono ?_; rintro e W3 ⟨nb, g1, rfl, g2, g3, g4⟩; have r3 := g3.cell HMn.out H1.out.root; have f3 := (g3.fz ⟨M, 1, none⟩ H1.out.lt).trans f1M; have G1 := hid g1; have G2 := hid g2; have G3 := hid g3; clear g1 g2 g3)
  all_goals
    have q3 := G3.out.cell HMn.out H1.out.ord
    generalize hW4 : World.setCell W3 _ _ = W4
    have hMO : M ≠ O := fun e => HMn.out (.inl e)
    have hput : M ∉ (Tr.put c key val nb t).blocks := fun h => by
      rcases Tr.put_mem key val nb t M h with e | e
      · have := G1.out; have e2 : W1.drew.heap.size = W1.heap.size := rfl; omega
      · exact HMn.out (.inr e)
    have o4 : W4.cell? ⟨O, 0, none⟩ = some (.int .i64 ((Tr.get c key t).getD 0)) := by rw [← hW4]; exact (World.cell?_setCell_other _ _ _ _ (fun e => hMO (by injection e))).trans g4
    have m4 : IsMap W4 M g cb (Tr.put c key val nb t) := by
      rw [← hW4]
      refine ⟨(World.cell?_setCell_other _ _ _ _ (by simp)).trans q3, World.cell?_setCell_same _ _ _ r3, (World.frozen?_setCell ..).trans f3, G2.out.setCell (p := ⟨M, 1, none⟩) hput _, Tr.put_nodup key val nb (fun h => ?_) HND.out, (Tr.put_bal key val nb HBal.out).1, hput⟩
      have := HLT.out nb h
      have := G1.out
      have e2 : W1.drew.heap.size = W1.heap.size := rfl
      omega
    have w4 : Wrote (fun x => x = M ∨ x ∈ t.blocks) w W4 := by
      rw [← hW4]
      refine Wrote.setCell (p := ⟨M, 1, none⟩) ?_ (.inl (.inl rfl)) _
      exact Wrote.step ((Wrote.below HB.out).drewN 1) G3.out (by
        rintro x (rfl | hx)
        · exact .inr (by have := HO.out; omega)
        · exact .inl (.inr hx))
    have nb4 : w.heap.size ≤ nb := by have := G1.out; have e2 : W1.drew.heap.size = W1.heap.size := rfl; omega
    have O4 := hid o4
    have M4 := hid m4
    have W4' := hid w4
    have hi4 := hid (ho.keep _ _ _ w4 (by
      rintro x (rfl | hx)
      · exact HKM.out
      · exact HKT.out x hx) HI.out)
    clear hW4 m4 w4 q3 g4 hput hMO
    go_wp2_with fail
    go_ret2
    exact ⟨nb, nb4, rfl, M4.out.wrote (S := fun _ => False) (by first | exact Wrote.refl _ _ | exact (Wrote.refl _ _).drew | exact (Wrote.refl _ _).drewN _) id (fun _ _ => id), by first | exact W4'.out | exact W4'.out.drew | exact W4'.out.drewN _, ho.keep _ _ _ (show Wrote (fun _ => False) W4 _ from by first | exact Wrote.refl _ _ | exact (Wrote.refl _ _).drew | exact (Wrote.refl _ _).drewN _) (fun _ h => h.elim) hi4.out⟩
end TI
end Go.Proofs.Ytfjeagffdijcoaa
