/- Layer 7: Compare, NewOrdered, Put, Delete, Len, Height of a map of ints. Layer 7: Delete, Len, Height of a map of ints. Layer 7: At of a map of ints. Layer 7: the walk of bounded; lemmas on a map's list. Layer 7: Get of a map of ints. -/
import Derived.Test.YtfjeagffdijcoaaTa
import Derived.RangeFuncBox
import Derived.RangeFuncLeaves
import Derived.Shelf.Abstract
import Derived.OwnWalkIn
import Derived.TacticsInMore
import Derived.LoopNIn
import Derived.LoopIn
import Derived.Maps.AppendAt
import Derived.RangeFuncNested
import Derived.RangeFuncBound
import Derived.RangeFuncCalls
import Derived.StillTailTactics
namespace Go.Proofs.Ytfjeagffdijcoaa
namespace TI
open Go.RowKit Go.Shelf

def cmpI (a b : Int) : Int := if a < b then -1 else if b < a then 1 else 0
theorem cmpI_ord : WOrd cmpI where
  anti a b := by unfold cmpI; (repeat' split) <;> omega
  trans a b d := by unfold cmpI; (repeat' split) <;> omega

theorem isNaN_any (w : World) (a : Int) : Calls Try.prog 126 #[.int .i64 a] w fun e w' => e = .returned (.bool false) ∧ w' = w := by
  go_enter Try.func126, Try.ntmps126
  go_wp2_with fail
  go_ret
  exact ⟨by simp, rfl⟩

theorem compare_any (w : World) (a b : Int) : Calls Try.prog 76 #[.int .i64 a, .int .i64 b] w fun e w' => e = .returned (.int .i64 (cmpI a b)) ∧ ∃ q, w' = w.drewN q := by
  rcases Int.lt_trichotomy a b with h | h | h
  · have e : Hid (cmpI a b = -1) := by show _ = _; unfold cmpI; rw [if_pos h]
    go_enter Try.func76, Try.ntmps76
    go_wp2_with (go_at_call 126; refine (isNaN_any _ _).mono ?_; rintro e w' ⟨rfl, rfl⟩)
    go_ret
    exact ⟨by rw [e.out]; rfl, 0, rfl⟩
  · have e : Hid (cmpI a b = 0) := by show _ = _; unfold cmpI; rw [if_neg (by omega), if_neg (by omega)]
    go_enter Try.func76, Try.ntmps76
    go_wp2_with (go_at_call 126; refine (isNaN_any _ _).mono ?_; rintro e w' ⟨rfl, rfl⟩)
    go_ret
    exact ⟨by rw [e.out]; rfl, 0, rfl⟩
  · have e : Hid (cmpI a b = 1) := by show _ = _; unfold cmpI; rw [if_neg (by omega), if_pos h]
    go_enter Try.func76, Try.ntmps76
    go_wp2_with (go_at_call 126; refine (isNaN_any _ _).mono ?_; rintro e w' ⟨rfl, rfl⟩)
    go_ret
    exact ⟨by rw [e.out]; rfl, 0, rfl⟩

theorem cmp_fn : OrdFn 76 #[] cmpI (fun _ => True) (fun _ => False) where
  eg := enters_of Try.func76 (by kernel_rfl) rfl
  call w a b _ := compare_any w a b
  keep _ _ _ _ _ _ := trivial

/-- a map: where it lies, its order, its tree -/
structure IsMap (w : World) (M g : Nat) (cb : Array Value) (t : Tr Int Int) : Prop where
  ord : w.cell? ⟨M, 0, none⟩ = some (ordV g cb)
  root : w.cell? ⟨M, 1, none⟩ = some t.ptr
  fz : w.frozen? ⟨M, 1, none⟩ = false
  held : Held ek ev w t
  nodup : t.blocks.Nodup
  bal : t.bal
  out : M ∉ t.blocks

namespace IsMap
variable {w w' : World} {M g : Nat} {cb : Array Value} {t : Tr Int Int} {S : Nat → Prop}
theorem lt (h : IsMap w M g cb t) : M < w.heap.size := World.block_lt_of_cell? _ _ h.ord
theorem wrote (h : IsMap w M g cb t) (hw : Wrote S w w') (hM : ¬ S M) (hs : ∀ x ∈ t.blocks, ¬ S x) : IsMap w' M g cb t :=
  ⟨hw.cell hM h.ord, hw.cell hM h.root, (hw.fz ⟨M, 1, none⟩ h.lt).trans h.fz, h.held.wrote hw hs, h.nodup, h.bal, h.out⟩
theorem below (h : IsMap w M g cb t) (hb : Below w.heap.size w w') : IsMap w' M g cb t := h.wrote (S := fun _ => False) (Wrote.below hb) id (fun _ _ => id)
end IsMap

theorem newOrdered_any (w : World) : Calls Try.prog 16 #[] w fun e w' => e = .returned (.pointer (some ⟨w.heap.size, 0, none⟩)) ∧ IsMap w' w.heap.size 76 #[] .nil ∧ Below w.heap.size w w' := by
  go_enter Try.func16, Try.ntmps16
  go_wp2_with fail
  go_ret
  refine ⟨rfl, ⟨?_, ?_, ?_, trivial, List.nodup_nil, trivial, by simp [Tr.blocks]⟩, (Below.refl _ w).alloc (Nat.le_refl _) _⟩
  · simp
  · simp [Tr.addr]
  · exact World.frozen?_alloc_new w _ _ 1

set_option maxRecDepth 100000 in
set_option maxHeartbeats 1000000 in
theorem mapPut_any (g : Nat) (cb : Array Value) (c : Int → Int → Int) (I : World → Prop) (K : Nat → Prop) (ho : OrdFn g cb c I K) (w : World) (M : Nat) (t : Tr Int Int) (key val : Int) (h : IsMap w M g cb t) (hm : t.many ≤ 70368744177664) (hi : I w) (hk : ∀ x ∈ t.blocks, ¬ K x) (kM : ¬ K M) :
    Calls Try.prog 17 #[.pointer (some ⟨M, 0, none⟩), .int .i64 key, .int .i64 val] w fun e w' =>
      ∃ nb, w.heap.size ≤ nb ∧ e = .returned (.tuple #[.int .i64 ((Tr.get c key t).getD 0), .bool (Tr.get c key t).isSome]) ∧ IsMap w' M g cb (Tr.put c key val nb t) ∧ Wrote (fun x => x = M ∨ x ∈ t.blocks) w w' ∧ I w' := by
  obtain ⟨W1, hW1⟩ : ∃ W1, W1 = w.alloc (.cells #[.int .i64 0] 3) := ⟨_, rfl⟩
  obtain ⟨O, hO⟩ : ∃ O, O = w.heap.size := ⟨_, rfl⟩
  have hb1 : Below w.heap.size w W1 := by rw [hW1]; exact (Below.refl _ w).alloc (Nat.le_refl _) _
  have o1 : W1.cell? ⟨O, 0, none⟩ = some (.int .i64 0) := by rw [hW1, hO]; simp
  have f1 : W1.frozen? ⟨O, 0, none⟩ = false := by rw [hW1, hO]; exact World.frozen?_alloc_new w _ _ 0
  have h1 := h.below hb1
  have hlt := h.held.lt
  have hOt : O ∉ t.blocks := fun hx => by have := hlt O hx; omega
  have i1 : I W1 := ho.keep (fun _ => False) _ _ (Wrote.below hb1) (fun _ h => h.elim) hi
  have hML := h.lt
  have hsz := hb1.size
  have hOl := World.block_lt_of_cell? _ _ o1
  simp only at hOl
  have c0 := h1.ord
  have c1 := h1.root
  have c0w : w.cell? ⟨M, 0, none⟩ = some (.func (.func g) #[] cb) := h.ord
  have f2 := h1.fz
  have H1 := hid h1
  have HB := hid hb1
  have HPUT := hid (put_any g cb c I K ho key val O t W1.drew 0 (h1.held.drewN 1) h1.nodup hm hOt o1 f1 (ho.keep (fun _ => False) _ _ ((Wrote.refl _ W1).drewN 1) (fun _ h => h.elim) i1) hk)
  have HO := hid hO
  have HW1 := hid hW1
  have HOt := hid hOt
  have HBal := hid h.bal
  have HND := hid h.nodup
  have HLT := hid hlt
  have HMO := hid h.out
  have HKM := hid kM
  have HKT := hid hk
  have HI := hid hi
  clear h1 hb1 hW1 hOt i1 hi h hO hk hlt o1 f1 c0 c1 f2 kM
  have hfn := fun w f a c => run_eql_func_nil (P := Try.prog) w 95 f a c Try.underlying95
  go_enter Try.func17, Try.ntmps17
  go_wp2_with fail
  rw [← HW1.out, ← HO.out]
  have c0 : W1.cell? ⟨M, 0, none⟩ = some (.func (.func g) #[] cb) := H1.out.ord
  have c1 := H1.out.root
  have hMn : ¬ (M = O ∨ M ∈ t.blocks) := by
    rintro (e | e)
    · have := HO.out; omega
    · exact HMO.out e
  have HMn := hid hMn
  have f1M := H1.out.fz
  clear hMn c0w
  go_region_with (go_at_call 77; refine HPUT.out.mono ?_; rintro e W3 ⟨nb, g1, rfl, g2, g3, g4⟩; have r3 := g3.cell HMn.out H1.out.root; have f3 := (g3.fz ⟨M, 1, none⟩ H1.out.lt).trans f1M; have G1 := hid g1; have G2 := hid g2; have G3 := hid g3; clear g1 g2 g3)
  all_goals
    have q3 := G3.out.cell HMn.out H1.out.ord
    generalize hW4 : World.setCell W3 _ _ = W4
    have hMO : M ≠ O := fun e => HMn.out (.inl e)
    have hput : M ∉ (Tr.put c key val nb t).blocks := fun h => by
      rcases Tr.put_mem key val nb t M h with e | e
      · have := G1.out; have e2 : W1.drew.heap.size = W1.heap.size := rfl; omega
      · exact HMn.out (.inr e)
    have o4 : W4.cell? ⟨O, 0, none⟩ = some (.int .i64 ((Tr.get c key t).getD 0)) := by rw [← hW4]; exact (World.cell?_setCell_other _ _ _ _ (fun e => hMO (by injection e))).trans g4
    have m4 : IsMap W4 M g cb (Tr.put c key val nb t) := by
      rw [← hW4]
      refine ⟨(World.cell?_setCell_other _ _ _ _ (by simp)).trans q3, World.cell?_setCell_same _ _ _ r3, (World.frozen?_setCell ..).trans f3, G2.out.setCell (p := ⟨M, 1, none⟩) hput _, Tr.put_nodup key val nb (fun h => ?_) HND.out, (Tr.put_bal key val nb HBal.out).1, hput⟩
      have := HLT.out nb h
      have := G1.out
      have e2 : W1.drew.heap.size = W1.heap.size := rfl
      omega
    have w4 : Wrote (fun x => x = M ∨ x ∈ t.blocks) w W4 := by
      rw [← hW4]
      refine Wrote.setCell (p := ⟨M, 1, none⟩) ?_ (.inl (.inl rfl)) _
      exact Wrote.step ((Wrote.below HB.out).drewN 1) G3.out (by
        rintro x (rfl | hx)
        · exact .inr (by have := HO.out; omega)
        · exact .inl (.inr hx))
    have nb4 : w.heap.size ≤ nb := by have := G1.out; have e2 : W1.drew.heap.size = W1.heap.size := rfl; omega
    have O4 := hid o4
    have M4 := hid m4
    have W4' := hid w4
    have hi4 := hid (ho.keep _ _ _ w4 (by
      rintro x (rfl | hx)
      · exact HKM.out
      · exact HKT.out x hx) HI.out)
    clear hW4 m4 w4 q3 g4 hput hMO
    go_wp2_with fail
    go_ret2
    exact ⟨nb, nb4, rfl, M4.out.wrote (S := fun _ => False) (by first | exact Wrote.refl _ _ | exact (Wrote.refl _ _).drew | exact (Wrote.refl _ _).drewN _) id (fun _ _ => id), by first | exact W4'.out | exact W4'.out.drew | exact W4'.out.drewN _, ho.keep _ _ _ (show Wrote (fun _ => False) W4 _ from by first | exact Wrote.refl _ _ | exact (Wrote.refl _ _).drew | exact (Wrote.refl _ _).drewN _) (fun _ h => h.elim) hi4.out⟩
end TI
end Go.Proofs.Ytfjeagffdijcoaa
namespace Go.Proofs.Ytfjeagffdijcoaa
namespace TI
open Go.RowKit Go.Shelf

theorem mapLen_any (w : World) (M g : Nat) (cb : Array Value) (t : Tr Int Int) (h : IsMap w M g cb t) : Calls Try.prog 22 #[.pointer (some ⟨M, 0, none⟩)] w fun e w' => e = .returned (.int .i64 t.many) ∧ w' = w := by
  have c1 := h.root
  have H := hid h
  clear h
  go_enter Try.func22, Try.ntmps22
  go_wp2_with fail
  refine (count_any w t H.out.held).mono ?_
  rintro e w1 ⟨rfl, rfl⟩
  go_wp2_with fail
  refine bodyPost_ret (results_tmp rfl _ _ _) rfl ?_
  exact ⟨rfl, rfl⟩

theorem mapHeight_any (w : World) (M g : Nat) (cb : Array Value) (t : Tr Int Int) (h : IsMap w M g cb t) : Calls Try.prog 32 #[.pointer (some ⟨M, 0, none⟩)] w fun e w' => e = .returned (.int .i64 t.high) ∧ w' = w := by
  have c1 := h.root
  have H := hid h
  clear h
  go_enter Try.func32, Try.ntmps32
  go_wp2_with fail
  refine (height_any w t H.out.held).mono ?_
  rintro e w1 ⟨rfl, rfl⟩
  go_wp2_with fail
  refine bodyPost_ret (results_tmp rfl _ _ _) rfl ?_
  exact ⟨rfl, rfl⟩

set_option maxRecDepth 100000 in
set_option maxHeartbeats 1000000 in
theorem mapDelete_any (g : Nat) (cb : Array Value) (c : Int → Int → Int) (I : World → Prop) (K : Nat → Prop) (ho : OrdFn g cb c I K) (w : World) (M : Nat) (t : Tr Int Int) (key : Int) (h : IsMap w M g cb t) (hm : t.many ≤ 70368744177664) (hi : I w) (hk : ∀ x ∈ t.blocks, ¬ K x) (kM : ¬ K M) :
    Calls Try.prog 34 #[.pointer (some ⟨M, 0, none⟩), .int .i64 key] w fun e w' =>
      e = .returned (.tuple #[.int .i64 ((Tr.get c key t).getD 0), .bool (Tr.get c key t).isSome]) ∧ IsMap w' M g cb (Tr.cut c key t) ∧ Wrote (fun x => x = M ∨ x ∈ t.blocks) w w' ∧ I w' := by
  obtain ⟨W1, hW1⟩ : ∃ W1, W1 = w.alloc (.cells #[.int .i64 0] 3) := ⟨_, rfl⟩
  obtain ⟨O, hO⟩ : ∃ O, O = w.heap.size := ⟨_, rfl⟩
  have hb1 : Below w.heap.size w W1 := by rw [hW1]; exact (Below.refl _ w).alloc (Nat.le_refl _) _
  have o1 : W1.cell? ⟨O, 0, none⟩ = some (.int .i64 0) := by rw [hW1, hO]; simp
  have f1 : W1.frozen? ⟨O, 0, none⟩ = false := by rw [hW1, hO]; exact World.frozen?_alloc_new w _ _ 0
  have h1 := h.below hb1
  have hlt := h.held.lt
  have hOt : O ∉ t.blocks := fun hx => by have := hlt O hx; omega
  have i1 : I W1 := ho.keep (fun _ => False) _ _ (Wrote.below hb1) (fun _ h => h.elim) hi
  have hML := h.lt
  have c1w := h.root
  have HB := hid hb1
  have HO := hid hO
  have HW1 := hid hW1
  have HND := hid h.nodup
  have HKM := hid kM
  have HKT := hid hk
  have HI := hid hi
  have H1 := hid h1
  have HMO := hid h.out
  cases t with
  | nil =>
    have c1n : w.cell? ⟨M, 1, none⟩ = some (.pointer none) := c1w
    clear h1 hb1 hW1 hOt i1 hi h hk hlt o1 f1 c1w kM
    go_enter Try.func34, Try.ntmps34
    go_wp2_with fail
    go_ret2
    rw [← HW1.out]
    exact ⟨rfl, H1.out, Wrote.below HB.out, ho.keep (fun _ => False) _ _ (Wrote.below HB.out) (fun _ h => h.elim) HI.out⟩
  | node b l k v r =>
    have HPUT := hid (cut_any g cb c I K ho key O (.node b l k v r) W1.drew 0 (h1.held.drewN 1) h1.nodup h1.bal hm hOt o1 f1 (ho.keep (fun _ => False) _ _ ((Wrote.refl _ W1).drewN 1) (fun _ h => h.elim) i1) hk)
    have HBal := hid h.bal
    have HCB := hid (Tr.cut_blocks (c := c) key h.bal)
    have HCN := hid (Tr.cut_nodup (c := c) key h.bal h.nodup)
    have HCBal := hid (Tr.cut_bal (c := c) key h.bal).1
    have c1n : w.cell? ⟨M, 1, none⟩ = some (.pointer (some ⟨b, 0, none⟩)) := c1w
    have c0w : w.cell? ⟨M, 0, none⟩ = some (.func (.func g) #[] cb) := h.ord
    clear h1 hb1 hW1 hOt i1 hi h hO hk hlt o1 f1 c1w kM
    go_enter Try.func34, Try.ntmps34
    go_wp2_with fail
    rw [← HW1.out, ← HO.out]
    have c0 : W1.cell? ⟨M, 0, none⟩ = some (.func (.func g) #[] cb) := H1.out.ord
    have c1 : W1.cell? ⟨M, 1, none⟩ = some (.pointer (some ⟨b, 0, none⟩)) := H1.out.root
    have hMn : ¬ (M = O ∨ M ∈ (Tr.node b l k v r).blocks) := by
      rintro (e | e)
      · have := HO.out; omega
      · exact HMO.out e
    have HMn := hid hMn
    have f1M := H1.out.fz
    clear hMn c0w c1n
    go_region_with (go_at_call 91; refine HPUT.out.mono ?_; rintro e W3 ⟨rfl, g2, g3, g4⟩; have r3 := g3.cell HMn.out H1.out.root; have f3 := (g3.fz ⟨M, 1, none⟩ H1.out.lt).trans f1M; have G2 := hid g2; have G3 := hid g3; clear g2 g3)
    all_goals
      have q3 := G3.out.cell HMn.out H1.out.ord
      generalize hW4 : World.setCell W3 _ _ = W4
      have hMO : M ≠ O := fun e => HMn.out (.inl e)
      have hput : M ∉ (Tr.cut c key (.node b l k v r)).blocks := fun h => HMn.out (.inr (HCB.out M h))
      have o4 : W4.cell? ⟨O, 0, none⟩ = some (.int .i64 ((Tr.get c key (.node b l k v r)).getD 0)) := by rw [← hW4]; exact (World.cell?_setCell_other _ _ _ _ (fun e => hMO (by injection e))).trans g4
      have m4 : IsMap W4 M g cb (Tr.cut c key (.node b l k v r)) := by
        rw [← hW4]
        exact ⟨(World.cell?_setCell_other _ _ _ _ (by simp)).trans q3, World.cell?_setCell_same _ _ _ r3, (World.frozen?_setCell ..).trans f3, G2.out.setCell (p := ⟨M, 1, none⟩) hput _, HCN.out, HCBal.out, hput⟩
      have w4 : Wrote (fun x => x = M ∨ x ∈ (Tr.node b l k v r).blocks) w W4 := by
        rw [← hW4]
        refine Wrote.setCell (p := ⟨M, 1, none⟩) ?_ (.inl (.inl rfl)) _
        exact Wrote.step ((Wrote.below HB.out).drewN 1) G3.out (by
          rintro x (rfl | hx)
          · exact .inr (by have := HO.out; omega)
          · exact .inl (.inr hx))
      have O4 := hid o4
      have M4 := hid m4
      have W4' := hid w4
      have hi4 := hid (ho.keep _ _ _ w4 (by
        rintro x (rfl | hx)
        · exact HKM.out
        · exact HKT.out x hx) HI.out)
      clear hW4 m4 w4 q3 g4 hput hMO
      go_wp2_with fail
      go_ret2
      exact ⟨rfl, M4.out.wrote (S := fun _ => False) (by first | exact Wrote.refl _ _ | exact (Wrote.refl _ _).drew | exact (Wrote.refl _ _).drewN _) id (fun _ _ => id), by first | exact W4'.out | exact W4'.out.drew | exact W4'.out.drewN _, ho.keep _ _ _ (show Wrote (fun _ => False) W4 _ from by first | exact Wrote.refl _ _ | exact (Wrote.refl _ _).drew | exact (Wrote.refl _ _).drewN _) (fun _ h => h.elim) hi4.out⟩
end TI
end Go.Proofs.Ytfjeagffdijcoaa
namespace Go.Proofs.Ytfjeagffdijcoaa
namespace TI
open Go.RowKit Go.Shelf

theorem IsMap.drewN {w : World} {M g : Nat} {cb : Array Value} {t : Tr Int Int} (h : IsMap w M g cb t) (q : Nat) : IsMap (w.drewN q) M g cb t := h.wrote (S := fun _ => False) ((Wrote.refl _ w).drewN q) id (fun _ _ => id)

theorem told_nil (w : World) : Calls Try.prog 90 #[.pointer none] w fun e w' => e = .returned (.tuple #[.int .i64 0, .int .i64 0, .bool false]) ∧ w' = w := by
  go_enter Try.func90, Try.ntmps90
  go_wp2_with fail
  refine bodyPost_ret (results_tmp3 rfl _ _ _) rfl ?_
  exact ⟨rfl, rfl⟩

theorem told_any (w : World) (b : Nat) (k v : Int) (l r : Value) (h n : Int) (hn : NodeAt w b (ek k) (ev v) l r h n) : Calls Try.prog 90 #[.pointer (some ⟨b, 0, none⟩)] w fun e w' => e = .returned (.tuple #[.int .i64 k, .int .i64 v, .bool true]) ∧ ∃ q, w' = w.drewN q := by
  have c0 := hn.c0
  have c1 := hn.c1
  clear hn
  go_enter Try.func90, Try.ntmps90
  go_wp2_with fail
  go_quiet (fail)
  go_wp2_with fail
  refine bodyPost_ret (results_tmp3 rfl _ _ _) rfl ?_
  exact ⟨rfl, _, rfl⟩

set_option maxRecDepth 100000 in
set_option maxHeartbeats 1000000 in
theorem mapAt_any (w : World) (M g : Nat) (cb : Array Value) (t : Tr Int Int) (h : IsMap w M g cb t) (hm : t.many ≤ 70368744177664) (i : Nat) (kk vv : Int) (hi : t.pairs[i]? = some (kk, vv)) : Calls Try.prog 33 #[.pointer (some ⟨M, 0, none⟩), .int .i64 i] w fun e w' =>
    e = .returned (.tuple #[.int .i64 kk, .int .i64 vv, .bool true]) ∧ ∃ q, w' = w.drewN q := by
  have c1 := h.root
  have hlen : i < t.many := by rw [Tr.many_pairs]; exact (List.getElem?_eq_some_iff.1 hi).1
  have H := hid h
  have HI := hid hi
  have hb1 : decide ((i : Int) < 0) = false := by simp
  have hb2 : decide (t.many ≤ i) = false := by simpa using hlen
  have hb3 : decide ((t.many : Int) ≤ (i : Int)) = false := by simpa using hlen
  clear h hi hlen
  go_enter Try.func33, Try.ntmps33
  go_wp2_with (go_at_call 84; refine (count_any w t H.out.held).mono ?_; rintro e w1 ⟨rfl, hw1⟩; obtain rfl : w = w1 := hw1.symm)
  clear hb1 hb2 hb3
  go_loopg [1, 7] t.high (fun gx si sn wr => ∃ (sub : Tr Int Int) (j : Nat), sn = .pointer sub.addr ∧ si = .int .i64 j ∧ Hid (Held ek ev wr sub) ∧ Hid (sub.pairs[j]? = some (kk, vv)) ∧ sub.high ≤ gx ∧ sub.many ≤ 70368744177664 ∧ wr = w)
  case atStart => exact ⟨t, i, rfl, rfl, hid H.out.held, HI, Nat.le_refl _, hm, rfl⟩
  case round =>
    obtain ⟨sub, j, rfl, rfl, HH, HJ, hh, hmm, rfl⟩ := hrel
    cases sub with
    | nil => exact absurd HJ.out (by simp [Tr.pairs])
    | node b l k v r =>
      have hadr : (Tr.node b l k v r).addr = some ⟨b, 0, none⟩ := rfl
      have c2 := HH.out.1.c2
      have c3 := HH.out.1.c3
      have hml : l.many + r.many ≤ 70368744177663 := by simp only [Tr.many] at hmm; omega
      have hjm : j < 1 + l.many + r.many := by
        have := (List.getElem?_eq_some_iff.1 HJ.out).1
        rw [← Tr.many_pairs] at this
        simpa [Tr.many] using this
      have hpl : l.pairs.length = l.many := (Tr.many_pairs l).symm
      have HJ2 : Hid ((l.pairs ++ (k, v) :: r.pairs)[j]? = some (kk, vv)) := HJ.out
      have hhl : l.high + 1 ≤ (Tr.node b l k v r).high ∧ r.high + 1 ≤ (Tr.node b l k v r).high := by simp only [Tr.high]; omega
      clear hmm
      rcases Nat.lt_trichotomy j l.many with g1 | g1 | g1
      · have hne : ((j : Int) != (l.many : Int)) = true := by simpa using (by omega : (j : Int) ≠ l.many)
        have hlt : (j : Int) < (l.many : Int) := by omega
        have HR : Hid (l.pairs[j]? = some (kk, vv)) := by show _ = _; rw [← HJ2.out, List.getElem?_append_left (by omega)]
        go_wp2_with (go_at_call 84; refine (count_any _ l HH.out.2.1).mono ?_; rintro e w1 ⟨rfl, rfl⟩)
        go_roundg l.high
        case measure => omega
        case rel => exact ⟨l, j, rfl, rfl, hid HH.out.2.1, HR, Nat.le_refl _, by omega, rfl⟩
      · have hne : ((j : Int) != (l.many : Int)) = false := by simpa using (by omega : (j : Int) = l.many)
        have HR : Hid (k = kk ∧ v = vv) := by
          have := HJ2.out
          rw [List.getElem?_append_right (by omega), show j - l.pairs.length = 0 by omega] at this
          exact (by simpa using this : k = kk ∧ v = vv)
        have HN := hid HH.out.1
        clear g1
        go_wp2_with (first | (go_at_call 84; refine (count_any _ l HH.out.2.1).mono ?_; rintro e w1 ⟨rfl, rfl⟩) | (go_at_call 90; refine (told_any _ b k v _ _ _ _ HN.out).mono ?_; rintro e w1 ⟨rfl, q, rfl⟩))
        refine bodyPost_ret (results_tmp3 rfl _ _ _) rfl ?_
        obtain ⟨rfl, rfl⟩ := HR.out
        exact ⟨rfl, q, rfl⟩
      · have hne : ((j : Int) != (l.many : Int)) = true := by simpa using (by omega : (j : Int) ≠ l.many)
        have hlt : ¬ (j : Int) < (l.many : Int) := by omega
        have HR : Hid (r.pairs[j - (l.many + 1)]? = some (kk, vv)) := by
          show _ = _
          rw [← HJ2.out, List.getElem?_append_right (by omega), show j - l.pairs.length = (j - (l.many + 1)) + 1 by omega]
          rfl
        have hw1 : IntKind.i64.wrap ((l.many : Int) + 1) = (l.many : Int) + 1 := wrap_small _ (by omega) (by omega)
        have hw2 : IntKind.i64.wrap ((j : Int) - ((l.many : Int) + 1)) = (j : Int) - ((l.many : Int) + 1) := wrap_mid _ (by omega) (by omega)
        go_wp2_with (go_at_call 84; refine (count_any _ l HH.out.2.1).mono ?_; rintro e w1 ⟨rfl, rfl⟩)
        go_roundg r.high
        case measure => omega
        case rel => exact ⟨r, j - (l.many + 1), rfl, by first | (congr 1; omega) | go_num, hid HH.out.2.2, HR, Nat.le_refl _, by omega, rfl⟩
end TI
end Go.Proofs.Ytfjeagffdijcoaa
namespace Go.Proofs.Ytfjeagffdijcoaa

section
variable {κ ν : Type} {c : κ → κ → Int}
theorem up_part (ho : WOrd c) {l : List (κ × ν)} (h : Up c l) {p : κ × ν} (hp : p ∈ l) : ∃ a b, l = a ++ p :: b ∧ ∀ x ∈ a, 0 < c p.1 x.1 := by
  obtain ⟨a, b, rfl⟩ := List.append_of_mem hp
  obtain ⟨_, _, u3, _, _⟩ := up_mid.1 h
  exact ⟨a, b, rfl, fun x hx => (ho.anti x.1 p.1).1 (u3 x hx)⟩
theorem getL_mem (ho : WOrd c) {l : List (κ × ν)} (h : Up c l) {p : κ × ν} (hp : p ∈ l) : getL c p.1 l = some p.2 := by
  obtain ⟨a, b, rfl, ha⟩ := up_part ho h hp
  exact getL_mid p.1 a b p.1 p.2 (ho.refl _) ha
theorem cutP_len (ho : WOrd c) {l : List (κ × ν)} (h : Up c l) {p : κ × ν} (hp : p ∈ l) : (cutP c p.1 l).length + 1 = l.length := by
  obtain ⟨a, b, rfl, ha⟩ := up_part ho h hp
  rw [cutP_mid p.1 a b p.1 p.2 (ho.refl _) ha]
  simp; omega
end

namespace Tr
variable {κ ν : Type} {c : κ → κ → Int}
theorem put_pos (key : κ) (val : ν) (nb : Nat) (t : Tr κ ν) : 1 ≤ (put c key val nb t).many := by
  cases t with
  | nil => simp [put, many]
  | node b l k v r =>
    rw [← blocks_many]
    rcases put_blocks (c := c) key val nb (t := node b l k v r) with h | h
    · rw [h.length_eq]; simp [blocks]
    · rw [h.length_eq]; simp
theorem high_zero {t : Tr κ ν} (h : t.many = 0) : t.high = 0 := by have := t.high_many; omega
end Tr

namespace TI
open Go.RowKit Go.Shelf

set_option maxHeartbeats 1000000 in
theorem bounded_any (w : World) (n h : Nat) (hn : n ≤ 3000) (h1 : 2 ^ h ≤ (n + 1) * (n + 1)) (h2 : n < 2 ^ h) :
    Calls Try.prog 31 #[.int .i64 n, .int .i64 h] w fun e w' => e = .returned (.bool true) ∧ w' = w := by
  have hm : (n + 1) * (n + 1) ≤ 9006001 := Nat.mul_le_mul (show n + 1 ≤ 3001 by omega) (show n + 1 ≤ 3001 by omega)
  have hh : h < 2 ^ h := Nat.lt_two_pow_self
  obtain ⟨m, hm2⟩ : ∃ m, m = (n + 1) * (n + 1) := ⟨_, rfl⟩
  have e1 : ((n : Int) + 1) * ((n : Int) + 1) = (m : Int) := by rw [hm2]; simp
  obtain ⟨q, hq⟩ : ∃ q, q = 2 ^ h := ⟨_, rfl⟩
  rw [← hm2] at hm h1
  rw [← hq] at h1 h2 hh
  have HQ := hid hq
  have w1 : IntKind.i64.wrap ((n : Int) + 1) = (n : Int) + 1 := wrap_small _ (by omega) (by omega)
  have w2 : IntKind.i64.wrap (m : Int) = (m : Int) := wrap_small _ (by omega) (by omega)
  clear hm2 hq
  go_enter Try.func31, Try.ntmps31
  go_wp2_with fail
  go_loopg [5, 6] h (fun gx sp si wr => ∃ (k p : Nat), sp = .int .i64 p ∧ si = .int .i64 k ∧ k ≤ h ∧ Hid (p = 2 ^ k) ∧ p ≤ q ∧ h - k ≤ gx ∧ wr = w)
  case atStart => exact ⟨0, 1, rfl, rfl, Nat.zero_le _, hid rfl, by omega, by omega, rfl⟩
  case round =>
    obtain ⟨k, p, rfl, rfl, hk, HP, hpq, hg, rfl⟩ := hrel
    by_cases hlt : k < h
    · have hp2 : Hid (p * 2 = 2 ^ (k + 1)) := by show _ = _; rw [HP.out, Nat.pow_succ]
      have hp3 : p * 2 ≤ q := by rw [hp2.out, HQ.out]; exact Nat.pow_le_pow_right (by omega) hlt
      have hw : IntKind.i64.wrap (2 * (p : Int)) = 2 * (p : Int) := wrap_small _ (by omega) (by omega)
      have hw2 : IntKind.i64.wrap ((k : Int) + 1) = (k : Int) + 1 := wrap_small _ (by omega) (by omega)
      have hki : (k : Int) < h := by omega
      have hpi : (p : Int) ≤ 1099511627776 := by omega
      go_wp2_with fail
      go_roundg (h - (k + 1))
      case measure => omega
      case rel => exact ⟨k + 1, p * 2, by first | (congr 1; omega) | go_num, by first | (congr 1; omega) | go_num, hlt, hp2, hp3, Nat.le_refl _, rfl⟩
    · obtain rfl : k = h := by omega
      have hpq2 : p = q := by rw [HP.out, HQ.out]
      have b1 : decide (n < p) = true := by simp; omega
      have b2 : decide ((p : Int) ≤ (m : Int)) = true := by simp; omega
      have b3 : decide (p ≤ m) = true := by simp; omega
      clear hpq2
      go_wp2_with fail
      refine bodyPost_ret (results_tmp rfl _ _ _) rfl ?_
      exact ⟨rfl, rfl⟩
end TI
end Go.Proofs.Ytfjeagffdijcoaa
namespace Go.Proofs.Ytfjeagffdijcoaa
namespace TI
open Go.RowKit Go.Shelf

set_option maxRecDepth 100000 in
set_option maxHeartbeats 1000000 in
theorem mapGet_any (g : Nat) (cb : Array Value) (c : Int → Int → Int) (I : World → Prop) (K : Nat → Prop) (ho : OrdFn g cb c I K) (w : World) (M : Nat) (t : Tr Int Int) (key : Int) (h : IsMap w M g cb t) (hi : I w) :
    Calls Try.prog 63 #[.pointer (some ⟨M, 0, none⟩), .int .i64 key] w fun e w' =>
      e = .returned (.tuple #[.int .i64 ((Tr.get c key t).getD 0), .bool (Tr.get c key t).isSome]) ∧ ∃ q, w' = w.drewN q := by
  have eg := ho.eg
  have c1 := h.root
  have H := hid h
  have HI := hid hi
  have HG : Hid (Tr.get c key t = Tr.get c key t) := hid rfl
  clear h hi
  go_enter Try.func63, Try.ntmps63
  go_wp2_with fail
  go_loopg [6] t.high (fun gx sn wr => ∃ (sub : Tr Int Int) (q : Nat), sn = .pointer sub.addr ∧ Hid (Held ek ev wr sub) ∧ Hid (Tr.get c key sub = Tr.get c key t) ∧ sub.high ≤ gx ∧ wr = w.drewN q)
  case atStart => exact ⟨t, 0, rfl, hid H.out.held, hid rfl, Nat.le_refl _, rfl⟩
  case round =>
    obtain ⟨sub, q, rfl, HH, HJ, hh, rfl⟩ := hrel
    cases sub with
    | nil =>
      have hadr : (Tr.nil : Tr Int Int).addr = none := rfl
      have hn : Hid (Tr.get c key t = none) := by show _ = _; rw [← HJ.out]; rfl
      go_wp2_with fail
      go_ret2
      exact ⟨by rw [hn.out]; rfl, q, rfl⟩
    | node b l k v r =>
      have hadr : (Tr.node b l k v r).addr = some ⟨b, 0, none⟩ := rfl
      have hhl : l.high + 1 ≤ (Tr.node b l k v r).high ∧ r.high + 1 ≤ (Tr.node b l k v r).high := by simp only [Tr.high]; omega
      generalize hWq : w.drewN q = Wq at *
      have hWI : I Wq := ho.keep (fun _ => False) _ _ (show Wrote (fun _ => False) w Wq by rw [← hWq]; exact (Wrote.refl _ w).drewN _) (fun _ h => h.elim) HI.out
      have i2 : I Wq.drew := ho.keep (fun _ => False) _ _ ((Wrote.refl _ Wq).drew) (fun _ h => h.elim) hWI
      obtain ⟨cv, hcv⟩ : ∃ cv, c key k = cv := ⟨_, rfl⟩
      have hcl := ho.call Wq.drew key k i2
      rw [hcv] at hcl
      have HCL := hid hcl
      have HCV := hid hcv
      have c0M : Wq.cell? ⟨M, 0, none⟩ = some (.func (.func g) #[] cb) := by rw [← hWq]; exact H.out.ord
      have n0 := HH.out.1.c0
      have HWQ := hid hWq
      clear i2 hcl hcv hWI hWq
      go_wp2_with fail
      go_still_tail 9, (by kernel_rfl)
      change wpList _ _ _ _ _ (World.drew Wq)
      go_wp2_with fail
      refine HCL.out.mono ?_
      rintro e w1 ⟨rfl, q2, rfl⟩
      have HH2 : Hid (Held ek ev (Wq.drew.drewN q2) (.node b l k v r)) := (HH.out.drewN 1).drewN q2
      have HW2 : Hid (∃ q', Wq.drew.drewN q2 = w.drewN q') := ⟨q + 1 + q2, by rw [← HWQ.out, ← World.drewN_drewN, ← World.drewN_drewN]; rfl⟩
      clear HH
      have d1 := HH2.out.1.c1
      have d2 := HH2.out.1.c2
      have d3 := HH2.out.1.c3
      generalize Wq.drew.drewN q2 = Wz at *
      obtain ⟨qz, hqz⟩ := HW2.out
      have HQZ := hid hqz
      clear hqz
      rcases Int.lt_trichotomy cv 0 with g1 | g1 | g1
      · have HG2 : Hid (Tr.get c key l = Tr.get c key t) := by show _ = _; rw [← HJ.out]; show _ = (if c key k < 0 then _ else _); rw [if_pos (by rw [HCV.out]; exact g1)]
        go_wp2_with fail
        go_roundg l.high
        case measure => omega
        case rel => exact ⟨l, qz, rfl, hid HH2.out.2.1, HG2, Nat.le_refl _, HQZ.out⟩
      · have HG2 : Hid (Tr.get c key t = some v) := by show _ = _; rw [← HJ.out]; show (if c key k < 0 then _ else if 0 < c key k then _ else _) = _; rw [if_neg (by rw [HCV.out]; omega), if_neg (by rw [HCV.out]; omega)]
        go_wp2_with fail
        go_ret2
        exact ⟨by rw [HG2.out]; rfl, qz, HQZ.out⟩
      · have HG2 : Hid (Tr.get c key r = Tr.get c key t) := by show _ = _; rw [← HJ.out]; show _ = (if c key k < 0 then _ else if 0 < c key k then _ else _); rw [if_neg (by rw [HCV.out]; omega), if_pos (by rw [HCV.out]; exact g1)]
        go_wp2_with fail
        go_roundg r.high
        case measure => omega
        case rel => exact ⟨r, qz, rfl, hid HH2.out.2.2, HG2, Nat.le_refl _, HQZ.out⟩
end TI
end Go.Proofs.Ytfjeagffdijcoaa
