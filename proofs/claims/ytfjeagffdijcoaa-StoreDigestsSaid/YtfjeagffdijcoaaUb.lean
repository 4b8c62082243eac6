/- Layer 7: a map, another instance (uint64 keys, bytes): printed from the texts for ints. Layer 7: a map, another instance (uint64 keys, bytes): printed from the texts for ints. Layer 7: a map, another instance (uint64 keys, bytes): printed from the texts for ints. Layer 7: a map, another instance (uint64 keys, bytes): printed from the texts for ints. -/
import Derived.Test.YtfjeagffdijcoaaTb
import Derived.Test.YtfjeagffdijcoaaUa
import Derived.RangeFuncBox
import Derived.RangeFuncLeaves
import Derived.Shelf.Abstract
import Derived.OwnWalkIn
import Derived.TacticsInMore
import Derived.LoopNIn
import Derived.LoopIn
import Derived.Maps.AppendAt
import Derived.RangeFuncNested
import Derived.RangeFuncBound
import Derived.RangeFuncCalls
import Derived.StillTailTactics
namespace Go.Proofs.Ytfjeagffdijcoaa
namespace TU
open Go.RowKit Go.Shelf

theorem isNaN_any (w : World) (a : Int) : Calls Try.prog 161 #[.int .u64 a] w fun e w' => e = .returned (.bool false) ∧ w' = w := by
  go_enter Try.func161, Try.ntmps161
  go_wp2_with fail
  go_ret
  exact ⟨by simp, rfl⟩

theorem compare_any (w : World) (a b : Int) : Calls Try.prog 134 #[.int .u64 a, .int .u64 b] w fun e w' => e = .returned (.int .i64 (TI.cmpI a b)) ∧ ∃ q, w' = w.drewN q := by
  rcases Int.lt_trichotomy a b with h | h | h
  · have e : Hid (TI.cmpI a b = -1) := by show _ = _; unfold TI.cmpI; rw [if_pos h]
    go_enter Try.func134, Try.ntmps134
    go_wp2_with (go_at_call 161; refine (isNaN_any _ _).mono ?_; rintro e w' ⟨rfl, rfl⟩)
    go_ret
    exact ⟨by rw [e.out]; rfl, 0, rfl⟩
  · have e : Hid (TI.cmpI a b = 0) := by show _ = _; unfold TI.cmpI; rw [if_neg (by omega), if_neg (by omega)]
    go_enter Try.func134, Try.ntmps134
    go_wp2_with (go_at_call 161; refine (isNaN_any _ _).mono ?_; rintro e w' ⟨rfl, rfl⟩)
    go_ret
    exact ⟨by rw [e.out]; rfl, 0, rfl⟩
  · have e : Hid (TI.cmpI a b = 1) := by show _ = _; unfold TI.cmpI; rw [if_neg (by omega), if_pos h]
    go_enter Try.func134, Try.ntmps134
    go_wp2_with (go_at_call 161; refine (isNaN_any _ _).mono ?_; rintro e w' ⟨rfl, rfl⟩)
    go_ret
    exact ⟨by rw [e.out]; rfl, 0, rfl⟩

theorem cmp_fn : OrdFn 134 #[] TI.cmpI (fun _ => True) (fun _ => False) where
  eg := enters_of Try.func134 (by kernel_rfl) rfl
  call w a b _ := compare_any w a b
  keep _ _ _ _ _ _ := trivial

/-- a map: where it lies, its order, its tree -/
structure IsMap (w : World) (M g : Nat) (cb : Array Value) (t : Tr Int SV) : Prop where
  ord : w.cell? ⟨M, 0, none⟩ = some (ordV g cb)
  root : w.cell? ⟨M, 1, none⟩ = some t.ptr
  fz : w.frozen? ⟨M, 1, none⟩ = false
  held : Held ek ev w t
  nodup : t.blocks.Nodup
  bal : t.bal
  out : M ∉ t.blocks

namespace IsMap
variable {w w' : World} {M g : Nat} {cb : Array Value} {t : Tr Int SV} {S : Nat → Prop}
theorem lt (h : IsMap w M g cb t) : M < w.heap.size := World.block_lt_of_cell? _ _ h.ord
theorem wrote (h : IsMap w M g cb t) (hw : Wrote S w w') (hM : ¬ S M) (hs : ∀ x ∈ t.blocks, ¬ S x) : IsMap w' M g cb t :=
  ⟨hw.cell hM h.ord, hw.cell hM h.root, (hw.fz ⟨M, 1, none⟩ h.lt).trans h.fz, h.held.wrote hw hs, h.nodup, h.bal, h.out⟩
theorem below (h : IsMap w M g cb t) (hb : Below w.heap.size w w') : IsMap w' M g cb t := h.wrote (S := fun _ => False) (Wrote.below hb) id (fun _ _ => id)
end IsMap

theorem newOrdered_any (w : World) : Calls Try.prog 92 #[] w fun e w' => e = .returned (.pointer (some ⟨w.heap.size, 0, none⟩)) ∧ IsMap w' w.heap.size 134 #[] .nil ∧ Below w.heap.size w w' := by
  go_enter Try.func92, Try.ntmps92
  go_wp2_with fail
  go_ret
  refine ⟨rfl, ⟨?_, ?_, ?_, trivial, List.nodup_nil, trivial, by simp [Tr.blocks]⟩, (Below.refl _ w).alloc (Nat.le_refl _) _⟩
  · simp
  · simp [Tr.addr]
  · exact World.frozen?_alloc_new w _ _ 1

set_option maxRecDepth 100000 in
set_option maxHeartbeats 1000000 in
theorem mapPut_any (g : Nat) (cb : Array Value) (c : Int → Int → Int) (I : World → Prop) (K : Nat → Prop) (ho : OrdFn g cb c I K) (w : World) (M : Nat) (t : Tr Int SV) (key : Int) (val : SV) (h : IsMap w M g cb t) (hm : t.many ≤ 70368744177664) (hi : I w) (hk : ∀ x ∈ t.blocks, ¬ K x) (kM : ¬ K M) :
    Calls Try.prog 96 #[.pointer (some ⟨M, 0, none⟩), .int .u64 key, .slice val.1 val.2.1 val.2.2] w fun e w' =>
      ∃ nb, w.heap.size ≤ nb ∧ e = .returned (.tuple #[.slice ((Tr.get c key t).getD ((none, 0, 0) : SV)).1 ((Tr.get c key t).getD ((none, 0, 0) : SV)).2.1 ((Tr.get c key t).getD ((none, 0, 0) : SV)).2.2, .bool (Tr.get c key t).isSome]) ∧ IsMap w' M g cb (Tr.put c key val nb t) ∧ Wrote (fun x => x = M ∨ x ∈ t.blocks) w w' ∧ I w' := by
  obtain ⟨W1, hW1⟩ : ∃ W1, W1 = w.alloc (.cells #[.slice none 0 0] 65) := ⟨_, rfl⟩
  obtain ⟨O, hO⟩ : ∃ O, O = w.heap.size := ⟨_, rfl⟩
  have hb1 : Below w.heap.size w W1 := by rw [hW1]; exact (Below.refl _ w).alloc (Nat.le_refl _) _
  have o1 : W1.cell? ⟨O, 0, none⟩ = some (.slice none 0 0) := by rw [hW1, hO]; simp
  have f1 : W1.frozen? ⟨O, 0, none⟩ = false := by rw [hW1, hO]; exact World.frozen?_alloc_new w _ _ 0
  have h1 := h.below hb1
  have hlt := h.held.lt
  have hOt : O ∉ t.blocks := fun hx => by have := hlt O hx; omega
  have i1 : I W1 := ho.keep (fun _ => False) _ _ (Wrote.below hb1) (fun _ h => h.elim) hi
  have hML := h.lt
  have hsz := hb1.size
  have hOl := World.block_lt_of_cell? _ _ o1
  simp only at hOl
  have c0 := h1.ord
  have c1 := h1.root
  have c0w : w.cell? ⟨M, 0, none⟩ = some (.func (.func g) #[] cb) := h.ord
  have f2 := h1.fz
  have H1 := hid h1
  have HB := hid hb1
  have HPUT := hid (put_any g cb c I K ho key val O t W1.drew ((none, 0, 0) : SV) (h1.held.drewN 1) h1.nodup hm hOt o1 f1 (ho.keep (fun _ => False) _ _ ((Wrote.refl _ W1).drewN 1) (fun _ h => h.elim) i1) hk)
  have HO := hid hO
  have HW1 := hid hW1
  have HOt := hid hOt
  have HBal := hid h.bal
  have HND := hid h.nodup
  have HLT := hid hlt
  have HMO := hid h.out
  have HKM := hid kM
  have HKT := hid hk
  have HI := hid hi
  clear h1 hb1 hW1 hOt i1 hi h hO hk hlt o1 f1 c0 c1 f2 kM
  have hfn := fun w f a c => run_eql_func_nil (P := Try.prog) w 104 f a c Try.underlying104
  go_enter Try.func96, Try.ntmps96
  go_wp2_with fail
  rw [← HW1.out, ← HO.out]
  have c0 : W1.cell? ⟨M, 0, none⟩ = some (.func (.func g) #[] cb) := H1.out.ord
  have c1 := H1.out.root
  have hMn : ¬ (M = O ∨ M ∈ t.blocks) := by
    rintro (e | e)
    · have := HO.out; omega
    · exact HMO.out e
  have HMn := hid hMn
  have f1M := H1.out.fz
  clear hMn c0w
  go_region_with (go_at_call 136; refine HPUT.out.mono ?_; rintro e W3 ⟨nb, g1, rfl, g2, g3, g4⟩; have r3 := g3.cell HMn.out H1.out.root; have f3 := (g3.fz ⟨M, 1, none⟩ H1.out.lt).trans f1M; have G1 := hid g1; have G2 := hid g2; have G3 := hid g3; clear g1 g2 g3)
  all_goals
    have q3 := G3.out.cell HMn.out H1.out.ord
    generalize hW4 : World.setCell W3 _ _ = W4
    have hMO : M ≠ O := fun e => HMn.out (.inl e)
    have hput : M ∉ (Tr.put c key val nb t).blocks := fun h => by
      rcases Tr.put_mem key val nb t M h with e | e
      · have := G1.out; have e2 : W1.drew.heap.size = W1.heap.size := rfl; omega
      · exact HMn.out (.inr e)
    have o4 : W4.cell? ⟨O, 0, none⟩ = some (.slice ((Tr.get c key t).getD ((none, 0, 0) : SV)).1 ((Tr.get c key t).getD ((none, 0, 0) : SV)).2.1 ((Tr.get c key t).getD ((none, 0, 0) : SV)).2.2) := by rw [← hW4]; exact (World.cell?_setCell_other _ _ _ _ (fun e => hMO (by injection e))).trans g4
    have m4 : IsMap W4 M g cb (Tr.put c key val nb t) := by
      rw [← hW4]
      refine ⟨(World.cell?_setCell_other _ _ _ _ (by simp)).trans q3, World.cell?_setCell_same _ _ _ r3, (World.frozen?_setCell ..).trans f3, G2.out.setCell (p := ⟨M, 1, none⟩) hput _, Tr.put_nodup key val nb (fun h => ?_) HND.out, (Tr.put_bal key val nb HBal.out).1, hput⟩
      have := HLT.out nb h
      have := G1.out
      have e2 : W1.drew.heap.size = W1.heap.size := rfl
      omega
    have w4 : Wrote (fun x => x = M ∨ x ∈ t.blocks) w W4 := by
      rw [← hW4]
      refine Wrote.setCell (p := ⟨M, 1, none⟩) ?_ (.inl (.inl rfl)) _
      exact Wrote.step ((Wrote.below HB.out).drewN 1) G3.out (by
        rintro x (rfl | hx)
        · exact .inr (by have := HO.out; omega)
        · exact .inl (.inr hx))
    have nb4 : w.heap.size ≤ nb := by have := G1.out; have e2 : W1.drew.heap.size = W1.heap.size := rfl; omega
    have O4 := hid o4
    have M4 := hid m4
    have W4' := hid w4
    have hi4 := hid (ho.keep _ _ _ w4 (by
      rintro x (rfl | hx)
      · exact HKM.out
      · exact HKT.out x hx) HI.out)
    clear hW4 m4 w4 q3 g4 hput hMO
    go_wp2_with fail
    go_ret2
    exact ⟨nb, nb4, rfl, M4.out.wrote (S := fun _ => False) (by first | exact Wrote.refl _ _ | exact (Wrote.refl _ _).drew | exact (Wrote.refl _ _).drewN _) id (fun _ _ => id), by first | exact W4'.out | exact W4'.out.drew | exact W4'.out.drewN _, ho.keep _ _ _ (show Wrote (fun _ => False) W4 _ from by first | exact Wrote.refl _ _ | exact (Wrote.refl _ _).drew | exact (Wrote.refl _ _).drewN _) (fun _ h => h.elim) hi4.out⟩
end TU
end Go.Proofs.Ytfjeagffdijcoaa
namespace Go.Proofs.Ytfjeagffdijcoaa
namespace TU
open Go.RowKit Go.Shelf

theorem mapLen_any (w : World) (M g : Nat) (cb : Array Value) (t : Tr Int SV) (h : IsMap w M g cb t) : Calls Try.prog 95 #[.pointer (some ⟨M, 0, none⟩)] w fun e w' => e = .returned (.int .i64 t.many) ∧ w' = w := by
  have c1 := h.root
  have H := hid h
  clear h
  go_enter Try.func95, Try.ntmps95
  go_wp2_with fail
  refine (count_any w t H.out.held).mono ?_
  rintro e w1 ⟨rfl, rfl⟩
  go_wp2_with fail
  refine bodyPost_ret (results_tmp rfl _ _ _) rfl ?_
  exact ⟨rfl, rfl⟩

set_option maxRecDepth 100000 in
set_option maxHeartbeats 1000000 in
theorem mapDelete_any (g : Nat) (cb : Array Value) (c : Int → Int → Int) (I : World → Prop) (K : Nat → Prop) (ho : OrdFn g cb c I K) (w : World) (M : Nat) (t : Tr Int SV) (key : Int) (h : IsMap w M g cb t) (hm : t.many ≤ 70368744177664) (hi : I w) (hk : ∀ x ∈ t.blocks, ¬ K x) (kM : ¬ K M) :
    Calls Try.prog 146 #[.pointer (some ⟨M, 0, none⟩), .int .u64 key] w fun e w' =>
      e = .returned (.tuple #[.slice ((Tr.get c key t).getD ((none, 0, 0) : SV)).1 ((Tr.get c key t).getD ((none, 0, 0) : SV)).2.1 ((Tr.get c key t).getD ((none, 0, 0) : SV)).2.2, .bool (Tr.get c key t).isSome]) ∧ IsMap w' M g cb (Tr.cut c key t) ∧ Wrote (fun x => x = M ∨ x ∈ t.blocks) w w' ∧ I w' := by
  obtain ⟨W1, hW1⟩ : ∃ W1, W1 = w.alloc (.cells #[.slice none 0 0] 65) := ⟨_, rfl⟩
  obtain ⟨O, hO⟩ : ∃ O, O = w.heap.size := ⟨_, rfl⟩
  have hb1 : Below w.heap.size w W1 := by rw [hW1]; exact (Below.refl _ w).alloc (Nat.le_refl _) _
  have o1 : W1.cell? ⟨O, 0, none⟩ = some (.slice none 0 0) := by rw [hW1, hO]; simp
  have f1 : W1.frozen? ⟨O, 0, none⟩ = false := by rw [hW1, hO]; exact World.frozen?_alloc_new w _ _ 0
  have h1 := h.below hb1
  have hlt := h.held.lt
  have hOt : O ∉ t.blocks := fun hx => by have := hlt O hx; omega
  have i1 : I W1 := ho.keep (fun _ => False) _ _ (Wrote.below hb1) (fun _ h => h.elim) hi
  have hML := h.lt
  have c1w := h.root
  have HB := hid hb1
  have HO := hid hO
  have HW1 := hid hW1
  have HND := hid h.nodup
  have HKM := hid kM
  have HKT := hid hk
  have HI := hid hi
  have H1 := hid h1
  have HMO := hid h.out
  cases t with
  | nil =>
    have c1n : w.cell? ⟨M, 1, none⟩ = some (.pointer none) := c1w
    clear h1 hb1 hW1 hOt i1 hi h hk hlt o1 f1 c1w kM
    go_enter Try.func146, Try.ntmps146
    go_wp2_with fail
    go_ret2
    rw [← HW1.out]
    exact ⟨rfl, H1.out, Wrote.below HB.out, ho.keep (fun _ => False) _ _ (Wrote.below HB.out) (fun _ h => h.elim) HI.out⟩
  | node b l k v r =>
    have HPUT := hid (cut_any g cb c I K ho key O (.node b l k v r) W1.drew ((none, 0, 0) : SV) (h1.held.drewN 1) h1.nodup h1.bal hm hOt o1 f1 (ho.keep (fun _ => False) _ _ ((Wrote.refl _ W1).drewN 1) (fun _ h => h.elim) i1) hk)
    have HBal := hid h.bal
    have HCB := hid (Tr.cut_blocks (c := c) key h.bal)
    have HCN := hid (Tr.cut_nodup (c := c) key h.bal h.nodup)
    have HCBal := hid (Tr.cut_bal (c := c) key h.bal).1
    have c1n : w.cell? ⟨M, 1, none⟩ = some (.pointer (some ⟨b, 0, none⟩)) := c1w
    have c0w : w.cell? ⟨M, 0, none⟩ = some (.func (.func g) #[] cb) := h.ord
    clear h1 hb1 hW1 hOt i1 hi h hO hk hlt o1 f1 c1w kM
    go_enter Try.func146, Try.ntmps146
    go_wp2_with fail
    rw [← HW1.out, ← HO.out]
    have c0 : W1.cell? ⟨M, 0, none⟩ = some (.func (.func g) #[] cb) := H1.out.ord
    have c1 : W1.cell? ⟨M, 1, none⟩ = some (.pointer (some ⟨b, 0, none⟩)) := H1.out.root
    have hMn : ¬ (M = O ∨ M ∈ (Tr.node b l k v r).blocks) := by
      rintro (e | e)
      · have := HO.out; omega
      · exact HMO.out e
    have HMn := hid hMn
    have f1M := H1.out.fz
    clear hMn c0w c1n
    go_region_with (go_at_call 167; refine HPUT.out.mono ?_; rintro e W3 ⟨rfl, g2, g3, g4⟩; have r3 := g3.cell HMn.out H1.out.root; have f3 := (g3.fz ⟨M, 1, none⟩ H1.out.lt).trans f1M; have G2 := hid g2; have G3 := hid g3; clear g2 g3)
    all_goals
      have q3 := G3.out.cell HMn.out H1.out.ord
      generalize hW4 : World.setCell W3 _ _ = W4
      have hMO : M ≠ O := fun e => HMn.out (.inl e)
      have hput : M ∉ (Tr.cut c key (.node b l k v r)).blocks := fun h => HMn.out (.inr (HCB.out M h))
      have o4 : W4.cell? ⟨O, 0, none⟩ = some (.slice ((Tr.get c key (.node b l k v r)).getD ((none, 0, 0) : SV)).1 ((Tr.get c key (.node b l k v r)).getD ((none, 0, 0) : SV)).2.1 ((Tr.get c key (.node b l k v r)).getD ((none, 0, 0) : SV)).2.2) := by rw [← hW4]; exact (World.cell?_setCell_other _ _ _ _ (fun e => hMO (by injection e))).trans g4
      have m4 : IsMap W4 M g cb (Tr.cut c key (.node b l k v r)) := by
        rw [← hW4]
        exact ⟨(World.cell?_setCell_other _ _ _ _ (by simp)).trans q3, World.cell?_setCell_same _ _ _ r3, (World.frozen?_setCell ..).trans f3, G2.out.setCell (p := ⟨M, 1, none⟩) hput _, HCN.out, HCBal.out, hput⟩
      have w4 : Wrote (fun x => x = M ∨ x ∈ (Tr.node b l k v r).blocks) w W4 := by
        rw [← hW4]
        refine Wrote.setCell (p := ⟨M, 1, none⟩) ?_ (.inl (.inl rfl)) _
        exact Wrote.step ((Wrote.below HB.out).drewN 1) G3.out (by
          rintro x (rfl | hx)
          · exact .inr (by have := HO.out; omega)
          · exact .inl (.inr hx))
      have O4 := hid o4
      have M4 := hid m4
      have W4' := hid w4
      have hi4 := hid (ho.keep _ _ _ w4 (by
        rintro x (rfl | hx)
        · exact HKM.out
        · exact HKT.out x hx) HI.out)
      clear hW4 m4 w4 q3 g4 hput hMO
      go_wp2_with fail
      go_ret2
      exact ⟨rfl, M4.out.wrote (S := fun _ => False) (by first | exact Wrote.refl _ _ | exact (Wrote.refl _ _).drew | exact (Wrote.refl _ _).drewN _) id (fun _ _ => id), by first | exact W4'.out | exact W4'.out.drew | exact W4'.out.drewN _, ho.keep _ _ _ (show Wrote (fun _ => False) W4 _ from by first | exact Wrote.refl _ _ | exact (Wrote.refl _ _).drew | exact (Wrote.refl _ _).drewN _) (fun _ h => h.elim) hi4.out⟩
end TU
end Go.Proofs.Ytfjeagffdijcoaa
namespace Go.Proofs.Ytfjeagffdijcoaa
namespace TU
open Go.RowKit Go.Shelf

theorem IsMap.drewN {w : World} {M g : Nat} {cb : Array Value} {t : Tr Int SV} (h : IsMap w M g cb t) (q : Nat) : IsMap (w.drewN q) M g cb t := h.wrote (S := fun _ => False) ((Wrote.refl _ w).drewN q) id (fun _ _ => id)

theorem told_nil (w : World) : Calls Try.prog 145 #[.pointer none] w fun e w' => e = .returned (.tuple #[.int .u64 0, .slice none 0 0, .bool false]) ∧ w' = w := by
  go_enter Try.func145, Try.ntmps145
  go_wp2_with fail
  refine bodyPost_ret (results_tmp3 rfl _ _ _) rfl ?_
  exact ⟨rfl, rfl⟩

theorem told_any (w : World) (b : Nat) (k : Int) (v : SV) (l r : Value) (h n : Int) (hn : NodeAt w b (ek k) (ev v) l r h n) : Calls Try.prog 145 #[.pointer (some ⟨b, 0, none⟩)] w fun e w' => e = .returned (.tuple #[.int .u64 k, .slice v.1 v.2.1 v.2.2, .bool true]) ∧ ∃ q, w' = w.drewN q := by
  have c0 := hn.c0
  have c1 := hn.c1
  clear hn
  go_enter Try.func145, Try.ntmps145
  go_wp2_with fail
  go_quiet (fail)
  go_wp2_with fail
  refine bodyPost_ret (results_tmp3 rfl _ _ _) rfl ?_
  exact ⟨rfl, _, rfl⟩

set_option maxRecDepth 100000 in
set_option maxHeartbeats 1000000 in
theorem mapAt_any (w : World) (M g : Nat) (cb : Array Value) (t : Tr Int SV) (h : IsMap w M g cb t) (hm : t.many ≤ 70368744177664) (i : Nat) (kk : Int) (vv : SV) (hi : t.pairs[i]? = some (kk, vv)) : Calls Try.prog 109 #[.pointer (some ⟨M, 0, none⟩), .int .i64 i] w fun e w' =>
    e = .returned (.tuple #[.int .u64 kk, .slice vv.1 vv.2.1 vv.2.2, .bool true]) ∧ ∃ q, w' = w.drewN q := by
  have c1 := h.root
  have hlen : i < t.many := by rw [Tr.many_pairs]; exact (List.getElem?_eq_some_iff.1 hi).1
  have H := hid h
  have HI := hid hi
  have hb1 : decide ((i : Int) < 0) = false := by simp
  have hb2 : decide (t.many ≤ i) = false := by simpa using hlen
  have hb3 : decide ((t.many : Int) ≤ (i : Int)) = false := by simpa using hlen
  clear h hi hlen
  go_enter Try.func109, Try.ntmps109
  go_wp2_with (go_at_call 135; refine (count_any w t H.out.held).mono ?_; rintro e w1 ⟨rfl, hw1⟩; obtain rfl : w = w1 := hw1.symm)
  clear hb1 hb2 hb3
  go_loopg [1, 7] t.high (fun gx si sn wr => ∃ (sub : Tr Int SV) (j : Nat), sn = .pointer sub.addr ∧ si = .int .i64 j ∧ Hid (Held ek ev wr sub) ∧ Hid (sub.pairs[j]? = some (kk, vv)) ∧ sub.high ≤ gx ∧ sub.many ≤ 70368744177664 ∧ wr = w)
  case atStart => exact ⟨t, i, rfl, rfl, hid H.out.held, HI, Nat.le_refl _, hm, rfl⟩
  case round =>
    obtain ⟨sub, j, rfl, rfl, HH, HJ, hh, hmm, rfl⟩ := hrel
    cases sub with
    | nil => exact absurd HJ.out (by simp [Tr.pairs])
    | node b l k v r =>
      have hadr : (Tr.node b l k v r).addr = some ⟨b, 0, none⟩ := rfl
      have c2 := HH.out.1.c2
      have c3 := HH.out.1.c3
      have hml : l.many + r.many ≤ 70368744177663 := by simp only [Tr.many] at hmm; omega
      have hjm : j < 1 + l.many + r.many := by
        have := (List.getElem?_eq_some_iff.1 HJ.out).1
        rw [← Tr.many_pairs] at this
        simpa [Tr.many] using this
      have hpl : l.pairs.length = l.many := (Tr.many_pairs l).symm
      have HJ2 : Hid ((l.pairs ++ (k, v) :: r.pairs)[j]? = some (kk, vv)) := HJ.out
      have hhl : l.high + 1 ≤ (Tr.node b l k v r).high ∧ r.high + 1 ≤ (Tr.node b l k v r).high := by simp only [Tr.high]; omega
      clear hmm
      rcases Nat.lt_trichotomy j l.many with g1 | g1 | g1
      · have hne : ((j : Int) != (l.many : Int)) = true := by simpa using (by omega : (j : Int) ≠ l.many)
        have hlt : (j : Int) < (l.many : Int) := by omega
        have HR : Hid (l.pairs[j]? = some (kk, vv)) := by show _ = _; rw [← HJ2.out, List.getElem?_append_left (by omega)]
        go_wp2_with (go_at_call 135; refine (count_any _ l HH.out.2.1).mono ?_; rintro e w1 ⟨rfl, rfl⟩)
        go_roundg l.high
        case measure => omega
        case rel => exact ⟨l, j, rfl, rfl, hid HH.out.2.1, HR, Nat.le_refl _, by omega, rfl⟩
      · have hne : ((j : Int) != (l.many : Int)) = false := by simpa using (by omega : (j : Int) = l.many)
        have HR : Hid (k = kk ∧ v = vv) := by
          have := HJ2.out
          rw [List.getElem?_append_right (by omega), show j - l.pairs.length = 0 by omega] at this
          exact (by simpa using this : k = kk ∧ v = vv)
        have HN := hid HH.out.1
        clear g1
        go_wp2_with (first | (go_at_call 135; refine (count_any _ l HH.out.2.1).mono ?_; rintro e w1 ⟨rfl, rfl⟩) | (go_at_call 145; refine (told_any _ b k v _ _ _ _ HN.out).mono ?_; rintro e w1 ⟨rfl, q, rfl⟩))
        refine bodyPost_ret (results_tmp3 rfl _ _ _) rfl ?_
        obtain ⟨rfl, rfl⟩ := HR.out
        exact ⟨rfl, q, rfl⟩
      · have hne : ((j : Int) != (l.many : Int)) = true := by simpa using (by omega : (j : Int) ≠ l.many)
        have hlt : ¬ (j : Int) < (l.many : Int) := by omega
        have HR : Hid (r.pairs[j - (l.many + 1)]? = some (kk, vv)) := by
          show _ = _
          rw [← HJ2.out, List.getElem?_append_right (by omega), show j - l.pairs.length = (j - (l.many + 1)) + 1 by omega]
          rfl
        have hw1 : IntKind.i64.wrap ((l.many : Int) + 1) = (l.many : Int) + 1 := wrap_small _ (by omega) (by omega)
        have hw2 : IntKind.i64.wrap ((j : Int) - ((l.many : Int) + 1)) = (j : Int) - ((l.many : Int) + 1) := wrap_mid _ (by omega) (by omega)
        go_wp2_with (go_at_call 135; refine (count_any _ l HH.out.2.1).mono ?_; rintro e w1 ⟨rfl, rfl⟩)
        go_roundg r.high
        case measure => omega
        case rel => exact ⟨r, j - (l.many + 1), rfl, by first | (congr 1; omega) | go_num, hid HH.out.2.2, HR, Nat.le_refl _, by omega, rfl⟩
end TU
end Go.Proofs.Ytfjeagffdijcoaa
namespace Go.Proofs.Ytfjeagffdijcoaa
namespace TU
open Go.RowKit Go.Shelf

set_option maxRecDepth 100000 in
set_option maxHeartbeats 1000000 in
theorem mapGet_any (g : Nat) (cb : Array Value) (c : Int → Int → Int) (I : World → Prop) (K : Nat → Prop) (ho : OrdFn g cb c I K) (w : World) (M : Nat) (t : Tr Int SV) (key : Int) (h : IsMap w M g cb t) (hi : I w) :
    Calls Try.prog 93 #[.pointer (some ⟨M, 0, none⟩), .int .u64 key] w fun e w' =>
      e = .returned (.tuple #[.slice ((Tr.get c key t).getD ((none, 0, 0) : SV)).1 ((Tr.get c key t).getD ((none, 0, 0) : SV)).2.1 ((Tr.get c key t).getD ((none, 0, 0) : SV)).2.2, .bool (Tr.get c key t).isSome]) ∧ ∃ q, w' = w.drewN q := by
  have eg := ho.eg
  have c1 := h.root
  have H := hid h
  have HI := hid hi
  have HG : Hid (Tr.get c key t = Tr.get c key t) := hid rfl
  clear h hi
  go_enter Try.func93, Try.ntmps93
  go_wp2_with fail
  go_loopg [6] t.high (fun gx sn wr => ∃ (sub : Tr Int SV) (q : Nat), sn = .pointer sub.addr ∧ Hid (Held ek ev wr sub) ∧ Hid (Tr.get c key sub = Tr.get c key t) ∧ sub.high ≤ gx ∧ wr = w.drewN q)
  case atStart => exact ⟨t, 0, rfl, hid H.out.held, hid rfl, Nat.le_refl _, rfl⟩
  case round =>
    obtain ⟨sub, q, rfl, HH, HJ, hh, rfl⟩ := hrel
    cases sub with
    | nil =>
      have hadr : (Tr.nil : Tr Int SV).addr = none := rfl
      have hn : Hid (Tr.get c key t = none) := by show _ = _; rw [← HJ.out]; rfl
      go_wp2_with fail
      go_ret2
      exact ⟨by rw [hn.out]; rfl, q, rfl⟩
    | node b l k v r =>
      have hadr : (Tr.node b l k v r).addr = some ⟨b, 0, none⟩ := rfl
      have hhl : l.high + 1 ≤ (Tr.node b l k v r).high ∧ r.high + 1 ≤ (Tr.node b l k v r).high := by simp only [Tr.high]; omega
      generalize hWq : w.drewN q = Wq at *
      have hWI : I Wq := ho.keep (fun _ => False) _ _ (show Wrote (fun _ => False) w Wq by rw [← hWq]; exact (Wrote.refl _ w).drewN _) (fun _ h => h.elim) HI.out
      have i2 : I Wq.drew := ho.keep (fun _ => False) _ _ ((Wrote.refl _ Wq).drew) (fun _ h => h.elim) hWI
      obtain ⟨cv, hcv⟩ : ∃ cv, c key k = cv := ⟨_, rfl⟩
      have hcl := ho.call Wq.drew key k i2
      rw [hcv] at hcl
      have HCL := hid hcl
      have HCV := hid hcv
      have c0M : Wq.cell? ⟨M, 0, none⟩ = some (.func (.func g) #[] cb) := by rw [← hWq]; exact H.out.ord
      have n0 := HH.out.1.c0
      have HWQ := hid hWq
      clear i2 hcl hcv hWI hWq
      go_wp2_with fail
      go_still_tail 9, (by kernel_rfl)
      change wpList _ _ _ _ _ (World.drew Wq)
      go_wp2_with fail
      refine HCL.out.mono ?_
      rintro e w1 ⟨rfl, q2, rfl⟩
      have HH2 : Hid (Held ek ev (Wq.drew.drewN q2) (.node b l k v r)) := (HH.out.drewN 1).drewN q2
      have HW2 : Hid (∃ q', Wq.drew.drewN q2 = w.drewN q') := ⟨q + 1 + q2, by rw [← HWQ.out, ← World.drewN_drewN, ← World.drewN_drewN]; rfl⟩
      clear HH
      have d1 := HH2.out.1.c1
      have d2 := HH2.out.1.c2
      have d3 := HH2.out.1.c3
      generalize Wq.drew.drewN q2 = Wz at *
      obtain ⟨qz, hqz⟩ := HW2.out
      have HQZ := hid hqz
      clear hqz
      rcases Int.lt_trichotomy cv 0 with g1 | g1 | g1
      · have HG2 : Hid (Tr.get c key l = Tr.get c key t) := by show _ = _; rw [← HJ.out]; show _ = (if c key k < 0 then _ else _); rw [if_pos (by rw [HCV.out]; exact g1)]
        go_wp2_with fail
        go_roundg l.high
        case measure => omega
        case rel => exact ⟨l, qz, rfl, hid HH2.out.2.1, HG2, Nat.le_refl _, HQZ.out⟩
      · have HG2 : Hid (Tr.get c key t = some v) := by show _ = _; rw [← HJ.out]; show (if c key k < 0 then _ else if 0 < c key k then _ else _) = _; rw [if_neg (by rw [HCV.out]; omega), if_neg (by rw [HCV.out]; omega)]
        go_wp2_with fail
        go_ret2
        exact ⟨by rw [HG2.out]; rfl, qz, HQZ.out⟩
      · have HG2 : Hid (Tr.get c key r = Tr.get c key t) := by show _ = _; rw [← HJ.out]; show _ = (if c key k < 0 then _ else if 0 < c key k then _ else _); rw [if_neg (by rw [HCV.out]; omega), if_pos (by rw [HCV.out]; exact g1)]
        go_wp2_with fail
        go_roundg r.high
        case measure => omega
        case rel => exact ⟨r, qz, rfl, hid HH2.out.2.2, HG2, Nat.le_refl _, HQZ.out⟩
end TU
end Go.Proofs.Ytfjeagffdijcoaa
