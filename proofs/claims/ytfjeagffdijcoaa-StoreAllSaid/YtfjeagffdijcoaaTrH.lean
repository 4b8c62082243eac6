/- Layer 7: Delete, Len, Height of a map of ints. -/
import Derived.Test.YtfjeagffdijcoaaTrF
namespace Go.Proofs.Ytfjeagffdijcoaa
namespace TI
open Go.RowKit Go.Shelf

theorem mapLen_any (w : World) (M g : Nat) (cb : Array Value) (t : Tr Int Int) (h : IsMap w M g cb t) : Calls Try.prog 22 #[.pointer (some ⟨M, 0, none⟩)] w fun e w' => e = .returned (.int .i64 t.many) ∧ w' = w := by
  have c1 := h.root
  have H := hid h
  clear h
  go_enter Try.func22, Try.ntmps22
  go_wp2_with fail
  refine (count_any w t H.out.held).mono ?_
  rintro e w1 ⟨rfl, rfl⟩
  go_wp2_with fail
  refine bodyPost_ret (results_tmp rfl _ _ _) rfl ?_
  exact ⟨rfl, rfl⟩

theorem mapHeight_any (w : World) (M g : Nat) (cb : Array Value) (t : Tr Int Int) (h : IsMap w M g cb t) : Calls Try.prog 32 #[.pointer (some ⟨M, 0, none⟩)] w fun e w' => e = .returned (.int .i64 t.high) ∧ w' = w := by
  have c1 := h.root
  have H := hid h
  clear h
  go_enter Try.func32, Try.ntmps32
  go_wp2_with fail
  refine (height_any w t H.out.held).mono ?_
  rintro e w1 ⟨rfl, rfl⟩
  go_wp2_with fail
  refine bodyPost_ret (results_tmp rfl _ _ _) rfl ?_
  exact ⟨rfl, rfl⟩

set_option maxRecDepth 100000 in
set_option maxHeartbeats 1000000 in
theorem mapDelete_any (g : Nat) (cb : Array Value) (c : Int → Int → Int) (I : World → Prop) (K : Nat → Prop) (ho : OrdFn g cb c I K) (w : World) (M : Nat) (t : Tr Int Int) (key : Int) (h : IsMap w M g cb t) (hm : t.many ≤ 70368744177664) (hi : I w) (hk : ∀ x ∈ t.blocks, ¬ K x) (kM : ¬ K M) :
    Calls Try.prog 34 #[.pointer (some ⟨M, 0, none⟩), .int .i64 key] w fun e w' =>
      e = .returned (.tuple #[.int .i64 ((Tr.get c key t).getD 0), .bool (Tr.get c key t).isSome]) ∧ IsMap w' M g cb (Tr.cut c key t) ∧ Wrote (fun x => x = M ∨ x ∈ t.blocks) w w' ∧ I w' := by
  obtain ⟨W1, hW1⟩ : ∃ W1, W1 = w.alloc (.cells #[.int .i64 0] 3) := ⟨_, rfl⟩
  obtain ⟨O, hO⟩ : ∃ O, O = w.heap.size := ⟨_, rfl⟩
  have hb1 : Below w.heap.size w W1 := by rw [hW1]; exact (Below.refl _ w).alloc (Nat.le_refl _) _
  have o1 : W1.cell? ⟨O, 0, none⟩ = some (.int .i64 0) := by rw [hW1, hO]; simp
  have f1 : W1.frozen? ⟨O, 0, none⟩ = false := by rw [hW1, hO]; exact World.frozen?_alloc_new w _ _ 0
  have h1 := h.below hb1
  have hlt := h.held.lt
  have hOt : O ∉ t.blocks := fun hx => by have := hlt O hx; omega
  have i1 : I W1 := ho.keep (fun _ => False) _ _ (Wrote.below hb1) (fun _ h => h.elim) hi
  have hML := h.lt
  have c1w := h.root
  have HB := hid hb1
  have HO := hid hO
  have HW1 := hid hW1
  have HND := hid h.nodup
  have HKM := hid kM
  have HKT := hid hk
  have HI := hid hi
  have H1 := hid h1
  have HMO := hid h.out
  cases t with
  | nil =>
    have c1n : w.cell? ⟨M, 1, none⟩ = some (.pointer none) := c1w
    clear h1 hb1 hW1 hOt i1 hi h hk hlt o1 f1 c1w kM
    go_enter Try.func34, Try.ntmps34
    go_wp2_with fail
    go_ret2
    rw [← HW1.out]
    exact ⟨rfl, H1.out, Wrote.below HB.out, ho.keep (fun _ => False) _ _ (Wrote.below HB.out) (fun _ h => h.elim) HI.out⟩
  | node b l k v r =>
    have HPUT := hid (cut_any g cb c I K ho key O (.node b l k v r) W1.drew 0 (h1.held.drewN 1) h1.nodup h1.bal hm hOt o1 f1 (ho.keep (fun _ => False) _ _ ((Wrote.refl _ W1).drewN 1) (fun _ h => h.elim) i1) hk)
    have HBal := hid h.bal
    have HCB := hid (Tr.cut_blocks (c := c) key h.bal)
    have HCN := hid (Tr.cut_nodup (c := c) key h.bal h.nodup)
    have HCBal := hid (Tr.cut_bal (c := c) key h.bal).1
    have c1n : w.cell? ⟨M, 1, none⟩ = some (.pointer (some ⟨b, 0, none⟩)) := c1w
    have c0w : w.cell? ⟨M, 0, none⟩ = some (.func (.func g) #[] cb) := h.ord
    clear h1 hb1 hW1 hOt i1 hi h hO hk hlt o1 f1 c1w kM
    go_enter Try.func34, Try.ntmps34
    go_wp2_with fail
    rw [← HW1.out, ← HO.out]
    have c0 : W1.cell? ⟨M, 0, none⟩ = some (.func (.func g) #[] cb) := H1.out.ord
    have c1 : W1.cell? ⟨M, 1, none⟩ = some (.pointer (some ⟨b, 0, none⟩)) := H1.out.root
    have hMn : ¬ (M = O ∨ M ∈ (Tr.node b l k v r).blocks) := by
      rintro (e | e)
      · have := HO.out; omega
      · exact HMO.out e
    have HMn := hid hMn
    have f1M := H1.out.fz
    clear hMn c0w c1n
    go_region_with (go_at_call 91; refine HPUT.out.mono ?_; rintro e W3 ⟨rfl, g2, g3, g4⟩; have r3 := g3.cell HMn.out H1.out.root; have f3 := (g3.fz ⟨M, 1, none⟩ H1.out.lt).trans f1M; have G2 := hid g2; have G3 := hid g3; clear g2 g3)
    all_goals
      have q3 := G3.out.cell HMn.out H1.out.ord
      generalize hW4 : World.setCell W3 _ _ = W4
      have hMO : M ≠ O := fun e => HMn.out (.inl e)
      have hput : M ∉ (Tr.cut c key (.node b l k v r)).blocks := fun h => HMn.out (.inr (HCB.out M h))
      have o4 : W4.cell? ⟨O, 0, none⟩ = some (.int .i64 ((Tr.get c key (.node b l k v r)).getD 0)) := by rw [← hW4]; exact (World.cell?_setCell_other _ _ _ _ (fun e => hMO (by injection e))).trans g4
      have m4 : IsMap W4 M g cb (Tr.cut c key (.node b l k v r)) := by
        rw [← hW4]
        exact ⟨(World.cell?_setCell_other _ _ _ _ (by simp)).trans q3, World.cell?_setCell_same _ _ _ r3, (World.frozen?_setCell ..).trans f3, G2.out.setCell (p := ⟨M, 1, none⟩) hput _, HCN.out, HCBal.out, hput⟩
      have w4 : Wrote (fun x => x = M ∨ x ∈ (Tr.node b l k v r).blocks) w W4 := by
        rw [← hW4]
        refine Wrote.setCell (p := ⟨M, 1, none⟩) ?_ (.inl (.inl rfl)) _
        exact Wrote.step ((Wrote.below HB.out).drewN 1) G3.out (by
          rintro x (rfl | hx)
          · exact .inr (by have := HO.out; omega)
          · exact .inl (.inr hx))
      have O4 := hid o4
      have M4 := hid m4
      have W4' := hid w4
      have hi4 := hid (ho.keep _ _ _ w4 (by
        rintro x (rfl | hx)
        · exact HKM.out
        · exact HKT.out x hx) HI.out)
      clear hW4 m4 w4 q3 g4 hput hMO
      go_wp2_with fail
      go_ret2
      exact ⟨rfl, M4.out.wrote (S := fun _ => False) (by first | exact Wrote.refl _ _ | exact (Wrote.refl _ _).drew | exact (Wrote.refl _ _).drewN _) id (fun _ _ => id), by first | exact W4'.out | exact W4'.out.drew | exact W4'.out.drewN _, ho.keep _ _ _ (show Wrote (fun _ => False) W4 _ from by first | exact Wrote.refl _ _ | exact (Wrote.refl _ _).drew | exact (Wrote.refl _ _).drewN _) (fun _ h => h.elim) hi4.out⟩
end TI
end Go.Proofs.Ytfjeagffdijcoaa
