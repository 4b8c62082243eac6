/- Layer 7: the walk of cut: ints. -/
import Derived.Test.YtfjeagffdijcoaaTrD
namespace Go.Proofs.Ytfjeagffdijcoaa

namespace Tr
variable {κ ν : Type} {c : κ → κ → Int}
theorem cut_many (key : κ) {t : Tr κ ν} (hb : t.bal) : (cut c key t).many ≤ t.many := by
  induction t with
  | nil => exact Nat.le_refl _
  | node b l k v r hl hr =>
    obtain ⟨b1, b2, b3, b4⟩ := hb
    have h1 := hl b1
    have h2 := hr b2
    have h3 := (join_spec b1 b2 b3 b4).2.2.2.2.length_eq
    rw [blocks_many, List.length_append, blocks_many, blocks_many] at h3
    unfold cut
    split
    · rw [level_many]; simp only [many]; omega
    · split
      · rw [level_many]; simp only [many]; omega
      · simp only [many]; omega
end Tr

namespace TI
open Go.RowKit

set_option maxRecDepth 100000 in
set_option maxHeartbeats 2000000 in
theorem cut_any (g : Nat) (cb : Array Value) (c : Int → Int → Int) (I : World → Prop) (K : Nat → Prop) (ho : OrdFn g cb c I K) (key : Int) (O : Nat) : ∀ (t : Tr Int Int) (w : World) (old : Int), Held ek ev w t → t.blocks.Nodup → t.bal → t.many ≤ 70368744177664 → O ∉ t.blocks →
    w.cell? ⟨O, 0, none⟩ = some (.int .i64 old) → w.frozen? ⟨O, 0, none⟩ = false → I w → (∀ x ∈ t.blocks, ¬ K x) →
    Calls Try.prog 91 #[t.ptr, ordV g cb, .int .i64 key, .pointer (some ⟨O, 0, none⟩)] w fun e w' =>
      e = .returned (.tuple #[(Tr.cut c key t).ptr, .bool (Tr.get c key t).isSome]) ∧ Held ek ev w' (Tr.cut c key t) ∧ Wrote (fun x => x = O ∨ x ∈ t.blocks) w w' ∧
        w'.cell? ⟨O, 0, none⟩ = some (.int .i64 ((Tr.get c key t).getD old)) := by
  intro t
  have eg := ho.eg
  induction t with
  | nil =>
    intro w old _ _ _ _ _ hO _ _ _
    have HO := hid hO
    clear hO
    show Calls _ _ #[.pointer none, _, _, _] _ _
    go_enter Try.func91, Try.ntmps91
    go_wp2_with fail
    go_ret2
    exact ⟨rfl, trivial, Wrote.refl _ _, HO.out⟩
  | node b l k v r ihl ihr =>
    intro w old hh hd hb hm hO hc hf hi hk
    have HH := hid hh
    have HD := hid hd
    have HBal := hid hb
    have HK := hid hk
    have HI := hid hi
    have hkey := hh.1.c0
    have hcl := ho.call w key k hi
    have HO := hid hO
    have hm2 : l.many ≤ 70368744177663 ∧ r.many ≤ 70368744177663 ∧ l.many + r.many ≤ 70368744177663 := by simp only [Tr.many] at hm; omega
    have IL := hid ihl
    have IR := hid ihr
    have HC := hid hc
    have HF := hid hf
    obtain ⟨cv, hcv⟩ : ∃ cv, c key k = cv := ⟨_, rfl⟩
    rw [hcv] at hcl
    have HCV := hid hcv
    have HCL := hid hcl
    clear hh hd hb hk hi hO hc hf ihl ihr hcl hcv hm
    show Calls _ _ #[.pointer (some ⟨b, 0, none⟩), _, _, _] _ _
    go_enter Try.func91, Try.ntmps91
    go_wp2_with fail
    refine HCL.out.mono ?_
    rintro e w1 ⟨rfl, q, rfl⟩
    generalize hW : World.drewN w q = W
    have sz : w.heap.size = W.heap.size := by rw [← hW]; rfl
    have H1 : Held ek ev W (.node b l k v r) := by rw [← hW]; exact HH.out.drewN q
    have w1 : Wrote (fun x => x = O ∨ x ∈ (Tr.node b l k v r).blocks) w W := by rw [← hW]; exact (Wrote.refl _ w).drewN q
    have o1 : W.cell? ⟨O, 0, none⟩ = some (.int .i64 old) := by rw [← hW]; exact HC.out
    have hOl := World.block_lt_of_cell? _ _ o1
    simp only at hOl
    have f1 : W.frozen? ⟨O, 0, none⟩ = false := by rw [← hW]; exact HF.out
    have i1 : I W := ho.keep _ _ _ (show Wrote (fun _ => False) w W by rw [← hW]; exact (Wrote.refl _ w).drewN q) (fun _ h => h.elim) HI.out
    clear hW HH HC HF HI HCL
    have hd := HD.out
    simp only [Tr.blocks, List.nodup_cons, List.nodup_append, List.mem_append, not_or] at hd
    have hO := HO.out
    simp only [Tr.blocks, List.mem_cons, List.mem_append, not_or] at hO
    have hK : (¬ K b) ∧ (∀ x ∈ l.blocks, ¬ K x) ∧ (∀ x ∈ r.blocks, ¬ K x) := ⟨HK.out b (by simp [Tr.blocks]), fun x hx => HK.out x (by simp [Tr.blocks, hx]), fun x hx => HK.out x (by simp [Tr.blocks, hx])⟩
    rcases Int.lt_trichotomy cv 0 with g1 | g1 | g1
    · have HE : Hid (Tr.cut c key (.node b l k v r) = Tr.level b (Tr.cut c key l) k v r) := by show (if c key k < 0 then _ else _) = _; rw [if_pos (by rw [HCV.out]; exact g1)]
      have HG : Hid (Tr.get c key (.node b l k v r) = Tr.get c key l) := by show (if c key k < 0 then _ else _) = _; rw [if_pos (by rw [HCV.out]; exact g1)]
      have hc := IL.out W old H1.2.1 hd.2.1 HBal.out.1 (by omega) hO.2.1 o1 f1 i1 hK.2.1
      have c2 := H1.1.c2
      have HC := hid hc
      have H2 := hid H1
      have W1 := hid w1
      have HDD := hid hd
      have HOO := hid hO
      have HKK := hid hK
      clear hc H1 w1 o1 f1 i1 hd hO hK
      go_wp2_with fail
      refine HC.out.mono ?_
      rintro e W3 ⟨rfl, g3, g4, g5⟩
      have n3 : NodeAt W3 b (ek k) (ev v) l.ptr r.ptr _ _ := H2.out.1.wrote g4 (fun e => e.elim (fun e => HOO.out.1 e.symm) HDD.out.1.1)
      have r3 : Held ek ev W3 r := H2.out.2.2.wrote g4 (fun x hx e => e.elim (fun e => HOO.out.2.2 (e ▸ hx)) (fun e => HDD.out.2.2.2 x e x hx rfl))
      have c3 := n3.c2
      have f3 := n3.fz 2
      have N3 := hid n3
      have R3 := hid r3
      have L3 := hid g3
      have O3 := hid g5
      have W2 := hid (W1.out.step g4 (fun x hx => .inl (hx.imp id (fun hx => by simp [Tr.blocks, hx]))))
      clear g3 g4 g5 n3 r3 HC
      go_wp2_with fail
      generalize hW4 : World.setCell W3 _ _ = W4
      have n4 := N3.out.set2 (Tr.cut c key l).ptr
      rw [show W3.setCell ⟨b, 2, none⟩ (Tr.cut c key l).ptr = W4 from hW4] at n4
      have hbl : b ∉ (Tr.cut c key l).blocks := fun h => HDD.out.1.1 (Tr.cut_blocks key HBal.out.1 b h)
      have l4 : Held ek ev W4 (Tr.cut c key l) := by rw [← hW4]; exact L3.out.setCell hbl _
      have r4 : Held ek ev W4 r := by rw [← hW4]; exact R3.out.setCell HDD.out.1.2 _
      have o4 : W4.cell? ⟨O, 0, none⟩ = some (.int .i64 ((Tr.get c key l).getD old)) := by rw [← hW4]; exact (World.cell?_setCell_other _ _ _ _ (fun e => HOO.out.1 (by injection e with e; exact e.symm))).trans O3.out
      have w4 : Wrote (fun x => x = O ∨ x ∈ (Tr.node b l k v r).blocks) w W4 := by rw [← hW4]; exact W2.out.setCell (p := ⟨b, 2, none⟩) (.inl (.inr (by simp [Tr.blocks]))) _
      have nd : (b :: ((Tr.cut c key l).blocks ++ r.blocks)).Nodup := by
        refine List.nodup_cons.2 ⟨fun h => (List.mem_append.1 h).elim hbl HDD.out.1.2, List.nodup_append.2 ⟨Tr.cut_nodup key HBal.out.1 HDD.out.2.1, HDD.out.2.2.1, fun x hx y hy e => HDD.out.2.2.2 x (Tr.cut_blocks key HBal.out.1 x hx) y hy e⟩⟩
      have hpm := Tr.cut_many (c := c) key HBal.out.1
      have O4 := hid o4
      have W4' := hid w4
      clear hW4 o4 w4
      refine (level_any W4 b k v (Tr.cut c key l) r _ _ n4 l4 r4 nd (by omega)).mono ?_
      rintro e W5 ⟨rfl, g3, g4⟩
      have G3 := hid g3
      have G4 := hid g4
      clear n4 l4 r4 nd g3 g4
      go_wp2_with fail
      go_ret2
      refine ⟨by rw [HE.out, HG.out]; rfl, by rw [HE.out]; exact G3.out, W4'.out.step G4.out ?_, ?_⟩
      · rintro x (rfl | hx | hx)
        · exact .inl (.inr (by simp [Tr.blocks]))
        · have hx := Tr.cut_blocks key HBal.out.1 x hx
          exact .inl (.inr (by simp [Tr.blocks, hx]))
        · exact .inl (.inr (by simp [Tr.blocks, hx]))
      · rw [HG.out]
        refine G4.out.cell ?_ O4.out
        rintro (e | hx | hx)
        · exact HOO.out.1 e
        · exact HOO.out.2.1 (Tr.cut_blocks key HBal.out.1 O hx)
        · exact HOO.out.2.2 hx
    · have HG : Hid (Tr.get c key (.node b l k v r) = some v) := by show (if c key k < 0 then _ else if 0 < c key k then _ else _) = _; rw [if_neg (by rw [HCV.out]; omega), if_neg (by rw [HCV.out]; omega)]
      have HE : Hid (Tr.cut c key (.node b l k v r) = Tr.join l r) := by show (if c key k < 0 then _ else if 0 < c key k then _ else _) = _; rw [if_neg (by rw [HCV.out]; omega), if_neg (by rw [HCV.out]; omega)]
      have c1 := H1.1.c1
      have c2 := H1.1.c2
      have hbO : O ≠ b := hO.1
      have H2 := hid H1
      have W1 := hid w1
      have HDD := hid hd
      have HOO := hid hO
      have O1 := hid o1
      cases r with
      | nil =>
        have c3 : W.cell? ⟨b, 3, none⟩ = some (.pointer none) := H1.1.c3
        clear H1 w1 i1 hd hO hK
        go_wp2_with fail
        go_ret2
        refine ⟨by rw [HE.out, HG.out]; rfl, by rw [HE.out]; exact H2.out.2.1.setCell (p := ⟨O, 0, none⟩) HOO.out.2.1 _, W1.out.setCell (p := ⟨O, 0, none⟩) (.inl (.inl rfl)) _, ?_⟩
        rw [HG.out]
        exact World.cell?_setCell_same _ _ _ O1.out
      | node rb rl rk rv rr =>
        have c3 : W.cell? ⟨b, 3, none⟩ = some (.pointer (some ⟨rb, 0, none⟩)) := H1.1.c3
        clear H1 w1 i1 hd hO hK
        obtain ⟨W2, hW2⟩ : ∃ W2, W2 = W.setCell ⟨O, 0, none⟩ (.int .i64 v) := ⟨_, rfl⟩
        have h2 : Held ek ev W2 (.node b l k v (.node rb rl rk rv rr)) := by rw [hW2]; exact H2.out.setCell (p := ⟨O, 0, none⟩) (by simp only [Tr.blocks, List.mem_cons, List.mem_append, not_or]; have := HOO.out; simp only [Tr.blocks, List.mem_cons, List.mem_append, not_or] at this; exact this) _
        have w2 : Wrote (fun x => x = O ∨ x ∈ (Tr.node b l k v (Tr.node rb rl rk rv rr)).blocks) w W2 := by rw [hW2]; exact W1.out.setCell (p := ⟨O, 0, none⟩) (.inl (.inl rfl)) _
        have o2 : W2.cell? ⟨O, 0, none⟩ = some (.int .i64 v) := by rw [hW2]; exact World.cell?_setCell_same _ _ _ O1.out
        have hfi := first_any rl rb rk rv rr W2 h2.2.2 HDD.out.2.2.1 (by omega)
        have hlb := Tr.least_blocks rl rb rk rv rr
        have hlm := Tr.least_many rl rb rk rv rr
        have hje : Tr.join l (.node rb rl rk rv rr) = Tr.level (Tr.least rb rl rk rv rr).1.1 l (Tr.least rb rl rk rv rr).1.2.1 (Tr.least rb rl rk rv rr).1.2.2 (Tr.least rb rl rk rv rr).2 := rfl
        rw [hje] at HE
        have HFI := hid hfi
        have HLB := hid hlb
        have HH2 := hid h2
        have WW2 := hid w2
        have OO2 := hid o2
        have HW2 := hid hW2
        clear hfi hlb hje h2 w2 o2 hW2
        generalize Tr.least rb rl rk rv rr = X at *
        obtain ⟨⟨xb, xk, xv⟩, xt⟩ := X
        simp only at *
        go_wp2_with fail
        rw [← HW2.out]
        refine HFI.out.mono ?_
        rintro e W3 ⟨rfl, g1, ⟨x, y, h, n, g2⟩, g3⟩
        have hdl : ∀ z ∈ l.blocks, z ∉ (Tr.node rb rl rk rv rr).blocks := fun z hz hz2 => HDD.out.2.2.2 z hz z hz2 rfl
        have n3 := HH2.out.1.wrote g3 HDD.out.1.2
        have l3 := HH2.out.2.1.wrote g3 hdl
        have hsub : ∀ z ∈ xb :: xt.blocks, z ∈ (Tr.node rb rl rk rv rr).blocks := fun z hz => HLB.out.mem_iff.1 hz
        have hnd := List.nodup_cons.1 (HLB.out.nodup_iff.2 HDD.out.2.2.1)
        have hxb : xb ∈ (Tr.node rb rl rk rv rr).blocks := hsub xb (by simp)
        have w3 : Wrote (fun x => x = O ∨ x ∈ (Tr.node b l k v (Tr.node rb rl rk rv rr)).blocks) w W3 := WW2.out.step g3 (fun z hz => .inl (.inr (List.mem_cons_of_mem _ (List.mem_append_right _ hz))))
        have o3 := g3.cell (p := ⟨O, 0, none⟩) HOO.out.2.2 OO2.out
        have m2 := n3.c2
        have u2 := g2.c2
        have u3 := g2.c3
        have v2 := g2.fz 2
        have v3 := g2.fz 3
        have G1 := hid g1
        have G2 := hid g2
        have L3 := hid l3
        have W3' := hid w3
        have O3 := hid o3
        have HS := hid hsub
        have HN := hid hnd
        have HXB := hid hxb
        have HDL := hid hdl
        clear g1 g2 g3 n3 l3 w3 o3 hsub hnd hxb hdl HFI c1 c2 c3
        go_wp2_with fail
        generalize hW4 : World.setCell (World.setCell W3 _ _) _ _ = W4
        have x4 : NodeAt W4 xb (ek xk) (ev xv) l.ptr xt.ptr h n := by rw [← hW4]; exact (G2.out.set2 _).set3 _
        have hxl : xb ∉ l.blocks := fun hz => HDL.out xb hz HXB.out
        have l4 : Held ek ev W4 l := by rw [← hW4]; exact (L3.out.setCell (p := ⟨xb, 2, none⟩) hxl _).setCell (p := ⟨xb, 3, none⟩) hxl _
        have t4 : Held ek ev W4 xt := by rw [← hW4]; exact (G1.out.setCell (p := ⟨xb, 2, none⟩) HN.out.1 _).setCell (p := ⟨xb, 3, none⟩) HN.out.1 _
        have hxO : O ≠ xb := fun e => HOO.out.2.2 (e ▸ HXB.out)
        have o4 : W4.cell? ⟨O, 0, none⟩ = some (.int .i64 v) := by rw [← hW4]; exact (World.cell?_setCell_other _ _ _ _ (fun e => hxO (by injection e with e; exact e.symm))).trans ((World.cell?_setCell_other _ _ _ _ (fun e => hxO (by injection e with e; exact e.symm))).trans O3.out)
        have hin : xb ∈ (Tr.node b l k v (Tr.node rb rl rk rv rr)).blocks := List.mem_cons_of_mem _ (List.mem_append_right _ HXB.out)
        have w4 : Wrote (fun x => x = O ∨ x ∈ (Tr.node b l k v (Tr.node rb rl rk rv rr)).blocks) w W4 := by rw [← hW4]; exact (W3'.out.setCell (p := ⟨xb, 2, none⟩) (.inl (.inr hin)) _).setCell (p := ⟨xb, 3, none⟩) (.inl (.inr hin)) _
        have nd : (xb :: (l.blocks ++ xt.blocks)).Nodup := List.nodup_cons.2 ⟨fun hz => (List.mem_append.1 hz).elim hxl HN.out.1, List.nodup_append.2 ⟨HDD.out.2.1, HN.out.2, fun z hz z2 hz2 e => HDL.out z hz (by rw [e]; exact HS.out z2 (List.mem_cons_of_mem _ hz2))⟩⟩
        have O4 := hid o4
        have W4' := hid w4
        have HXO := hid hxO
        have HIN := hid hin
        clear hW4 o4 w4 hxO hin hxl
        refine (level_any W4 xb xk xv l xt _ _ x4 l4 t4 nd (by omega)).mono ?_
        rintro e W5 ⟨rfl, g3, g4⟩
        have G3 := hid g3
        have G4 := hid g4
        clear x4 l4 t4 nd g3 g4
        go_wp2_with fail
        go_ret2
        refine ⟨by rw [HE.out, HG.out]; rfl, by rw [HE.out]; exact G3.out, W4'.out.step G4.out ?_, ?_⟩
        · rintro z (rfl | hz | hz)
          · exact .inl (.inr HIN.out)
          · exact .inl (.inr (List.mem_cons_of_mem _ (List.mem_append_left _ hz)))
          · exact .inl (.inr (List.mem_cons_of_mem _ (List.mem_append_right _ (HS.out z (List.mem_cons_of_mem _ hz)))))
        · rw [HG.out]
          refine G4.out.cell ?_ O4.out
          rintro (e | hz | hz)
          · exact HXO.out e
          · exact HOO.out.2.1 hz
          · exact HOO.out.2.2 (HS.out O (List.mem_cons_of_mem _ hz))
    · have HE : Hid (Tr.cut c key (.node b l k v r) = Tr.level b l k v (Tr.cut c key r)) := by show (if c key k < 0 then _ else if 0 < c key k then _ else _) = _; rw [if_neg (by rw [HCV.out]; omega), if_pos (by rw [HCV.out]; exact g1)]
      have HG : Hid (Tr.get c key (.node b l k v r) = Tr.get c key r) := by show (if c key k < 0 then _ else if 0 < c key k then _ else _) = _; rw [if_neg (by rw [HCV.out]; omega), if_pos (by rw [HCV.out]; exact g1)]
      have hc := IR.out W old H1.2.2 hd.2.2.1 HBal.out.2.1 (by omega) hO.2.2 o1 f1 i1 hK.2.2
      have c3 := H1.1.c3
      have HC := hid hc
      have H2 := hid H1
      have W1 := hid w1
      have HDD := hid hd
      have HOO := hid hO
      have HKK := hid hK
      clear hc H1 w1 o1 f1 i1 hd hO hK
      go_wp2_with fail
      refine HC.out.mono ?_
      rintro e W3 ⟨rfl, g3, g4, g5⟩
      have n3 : NodeAt W3 b (ek k) (ev v) l.ptr r.ptr _ _ := H2.out.1.wrote g4 (fun e => e.elim (fun e => HOO.out.1 e.symm) HDD.out.1.2)
      have l3 : Held ek ev W3 l := H2.out.2.1.wrote g4 (fun x hx e => e.elim (fun e => HOO.out.2.1 (e ▸ hx)) (fun e => HDD.out.2.2.2 x hx x e rfl))
      have c3' := n3.c3
      have f3 := n3.fz 3
      have N3 := hid n3
      have L3 := hid l3
      have R3 := hid g3
      have O3 := hid g5
      have W2 := hid (W1.out.step g4 (fun x hx => .inl (hx.imp id (fun hx => by simp [Tr.blocks, hx]))))
      clear g3 g4 g5 n3 l3 HC c3
      go_wp2_with fail
      generalize hW4 : World.setCell W3 _ _ = W4
      have n4 := N3.out.set3 (Tr.cut c key r).ptr
      rw [show W3.setCell ⟨b, 3, none⟩ (Tr.cut c key r).ptr = W4 from hW4] at n4
      have hbr : b ∉ (Tr.cut c key r).blocks := fun h => HDD.out.1.2 (Tr.cut_blocks key HBal.out.2.1 b h)
      have r4 : Held ek ev W4 (Tr.cut c key r) := by rw [← hW4]; exact R3.out.setCell hbr _
      have l4 : Held ek ev W4 l := by rw [← hW4]; exact L3.out.setCell HDD.out.1.1 _
      have o4 : W4.cell? ⟨O, 0, none⟩ = some (.int .i64 ((Tr.get c key r).getD old)) := by rw [← hW4]; exact (World.cell?_setCell_other _ _ _ _ (fun e => HOO.out.1 (by injection e with e; exact e.symm))).trans O3.out
      have w4 : Wrote (fun x => x = O ∨ x ∈ (Tr.node b l k v r).blocks) w W4 := by rw [← hW4]; exact W2.out.setCell (p := ⟨b, 3, none⟩) (.inl (.inr (by simp [Tr.blocks]))) _
      have nd : (b :: (l.blocks ++ (Tr.cut c key r).blocks)).Nodup := by
        refine List.nodup_cons.2 ⟨fun h => (List.mem_append.1 h).elim HDD.out.1.1 hbr, List.nodup_append.2 ⟨HDD.out.2.1, Tr.cut_nodup key HBal.out.2.1 HDD.out.2.2.1, fun x hx y hy e => HDD.out.2.2.2 x hx y (Tr.cut_blocks key HBal.out.2.1 y hy) e⟩⟩
      have hpm := Tr.cut_many (c := c) key HBal.out.2.1
      have O4 := hid o4
      have W4' := hid w4
      clear hW4 o4 w4
      refine (level_any W4 b k v l (Tr.cut c key r) _ _ n4 l4 r4 nd (by omega)).mono ?_
      rintro e W5 ⟨rfl, g3, g4⟩
      have G3 := hid g3
      have G4 := hid g4
      clear n4 l4 r4 nd g3 g4
      go_wp2_with fail
      go_ret2
      refine ⟨by rw [HE.out, HG.out]; rfl, by rw [HE.out]; exact G3.out, W4'.out.step G4.out ?_, ?_⟩
      · rintro x (rfl | hx | hx)
        · exact .inl (.inr (by simp [Tr.blocks]))
        · exact .inl (.inr (by simp [Tr.blocks, hx]))
        · have hx := Tr.cut_blocks key HBal.out.2.1 x hx
          exact .inl (.inr (by simp [Tr.blocks, hx]))
      · rw [HG.out]
        refine G4.out.cell ?_ O4.out
        rintro (e | hx | hx)
        · exact HOO.out.1 e
        · exact HOO.out.2.1 hx
        · exact HOO.out.2.2 (Tr.cut_blocks key HBal.out.2.1 O hx)
end TI
end Go.Proofs.Ytfjeagffdijcoaa
