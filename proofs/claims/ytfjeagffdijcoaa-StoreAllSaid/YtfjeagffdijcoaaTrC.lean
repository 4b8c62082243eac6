/- Layer 7: the walk of put: ints. -/
import Derived.Test.YtfjeagffdijcoaaTrB
namespace Go.Proofs.Ytfjeagffdijcoaa

namespace Tr
variable {κ ν : Type} {c : κ → κ → Int}
theorem put_mem (key : κ) (val : ν) (nb : Nat) (t : Tr κ ν) : ∀ x ∈ (put c key val nb t).blocks, x = nb ∨ x ∈ t.blocks := by
  intro x hx
  rcases put_blocks (c := c) key val nb (t := t) with h | h
  · exact .inr (h.mem_iff.1 hx)
  · exact List.mem_cons.1 (h.mem_iff.1 hx)
theorem put_nodup (key : κ) (val : ν) (nb : Nat) {t : Tr κ ν} (hn : nb ∉ t.blocks) (hd : t.blocks.Nodup) : (put c key val nb t).blocks.Nodup := by
  rcases put_blocks (c := c) key val nb (t := t) with h | h
  · exact h.nodup_iff.2 hd
  · exact h.nodup_iff.2 (List.nodup_cons.2 ⟨hn, hd⟩)
theorem put_many (key : κ) (val : ν) (nb : Nat) (t : Tr κ ν) : (put c key val nb t).many ≤ t.many + 1 := by
  rw [← blocks_many, ← blocks_many]
  rcases put_blocks (c := c) key val nb (t := t) with h | h
  · rw [h.length_eq]; omega
  · rw [h.length_eq]; simp
end Tr

namespace TI
open Go.RowKit

/-- a function value that orders keys; it reads what I says, in blocks of K -/
structure OrdFn (g : Nat) (cb : Array Value) (c : Int → Int → Int) (I : World → Prop) (K : Nat → Prop) : Prop where
  eg : ∀ args w, (callFunc g args).run Try.prog w = .ok (.enter g args) w
  call : ∀ w a b, I w → Calls Try.prog g (#[.int .i64 a, .int .i64 b] ++ cb) w fun e w' => e = .returned (.int .i64 (c a b)) ∧ ∃ q, w' = w.drewN q
  keep : ∀ S w w', Wrote S w w' → (∀ x, S x → ¬ K x) → I w → I w'

abbrev ordV (g : Nat) (cb : Array Value) : Value := .func (.func g) #[] cb

set_option maxRecDepth 100000 in
set_option maxHeartbeats 2000000 in
theorem put_any (g : Nat) (cb : Array Value) (c : Int → Int → Int) (I : World → Prop) (K : Nat → Prop) (ho : OrdFn g cb c I K) (key val : Int) (O : Nat) : ∀ (t : Tr Int Int) (w : World) (old : Int), Held ek ev w t → t.blocks.Nodup → t.many ≤ 70368744177664 → O ∉ t.blocks →
    w.cell? ⟨O, 0, none⟩ = some (.int .i64 old) → w.frozen? ⟨O, 0, none⟩ = false → I w → (∀ x ∈ t.blocks, ¬ K x) →
    Calls Try.prog 77 #[t.ptr, ordV g cb, .int .i64 key, .int .i64 val, .pointer (some ⟨O, 0, none⟩)] w fun e w' =>
      ∃ nb, w.heap.size ≤ nb ∧ e = .returned (.tuple #[(Tr.put c key val nb t).ptr, .bool (Tr.get c key t).isSome]) ∧ Held ek ev w' (Tr.put c key val nb t) ∧ Wrote (fun x => x = O ∨ x ∈ t.blocks) w w' ∧
        w'.cell? ⟨O, 0, none⟩ = some (.int .i64 ((Tr.get c key t).getD old)) := by
  intro t
  have eg := ho.eg
  induction t with
  | nil =>
    intro w old _ _ _ _ hO _ _ _
    have HO := hid hO
    have hOl := World.block_lt_of_cell? _ _ hO
    clear hO
    show Calls _ _ #[.pointer none, _, _, _, _] _ _
    go_enter Try.func77, Try.ntmps77
    go_wp2_with fail
    go_ret2
    refine ⟨w.heap.size, Nat.le_refl _, rfl, ⟨?_, trivial, trivial⟩, ?_, ?_⟩
    · exact NodeAt.new w _ _ _ _ 1 1 _
    · exact (Wrote.refl _ w).alloc _
    · show _ = some (Value.int .i64 old)
      rw [← HO.out]
      exact (Below.refl _ w |>.alloc (Nat.le_refl _) _).cell hOl
  | node b l k v r ihl ihr =>
    intro w old hh hd hm hO hc hf hi hk
    have HH := hid hh
    have HD := hid hd
    have HK := hid hk
    have HI := hid hi
    have hkey := hh.1.c0
    have hcl := ho.call w key k hi
    have HO := hid hO
    have hm2 : l.many ≤ 70368744177663 ∧ r.many ≤ 70368744177663 ∧ l.many + r.many ≤ 70368744177663 := by simp only [Tr.many] at hm; omega
    have IL := hid ihl
    have IR := hid ihr
    have HC := hid hc
    have HF := hid hf
    obtain ⟨cv, hcv⟩ : ∃ cv, c key k = cv := ⟨_, rfl⟩
    rw [hcv] at hcl
    have HCV := hid hcv
    have HCL := hid hcl
    clear hh hd hk hi hO hc hf ihl ihr hcl hcv hm
    show Calls _ _ #[.pointer (some ⟨b, 0, none⟩), _, _, _, _] _ _
    go_enter Try.func77, Try.ntmps77
    go_wp2_with fail
    refine HCL.out.mono ?_
    rintro e w1 ⟨rfl, q, rfl⟩
    generalize hW : World.drewN w q = W
    have sz : w.heap.size = W.heap.size := by rw [← hW]; rfl
    have H1 : Held ek ev W (.node b l k v r) := by rw [← hW]; exact HH.out.drewN q
    have w1 : Wrote (fun x => x = O ∨ x ∈ (Tr.node b l k v r).blocks) w W := by rw [← hW]; exact (Wrote.refl _ w).drewN q
    have o1 : W.cell? ⟨O, 0, none⟩ = some (.int .i64 old) := by rw [← hW]; exact HC.out
    have hOl := World.block_lt_of_cell? _ _ o1
    simp only at hOl
    have f1 : W.frozen? ⟨O, 0, none⟩ = false := by rw [← hW]; exact HF.out
    have i1 : I W := ho.keep _ _ _ (show Wrote (fun _ => False) w W by rw [← hW]; exact (Wrote.refl _ w).drewN q) (fun _ h => h.elim) HI.out
    clear hW HH HC HF HI HCL
    have hd := HD.out
    simp only [Tr.blocks, List.nodup_cons, List.nodup_append, List.mem_append, not_or] at hd
    have hO := HO.out
    simp only [Tr.blocks, List.mem_cons, List.mem_append, not_or] at hO
    have hK : (¬ K b) ∧ (∀ x ∈ l.blocks, ¬ K x) ∧ (∀ x ∈ r.blocks, ¬ K x) := ⟨HK.out b (by simp [Tr.blocks]), fun x hx => HK.out x (by simp [Tr.blocks, hx]), fun x hx => HK.out x (by simp [Tr.blocks, hx])⟩
    rcases Int.lt_trichotomy cv 0 with g1 | g1 | g1
    · have HE : Hid (∀ nb, Tr.put c key val nb (.node b l k v r) = Tr.level b (Tr.put c key val nb l) k v r) := fun nb => by show (if c key k < 0 then _ else _) = _; rw [if_pos (by rw [HCV.out]; exact g1)]
      have HG : Hid (Tr.get c key (.node b l k v r) = Tr.get c key l) := by show (if c key k < 0 then _ else _) = _; rw [if_pos (by rw [HCV.out]; exact g1)]
      have hc := IL.out W old H1.2.1 hd.2.1 (by omega) hO.2.1 o1 f1 i1 hK.2.1
      have c2 := H1.1.c2
      have HC := hid hc
      have H2 := hid H1
      have W1 := hid w1
      have HDD := hid hd
      have HOO := hid hO
      have HKK := hid hK
      clear hc H1 w1 o1 f1 i1 hd hO hK
      go_wp2_with fail
      refine HC.out.mono ?_
      rintro e W3 ⟨nb, g2, rfl, g3, g4, g5⟩
      have nlt : ∀ x ∈ (Tr.node b l k v r).blocks, x ≠ nb := fun x hx => by have := H2.out.lt x hx; omega
      have n3 : NodeAt W3 b (ek k) (ev v) l.ptr r.ptr _ _ := H2.out.1.wrote g4 (fun e => e.elim (fun e => HOO.out.1 e.symm) HDD.out.1.1)
      have r3 : Held ek ev W3 r := H2.out.2.2.wrote g4 (fun x hx e => e.elim (fun e => HOO.out.2.2 (e ▸ hx)) (fun e => HDD.out.2.2.2 x e x hx rfl))
      have c3 := n3.c2
      have f3 := n3.fz 2
      have N3 := hid n3
      have R3 := hid r3
      have L3 := hid g3
      have O3 := hid g5
      have G2 := hid g2
      have NLT := hid nlt
      have W2 := hid (W1.out.step g4 (fun x hx => .inl (hx.imp id (fun hx => by simp [Tr.blocks, hx]))))
      clear g2 g3 g4 g5 nlt n3 r3 HC
      go_wp2_with fail
      generalize hW4 : World.setCell W3 _ _ = W4
      have n4 := N3.out.set2 (Tr.put c key val nb l).ptr
      rw [show W3.setCell ⟨b, 2, none⟩ (Tr.put c key val nb l).ptr = W4 from hW4] at n4
      have hbl : b ∉ (Tr.put c key val nb l).blocks := fun h => (Tr.put_mem key val nb l b h).elim (fun e => NLT.out b (by simp [Tr.blocks]) e) HDD.out.1.1
      have l4 : Held ek ev W4 (Tr.put c key val nb l) := by rw [← hW4]; exact L3.out.setCell hbl _
      have r4 : Held ek ev W4 r := by rw [← hW4]; exact R3.out.setCell HDD.out.1.2 _
      have o4 : W4.cell? ⟨O, 0, none⟩ = some (.int .i64 ((Tr.get c key l).getD old)) := by rw [← hW4]; exact (World.cell?_setCell_other _ _ _ _ (fun e => HOO.out.1 (by injection e with e; exact e.symm))).trans O3.out
      have w4 : Wrote (fun x => x = O ∨ x ∈ (Tr.node b l k v r).blocks) w W4 := by rw [← hW4]; exact W2.out.setCell (p := ⟨b, 2, none⟩) (.inl (.inr (by simp [Tr.blocks]))) _
      have nd : (b :: ((Tr.put c key val nb l).blocks ++ r.blocks)).Nodup := by
        refine List.nodup_cons.2 ⟨fun h => (List.mem_append.1 h).elim hbl HDD.out.1.2, List.nodup_append.2 ⟨Tr.put_nodup key val nb (fun h => NLT.out nb (by simp [Tr.blocks, h]) rfl) HDD.out.2.1, HDD.out.2.2.1, fun x hx y hy e => ?_⟩⟩
        rcases Tr.put_mem key val nb l x hx with h | h
        · exact NLT.out y (by simp [Tr.blocks, hy]) (e ▸ h)
        · exact HDD.out.2.2.2 x h y hy e
      have hpm := Tr.put_many (c := c) key val nb l
      have O4 := hid o4
      have W4' := hid w4
      clear hW4 o4 w4
      refine (level_any W4 b k v (Tr.put c key val nb l) r _ _ n4 l4 r4 nd (by omega)).mono ?_
      rintro e W5 ⟨rfl, g3, g4⟩
      have G3 := hid g3
      have G4 := hid g4
      clear n4 l4 r4 nd g3 g4
      go_wp2_with fail
      go_ret2
      refine ⟨nb, by have := G2.out; omega, by rw [HE.out, HG.out]; rfl, by rw [HE.out]; exact G3.out, W4'.out.step G4.out ?_, ?_⟩
      · rintro x (rfl | hx | hx)
        · exact .inl (.inr (by simp [Tr.blocks]))
        · rcases Tr.put_mem key val nb l x hx with e | hx
          · exact .inr (by have := G2.out; omega)
          · exact .inl (.inr (by simp [Tr.blocks, hx]))
        · exact .inl (.inr (by simp [Tr.blocks, hx]))
      · rw [HG.out]
        refine G4.out.cell ?_ O4.out
        rintro (e | hx | hx)
        · exact HOO.out.1 e
        · rcases Tr.put_mem key val nb l O hx with e | hx
          · have := G2.out; omega
          · exact HOO.out.2.1 hx
        · exact HOO.out.2.2 hx
    · have HE : Hid (∀ nb, Tr.put c key val nb (.node b l k v r) = .node b l k val r) := fun nb => by show (if c key k < 0 then _ else if 0 < c key k then _ else _) = _; rw [if_neg (by rw [HCV.out]; omega), if_neg (by rw [HCV.out]; omega)]
      have HG : Hid (Tr.get c key (.node b l k v r) = some v) := by show (if c key k < 0 then _ else if 0 < c key k then _ else _) = _; rw [if_neg (by rw [HCV.out]; omega), if_neg (by rw [HCV.out]; omega)]
      have c1 := H1.1.c1
      have fb := H1.1.fz 1
      have H2 := hid H1
      have W1 := hid w1
      have hbO : O ≠ b := hO.1
      have HDD := hid hd
      have HOO := hid hO
      clear H1 w1 i1 hd hO hK
      go_wp2_with fail
      go_ret2
      refine ⟨W.heap.size, by omega, by rw [HE.out, HG.out]; rfl, ?_, ?_, ?_⟩
      · rw [HE.out]
        exact ⟨(H2.out.1.other (p := ⟨O, 0, none⟩) hbO _).set1 _, (H2.out.2.1.setCell (p := ⟨O, 0, none⟩) HOO.out.2.1 _).setCell (p := ⟨b, 1, none⟩) HDD.out.1.1 _, (H2.out.2.2.setCell (p := ⟨O, 0, none⟩) HOO.out.2.2 _).setCell (p := ⟨b, 1, none⟩) HDD.out.1.2 _⟩
      · exact (W1.out.setCell (p := ⟨O, 0, none⟩) (.inl (.inl rfl)) _).setCell (p := ⟨b, 1, none⟩) (.inl (.inr (by simp [Tr.blocks]))) _
      · rw [HG.out]
        exact (World.cell?_setCell_other _ _ _ _ (fun e => HOO.out.1 (by injection e with e; exact e.symm))).trans (World.cell?_setCell_same _ _ _ o1)
    · have HE : Hid (∀ nb, Tr.put c key val nb (.node b l k v r) = Tr.level b l k v (Tr.put c key val nb r)) := fun nb => by show (if c key k < 0 then _ else if 0 < c key k then _ else _) = _; rw [if_neg (by rw [HCV.out]; omega), if_pos (by rw [HCV.out]; exact g1)]
      have HG : Hid (Tr.get c key (.node b l k v r) = Tr.get c key r) := by show (if c key k < 0 then _ else if 0 < c key k then _ else _) = _; rw [if_neg (by rw [HCV.out]; omega), if_pos (by rw [HCV.out]; exact g1)]
      have hc := IR.out W old H1.2.2 hd.2.2.1 (by omega) hO.2.2 o1 f1 i1 hK.2.2
      have c3 := H1.1.c3
      have HC := hid hc
      have H2 := hid H1
      have W1 := hid w1
      have HDD := hid hd
      have HOO := hid hO
      have HKK := hid hK
      clear hc H1 w1 o1 f1 i1 hd hO hK
      go_wp2_with fail
      refine HC.out.mono ?_
      rintro e W3 ⟨nb, g2, rfl, g3, g4, g5⟩
      have nlt : ∀ x ∈ (Tr.node b l k v r).blocks, x ≠ nb := fun x hx => by have := H2.out.lt x hx; omega
      have n3 : NodeAt W3 b (ek k) (ev v) l.ptr r.ptr _ _ := H2.out.1.wrote g4 (fun e => e.elim (fun e => HOO.out.1 e.symm) HDD.out.1.2)
      have l3 : Held ek ev W3 l := H2.out.2.1.wrote g4 (fun x hx e => e.elim (fun e => HOO.out.2.1 (e ▸ hx)) (fun e => HDD.out.2.2.2 x hx x e rfl))
      have c3' := n3.c3
      have f3 := n3.fz 3
      have N3 := hid n3
      have L3 := hid l3
      have R3 := hid g3
      have O3 := hid g5
      have G2 := hid g2
      have NLT := hid nlt
      have W2 := hid (W1.out.step g4 (fun x hx => .inl (hx.imp id (fun hx => by simp [Tr.blocks, hx]))))
      clear g2 g3 g4 g5 nlt n3 l3 HC c3
      go_wp2_with fail
      generalize hW4 : World.setCell W3 _ _ = W4
      have n4 := N3.out.set3 (Tr.put c key val nb r).ptr
      rw [show W3.setCell ⟨b, 3, none⟩ (Tr.put c key val nb r).ptr = W4 from hW4] at n4
      have hbr : b ∉ (Tr.put c key val nb r).blocks := fun h => (Tr.put_mem key val nb r b h).elim (fun e => NLT.out b (by simp [Tr.blocks]) e) HDD.out.1.2
      have r4 : Held ek ev W4 (Tr.put c key val nb r) := by rw [← hW4]; exact R3.out.setCell hbr _
      have l4 : Held ek ev W4 l := by rw [← hW4]; exact L3.out.setCell HDD.out.1.1 _
      have o4 : W4.cell? ⟨O, 0, none⟩ = some (.int .i64 ((Tr.get c key r).getD old)) := by rw [← hW4]; exact (World.cell?_setCell_other _ _ _ _ (fun e => HOO.out.1 (by injection e with e; exact e.symm))).trans O3.out
      have w4 : Wrote (fun x => x = O ∨ x ∈ (Tr.node b l k v r).blocks) w W4 := by rw [← hW4]; exact W2.out.setCell (p := ⟨b, 3, none⟩) (.inl (.inr (by simp [Tr.blocks]))) _
      have nd : (b :: (l.blocks ++ (Tr.put c key val nb r).blocks)).Nodup := by
        refine List.nodup_cons.2 ⟨fun h => (List.mem_append.1 h).elim HDD.out.1.1 hbr, List.nodup_append.2 ⟨HDD.out.2.1, Tr.put_nodup key val nb (fun h => NLT.out nb (by simp [Tr.blocks, h]) rfl) HDD.out.2.2.1, fun x hx y hy e => ?_⟩⟩
        rcases Tr.put_mem key val nb r y hy with h | h
        · exact NLT.out x (by simp [Tr.blocks, hx]) (e ▸ h)
        · exact HDD.out.2.2.2 x hx y h e
      have hpm := Tr.put_many (c := c) key val nb r
      have O4 := hid o4
      have W4' := hid w4
      clear hW4 o4 w4
      refine (level_any W4 b k v l (Tr.put c key val nb r) _ _ n4 l4 r4 nd (by omega)).mono ?_
      rintro e W5 ⟨rfl, g3, g4⟩
      have G3 := hid g3
      have G4 := hid g4
      clear n4 l4 r4 nd g3 g4
      go_wp2_with fail
      go_ret2
      refine ⟨nb, by have := G2.out; omega, by rw [HE.out, HG.out]; rfl, by rw [HE.out]; exact G3.out, W4'.out.step G4.out ?_, ?_⟩
      · rintro x (rfl | hx | hx)
        · exact .inl (.inr (by simp [Tr.blocks]))
        · exact .inl (.inr (by simp [Tr.blocks, hx]))
        · rcases Tr.put_mem key val nb r x hx with e | hx
          · exact .inr (by have := G2.out; omega)
          · exact .inl (.inr (by simp [Tr.blocks, hx]))
      · rw [HG.out]
        refine G4.out.cell ?_ O4.out
        rintro (e | hx | hx)
        · exact HOO.out.1 e
        · exact HOO.out.2.1 hx
        · rcases Tr.put_mem key val nb r O hx with e | hx
          · have := G2.out; omega
          · exact HOO.out.2.2 hx
end TI
end Go.Proofs.Ytfjeagffdijcoaa
