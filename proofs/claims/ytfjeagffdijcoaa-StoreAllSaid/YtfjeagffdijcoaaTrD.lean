/- Layer 7: the walks of first and cut: ints. -/
import Derived.Test.YtfjeagffdijcoaaTrC
namespace Go.Proofs.Ytfjeagffdijcoaa

namespace Tr
variable {κ ν : Type} {c : κ → κ → Int}
theorem level_many (b : Nat) (l : Tr κ ν) (k : κ) (v : ν) (r : Tr κ ν) : (level b l k v r).many = 1 + l.many + r.many := by
  rw [← blocks_many, (level_blocks b l k v r).length_eq, ← blocks_many l, ← blocks_many r]
  simp; omega
theorem least_blocks : ∀ (l : Tr κ ν) (b : Nat) (k : κ) (v : ν) (r : Tr κ ν), ((least b l k v r).1.1 :: (least b l k v r).2.blocks).Perm (node b l k v r).blocks := by
  intro l
  induction l with
  | nil => intro b k v r; simp only [least, blocks, List.nil_append]; exact List.Perm.refl _
  | node lb ll lk lv lr ihl _ =>
    intro b k v r
    have i5 := ihl lb lk lv lr
    have e2 : least b (node lb ll lk lv lr) k v r = ((least lb ll lk lv lr).1, level b (least lb ll lk lv lr).2 k v r) := rfl
    rw [e2]
    refine ((level_blocks _ _ _ _ _).cons _).trans ?_
    show List.Perm _ (b :: ((node lb ll lk lv lr).blocks ++ r.blocks))
    refine (List.Perm.swap _ _ _).trans (List.Perm.cons _ ?_)
    exact i5.append_right _
theorem least_many (l : Tr κ ν) (b : Nat) (k : κ) (v : ν) (r : Tr κ ν) : (least b l k v r).2.many + 1 = (node b l k v r).many := by
  rw [← blocks_many, ← blocks_many (node b l k v r), ← (least_blocks l b k v r).length_eq]; simp
end Tr

namespace TI
open Go.RowKit

set_option maxRecDepth 100000 in
set_option maxHeartbeats 1000000 in
theorem first_any : ∀ (l : Tr Int Int) (b : Nat) (k v : Int) (r : Tr Int Int) (w : World), Held ek ev w (.node b l k v r) → (Tr.node b l k v r).blocks.Nodup → (Tr.node b l k v r).many ≤ 140737488355328 →
    Calls Try.prog 133 #[.pointer (some ⟨b, 0, none⟩)] w fun e w' =>
      e = .returned (.tuple #[.pointer (some ⟨(Tr.least b l k v r).1.1, 0, none⟩), (Tr.least b l k v r).2.ptr]) ∧ Held ek ev w' (Tr.least b l k v r).2 ∧
        (∃ x y h n, NodeAt w' (Tr.least b l k v r).1.1 (ek (Tr.least b l k v r).1.2.1) (ev (Tr.least b l k v r).1.2.2) x y h n) ∧ Wrote (fun x => x ∈ (Tr.node b l k v r).blocks) w w' := by
  intro l
  induction l with
  | nil =>
    intro b k v r w hh hd _
    have c2 : w.cell? ⟨b, 2, none⟩ = some (.pointer none) := hh.1.c2
    have c3 := hh.1.c3
    have HH := hid hh
    clear hh hd
    go_enter Try.func133, Try.ntmps133
    go_wp2_with fail
    go_quiet (fail)
    go_wp2_with fail
    go_ret2
    exact ⟨rfl, HH.out.2.2.drewN _, ⟨_, _, _, _, HH.out.1.drewN _⟩, (Wrote.refl _ w).drewN _⟩
  | node lb ll lk lv lr ihl _ =>
    intro b k v r w hh hd hm
    have hm2 : (Tr.node lb ll lk lv lr).many + r.many ≤ 140737488355327 := by simp only [Tr.many] at hm ⊢; omega
    have hd2 := hd
    simp only [Tr.blocks] at hd2
    obtain ⟨n1, n2⟩ := List.nodup_cons.1 hd2
    obtain ⟨n3, n4, n5⟩ := List.nodup_append.1 n2
    have hc := ihl lb lk lv lr w hh.2.1 n3 (by omega)
    have c2 : w.cell? ⟨b, 2, none⟩ = some (.pointer (some ⟨lb, 0, none⟩)) := hh.1.c2
    have HH := hid hh
    have HC := hid hc
    have HD := hid hd
    have N1 := hid n1
    have N4 := hid n4
    have N5 := hid n5
    have N3 := hid n3
    have hlm := Tr.least_many ll lb lk lv lr
    have hlb := Tr.least_blocks ll lb lk lv lr
    have HLB := hid hlb
    have e2 : Tr.least b (.node lb ll lk lv lr) k v r = ((Tr.least lb ll lk lv lr).1, Tr.level b (Tr.least lb ll lk lv lr).2 k v r) := rfl
    rw [e2]
    clear hh hd hd2 n1 n2 n3 n4 n5 hc hlb ihl e2
    generalize Tr.least lb ll lk lv lr = X at *
    obtain ⟨⟨xb, xk, xv⟩, xt⟩ := X
    simp only at *
    go_enter Try.func133, Try.ntmps133
    go_wp2_with fail
    refine HC.out.mono ?_
    rintro e w1 ⟨rfl, g1, ⟨x, y, h, n, g2⟩, g3⟩
    have hbs : b ∉ (Tr.node lb ll lk lv lr).blocks := fun h => N1.out (List.mem_append_left _ h)
    have n1 := HH.out.1.wrote g3 hbs
    have r1 := HH.out.2.2.wrote g3 (fun x hx hx2 => N5.out x hx2 x hx rfl)
    have c2' := n1.c2
    have f2 := n1.fz 2
    have G1 := hid g1
    have G2 := hid g2
    have G3 := hid (g3.mono (S' := fun x => x ∈ (Tr.node b (Tr.node lb ll lk lv lr) k v r).blocks) (fun x hx => List.mem_cons_of_mem _ (List.mem_append_left _ hx)))
    have NN := hid n1
    have RR := hid r1
    have HBS := hid hbs
    clear g1 g2 g3 n1 r1 hbs c2
    go_wp2_with fail
    generalize hW4 : World.setCell w1 _ _ = W4
    have n4 := NN.out.set2 xt.ptr
    rw [show w1.setCell ⟨b, 2, none⟩ xt.ptr = W4 from hW4] at n4
    have hsub : ∀ z ∈ xb :: xt.blocks, z ∈ (Tr.node lb ll lk lv lr).blocks := fun z hz => HLB.out.mem_iff.1 hz
    have hxb : xb ∈ (Tr.node lb ll lk lv lr).blocks := hsub xb (by simp)
    have hbx : b ∉ xt.blocks := fun h => HBS.out (hsub b (List.mem_cons_of_mem _ h))
    have hnd := List.nodup_cons.1 (HLB.out.nodup_iff.2 N3.out)
    have l4 : Held ek ev W4 xt := by rw [← hW4]; exact G1.out.setCell hbx _
    have r4 : Held ek ev W4 r := by rw [← hW4]; exact RR.out.setCell (fun h => N1.out (List.mem_append_right _ h)) _
    have x4 : NodeAt W4 xb (ek xk) (ev xv) x y h n := by rw [← hW4]; exact G2.out.other (p := ⟨b, 2, none⟩) (fun e => HBS.out (by simp only at e; rw [e]; exact hxb)) _
    have w4 : Wrote (fun x => x ∈ (Tr.node b (Tr.node lb ll lk lv lr) k v r).blocks) w W4 := by rw [← hW4]; exact G3.out.setCell (p := ⟨b, 2, none⟩) (.inl (List.mem_cons_self ..)) _
    have nd : (b :: (xt.blocks ++ r.blocks)).Nodup := List.nodup_cons.2 ⟨fun h => (List.mem_append.1 h).elim hbx (fun h => N1.out (List.mem_append_right _ h)), List.nodup_append.2 ⟨hnd.2, N4.out, fun z hz y hy => N5.out z (hsub z (List.mem_cons_of_mem _ hz)) y hy⟩⟩
    have X4 := hid x4
    have W4' := hid w4
    have HS := hid hsub
    have HXB := hid hxb
    have HND := hid hnd
    clear hW4 x4 w4 hsub hxb hnd hbx
    refine (level_any W4 b k v xt r _ _ n4 l4 r4 nd (by omega)).mono ?_
    rintro e W5 ⟨rfl, g3, g4⟩
    have G3' := hid g3
    have G4' := hid g4
    clear n4 l4 r4 nd g3 g4
    go_wp2_with fail
    go_ret2
    refine ⟨rfl, G3'.out, ⟨x, y, h, n, X4.out.wrote G4'.out ?_⟩, W4'.out.step G4'.out ?_⟩
    · rintro (e | e | e)
      · exact HBS.out (e ▸ HXB.out)
      · exact HND.out.1 e
      · exact N5.out _ HXB.out _ e rfl
    · rintro z (rfl | hz | hz)
      · exact .inl (List.mem_cons_self ..)
      · exact .inl (List.mem_cons_of_mem _ (List.mem_append_left _ (HS.out z (List.mem_cons_of_mem _ hz))))
      · exact .inl (List.mem_cons_of_mem _ (List.mem_append_right _ hz))
end TI
end Go.Proofs.Ytfjeagffdijcoaa
