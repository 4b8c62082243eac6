/- Layer 7: All and Between of a map of ints, as iterators. -/
import Derived.Test.YtfjeagffdijcoaaTrL
import Derived.Test.YtfjeagffdijcoaaTrH
import Derived.StillTailTactics
namespace Go.Proofs.Ytfjeagffdijcoaa
open Go.RowKit Go.Shelf

theorem abides_drew {α : Type} {B : Nat} {J : List α → World → Prop} (h : AbidesFrom B J) (pre : List α) (W : World) (q : Nat) (hj : J pre W) : J pre (W.drewN q) :=
  h _ _ _ none hj (grown_drewN (World.grownBy_refl' W none) q) (fun r e => by cases e)

namespace TI
abbrev encP (x : Int × Int) : Array Value := #[.int .i64 x.1, .int .i64 x.2]

theorem all_any (w : World) (p : Option Addr) : Calls Try.prog 18 #[.pointer p] w fun e w' =>
    e = .returned (.func (.func 78) #[] #[.pointer (some ⟨w.heap.size, 0, none⟩)]) ∧ w' = w.alloc (.cells #[.pointer p] 22) := by
  go_enter Try.func18, Try.ntmps18
  go_wp2_with fail
  go_ret
  exact ⟨rfl, rfl⟩

theorem between_any (w : World) (p : Option Addr) (lo hi : Int) : Calls Try.prog 19 #[.pointer p, .int .i64 lo, .int .i64 hi] w fun e w' =>
    e = .returned (.func (.func 80) #[] #[.pointer (some ⟨w.heap.size, 0, none⟩), .pointer (some ⟨w.heap.size + 1, 0, none⟩), .pointer (some ⟨w.heap.size + 2, 0, none⟩)]) ∧
      w' = ((w.alloc (.cells #[.pointer p] 22)).alloc (.cells #[.int .i64 lo] 3)).alloc (.cells #[.int .i64 hi] 3) := by
  go_enter Try.func19, Try.ntmps19
  go_wp2_with fail
  go_ret
  exact ⟨rfl, rfl⟩

/-- 'for .. := range m.All()' of a nil map: nothing is told. -/
theorem all_nil_stops (n Bt N : Nat) (P : Nat → Prop) (w : World) (hBt : w.cell? ⟨Bt, 0, none⟩ = some (.pointer none)) :
    SeqStopsK Fence.wide n Try.prog 78 #[.pointer (some ⟨Bt, 0, none⟩)] encP (KeepsT P) (fun ys => ys = []) (fun pre => pre <+: []) N w := fun l J Jx W hW hJ _ hY h0 => by
  refine callsIn_wide.2 ?_
  have hc : W.cell? ⟨Bt, 0, none⟩ = some (.pointer none) := (hW.cell (p := ⟨Bt, 0, none⟩) (World.block_lt_of_cell? _ _ hBt)).trans hBt
  have H0 := hid h0
  clear hY hJ hBt h0
  show Calls _ _ #[_, _] _ _
  go_enter Try.func78, Try.ntmps78
  go_wp2_with fail
  go_end0
  exact ⟨⟨_, rfl⟩, .inl ⟨[], rfl, H0.out⟩⟩

/-- .. of a map: its pairs, in order; or the first of them. -/
theorem all_stops (n Bt M g : Nat) (cb : Array Value) (T : Tr Int Int) (P : Nat → Prop) (w : World) (hBt : w.cell? ⟨Bt, 0, none⟩ = some (.pointer (some ⟨M, 0, none⟩))) (hM : IsMap w M g cb T) (hP : ∀ x ∈ T.blocks, P x) :
    SeqStopsK Fence.wide n Try.prog 78 #[.pointer (some ⟨Bt, 0, none⟩)] encP (KeepsT P) (fun ys => ys = T.pairs) (fun pre => pre <+: T.pairs) T.pairs.length w := fun l J Jx W hW hJ _ hY h0 => by
  refine callsIn_wide.2 ?_
  have hc : W.cell? ⟨Bt, 0, none⟩ = some (.pointer (some ⟨M, 0, none⟩)) := (hW.cell (p := ⟨Bt, 0, none⟩) (World.block_lt_of_cell? _ _ hBt)).trans hBt
  have hMW := hM.below hW
  have c1 := hMW.root
  have hwk := callsIn_wide.1 (walkEach_in l T.pairs.length P J Jx (fun m pre x W hj hl => yield_any rfl m (hY pre x W hj hl)) (abides_drew hJ) T 0 [] W hMW.held hP h0 (by simp))
  have HWK := hid hwk
  clear hY hJ hBt h0 hwk hMW hM hP
  show Calls _ _ #[_, _] _ _
  go_enter Try.func78, Try.ntmps78
  go_wp2_with fail
  refine HWK.out.mono ?_
  rintro e W1 (⟨rfl, hj, _⟩ | ⟨rfl, q, hq, hx⟩)
  · go_wp2_with fail
    go_end0
    exact ⟨⟨_, rfl⟩, .inl ⟨_, rfl, by simpa using hj⟩⟩
  · go_wp2_with fail
    go_end0
    exact ⟨⟨_, rfl⟩, .inr ⟨q, hq, by simpa using hx⟩⟩

end TI
end Go.Proofs.Ytfjeagffdijcoaa
