/- A move, as an element of an argument. -/
import Derived.Test.YtfjeagffdijcoaaMv
import Derived.Test.YtfjeagffdijcoaaOpen
import Derived.KernelRfl
namespace Go.Proofs.Ytfjeagffdijcoaa
open Go.RowKit
theorem field_bool {H : Type} {encH : TypeId × Value → H} {P : Program} {w : World} {spare : Nat → Bool} {held : Bool} {t : TypeId} {n : Nat} {cs : List Value} {x : DataW H × List MemPlace} {i : Nat} (hc : P.cellsOf t = 1) (hu : P.underlying t = some .bool)
    (h : DataW.trod encH P w 0 spare held n t ((cs.drop i).take (P.cellsOf t)) = some x) : ∃ y : Bool, cs[i]? = some (.bool y) := by
  rw [hc] at h
  obtain ⟨m, h1, _⟩ := DataW.trod_bool hu h
  refine ⟨m, ?_⟩
  have := congrArg (fun l : List Value => l[0]?) h1
  simpa [List.getElem?_take, List.getElem?_drop] using this
theorem three_list {cs : List Value} {a b c : Value} (hl : cs.length = 3) (h0 : cs[0]? = some a) (h1 : cs[1]? = some b) (h2 : cs[2]? = some c) : cs = [a, b, c] := by
  match cs, hl with
  | [v0, v1, v2], _ => simp at h0 h1 h2; rw [h0, h1, h2]
theorem dec_mv {H : Type} {encH : TypeId × Value → H} {w : World} {spare : Nat → Bool} {held : Bool} (fuel : Nat) (cs : List Value) (x : DataW H × List MemPlace) (h : DataW.trod encH Try.prog w 0 spare held fuel 110 cs = some x) (hl : cs.length = 3) : ∃ s : MvArg, cs = encMv s ∧ okMv s := by
  obtain ⟨xs, n, _, _, _, hlen, hf⟩ := DataW.trod_struct Try.underlying110 h
  match xs, hlen with
  | [x0, x1, x2], _ =>
    have f0 := hf 0 _ rfl
    have f1 := hf 1 _ rfl
    have f2 := hf 2 _ rfl
    obtain ⟨y0, a0, b0⟩ := field_int (k := .u64) (by kernel_rfl) (by kernel_rfl) f0
    obtain ⟨y1, a1, b1⟩ := field_int (k := .u64) (by kernel_rfl) (by kernel_rfl) f1
    obtain ⟨y2, a2⟩ := field_bool (by kernel_rfl) (by kernel_rfl) f2
    exact ⟨⟨y0, y1, y2⟩, three_list hl a0 a1 a2, wf_u64 b0, wf_u64 b1⟩
end Go.Proofs.Ytfjeagffdijcoaa
