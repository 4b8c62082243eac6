/- A step of a script, as an element of an argument. -/
import Derived.Test.YtefdbhmjbfpeoaaRngF
import Derived.Test.YtefdbhmjbfpeoaaOpen
import Derived.KernelRfl
namespace Go.Proofs.Ytefdbhmjbfpeoaa
open Go.RowKit
theorem dec_step {H : Type} {encH : TypeId × Value → H} {w : World} {spare : Nat → Bool} {held : Bool} (fuel : Nat) (cs : List Value) (x : DataW H × List MemPlace) (h : DataW.trod encH Try.prog w 0 spare held fuel 31 cs = some x) (hl : cs.length = 4) : ∃ s : StepL, cs = encStep s ∧ okStep s := by
  obtain ⟨y0, y1, y2, y3, rfl, _, h1, h2, h3⟩ := dec4 (k0 := .i64) (k1 := .u64) (k2 := .u64) (k3 := .u8) Try.underlying31 rfl rfl rfl rfl (by kernel_rfl) (by kernel_rfl) (by kernel_rfl) (by kernel_rfl) (by kernel_rfl) (by kernel_rfl) (by kernel_rfl) (by kernel_rfl) fuel cs x h hl
  refine ⟨⟨y0, y1, y2, y3⟩, rfl, ?_⟩
  have := wf_u64 h1
  have := wf_u64 h2
  have := wf_u8 h3
  unfold okStep
  rw [maxK_eq]
  simp only
  omega
end Go.Proofs.Ytefdbhmjbfpeoaa
