/- A segment, as an element of an argument. -/
import Derived.Test.YtpkcccphoolapaaRngJ
import Derived.Test.YtpkcccphoolapaaOpen
import Derived.KernelRfl
namespace Go.Proofs.Ytpkcccphoolapaa
open Go.RowKit
theorem dec_seg {H : Type} {encH : TypeId × Value → H} {w : World} {spare : Nat → Bool} {held : Bool} (fuel : Nat) (cs : List Value) (x : DataW H × List MemPlace) (h : DataW.trod encH Try.prog w 0 spare held fuel 67 cs = some x) (hl : cs.length = 3) : ∃ s : Seg, cs = encSeg s ∧ okSeg s := by
  obtain ⟨y0, y1, y2, rfl, h0, h1, h2⟩ := dec3 (k0 := .u64) (k1 := .u64) (k2 := .u8) Try.underlying67 rfl rfl rfl (by kernel_rfl) (by kernel_rfl) (by kernel_rfl) (by kernel_rfl) (by kernel_rfl) (by kernel_rfl) fuel cs x h hl
  refine ⟨⟨y0, y1, y2⟩, rfl, ?_⟩
  have := wf_u64 h0
  have := wf_u64 h1
  have := wf_u8 h2
  unfold okSeg
  rw [maxK_eq]
  simp only
  omega
end Go.Proofs.Ytpkcccphoolapaa
