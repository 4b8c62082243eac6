/- A move, as an element of an argument. -/
import Derived.Test.YtpkcccphoolapaaMoves
import Derived.Test.YtpkcccphoolapaaOpen
import Derived.KernelRfl
namespace Go.Proofs.Ytpkcccphoolapaa
open Go.RowKit Go.ChangeShapes Go.WideShapes
section
variable {H : Type} {encH : TypeId × Value → H} {P : Program} {w : World} {spare : Nat → Bool} {held : Bool} {e : TypeId}
theorem dec5 {f0 f1 f2 f3 f4 : Field} {k0 k1 k2 k3 k4 : IntKind} (he : P.underlying e = some (.struct #[f0, f1, f2, f3, f4])) (o0 : f0.offset = 0) (o1 : f1.offset = 1) (o2 : f2.offset = 2) (o3 : f3.offset = 3) (o4 : f4.offset = 4)
    (c0 : P.cellsOf f0.type = 1) (c1 : P.cellsOf f1.type = 1) (c2 : P.cellsOf f2.type = 1) (c3 : P.cellsOf f3.type = 1) (c4 : P.cellsOf f4.type = 1) (u0 : P.underlying f0.type = some (.int k0)) (u1 : P.underlying f1.type = some (.int k1)) (u2 : P.underlying f2.type = some (.int k2)) (u3 : P.underlying f3.type = some (.int k3)) (u4 : P.underlying f4.type = some (.int k4))
    (fuel : Nat) (cs : List Value) (x : DataW H × List MemPlace) (h : DataW.trod encH P w 0 spare held fuel e cs = some x) (hl : cs.length = 5) :
    ∃ y0 y1 y2 y3 y4 : Int, cs = [.int k0 y0, .int k1 y1, .int k2 y2, .int k3 y3, .int k4 y4] ∧ (Lit.int k0 y0).wf = true ∧ (Lit.int k1 y1).wf = true ∧ (Lit.int k2 y2).wf = true ∧ (Lit.int k3 y3).wf = true ∧ (Lit.int k4 y4).wf = true := by
  obtain ⟨xs, n, _, _, _, hlen, hf⟩ := DataW.trod_struct he h
  match xs, hlen with
  | [x0, x1, x2, x3, x4], _ =>
    obtain ⟨y0, a0, b0⟩ := field_int c0 u0 (o0 ▸ hf 0 f0 rfl)
    obtain ⟨y1, a1, b1⟩ := field_int c1 u1 (o1 ▸ hf 1 f1 rfl)
    obtain ⟨y2, a2, b2⟩ := field_int c2 u2 (o2 ▸ hf 2 f2 rfl)
    obtain ⟨y3, a3, b3⟩ := field_int c3 u3 (o3 ▸ hf 3 f3 rfl)
    obtain ⟨y4, a4, b4⟩ := field_int c4 u4 (o4 ▸ hf 4 f4 rfl)
    refine ⟨y0, y1, y2, y3, y4, ?_, b0, b1, b2, b3, b4⟩
    match cs, hl with
    | [v0, v1, v2, v3, v4], _ => simp at a0 a1 a2 a3 a4; rw [a0, a1, a2, a3, a4]
end
theorem dec_move {H : Type} {encH : TypeId × Value → H} {w : World} {spare : Nat → Bool} {held : Bool} (fuel : Nat) (cs : List Value) (x : DataW H × List MemPlace) (h : DataW.trod encH Try.prog w 0 spare held fuel 62 cs = some x) (hl : cs.length = 5) : ∃ s : MoveL, cs = encMove s ∧ okMove s := by
  obtain ⟨y0, y1, y2, y3, y4, rfl, h0, h1, h2, h3, _⟩ := dec5 (k0 := .u8) (k1 := .u8) (k2 := .u64) (k3 := .u64) (k4 := .i64) Try.underlying62 rfl rfl rfl rfl rfl (by kernel_rfl) (by kernel_rfl) (by kernel_rfl) (by kernel_rfl) (by kernel_rfl) (by kernel_rfl) (by kernel_rfl) (by kernel_rfl) (by kernel_rfl) (by kernel_rfl) fuel cs x h hl
  refine ⟨⟨y0, y1, y2, y3, y4⟩, rfl, ?_⟩
  have := wf_u8 h0
  have := wf_u8 h1
  have := wf_u64 h2
  have := wf_u64 h3
  unfold okMove
  rw [maxK_eq]
  simp only
  omega
end Go.Proofs.Ytpkcccphoolapaa
