/- How an argument of a law opens: a slice reads as a list. -/
import Derived.ProofKit
import Derived.SizedLaws
import Derived.Test.YtfcgmlofiaehkaaDoorMem
namespace Go.Proofs.YtfcgmlofiaehkaaDoor
open Go.RowKit Go.ChangeShapes Go.WideShapes

section
variable {H : Type} {encH : TypeId × Value → H} {P : Program} {w : World} {spare : Nat → Bool} {held : Bool} {t e : TypeId}

theorem open_reads {α : Type} {sz : Nat} (enc : α → List Value) (ok : α → Prop) (ht : P.underlying t = some (.slice e)) (hc : P.cellsOf e = sz) (hsz : 0 < sz)
    (dec : ∀ fuel cs x, DataW.trod encH P w 0 spare held fuel e cs = some x → cs.length = sz → ∃ y, cs = enc y ∧ ok y)
    {a : Option Addr} {len cap : Nat} {d : DataW H} {ps : List MemPlace} (h : DataW.Trod encH P w 0 spare held t (.slice a len cap) d ps) :
    ∃ l : List α, l.length = len ∧ len ≤ cap ∧ cap ≤ maxLen ∧ Reads w.heap.size w enc sz a l ∧ ∀ x ∈ l, ok x := by
  obtain ⟨fuel, hf⟩ := h
  rcases DataW.trod_slice ht hf with ⟨hcs, _⟩ | ⟨x, l, c, elems, rest, n, _, hcs, _, _, hl, hm, hlen, hel, _, _⟩
  · simp [Value.cells] at hcs
    obtain ⟨rfl, rfl, rfl⟩ := hcs
    exact ⟨[], rfl, Nat.le_refl _, by simp [maxLen], .inl rfl, by simp⟩
  · simp [Value.cells] at hcs
    obtain ⟨rfl, rfl, rfl⟩ := hcs
    rw [hc] at hel
    have each : ∀ i, i < len → ∃ y : α, ok y ∧ ∀ j v, (enc y)[j]? = some v → w.cell? ((x.add (i * sz)).add j) = some v := by
      intro i hi
      have hb := hel i hi
      rw [List.getElem?_eq_getElem (show i < elems.length by omega), Option.bind_eq_some_iff] at hb
      obtain ⟨cs, hcs, hy⟩ := hb
      obtain ⟨_, h2, h3⟩ := World.cells?_some hcs
      obtain ⟨y, rfl, hok⟩ := dec _ _ _ hy h2
      exact ⟨y, hok, fun j v hv => by
        have := (List.getElem?_eq_some_iff.1 hv).1
        rw [h3 j (by omega)]; exact hv⟩
    have build : ∀ k, k ≤ len → ∃ l : List α, l.length = k ∧ (∀ i y, l[i]? = some y → ok y ∧ ∀ j v, (enc y)[j]? = some v → w.cell? ((x.add (i * sz)).add j) = some v) := by
      intro k
      induction k with
      | zero => intro _; exact ⟨[], rfl, by simp⟩
      | succ k ih =>
        intro hk
        obtain ⟨l, h1, h2⟩ := ih (by omega)
        obtain ⟨y, h3, h4⟩ := each k (by omega)
        refine ⟨l ++ [y], by simp [h1], fun i z hz => ?_⟩
        by_cases hi : i < l.length
        · rw [List.getElem?_append_left hi] at hz
          exact h2 i z hz
        · have : i = k := by
            have := (List.getElem?_eq_some_iff.1 hz).1
            simp at this
            omega
          subst this
          rw [← h1] at hz
          simp at hz
          subst hz
          exact ⟨h3, h4⟩
    obtain ⟨l, h1, h2⟩ := build len (Nat.le_refl _)
    refine ⟨l, h1, hl, hm, ?_, fun y hy => ?_⟩
    · rcases Nat.eq_zero_or_pos len with h0 | h0
      · exact .inl (List.eq_nil_of_length_eq_zero (by omega))
      · -- a cell of the first element tells the address' form and its block
        have hne : 0 < (enc l[0]).length ∨ (enc l[0]).length = 0 := by omega
        have hcs : ∃ cs, w.cells? 0 (x.add (0 * sz)) sz = some cs := by
          have hb := hel 0 h0
          rw [List.getElem?_eq_getElem (show 0 < elems.length by omega), Option.bind_eq_some_iff] at hb
          obtain ⟨cs, hcs, _⟩ := hb
          exact ⟨cs, hcs⟩
        obtain ⟨cs, hcs⟩ := hcs
        obtain ⟨_, g2, g3⟩ := World.cells?_some hcs
        have g := g3 0 hsz
        rw [List.getElem?_eq_getElem (by omega)] at g
        have hs := World.cell?_spot g
        have hlt := World.block_lt_of_cell? _ _ g
        obtain ⟨b, off, spot⟩ := x
        have hspot : spot = none := by simpa [Addr.add] using hs
        subst hspot
        refine .inr ⟨b, off, rfl, by simpa [Addr.add] using hlt, fun i z hz j v hv => ?_⟩
        have := (h2 i z hz).2 j v hv
        rwa [addr_add, addr_add] at this
    · obtain ⟨i, hi⟩ := List.getElem?_of_mem hy
      exact (h2 i y hi).1

/-- its bytes are within the row's reach -/
theorem open_size {B : Nat} {a : Option Addr} {len cap : Nat} {d : DataW H} {ps : List MemPlace} {ts : List TypeId} {ds : List (DataW H)} {j : Nat}
    (hsz : (DataW.weightsEach P ts ds).all (· ≤ reachBytes) = true) (ht : ts[j]? = some t) (hd : ds[j]? = some d) (hu : P.underlying t = some (.slice e)) (hB : P.bytesOf e = B)
    (h : DataW.Trod encH P w 0 spare held t (.slice a len cap) d ps) : len * B ≤ 140737488351232 := by
  obtain ⟨fuel, hf⟩ := h
  rcases DataW.trod_slice hu hf with ⟨hcs, _⟩ | ⟨x, l, c, elems, rest, n, _, hcs, hx, _, hl, hm, hlen, hel, _, _⟩
  · simp [Value.cells] at hcs
    obtain ⟨rfl, rfl, rfl⟩ := hcs
    simp
  · simp [Value.cells] at hcs
    obtain ⟨rfl, rfl, rfl⟩ := hcs
    obtain ⟨hx, _⟩ := Prod.mk.inj hx
    subst hx
    have z := sized_slice hsz ht hd hu
    rw [hB] at z
    have h1 : len ≤ (List.map (fun x => x.fst) elems).length + (List.map (fun x => x.fst) rest).length := by simp; omega
    exact Nat.le_trans (Nat.mul_le_mul_right _ h1) z
end

section
variable {H : Type} {encH : TypeId × Value → H} {P : Program} {w : World} {spare : Nat → Bool} {held : Bool} {e : TypeId}
theorem dec_int {k : IntKind} (he : P.underlying e = some (.int k)) (fuel : Nat) (cs : List Value) (x : DataW H × List MemPlace) (h : DataW.trod encH P w 0 spare held fuel e cs = some x) (_ : cs.length = 1) : ∃ y : Int, cs = [.int k y] ∧ (Lit.int k y).wf = true := by
  obtain ⟨m, rfl, rfl, hw⟩ := DataW.trod_int he h
  exact ⟨m, rfl, hw⟩

theorem field_int {k : IntKind} {t : TypeId} {n : Nat} {cs : List Value} {x : DataW H × List MemPlace} {i : Nat} (hc : P.cellsOf t = 1) (hu : P.underlying t = some (.int k))
    (h : DataW.trod encH P w 0 spare held n t ((cs.drop i).take (P.cellsOf t)) = some x) : ∃ y : Int, cs[i]? = some (.int k y) ∧ (Lit.int k y).wf = true := by
  rw [hc] at h
  obtain ⟨m, h1, _, hw⟩ := DataW.trod_int hu h
  refine ⟨m, ?_, hw⟩
  have := congrArg (fun l : List Value => l[0]?) h1
  simpa [List.getElem?_take, List.getElem?_drop] using this

theorem dec3 {f0 f1 f2 : Field} {k0 k1 k2 : IntKind} (he : P.underlying e = some (.struct #[f0, f1, f2])) (o0 : f0.offset = 0) (o1 : f1.offset = 1) (o2 : f2.offset = 2)
    (c0 : P.cellsOf f0.type = 1) (c1 : P.cellsOf f1.type = 1) (c2 : P.cellsOf f2.type = 1) (u0 : P.underlying f0.type = some (.int k0)) (u1 : P.underlying f1.type = some (.int k1)) (u2 : P.underlying f2.type = some (.int k2))
    (fuel : Nat) (cs : List Value) (x : DataW H × List MemPlace) (h : DataW.trod encH P w 0 spare held fuel e cs = some x) (hl : cs.length = 3) :
    ∃ y0 y1 y2 : Int, cs = [.int k0 y0, .int k1 y1, .int k2 y2] ∧ (Lit.int k0 y0).wf = true ∧ (Lit.int k1 y1).wf = true ∧ (Lit.int k2 y2).wf = true := by
  obtain ⟨xs, n, _, _, _, hlen, hf⟩ := DataW.trod_struct he h
  match xs, hlen with
  | [x0, x1, x2], _ =>
    obtain ⟨y0, a0, b0⟩ := field_int c0 u0 (o0 ▸ hf 0 f0 rfl)
    obtain ⟨y1, a1, b1⟩ := field_int c1 u1 (o1 ▸ hf 1 f1 rfl)
    obtain ⟨y2, a2, b2⟩ := field_int c2 u2 (o2 ▸ hf 2 f2 rfl)
    refine ⟨y0, y1, y2, ?_, b0, b1, b2⟩
    match cs, hl with
    | [v0, v1, v2], _ => simp at a0 a1 a2; rw [a0, a1, a2]

theorem dec4 {f0 f1 f2 f3 : Field} {k0 k1 k2 k3 : IntKind} (he : P.underlying e = some (.struct #[f0, f1, f2, f3])) (o0 : f0.offset = 0) (o1 : f1.offset = 1) (o2 : f2.offset = 2) (o3 : f3.offset = 3)
    (c0 : P.cellsOf f0.type = 1) (c1 : P.cellsOf f1.type = 1) (c2 : P.cellsOf f2.type = 1) (c3 : P.cellsOf f3.type = 1) (u0 : P.underlying f0.type = some (.int k0)) (u1 : P.underlying f1.type = some (.int k1)) (u2 : P.underlying f2.type = some (.int k2)) (u3 : P.underlying f3.type = some (.int k3))
    (fuel : Nat) (cs : List Value) (x : DataW H × List MemPlace) (h : DataW.trod encH P w 0 spare held fuel e cs = some x) (hl : cs.length = 4) :
    ∃ y0 y1 y2 y3 : Int, cs = [.int k0 y0, .int k1 y1, .int k2 y2, .int k3 y3] ∧ (Lit.int k0 y0).wf = true ∧ (Lit.int k1 y1).wf = true ∧ (Lit.int k2 y2).wf = true ∧ (Lit.int k3 y3).wf = true := by
  obtain ⟨xs, n, _, _, _, hlen, hf⟩ := DataW.trod_struct he h
  match xs, hlen with
  | [x0, x1, x2, x3], _ =>
    obtain ⟨y0, a0, b0⟩ := field_int c0 u0 (o0 ▸ hf 0 f0 rfl)
    obtain ⟨y1, a1, b1⟩ := field_int c1 u1 (o1 ▸ hf 1 f1 rfl)
    obtain ⟨y2, a2, b2⟩ := field_int c2 u2 (o2 ▸ hf 2 f2 rfl)
    obtain ⟨y3, a3, b3⟩ := field_int c3 u3 (o3 ▸ hf 3 f3 rfl)
    refine ⟨y0, y1, y2, y3, ?_, b0, b1, b2, b3⟩
    match cs, hl with
    | [v0, v1, v2, v3], _ => simp at a0 a1 a2 a3; rw [a0, a1, a2, a3]

theorem wf_u64 {x : Int} (h : (Lit.int .u64 x).wf = true) : 0 ≤ x ∧ x ≤ 18446744073709551615 := by simpa [Lit.wf, IntKind.min, IntKind.max, IntKind.signed, IntKind.bits] using h
theorem wf_u8 {x : Int} (h : (Lit.int .u8 x).wf = true) : 0 ≤ x ∧ x ≤ 255 := by simpa [Lit.wf, IntKind.min, IntKind.max, IntKind.signed, IntKind.bits] using h
theorem wf_i64 {x : Int} (h : (Lit.int .i64 x).wf = true) : -9223372036854775808 ≤ x ∧ x ≤ 9223372036854775807 := by simpa [Lit.wf, IntKind.min, IntKind.max, IntKind.signed, IntKind.bits] using h
end
end Go.Proofs.YtfcgmlofiaehkaaDoor
