/- How an argument opens whose elements hold slices themselves: the steps of a script. -/
import Derived.ProofKit
import Derived.SizedLaws
import Derived.Test.YtfcgmlofiaehkaaDoorOpen
import Derived.Test.YtfcgmlofiaehkaaDoorJR
namespace Go.Proofs.YtfcgmlofiaehkaaDoor
open Go.RowKit Go.ChangeShapes Go.WideShapes

section
variable {H : Type} {encH : TypeId × Value → H} {P : Program} {w : World} {spare : Nat → Bool} {held : Bool} {t e : TypeId}
theorem weightsAll_mem {l : List (DataW H)} {d : DataW H} (hd : d ∈ l) {n : Nat} (hn : n ∈ d.weights P e) : n ∈ DataW.weightsAll P e l := by
  induction l with
  | nil => cases hd
  | cons y l ih =>
    rw [DataW.weightsAll, List.mem_append]
    rcases List.mem_cons.1 hd with rfl | hd
    · exact .inl hn
    · exact .inr (ih hd)
theorem weights_elem {elems rest : List (DataW H)} {d : DataW H} (ht : P.underlying t = some (.slice e)) (hd : d ∈ elems) {n : Nat} (hn : n ∈ d.weights P e) : n ∈ (DataW.slice elems rest).weights P t := by
  rw [DataW.weights]
  simp only [ht]
  exact List.mem_cons_of_mem _ (List.mem_append.2 (.inl (weightsAll_mem hd hn)))
theorem weights_len {elems rest : List (DataW H)} (ht : P.underlying t = some (.slice e)) : (elems.length + rest.length) * P.bytesOf e ∈ (DataW.slice elems rest).weights P t := by
  rw [DataW.weights]
  simp only [ht]
  exact List.mem_cons_self

theorem open_readsW {α : Type} {sz : Nat} (enc : α → List Value) (ok : α → Prop) (ht : P.underlying t = some (.slice e)) (hc : P.cellsOf e = sz) (hsz : 0 < sz)
    (dec : ∀ fuel cs x, DataW.trod encH P w 0 spare held fuel e cs = some x → cs.length = sz → (∀ n ∈ x.1.weights P e, n ≤ reachBytes) → ∃ y, cs = enc y ∧ ok y)
    {a : Option Addr} {len cap : Nat} {d : DataW H} {ps : List MemPlace} (h : DataW.Trod encH P w 0 spare held t (.slice a len cap) d ps) (hw : ∀ n ∈ d.weights P t, n ≤ reachBytes) :
    ∃ l : List α, l.length = len ∧ len ≤ cap ∧ cap ≤ maxLen ∧ Reads w.heap.size w enc sz a l ∧ ∀ x ∈ l, ok x := by
  obtain ⟨fuel, hf⟩ := h
  rcases DataW.trod_slice ht hf with ⟨hcs, _⟩ | ⟨x, l, c, elems, rest, n, _, hcs, hx, _, hl, hm, hlen, hel, _, _⟩
  · simp [Value.cells] at hcs
    obtain ⟨rfl, rfl, rfl⟩ := hcs
    exact ⟨[], rfl, Nat.le_refl _, by simp [maxLen], .inl rfl, by simp⟩
  · simp [Value.cells] at hcs
    obtain ⟨rfl, rfl, rfl⟩ := hcs
    rw [hc] at hel
    have each : ∀ i, i < len → ∃ y : α, ok y ∧ ∀ j v, (enc y)[j]? = some v → w.cell? ((x.add (i * sz)).add j) = some v := by
      intro i hi
      have hb := hel i hi
      rw [List.getElem?_eq_getElem (show i < elems.length by omega), Option.bind_eq_some_iff] at hb
      obtain ⟨cs, hcs, hy⟩ := hb
      obtain ⟨_, h2, h3⟩ := World.cells?_some hcs
      obtain ⟨y, rfl, hok⟩ := dec _ _ _ hy h2 (fun n hn => hw n (by rw [(Prod.mk.inj hx).1]; exact weights_elem ht (List.mem_map.2 ⟨_, List.getElem_mem (show i < elems.length by omega), rfl⟩) hn))
      exact ⟨y, hok, fun j v hv => by
        have := (List.getElem?_eq_some_iff.1 hv).1
        rw [h3 j (by omega)]; exact hv⟩
    have build : ∀ k, k ≤ len → ∃ l : List α, l.length = k ∧ (∀ i y, l[i]? = some y → ok y ∧ ∀ j v, (enc y)[j]? = some v → w.cell? ((x.add (i * sz)).add j) = some v) := by
      intro k
      induction k with
      | zero => intro _; exact ⟨[], rfl, by simp⟩
      | succ k ih =>
        intro hk
        obtain ⟨l, h1, h2⟩ := ih (by omega)
        obtain ⟨y, h3, h4⟩ := each k (by omega)
        refine ⟨l ++ [y], by simp [h1], fun i z hz => ?_⟩
        by_cases hi : i < l.length
        · rw [List.getElem?_append_left hi] at hz
          exact h2 i z hz
        · have : i = k := by
            have := (List.getElem?_eq_some_iff.1 hz).1
            simp at this
            omega
          subst this
          rw [← h1] at hz
          simp at hz
          subst hz
          exact ⟨h3, h4⟩
    obtain ⟨l, h1, h2⟩ := build len (Nat.le_refl _)
    refine ⟨l, h1, hl, hm, ?_, fun y hy => ?_⟩
    · rcases Nat.eq_zero_or_pos len with h0 | h0
      · exact .inl (List.eq_nil_of_length_eq_zero (by omega))
      · -- a cell of the first element tells the address' form and its block
        have hne : 0 < (enc l[0]).length ∨ (enc l[0]).length = 0 := by omega
        have hcs : ∃ cs, w.cells? 0 (x.add (0 * sz)) sz = some cs := by
          have hb := hel 0 h0
          rw [List.getElem?_eq_getElem (show 0 < elems.length by omega), Option.bind_eq_some_iff] at hb
          obtain ⟨cs, hcs, _⟩ := hb
          exact ⟨cs, hcs⟩
        obtain ⟨cs, hcs⟩ := hcs
        obtain ⟨_, g2, g3⟩ := World.cells?_some hcs
        have g := g3 0 hsz
        rw [List.getElem?_eq_getElem (by omega)] at g
        have hs := World.cell?_spot g
        have hlt := World.block_lt_of_cell? _ _ g
        obtain ⟨b, off, spot⟩ := x
        have hspot : spot = none := by simpa [Addr.add] using hs
        subst hspot
        refine .inr ⟨b, off, rfl, by simpa [Addr.add] using hlt, fun i z hz j v hv => ?_⟩
        have := (h2 i z hz).2 j v hv
        rwa [addr_add, addr_add] at this
    · obtain ⟨i, hi⟩ := List.getElem?_of_mem hy
      exact (h2 i y hi).1


theorem open_weights {d : DataW H} {ts : List TypeId} {ds : List (DataW H)} {j : Nat} (hsz : (DataW.weightsEach P ts ds).all (· ≤ reachBytes) = true) (ht : ts[j]? = some t) (hd : ds[j]? = some d) : ∀ n ∈ d.weights P t, n ≤ reachBytes := fun n hn => by
  have := List.all_eq_true.1 hsz n (DataW.weights_mem_each ht hd n hn)
  simpa using this

/-- the length of a slice that lies in another one -/
theorem nested_size {B : Nat} {a : Option Addr} {len cap : Nat} {d : DataW H} {ps : List MemPlace} (hu : P.underlying t = some (.slice e)) (hB : P.bytesOf e = B) (h : DataW.Trod encH P w 0 spare held t (.slice a len cap) d ps) (hw : ∀ n ∈ d.weights P t, n ≤ reachBytes) : len * B ≤ 140737488351232 := by
  obtain ⟨fuel, hf⟩ := h
  rcases DataW.trod_slice hu hf with ⟨hcs, _⟩ | ⟨x, l, c, elems, rest, n, _, hcs, hx, _, hl, hm, hlen, hel, _, _⟩
  · simp [Value.cells] at hcs
    obtain ⟨rfl, rfl, rfl⟩ := hcs
    simp
  · simp [Value.cells] at hcs
    obtain ⟨rfl, rfl, rfl⟩ := hcs
    obtain ⟨hx, _⟩ := Prod.mk.inj hx
    subst hx
    have z := hw _ (weights_len hu)
    rw [hB] at z
    have h1 : len ≤ (List.map (fun x => x.fst) elems).length + (List.map (fun x => x.fst) rest).length := by simp; omega
    have h2 : reachBytes = 140737488351232 := by decide
    exact Nat.le_trans (Nat.mul_le_mul_right _ h1) (h2 ▸ z)
theorem nil_slice {a : Option Addr} {len cap : Nat} {d : DataW H} {ps : List MemPlace} (hu : P.underlying t = some (.slice e)) (h : DataW.Trod encH P w 0 spare held t (.slice a len cap) d ps) : a = none → len = 0 ∧ cap = 0 := by
  rintro rfl
  obtain ⟨fuel, hf⟩ := h
  rcases DataW.trod_slice hu hf with ⟨hcs, _⟩ | ⟨x, l, c, elems, rest, n, _, hcs, hx, _, hl, hm, hlen, hel, _, _⟩
  · simp [Value.cells] at hcs
    exact hcs
  · simp [Value.cells] at hcs
end


theorem reads_lt {B : Nat} {w : World} {A : Option Addr} {l : List Int} (h : U8s B w A l) (hne : l ≠ []) : ∀ q, A = some q → q.block < B := fun q hq => by
  rcases h with h | ⟨b, off, rfl, hb, _⟩
  · exact absurd h hne
  · injection hq with hq; subst hq; exact hb
abbrev StepV := Int × Int × SV
def stE (s : StepV) : List Value := [.int .i64 s.1, .int .i64 s.2.1, .slice s.2.2.1 s.2.2.2.1 s.2.2.2.2]
theorem stE_len (s : StepV) : (stE s).length = 3 := rfl
/-- a slice of bytes of an argument -/
def okBytes (w : World) (s : SV) (bs : List Int) : Prop := bs.length = s.2.1 ∧ s.2.1 ≤ s.2.2 ∧ s.2.2 ≤ maxLen ∧ s.2.1 ≤ 140737488351232 ∧ (s.1 = none → s.2.1 = 0 ∧ s.2.2 = 0) ∧ U8s w.heap.size w s.1 bs ∧ ∀ x ∈ bs, isB x
def okI64 (x : Int) : Prop := -9223372036854775808 ≤ x ∧ x ≤ 9223372036854775807
def okStep (w : World) (s : StepV) : Prop := okI64 s.1 ∧ okI64 s.2.1 ∧ ∃ bs : List Int, okBytes w s.2.2 bs
theorem wf_i64' {x : Int} (h : (Lit.int .i64 x).wf = true) : okI64 x := by
  simp [Lit.wf, IntKind.min, IntKind.max, IntKind.bits, IntKind.signed] at h
  exact ⟨by omega, by omega⟩
theorem wf_u8' {x : Int} (h : (Lit.int .u8 x).wf = true) : isB x := by
  simp [Lit.wf, IntKind.min, IntKind.max, IntKind.bits, IntKind.signed] at h
  exact ⟨by omega, by omega⟩
theorem dec_bytes {H : Type} {encH : TypeId × Value → H} {w : World} {spare : Nat → Bool} {held : Bool} {n : Nat} {v : Value} {x : DataW H × List MemPlace} (h : DataW.trod encH Tryd.prog w 0 spare held n 22 [v] = some x) (hw : ∀ k ∈ x.1.weights Tryd.prog 22, k ≤ reachBytes) :
    ∃ s : SV, v = .slice s.1 s.2.1 s.2.2 ∧ ∃ bs, okBytes w s bs := by
  have hsl : ∃ A n c, v = .slice A n c := by
    rcases DataW.trod_slice Tryd.underlying22 h with ⟨hcs, _⟩ | ⟨a, l, c, _, _, _, _, hcs, _⟩
    · exact ⟨none, 0, 0, by simpa using hcs⟩
    · exact ⟨some a, l, c, by simpa using hcs⟩
  obtain ⟨A, m, c, rfl⟩ := hsl
  have hT : DataW.Trod encH Tryd.prog w 0 spare held 22 (.slice A m c) x.1 x.2 := ⟨n, h⟩
  obtain ⟨bs, g1, g2, g3, g4, g5⟩ := open_reads (α := Int) (sz := 1) u8s (fun x => (Lit.int .u8 x).wf = true) Tryd.underlying22 (by kernel_rfl) (by decide) (dec_int Tryd.underlying5) hT
  have g6 := nested_size (B := 1) Tryd.underlying22 (by kernel_rfl) hT hw
  exact ⟨(A, m, c), rfl, bs, g1, g2, g3, by simpa using g6, nil_slice Tryd.underlying22 hT, g4, fun x hx => wf_u8' (g5 x hx)⟩
theorem three_list {cs : List Value} {a b c : Value} (hl : cs.length = 3) (h0 : cs[0]? = some a) (h1 : cs[1]? = some b) (h2 : cs[2]? = some c) : cs = [a, b, c] := by
  match cs, hl with
  | [v0, v1, v2], _ => simp at h0 h1 h2; rw [h0, h1, h2]
set_option maxRecDepth 100000 in
theorem dec_step {H : Type} {encH : TypeId × Value → H} {w : World} {spare : Nat → Bool} {held : Bool} (fuel : Nat) (cs : List Value) (x : DataW H × List MemPlace) (h : DataW.trod encH Tryd.prog w 0 spare held fuel 69 cs = some x) (hl : cs.length = 3) (hw : ∀ n ∈ x.1.weights Tryd.prog 69, n ≤ reachBytes) :
    ∃ s : StepV, cs = stE s ∧ okStep w s := by
  obtain ⟨xs, n, _, hx, _, hlen, hf⟩ := DataW.trod_struct Tryd.underlying69 h
  match xs, hlen with
  | [x0, x1, x2], _ =>
    have f0 := hf 0 _ rfl
    have f1 := hf 1 _ rfl
    have f2 := hf 2 _ rfl
    obtain ⟨y0, a0, b0⟩ := field_int (k := .i64) (by kernel_rfl) (by kernel_rfl) f0
    obtain ⟨y1, a1, b1⟩ := field_int (k := .i64) (by kernel_rfl) (by kernel_rfl) f1
    have f2' : DataW.trod encH Tryd.prog w 0 spare held n 22 ((cs.drop 2).take 1) = some x2 := f2
    have hcs2 : ∃ v, (cs.drop 2).take 1 = [v] ∧ cs[2]? = some v := by
      match cs, hl with
      | [v0, v1, v2], _ => exact ⟨v2, rfl, rfl⟩
    obtain ⟨v, hv1, hv2⟩ := hcs2
    rw [hv1] at f2'
    obtain ⟨s, rfl, bs, hs⟩ := dec_bytes f2' (fun k hk => hw k (by
      rw [hx, DataW.weights]
      simp only [Tryd.underlying69]
      simp only [List.map_cons, List.map_nil, DataW.weightsEach, List.mem_append]
      exact .inr (.inr (.inl hk))))
    exact ⟨(y0, y1, s), three_list hl a0 a1 hv2, wf_i64' b0, wf_i64' b1, bs, hs⟩
end Go.Proofs.YtfcgmlofiaehkaaDoor
