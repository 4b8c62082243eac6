/- What the bound on the bulk of a law's arguments gives: the lengths of lists in lists. -/
import Derived.Test.YtfcgmlofiaehkaaDoorRows
import Derived.Test.YtfcgmlofiaehkaaDoorOpenV
namespace Go.Proofs.YtfcgmlofiaehkaaDoor
open Go.RowKit Go.ChangeShapes Go.WideShapes

theorem bulk_one {H : Type} (d : DataW H) : 1 ≤ Rows.uptoBulk d := by
  cases d with
  | lit l => cases l <;> simp [Rows.uptoBulk]
  | nil => simp [Rows.uptoBulk]
  | ptr d => simp [Rows.uptoBulk]
  | slice elems spare => simp [Rows.uptoBulk]
  | agg parts => simp [Rows.uptoBulk]
  | iface t d => simp [Rows.uptoBulk]
  | map entries => simp [Rows.uptoBulk]
  | held h => simp [Rows.uptoBulk]
theorem part_le {H : Type} {d : DataW H} {l : List (DataW H)} (h : d ∈ l) : Rows.uptoBulk d ≤ Rows.uptoBulkAll l := by
  induction l with
  | nil => cases h
  | cons x r ih =>
    simp only [Rows.uptoBulkAll]
    cases List.mem_cons.1 h with
    | inl e => subst e; omega
    | inr e => have := ih e; omega
theorem bulk_len {H : Type} (l : List (DataW H)) : l.length ≤ Rows.uptoBulkAll l := by
  induction l with
  | nil => simp [Rows.uptoBulkAll]
  | cons x r ih => have := bulk_one x; simp only [Rows.uptoBulkAll, List.length_cons]; omega
theorem slice_elems {H : Type} (elems spare : List (DataW H)) : Rows.uptoBulkAll elems + 1 ≤ Rows.uptoBulk (.slice elems spare) := by
  simp only [Rows.uptoBulk]
  omega
section
variable {H : Type} {encH : TypeId × Value → H} {P : Program} {w : World} {spare : Nat → Bool} {held : Bool} {t e : TypeId}
theorem open_readsU {α : Type} {sz M : Nat} (enc : α → List Value) (ok : α → Prop) (ht : P.underlying t = some (.slice e)) (hc : P.cellsOf e = sz) (hsz : 0 < sz)
    (dec : ∀ fuel cs x, DataW.trod encH P w 0 spare held fuel e cs = some x → cs.length = sz → Rows.uptoBulk x.1 ≤ M → ∃ y, cs = enc y ∧ ok y)
    {a : Option Addr} {len cap : Nat} {d : DataW H} {ps : List MemPlace} (h : DataW.Trod encH P w 0 spare held t (.slice a len cap) d ps) (hw : Rows.uptoBulk d ≤ M) :
    ∃ l : List α, l.length = len ∧ len ≤ cap ∧ cap ≤ maxLen ∧ Reads w.heap.size w enc sz a l ∧ ∀ x ∈ l, ok x := by
  obtain ⟨fuel, hf⟩ := h
  rcases DataW.trod_slice ht hf with ⟨hcs, _⟩ | ⟨x, l, c, elems, rest, n, _, hcs, hx, _, hl, hm, hlen, hel, _, _⟩
  · simp [Value.cells] at hcs
    obtain ⟨rfl, rfl, rfl⟩ := hcs
    exact ⟨[], rfl, Nat.le_refl _, by simp [maxLen], .inl rfl, by simp⟩
  · simp [Value.cells] at hcs
    obtain ⟨rfl, rfl, rfl⟩ := hcs
    rw [hc] at hel
    have each : ∀ i, i < len → ∃ y : α, ok y ∧ ∀ j v, (enc y)[j]? = some v → w.cell? ((x.add (i * sz)).add j) = some v := by
      intro i hi
      have hb := hel i hi
      rw [List.getElem?_eq_getElem (show i < elems.length by omega), Option.bind_eq_some_iff] at hb
      obtain ⟨cs, hcs, hy⟩ := hb
      obtain ⟨_, h2, h3⟩ := World.cells?_some hcs
      obtain ⟨y, rfl, hok⟩ := dec _ _ _ hy h2 (by
        have hx1 := (Prod.mk.inj hx).1
        rw [hx1] at hw
        exact Nat.le_trans (part_le (List.mem_map.2 ⟨_, List.getElem_mem (show i < elems.length by omega), rfl⟩)) (Nat.le_trans (Nat.le_of_succ_le (slice_elems _ _)) hw))
      exact ⟨y, hok, fun j v hv => by
        have := (List.getElem?_eq_some_iff.1 hv).1
        rw [h3 j (by omega)]; exact hv⟩
    have build : ∀ k, k ≤ len → ∃ l : List α, l.length = k ∧ (∀ i y, l[i]? = some y → ok y ∧ ∀ j v, (enc y)[j]? = some v → w.cell? ((x.add (i * sz)).add j) = some v) := by
      intro k
      induction k with
      | zero => intro _; exact ⟨[], rfl, by simp⟩
      | succ k ih =>
        intro hk
        obtain ⟨l, h1, h2⟩ := ih (by omega)
        obtain ⟨y, h3, h4⟩ := each k (by omega)
        refine ⟨l ++ [y], by simp [h1], fun i z hz => ?_⟩
        by_cases hi : i < l.length
        · rw [List.getElem?_append_left hi] at hz
          exact h2 i z hz
        · have : i = k := by
            have := (List.getElem?_eq_some_iff.1 hz).1
            simp at this
            omega
          subst this
          rw [← h1] at hz
          simp at hz
          subst hz
          exact ⟨h3, h4⟩
    obtain ⟨l, h1, h2⟩ := build len (Nat.le_refl _)
    refine ⟨l, h1, hl, hm, ?_, fun y hy => ?_⟩
    · rcases Nat.eq_zero_or_pos len with h0 | h0
      · exact .inl (List.eq_nil_of_length_eq_zero (by omega))
      · -- a cell of the first element tells the address' form and its block
        have hne : 0 < (enc l[0]).length ∨ (enc l[0]).length = 0 := by omega
        have hcs : ∃ cs, w.cells? 0 (x.add (0 * sz)) sz = some cs := by
          have hb := hel 0 h0
          rw [List.getElem?_eq_getElem (show 0 < elems.length by omega), Option.bind_eq_some_iff] at hb
          obtain ⟨cs, hcs, _⟩ := hb
          exact ⟨cs, hcs⟩
        obtain ⟨cs, hcs⟩ := hcs
        obtain ⟨_, g2, g3⟩ := World.cells?_some hcs
        have g := g3 0 hsz
        rw [List.getElem?_eq_getElem (by omega)] at g
        have hs := World.cell?_spot g
        have hlt := World.block_lt_of_cell? _ _ g
        obtain ⟨b, off, spot⟩ := x
        have hspot : spot = none := by simpa [Addr.add] using hs
        subst hspot
        refine .inr ⟨b, off, rfl, by simpa [Addr.add] using hlt, fun i z hz j v hv => ?_⟩
        have := (h2 i z hz).2 j v hv
        rwa [addr_add, addr_add] at this
    · obtain ⟨i, hi⟩ := List.getElem?_of_mem hy
      exact (h2 i y hi).1



/-- how long a slice is, by its bulk -/
theorem slice_bulk {M : Nat} {a : Option Addr} {len cap : Nat} {d : DataW H} {ps : List MemPlace} (hu : P.underlying t = some (.slice e)) (h : DataW.Trod encH P w 0 spare held t (.slice a len cap) d ps) (hw : Rows.uptoBulk d ≤ M) : len ≤ M := by
  obtain ⟨fuel, hf⟩ := h
  rcases DataW.trod_slice hu hf with ⟨hcs, _⟩ | ⟨x, l, c, elems, rest, n, _, hcs, hx, _, hl, hm, hlen, hel, _, _⟩
  · simp [Value.cells] at hcs
    obtain ⟨rfl, rfl, rfl⟩ := hcs
    exact Nat.zero_le _
  · simp [Value.cells] at hcs
    obtain ⟨rfl, rfl, rfl⟩ := hcs
    obtain ⟨hx, _⟩ := Prod.mk.inj hx
    subst hx
    have h1 := slice_elems (List.map (fun x => x.fst) elems) (List.map (fun x => x.fst) rest)
    have h2 := bulk_len (List.map (fun x => x.fst) elems)
    rw [List.length_map] at h2
    omega
end
theorem dec_bytesU {H : Type} {encH : TypeId × Value → H} {w : World} {spare : Nat → Bool} {held : Bool} {M : Nat} (fuel : Nat) (cs : List Value) (x : DataW H × List MemPlace) (h : DataW.trod encH Tryd.prog w 0 spare held fuel 22 cs = some x) (hl : cs.length = 1) (hw : Rows.uptoBulk x.1 ≤ M) :
    ∃ s : SV, cs = svE s ∧ ∃ bs : List Int, (bs.length = s.2.1 ∧ s.2.1 ≤ s.2.2 ∧ (s.1 = none → s.2.1 = 0 ∧ s.2.2 = 0) ∧ U8s w.heap.size w s.1 bs ∧ ∀ x ∈ bs, isB x) ∧ s.2.1 ≤ M := by
  match cs, hl with
  | [v], _ =>
    have hsl : ∃ A n c, v = .slice A n c := by
      rcases DataW.trod_slice Tryd.underlying22 h with ⟨hcs, _⟩ | ⟨a, l, c, _, _, _, _, hcs, _⟩
      · exact ⟨none, 0, 0, by simpa using hcs⟩
      · exact ⟨some a, l, c, by simpa using hcs⟩
    obtain ⟨A, m, c, rfl⟩ := hsl
    have hT : DataW.Trod encH Tryd.prog w 0 spare held 22 (.slice A m c) x.1 x.2 := ⟨fuel, h⟩
    obtain ⟨bs, g1, g2, g3, g4, g5⟩ := open_reads (α := Int) (sz := 1) u8s (fun x => (Lit.int .u8 x).wf = true) Tryd.underlying22 (by kernel_rfl) (by decide) (dec_int Tryd.underlying5) hT
    exact ⟨(A, m, c), rfl, bs, ⟨g1, g2, nil_slice Tryd.underlying22 hT, g4, fun x hx => wf_u8' (g5 x hx)⟩, slice_bulk Tryd.underlying22 hT hw⟩
end Go.Proofs.YtfcgmlofiaehkaaDoor
