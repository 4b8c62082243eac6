/- Lists of lists of bytes, each in memory of its own: held, kept, grown. -/
import Derived.Test.YtfcgmlofiaehkaaDoorJU
import Derived.Sort.LotA
import Derived.Sort.Row
namespace Go.Proofs.YtfcgmlofiaehkaaDoor
open Go.RowKit

abbrev SV := Option Addr × Nat × Nat
def SV.v (s : SV) : Value := .slice s.1 s.2.1 s.2.2
def svE (s : SV) : List Value := [.slice s.1 s.2.1 s.2.2]
theorem svE_len (s : SV) : (svE s).length = 1 := rfl
theorem svE_one (s : SV) : ∀ u ∈ svE s, u.oneCell' = true := by intro u hu; simp [svE] at hu; subst hu; rfl
theorem infoBs : (Tryd.prog.info? 22).map (fun i => (i.zero, i.size, i.bytes)) = some (some (.slice none 0 0), 1, 24) := by kernel_rfl
/-- an object that holds a row of bytes, or of rows of bytes -/
def isRow (o : Obj) : Prop := ∃ cs, o = .cells cs 22 (0, 0) ∨ o = .cells cs 5 (0, 0)
def KeepRows (w w' : World) : Prop := ∀ (k : Nat) (o : Obj), isRow o → w.heap[k]? = some o → w'.heap[k]? = some o
theorem KeepRows.refl (w : World) : KeepRows w w := fun _ _ _ h => h
theorem KeepRows.trans {a b c : World} (h : KeepRows a b) (h2 : KeepRows b c) : KeepRows a c := fun k o hr ho => h2 k o hr (h k o hr ho)
abbrev OwnB (w : World) (base : Nat) (v : Value) (l : List Int) : Prop := w.ownsRow base 5 1 v l.length (l.flatMap u8s)
theorem ownB_keep {w w' : World} {base : Nat} {v : Value} {n : Nat} {xs : List Value} {e : TypeId} (he : ∀ cs, isRow (.cells cs e (0, 0))) (h : w.ownsRow base e 1 v n xs) (hk : KeepRows w w') : w'.ownsRow base e 1 v n xs := by
  refine ⟨h.1, ?_⟩
  rcases h.2 with h | ⟨g, cap, cur, h1, h2, h3, rest⟩
  · exact .inl h
  · exact .inr ⟨g, cap, cur, h1, h2, hk g _ (he cur) h3, rest⟩
theorem own_mono {w : World} {base base' : Nat} {e : TypeId} {sz n : Nat} {v : Value} {xs : List Value} (h : w.ownsRow base e sz v n xs) (hb : base' ≤ base) : w.ownsRow base' e sz v n xs := by
  refine ⟨h.1, ?_⟩
  rcases h.2 with h | ⟨g, cap, cur, h1, h2, rest⟩
  · exact .inl h
  · exact .inr ⟨g, cap, cur, h1, Nat.le_trans hb h2, rest⟩
theorem row_u8 (cs : Array Value) : isRow (.cells cs 5 (0, 0)) := ⟨cs, .inr rfl⟩
theorem row_bs (cs : Array Value) : isRow (.cells cs 22 (0, 0)) := ⟨cs, .inl rfl⟩
theorem OwnB.cells {w : World} {base : Nat} {v : Value} {l : List Int} (h : OwnB w base v l) {k : Nat} (hk : v.ownBlock = some k) : base ≤ k ∧ ∃ cs, w.heap[k]? = some (.cells cs 5 (0, 0)) := by
  rcases h.2 with ⟨rfl, _⟩ | ⟨g, cap, cur, rfl, h2, h3, _⟩
  · cases hk
  · obtain rfl : g = k := by simpa [Value.ownBlock] using hk
    exact ⟨h2, cur, h3⟩
theorem OwnB.reads {w : World} {base : Nat} {A : Option Addr} {n c : Nat} {l : List Int} (h : OwnB w base (.slice A n c) l) : l.length = n ∧ n ≤ c ∧ c ≤ maxLen ∧ U8s w.heap.size w A l := by
  obtain ⟨hl, A', c', e, h1, h2, h3⟩ := owns_reads u8s_len h (by decide)
  cases e
  exact ⟨hl, h1, h2, h3⟩
/-- the list of lists 'ls' under the slice V; all memory from 'base' on -/
def Holds (w : World) (base : Nat) (V : Value) (ls : List (List Int)) : Prop :=
  ∃ vs : List SV, vs.length = ls.length ∧ w.ownsRow base 22 1 V vs.length (vs.flatMap svE) ∧ (∀ (i : Nat) (s : SV) (l : List Int), vs[i]? = some s → ls[i]? = some l → OwnB w base s.v l) ∧
    ∀ (i j : Nat) (s t : SV) (k : Nat), i < j → vs[i]? = some s → vs[j]? = some t → s.v.ownBlock = some k → t.v.ownBlock ≠ some k
theorem Holds.nil (w : World) (base : Nat) : Holds w base (.slice none 0 0) [] := ⟨[], rfl, World.ownsRow_nil _ _ _ _, by simp, by simp⟩
theorem Holds.keep {w w' : World} {base : Nat} {V : Value} {ls : List (List Int)} (h : Holds w base V ls) (hk : KeepRows w w') : Holds w' base V ls := by
  obtain ⟨vs, h1, h2, h3, h4⟩ := h
  exact ⟨vs, h1, ownB_keep row_bs h2 hk, fun i s l hs hl => ownB_keep row_u8 (h3 i s l hs hl) hk, h4⟩
theorem keep_below {w w' : World} (h : Below w.heap.size w w') : KeepRows w w' := fun k _ _ ho => (h.block k (Array.getElem?_eq_some_iff.1 ho).1).trans ho
theorem keep_setCell {w : World} {a : Addr} {cs : Array Value} {e : TypeId} (h : w.heap[a.block]? = some (.cells cs e (0, 0))) (h1 : e ≠ 22) (h2 : e ≠ 5) (u : Value) : KeepRows w (w.setCell a u) := fun k o hr ho => by
  rw [Below.heap_setCell _ _ _ _ (fun ek => ?_)]
  · exact ho
  · subst ek
    rw [h] at ho
    obtain ⟨cs', hr | hr⟩ := hr
    · rw [hr] at ho; injection ho with ho; injection ho with _ ho; exact h1 ho
    · rw [hr] at ho; injection ho with ho; injection ho with _ ho; exact h2 ho
theorem Holds.below {w w' : World} {base : Nat} {V : Value} {ls : List (List Int)} (h : Holds w base V ls) (hb : Below w.heap.size w w') : Holds w' base V ls := h.keep (keep_below hb)
theorem Holds.mono {w : World} {base base' : Nat} {V : Value} {ls : List (List Int)} (h : Holds w base V ls) (hb : base' ≤ base) : Holds w base' V ls := by
  obtain ⟨vs, h1, h2, h3, h4⟩ := h
  exact ⟨vs, h1, own_mono h2 hb, fun i s l hs hl => own_mono (h3 i s l hs hl) hb, h4⟩
theorem Holds.slice {w : World} {base : Nat} {V : Value} {ls : List (List Int)} (h : Holds w base V ls) : ∃ A c, V = .slice A ls.length c ∧ ls.length ≤ c ∧ c ≤ maxLen := by
  obtain ⟨vs, h1, h2, _, _⟩ := h
  obtain ⟨_, A, c, e, h4, h5, _⟩ := owns_reads svE_len h2 (by decide)
  rw [h1] at e h4
  exact ⟨A, c, e, h4, h5⟩
theorem Holds.own {w : World} {base : Nat} {V : Value} {ls : List (List Int)} (h : Holds w base V ls) : ∀ k, V.ownBlock = some k → base ≤ k ∧ ∃ cs, w.heap[k]? = some (.cells cs 22 (0, 0)) := fun k hk => by
  obtain ⟨vs, _, h2, _, _⟩ := h
  rcases h2.2 with ⟨rfl, _⟩ | ⟨g, cap, cur, rfl, h2, h3, _⟩
  · cases hk
  · obtain rfl : g = k := by simpa [Value.ownBlock] using hk
    exact ⟨h2, cur, h3⟩
/-- one list more: 'append(V, v)' -/
theorem Holds.push {w w2 w3 : World} {base : Nat} {V V1 : Value} {vs : List SV} {ls : List (List Int)} {s : SV} {l : List Int} (h1 : vs.length = ls.length) (h2 : w.ownsRow base 22 1 V vs.length (vs.flatMap svE)) (h3 : ∀ (i : Nat) (s : SV) (l : List Int), vs[i]? = some s → ls[i]? = some l → OwnB w base s.v l)
    (h4 : ∀ (i j : Nat) (s t : SV) (k : Nat), i < j → vs[i]? = some s → vs[j]? = some t → s.v.ownBlock = some k → t.v.ownBlock ≠ some k)
    (hk : KeepRows w w2) (hv : OwnB w2 w.heap.size s.v l) (hbase : base ≤ w.heap.size)
    (hown : w3.ownsRow base 22 1 V1 (vs ++ [s]).length ((vs ++ [s]).flatMap svE)) (hg : w2.grownBy w3 V.ownBlock) : Holds w3 base V1 (ls ++ [l]) := by
  have hVb : ∀ k, V.ownBlock = some k → ∃ cs, w2.heap[k]? = some (.cells cs 22 (0, 0)) := fun k e => by
    rcases h2.2 with ⟨rfl, _⟩ | ⟨g, cap, cur, rfl, _, h3, _⟩
    · cases e
    · obtain rfl : g = k := by simpa [Value.ownBlock] using e
      exact ⟨cur, hk _ _ (row_bs _) h3⟩
  have hk3 : ∀ (k : Nat) (cs : Array Value), w2.heap[k]? = some (Obj.cells cs 5 (0, 0)) → w3.heap[k]? = some (Obj.cells cs 5 (0, 0)) := fun k cs ho => by
    refine (hg.block k (Array.getElem?_eq_some_iff.1 ho).1 (fun e => ?_)).trans ho
    obtain ⟨cs', hc⟩ := hVb k e.symm
    rw [hc] at ho; cases ho
  have up : ∀ {b : Nat} {v : Value} {l : List Int}, OwnB w2 b v l → OwnB w3 b v l := fun {b v l} h => by
    refine ⟨h.1, ?_⟩
    rcases h.2 with h | ⟨g, cap, cur, a1, a2, a3, rest⟩
    · exact .inl h
    · exact .inr ⟨g, cap, cur, a1, a2, hk3 g _ a3, rest⟩
  refine ⟨vs ++ [s], by simp [h1], hown, fun i t m ht hm => ?_, fun i j t u k hij ht hu e => ?_⟩
  · by_cases hi : i < vs.length
    · rw [List.getElem?_append_left hi] at ht
      rw [List.getElem?_append_left (by omega)] at hm
      exact up (ownB_keep row_u8 (h3 i t m ht hm) hk)
    · have : i = vs.length := by
        have := (List.getElem?_eq_some_iff.1 ht).1
        simp at this; omega
      subst this
      simp at ht
      rw [h1] at hm
      simp at hm
      subst ht; subst hm
      exact up (own_mono hv hbase)
  · have hj := (List.getElem?_eq_some_iff.1 hu).1
    simp at hj
    rw [List.getElem?_append_left (by omega)] at ht
    by_cases hj2 : j < vs.length
    · rw [List.getElem?_append_left hj2] at hu
      exact h4 i j t u k hij ht hu e
    · have : j = vs.length := by omega
      subst this
      simp at hu
      subst hu
      intro e2
      obtain ⟨hlt, _⟩ := hv.lt k e2
      have hti : i < ls.length := by omega
      obtain ⟨_, cs, hc⟩ := (h3 i t _ ht (List.getElem?_eq_getElem hti)).cells e
      have := (Array.getElem?_eq_some_iff.1 hc).1
      omega
/-- the i-th list, read -/
theorem Holds.at {w : World} {base : Nat} {V : Value} {ls : List (List Int)} (h : Holds w base V ls) (i : Nat) (hi : i < ls.length) :
    ∃ g c A n k l, V = .slice (some ⟨g, 0, none⟩) ls.length c ∧ w.cell? ⟨g, i, none⟩ = some (.slice A n k) ∧ Hid (ls[i]? = some l) ∧ l.length = n ∧ n ≤ k ∧ k ≤ maxLen ∧ U8s w.heap.size w A l ∧ OwnB w base (.slice A n k) l := by
  obtain ⟨vs, h1, h2, h3, _⟩ := h
  obtain ⟨s, hs⟩ : ∃ s, vs[i]? = some s := ⟨_, List.getElem?_eq_getElem (by omega)⟩
  rcases h2.2 with ⟨_, hz⟩ | ⟨g, cap, cur, rfl, _, _, _⟩
  · omega
  · have hc := h2.cells (g := g) rfl i (.slice s.1 s.2.1 s.2.2) (by
      have := flatMap_get svE_len vs i s hs 0 _ rfl
      simpa using this)
    rw [addr_add, Nat.zero_add] at hc
    have ho := h3 i s _ hs (List.getElem?_eq_getElem hi)
    obtain ⟨r1, r2, r3, r4⟩ := OwnB.reads ho
    exact ⟨g, cap, s.1, s.2.1, s.2.2, ls[i], by rw [h1], hc, List.getElem?_eq_getElem hi, r1, r2, r3, r4, ho⟩
theorem heap_setCell_at {W : World} {g k : Nat} {cs : Array Value} {e : TypeId} {fr : Nat × Nat} (v : Value) (h : W.heap[g]? = some (.cells cs e fr)) : (W.setCell ⟨g, k, none⟩ v).heap[g]? = some (.cells (cs.setIfInBounds k v) e fr) := by
  rw [Sort.setCell_eq]
  show (W.heap.modify g _)[g]? = _
  rw [Array.getElem?_modify, if_pos rfl, h]
  rfl
end Go.Proofs.YtfcgmlofiaehkaaDoor
