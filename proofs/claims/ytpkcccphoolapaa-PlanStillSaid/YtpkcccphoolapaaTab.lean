/- A table in memory. -/
import Derived.Test.YtpkcccphoolapaaRngA
import Derived.Deep.RegionHeld3
namespace Go.Proofs.Ytpkcccphoolapaa
open Go.RowKit

/-- block T is a table: a limit, and a slice that reads as these segments -/
structure IsTab (w : World) (T : Nat) (limit : Int) (l : List Seg) : Prop where
  lim : w.cell? ⟨T, 0, none⟩ = some (.int .i64 limit)
  fz : w.frozen? ⟨T, 1, none⟩ = false
  segs : ∃ b off c, w.cell? ⟨T, 1, none⟩ = some (.slice (some ⟨b, off, none⟩) l.length c) ∧ l.length ≤ c ∧ b ≠ T ∧ b < w.heap.size ∧ Segs w.heap.size w (some ⟨b, off, none⟩) l

theorem IsTab.lt {w : World} {T : Nat} {limit : Int} {l : List Seg} (h : IsTab w T limit l) : T < w.heap.size := World.block_lt_of_cell? _ _ h.lim

theorem IsTab.below {w w' : World} {T : Nat} {limit : Int} {l : List Seg} (h : IsTab w T limit l) (hb : Below w.heap.size w w') : IsTab w' T limit l := by
  have hl := h.lt
  obtain ⟨b, off, c, h1, h2, h3, h4, h5⟩ := h.segs
  exact ⟨Tfact hb hl h.lim, (hb.frozen (p := ⟨T, 1, none⟩) hl).trans h.fz, b, off, c, Tfact hb hl h1, h2, h3, Nat.lt_of_lt_of_le h4 hb.size, (h5.below hb).mono hb.size⟩

theorem IsTab.drewN {w : World} {T : Nat} {limit : Int} {l : List Seg} (h : IsTab w T limit l) (q : Nat) : IsTab (w.drewN q) T limit l := ⟨h.lim, h.fz, h.segs⟩

theorem size_setCell (w : World) (a : Addr) (u : Value) : (w.setCell a u).heap.size = w.heap.size := by simp [World.setCell]

theorem IsTab.store {w : World} {T : Nat} {limit : Int} {l l' : List Seg} (h : IsTab w T limit l) {b off c : Nat} (hc : l'.length ≤ c) (hne : b ≠ T) (hb : b < w.heap.size) (hR : Segs w.heap.size w (some ⟨b, off, none⟩) l') :
    IsTab (w.setCell ⟨T, 1, none⟩ (.slice (some ⟨b, off, none⟩) l'.length c)) T limit l' := by
  obtain ⟨_, _, _, h1, _, _, _, _⟩ := h.segs
  refine ⟨?_, ?_, b, off, c, ?_, hc, hne, by rw [size_setCell]; exact hb, ?_⟩
  · rw [World.cell?_setCell_other _ _ _ _ (by simp)]; exact h.lim
  · rw [World.frozen?_setCell]; exact h.fz
  · exact World.cell?_setCell_same' _ _ _ (by rw [h1]; rfl)
  · rw [size_setCell]
    rcases hR with h | ⟨b', off', e, g2, g3⟩
    · exact .inl h
    · cases e
      refine .inr ⟨b, off, rfl, g2, fun i x hx j v hv => ?_⟩
      rw [World.cell?_setCell_far _ _ _ _ (by show T ≠ b; exact fun e => hne e.symm)]
      exact g3 i x hx j v hv

end Go.Proofs.Ytpkcccphoolapaa
