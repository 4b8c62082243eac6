/- An append in a region that draws its order. -/
import Derived.Test.YtpkcccphoolapaaMem
namespace Go.Proofs.Ytpkcccphoolapaa
open Go.RowKit

section
variable {P : Program} {o : Oper} {a : Act} {K : Act → World → Prop} {Q : Exit → Act → World → Prop}
/-- append(v, ys...) in a drawn region -/
theorem oper_append_reads {α : Type} {enc : α → List Value} {sz B : Nat} (W : World) (base : Nat) (s x : Operand) (t e : TypeId) (z : Value) (bytes : Nat)
    (ho : o.op = .call { callee := .builtin .append, args := #[s, x], argTypes := #[t, t] })
    (ht : P.underlying t = some (.slice e)) (hinfo : (P.info? e).map (fun i => (i.zero, i.size, i.bytes)) = some (some z, sz, bytes)) (hz : z.cells.size = sz) (hsz : 0 < sz)
    (v : Value) (n : Nat) (xs : List Value) (hs : a.eval s = v) (HO : W.ownsRow base e sz v n xs)
    (A : Option Addr) (m c : Nat) (ys : List α) (hx : a.eval x = .slice A m c) (hm : ys.length = m) (HR : Reads B W enc sz A ys) (henc : ∀ y, (enc y).length = sz) (hone : ∀ y, ∀ u ∈ enc y, u.oneCell' = true)
    (h63 : n + m ≤ maxLen) (hbytes : (n + m) * bytes ≤ 140737488355328) (hbase : base ≤ W.heap.size)
    (h : ∀ v1 w1, w1.ownsRow base e sz v1 (n + m) (xs ++ ys.flatMap enc) → W.grownBy w1 v.ownBlock → (v1.ownBlock = v.ownBlock ∨ v1.ownBlock = some W.heap.size) → K (a.put o.dst v1) w1) :
    o.wp P a W K Q := by
  obtain ⟨i0, hi, hzz⟩ := Option.map_eq_some_iff.1 hinfo
  simp only [Prod.mk.injEq] at hzz
  obtain ⟨hz0, hz1, hz2⟩ := hzz
  have hrun : ∃ v1 w1, (Builtin.append_ #[t, t] o.type #[v, .slice A m c]).run P W = .ok v1 w1 ∧ w1.ownsRow base e sz v1 (n + m) (xs ++ ys.flatMap enc) ∧ W.grownBy w1 v.ownBlock ∧ (v1.ownBlock = v.ownBlock ∨ v1.ownBlock = some W.heap.size) := by
    rcases A with _ | ad
    · obtain rfl : ys = [] := by
        rcases HR with h | ⟨b, off, h, _⟩
        · exact h
        · cases h
      obtain rfl : m = 0 := by simpa using hm.symm
      refine ⟨v, W, ?_, by simpa using HO, World.grownBy_refl' W _, .inl rfl⟩
      rcases HO.2 with ⟨rfl, hn⟩ | ⟨g, cap, cur, rfl, _, _, hnc, _⟩
      · simp [Builtin.append_, run_underlying ht, sizeOf, typeInfo, hi, Builtin.lenOf, Builtin.firstCells]
      · simp [Builtin.append_, run_underlying ht, sizeOf, typeInfo, hi, Builtin.lenOf, Builtin.firstCells, hnc, storeCells]
    · have hcells : ∀ j u, (ys.flatMap enc)[j]? = some u → W.cell? (ad.add j) = some u := by
        intro j u hu
        have hj : j < ys.length * sz := by
          have := (List.getElem?_eq_some_iff.1 hu).1
          rwa [flatMap_length henc] at this
        have hlt : j / sz < ys.length := (Nat.div_lt_iff_lt_mul hsz).2 hj
        obtain ⟨b, off, y, hy, hA, _, hc⟩ := HR.at (j / sz) hlt
        cases hA
        have hmod : j % sz < (enc y).length := by rw [henc]; exact Nat.mod_lt _ hsz
        have h1 := flatMap_get henc ys (j / sz) y hy (j % sz) _ (List.getElem?_eq_getElem hmod)
        have e1 : j / sz * sz + j % sz = j := by rw [Nat.mul_comm]; exact Nat.div_add_mod j sz
        rw [e1, hu] at h1
        have h2 := hc (j % sz) _ (List.getElem?_eq_getElem hmod)
        rw [← h1, Nat.add_assoc, e1] at h2
        rw [addr_add]
        exact h2
      exact run_append_own_at (P := P) W base t o.type e i0 z sz bytes ht hi hz0 hz1 hz2 hz hsz v n xs HO ad m c (ys.flatMap enc) (by rw [flatMap_length henc, hm]) hcells
        (by intro u hu; obtain ⟨y, _, hy⟩ := List.mem_flatMap.1 hu; exact hone y u hy) h63 hbytes hbase |>.imp fun v1 h => h.imp fun w1 h => ⟨h.1, h.2.1, h.2.2.1, h.2.2.2.2⟩
  obtain ⟨v1, w1, hr, hown, hg, hat⟩ := hrun
  unfold Oper.wp execOp
  simp only [ho, resolve, invoke, builtin, Sem.run_bind, Sem.run_pure, Result.andThen_ok, List.map_toArray, List.map_cons, List.map_nil, hs, hx, hr]
  exact h v1 w1 hown hg hat

/-- append(v, y), y an element just laid: in a drawn region -/
theorem oper_append_one {α : Type} {enc : α → List Value} {sz : Nat} (W : World) (base : Nat) (s x : Operand) (t e : TypeId) (z : Value) (bytes : Nat)
    (ho : o.op = .call { callee := .builtin .append, args := #[s, x], argTypes := #[t, t] })
    (ht : P.underlying t = some (.slice e)) (hinfo : (P.info? e).map (fun i => (i.zero, i.size, i.bytes)) = some (some z, sz, bytes)) (hz : z.cells.size = sz) (hsz : 0 < sz)
    (henc : ∀ y, (enc y).length = sz) (hone : ∀ y, ∀ u ∈ enc y, u.oneCell' = true)
    (v : Value) (l : List α) (y : α) (cs : Array Value) (hcs : cs = (enc y).toArray) (hs : a.eval s = v) (N : Nat) (hx : a.eval x = .slice (some ⟨N, 0, none⟩) 1 1) (hN : N = W.heap.size)
    (HO : W.ownsRow base e sz v l.length (l.flatMap enc)) (h63 : l.length + 1 ≤ maxLen) (hbytes : (l.length + 1) * bytes ≤ 140737488355328) (hbase : base ≤ W.heap.size)
    (h : ∀ v1 w1, w1.ownsRow base e sz v1 (l ++ [y]).length ((l ++ [y]).flatMap enc) → W.grownBy w1 v.ownBlock → K (a.put o.dst v1) w1) :
    o.wp P a (W.alloc (.cells cs e)) K Q := by
  subst hcs
  subst hN
  refine oper_append_reads (B := W.heap.size + 1) (W.alloc (.cells (enc y).toArray e)) base s x t e z bytes ho ht hinfo hz hsz v l.length (l.flatMap enc) hs (HO.alloc _) (some ⟨W.heap.size, 0, none⟩) 1 1 [y] hx rfl
    (.inr ⟨_, 0, rfl, by omega, fun i u hu j v hv => ?_⟩) henc hone h63 hbytes (by simp; omega) ?_
  · cases i with
    | zero =>
      simp at hu
      subst hu
      have := (Row.new W (enc y) e).2 j v hv
      simpa using this
    | succ i => simp at hu
  · intro v1 w1 hown hg _
    refine h v1 w1 (by simpa using hown) (World.grownBy.trans (World.grownBy_alloc W _ _) hg)
end
end Go.Proofs.Ytpkcccphoolapaa
