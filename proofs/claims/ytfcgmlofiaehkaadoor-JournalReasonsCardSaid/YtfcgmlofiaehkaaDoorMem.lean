/- Words on memory for this claim's walks: what a slice reads as, and that it goes on reading so. -/
import Derived.WalkKit
import Derived.Deep.AppendLies
import Derived.Maps.AppendAt
import Derived.Deep.Draws
import Derived.Deep.QuietTactic
import Derived.BigQuiet
import Derived.Deep.LoopGhost
import Derived.Deep.DeepCutAuto
import Derived.Deep.CutBlock
namespace Go.Proofs.YtfcgmlofiaehkaaDoor
open Go.RowKit

theorem hid {p : Prop} (h : p) : Hid p := h

/-- 'A' (a slice's address) reads as the elements 'l', each of 'sz' cells, in a block below 'B'. -/
def Reads {α : Type} (B : Nat) (w : World) (enc : α → List Value) (sz : Nat) (A : Option Addr) (l : List α) : Prop :=
  l = [] ∨ ∃ b off, A = some ⟨b, off, none⟩ ∧ b < B ∧ ∀ i x, l[i]? = some x → ∀ j v, (enc x)[j]? = some v → w.cell? ⟨b, off + i * sz + j, none⟩ = some v

section
variable {α : Type} {B : Nat} {w w' : World} {enc : α → List Value} {sz : Nat} {A : Option Addr} {l : List α}

theorem Reads.nil (B : Nat) (w : World) (enc : α → List Value) (sz : Nat) (A : Option Addr) : Reads B w enc sz A [] := .inl rfl

theorem Reads.below (h : Reads B w enc sz A l) (hb : Below B w w') : Reads B w' enc sz A l := by
  rcases h with h | ⟨b, off, h1, h2, h3⟩
  · exact .inl h
  · exact .inr ⟨b, off, h1, h2, fun i x hx j v hv => (hb.cell (p := ⟨b, _, none⟩) h2).trans (h3 i x hx j v hv)⟩

theorem Reads.mono {B' : Nat} (h : Reads B w enc sz A l) (hB : B ≤ B') : Reads B' w enc sz A l := by
  rcases h with h | ⟨b, off, h1, h2, h3⟩
  · exact .inl h
  · exact .inr ⟨b, off, h1, by omega, h3⟩

theorem Reads.drewN (h : Reads B w enc sz A l) (q : Nat) : Reads B (w.drewN q) enc sz A l := h

theorem Reads.at (h : Reads B w enc sz A l) (i : Nat) (hi : i < l.length) :
    ∃ b off x, l[i]? = some x ∧ A = some ⟨b, off, none⟩ ∧ b < B ∧ ∀ j v, (enc x)[j]? = some v → w.cell? ⟨b, off + i * sz + j, none⟩ = some v := by
  rcases h with h | ⟨b, off, h1, h2, h3⟩
  · subst h; simp at hi
  · exact ⟨b, off, l[i], List.getElem?_eq_getElem hi, h1, h2, h3 i _ (List.getElem?_eq_getElem hi)⟩
end

def i64 (x : Int) : List Value := [.int .i64 x]
abbrev Ints (B : Nat) (w : World) (A : Option Addr) (l : List Int) : Prop := Reads B w i64 1 A l

theorem Ints.at' {B : Nat} {w : World} {A : Option Addr} {l : List Int} (h : Ints B w A l) (i : Nat) (hi : i < l.length) :
    ∃ b off x, Hid (l[i]? = some x) ∧ A = some ⟨b, off, none⟩ ∧ b < B ∧ w.cell? ⟨b, off + i, none⟩ = some (.int .i64 x) := by
  obtain ⟨b, off, x, hx, hA, hb, hc⟩ := h.at i hi
  exact ⟨b, off, x, hx, hA, hb, by simpa using hc 0 _ rfl⟩

theorem below_drewN' {B : Nat} {w W : World} (h : Below B w W) (n : Nat) : Below B w (W.drewN n) := ⟨h.os, h.tape, h.output, h.size, h.block⟩
theorem grown_drewN {w W : World} {row : Option Nat} (h : w.grownBy W row) (n : Nat) : w.grownBy (W.drewN n) row := ⟨h.os, h.tape, h.output, h.size, h.block⟩
theorem grown_alloc {w W : World} {row : Option Nat} (h : w.grownBy W row) (o : Obj) : w.grownBy (W.alloc o) row := World.grownBy.trans h (World.grownBy_alloc W o row)
theorem grown_below {w W : World} (h : Below w.heap.size w W) (row : Option Nat) : w.grownBy W row := ⟨h.os, h.tape, h.output, h.size, fun k hk _ => h.block k hk⟩
theorem grown_setCell {w W : World} {row : Option Nat} (h : w.grownBy W row) {p : Addr} (hp : row = some p.block ∨ w.heap.size ≤ p.block) (u : Value) : w.grownBy (W.setCell p u) row :=
  ⟨h.os, h.tape, h.output, by simpa [World.setCell] using h.size, fun k hk hne => by
    have e : k ≠ p.block := by
      rcases hp with hp | hp
      · intro e; exact hne (by rw [hp, e])
      · omega
    rw [Below.heap_setCell _ _ _ _ e]
    exact h.block k hk hne⟩
/-- behind a call that writes one row of those that were there, or none -/
theorem grown_then {w W W' : World} {row row' : Option Nat} (h : w.grownBy W row) (h' : W.grownBy W' row') (hr : ∀ k, row' = some k → row = some k ∨ w.heap.size ≤ k) : w.grownBy W' row :=
  ⟨h'.os.trans h.os, h'.tape.trans h.tape, h'.output.trans h.output, Nat.le_trans h.size h'.size, fun k hk hne => by
    refine (h'.block k (Nat.lt_of_lt_of_le hk h.size) (fun e => ?_)).trans (h.block k hk hne)
    rcases hr k e.symm with h1 | h1
    · exact hne h1.symm
    · omega⟩
theorem below_of_grown {B : Nat} {w W : World} {row : Option Nat} (h : w.grownBy W row) (hB : B ≤ w.heap.size) (hr : ∀ k, row = some k → B ≤ k) : Below B w W := (Below.refl _ _).grown h hB hr

/-- block b holds these, from its begin on -/
def Row (w : World) (b : Nat) (vs : List Value) : Prop := b < w.heap.size ∧ ∀ j v, vs[j]? = some v → w.cell? ⟨b, j, none⟩ = some v
theorem Row.grown {w w' : World} {b : Nat} {vs : List Value} {row : Option Nat} (h : Row w b vs) (hg : w.grownBy w' row) (hne : some b ≠ row) : Row w' b vs :=
  ⟨Nat.lt_of_lt_of_le h.1 hg.size, fun j v hv => hg.cell (h.2 j v hv) hne⟩
theorem Row.below {w w' : World} {b : Nat} {vs : List Value} (h : Row w b vs) (hb : Below w.heap.size w w') : Row w' b vs :=
  ⟨Nat.lt_of_lt_of_le h.1 hb.size, fun j v hv => (hb.cell (p := ⟨b, j, none⟩) h.1).trans (h.2 j v hv)⟩
theorem Row.drewN {w : World} {b : Nat} {vs : List Value} (h : Row w b vs) (q : Nat) : Row (w.drewN q) b vs := h
theorem Row.new (w : World) (vs : List Value) (t : TypeId) : Row (w.alloc (.cells vs.toArray t)) w.heap.size vs :=
  ⟨by simp, fun j v hv => by simp [hv]⟩
theorem Row.four {w : World} {b : Nat} {x0 x1 x2 x3 : Value} (h : Row w b [x0, x1, x2, x3]) : w.cell? ⟨b, 0, none⟩ = some x0 ∧ w.cell? ⟨b, 1, none⟩ = some x1 ∧ w.cell? ⟨b, 2, none⟩ = some x2 ∧ w.cell? ⟨b, 3, none⟩ = some x3 :=
  ⟨h.2 0 _ rfl, h.2 1 _ rfl, h.2 2 _ rfl, h.2 3 _ rfl⟩

/-! ### rows of the call's own -/
theorem _root_.Go.World.grownBy_refl' (w : World) (row : Option Nat) : w.grownBy w row := ⟨rfl, rfl, rfl, Nat.le_refl _, fun _ _ _ => rfl⟩

theorem flatMap_get {α : Type} {enc : α → List Value} {sz : Nat} (henc : ∀ x, (enc x).length = sz) (l : List α) (i : Nat) (x : α) (hx : l[i]? = some x) (j : Nat) (v : Value) (hv : (enc x)[j]? = some v) :
    (l.flatMap enc)[i * sz + j]? = some v := by
  induction l generalizing i with
  | nil => simp at hx
  | cons y l ih =>
    rw [List.flatMap_cons]
    cases i with
    | zero =>
      simp at hx
      subst hx
      rw [Nat.zero_mul, Nat.zero_add, List.getElem?_append_left (List.getElem?_eq_some_iff.1 hv).1]
      exact hv
    | succ i =>
      simp at hx
      rw [List.getElem?_append_right (by rw [henc]; rw [Nat.succ_mul]; omega), henc, show (i + 1) * sz + j - sz = i * sz + j by rw [Nat.succ_mul]; omega]
      exact ih i hx

theorem flatMap_length {α : Type} {enc : α → List Value} {sz : Nat} (henc : ∀ x, (enc x).length = sz) (l : List α) : (l.flatMap enc).length = l.length * sz := by
  induction l with
  | nil => simp
  | cons y l ih => rw [List.flatMap_cons, List.length_append, henc, ih, List.length_cons, Nat.succ_mul]; omega

theorem addr_add (g k j : Nat) : (⟨g, k, none⟩ : Addr).add j = ⟨g, k + j, none⟩ := by unfold Addr.add; split <;> simp_all

/-- What is owned reads, too: from here on as a slice like any other. -/
theorem owns_reads {α : Type} {enc : α → List Value} {sz : Nat} {w : World} {base : Nat} {e : TypeId} {v : Value} {n : Nat} {l : List α} (henc : ∀ x, (enc x).length = sz)
    (h : w.ownsRow base e sz v n (l.flatMap enc)) (hsz : 0 < sz) : l.length = n ∧ ∃ A c, v = .slice A n c ∧ n ≤ c ∧ c ≤ maxLen ∧ Reads w.heap.size w enc sz A l := by
  have hl : l.length = n := by
    have := h.1
    rw [flatMap_length henc] at this
    exact Nat.eq_of_mul_eq_mul_right hsz this
  refine ⟨hl, ?_⟩
  have h0 := h
  rcases h.2 with ⟨rfl, rfl⟩ | ⟨g, cap, cur, rfl, hb, hh, hn, hc, _⟩
  · exact ⟨none, 0, rfl, Nat.le_refl _, by simp [maxLen], .inl (List.eq_nil_of_length_eq_zero hl)⟩
  · refine ⟨_, cap, rfl, hn, hc, .inr ⟨g, 0, rfl, (Array.getElem?_eq_some_iff.1 hh).1, fun i x hx j u hu => ?_⟩⟩
    have := h0.cells (g := g) rfl (i * sz + j) u (flatMap_get henc l i x hx j u hu)
    rw [addr_add] at this
    rw [Nat.add_assoc]
    exact this

section
variable {P : Program} {ops : Array Oper} {rest : List Oper} {o : Oper} {a : Act} {Q : Exit → Act → World → Prop}

/-- append(v, ys...): v a row of the call's own, ys a slice that reads (nil let in). -/
theorem wpList_append_reads {α : Type} {enc : α → List Value} {sz B : Nat} (W : World) (base : Nat) (hgd : o.guard = none) (s x : Operand) (t e : TypeId) (z : Value) (bytes : Nat)
    (ho : o.op = .call { callee := .builtin .append, args := #[s, x], argTypes := #[t, t] })
    (ht : P.underlying t = some (.slice e)) (hinfo : (P.info? e).map (fun i => (i.zero, i.size, i.bytes)) = some (some z, sz, bytes)) (hz : z.cells.size = sz) (hsz : 0 < sz)
    (v : Value) (n : Nat) (xs : List Value) (hs : a.eval s = v) (HO : W.ownsRow base e sz v n xs)
    (A : Option Addr) (m c : Nat) (ys : List α) (hx : a.eval x = .slice A m c) (hm : ys.length = m) (HR : Reads B W enc sz A ys) (henc : ∀ y, (enc y).length = sz) (hone : ∀ y, ∀ u ∈ enc y, u.oneCell' = true)
    (h63 : n + m ≤ maxLen) (hbytes : (n + m) * bytes ≤ 140737488355328) (hbase : base ≤ W.heap.size)
    (h : ∀ v1 w1, w1.ownsRow base e sz v1 (n + m) (xs ++ ys.flatMap enc) → W.grownBy w1 v.ownBlock → (v1.ownBlock = v.ownBlock ∨ v1.ownBlock = some W.heap.size) → wpList P ops Q rest (a.put o.dst v1) w1) :
    wpList P ops Q (o :: rest) a W := by
  obtain ⟨i0, hi, hzz⟩ := Option.map_eq_some_iff.1 hinfo
  simp only [Prod.mk.injEq] at hzz
  obtain ⟨hz0, hz1, hz2⟩ := hzz
  have hrun : ∃ v1 w1, (Builtin.append_ #[t, t] o.type #[v, .slice A m c]).run P W = .ok v1 w1 ∧ w1.ownsRow base e sz v1 (n + m) (xs ++ ys.flatMap enc) ∧ W.grownBy w1 v.ownBlock ∧ (v1.ownBlock = v.ownBlock ∨ v1.ownBlock = some W.heap.size) := by
    rcases A with _ | ad
    · obtain rfl : ys = [] := by
        rcases HR with h | ⟨b, off, h, _⟩
        · exact h
        · cases h
      obtain rfl : m = 0 := by simpa using hm.symm
      refine ⟨v, W, ?_, by simpa using HO, World.grownBy_refl' W _, .inl rfl⟩
      rcases HO.2 with ⟨rfl, hn⟩ | ⟨g, cap, cur, rfl, _, _, hnc, _⟩
      · simp [Builtin.append_, run_underlying ht, sizeOf, typeInfo, hi, Builtin.lenOf, Builtin.firstCells]
      · simp [Builtin.append_, run_underlying ht, sizeOf, typeInfo, hi, Builtin.lenOf, Builtin.firstCells, hnc, storeCells]
    · have hcells : ∀ j u, (ys.flatMap enc)[j]? = some u → W.cell? (ad.add j) = some u := by
        intro j u hu
        have hj : j < ys.length * sz := by
          have := (List.getElem?_eq_some_iff.1 hu).1
          rwa [flatMap_length henc] at this
        have hlt : j / sz < ys.length := (Nat.div_lt_iff_lt_mul hsz).2 hj
        obtain ⟨b, off, y, hy, hA, _, hc⟩ := HR.at (j / sz) hlt
        cases hA
        have hmod : j % sz < (enc y).length := by rw [henc]; exact Nat.mod_lt _ hsz
        have h1 := flatMap_get henc ys (j / sz) y hy (j % sz) _ (List.getElem?_eq_getElem hmod)
        have e1 : j / sz * sz + j % sz = j := by rw [Nat.mul_comm]; exact Nat.div_add_mod j sz
        rw [e1, hu] at h1
        have h2 := hc (j % sz) _ (List.getElem?_eq_getElem hmod)
        rw [← h1, Nat.add_assoc, e1] at h2
        rw [addr_add]
        exact h2
      exact run_append_own_at (P := P) W base t o.type e i0 z sz bytes ht hi hz0 hz1 hz2 hz hsz v n xs HO ad m c (ys.flatMap enc) (by rw [flatMap_length henc, hm]) hcells
        (by intro u hu; obtain ⟨y, _, hy⟩ := List.mem_flatMap.1 hu; exact hone y u hy) h63 hbytes hbase |>.imp fun v1 h => h.imp fun w1 h => ⟨h.1, h.2.1, h.2.2.1, h.2.2.2.2⟩
  obtain ⟨v1, w1, hr, hown, hg, hat⟩ := hrun
  refine wpList_plain hgd fun K hK => ?_
  unfold Oper.wp execOp
  simp only [ho, resolve, invoke, builtin, Sem.run_bind, Sem.run_pure, Result.andThen_ok, List.map_toArray, List.map_cons, List.map_nil, hs, hx, hr]
  exact hK _ _ (h v1 w1 hown hg hat)

/-- append(v, y), y an element just laid in a block of its own: behind 'at_builtin'. -/
theorem wpList_append_one {α : Type} {enc : α → List Value} {sz : Nat} (W : World) (base : Nat) (hgd : o.guard = none) (s x : Operand) (t e : TypeId) (z : Value) (bytes : Nat)
    (ho : o.op = .call { callee := .builtin .append, args := #[s, x], argTypes := #[t, t] })
    (ht : P.underlying t = some (.slice e)) (hinfo : (P.info? e).map (fun i => (i.zero, i.size, i.bytes)) = some (some z, sz, bytes)) (hz : z.cells.size = sz) (hsz : 0 < sz)
    (henc : ∀ y, (enc y).length = sz) (hone : ∀ y, ∀ u ∈ enc y, u.oneCell' = true)
    (v : Value) (l : List α) (y : α) (cs : Array Value) (hcs : cs = (enc y).toArray) (hs : a.eval s = v) (N : Nat) (hx : a.eval x = .slice (some ⟨N, 0, none⟩) 1 1) (hN : N = W.heap.size)
    (HO : W.ownsRow base e sz v l.length (l.flatMap enc)) (h63 : l.length + 1 ≤ maxLen) (hbytes : (l.length + 1) * bytes ≤ 140737488355328) (hbase : base ≤ W.heap.size)
    (h : ∀ v1 w1, w1.ownsRow base e sz v1 (l ++ [y]).length ((l ++ [y]).flatMap enc) → W.grownBy w1 v.ownBlock → (v1.ownBlock = v.ownBlock ∨ ∃ b, v1.ownBlock = some b ∧ W.heap.size ≤ b) → wpList P ops Q rest (a.put o.dst v1) w1) :
    wpList P ops Q (o :: rest) a (W.alloc (.cells cs e)) := by
  subst hcs
  subst hN
  obtain ⟨i0, hi, hzz⟩ := Option.map_eq_some_iff.1 hinfo
  simp only [Prod.mk.injEq] at hzz
  obtain ⟨hz0, hz1, hz2⟩ := hzz
  refine wpList_append_own_at (W.alloc (.cells (enc y).toArray e)) hgd s x t ho base e i0 z sz bytes ht hi hz0 hz1 hz2 hz hsz v l.length (l.flatMap enc) hs (HO.alloc _) ⟨W.heap.size, 0, none⟩ 1 1 (enc y) hx (by rw [henc, Nat.one_mul])
    (World.news_of_block (cs := (enc y).toArray) (t := e) (fr := (0, 0)) (heap_alloc_new W _)) (hone y) h63 hbytes (by simp; omega) ?_
  intro v1 w1 hown hg _ hat
  refine h v1 w1 (by simpa using hown) (World.grownBy.trans (World.grownBy_alloc W _ _) hg) ?_
  rcases hat with hat | hat
  · exact .inl hat
  · exact .inr ⟨_, hat, by simp⟩
end

/-- make([]T, 0, c), c a number that the walk has reckoned: laid ahead of the walk. -/
theorem make_run {P : Program} (t e : TypeId) (z : Value) (sz bytes : Nat) (ht : P.underlying t = some (.slice e)) (hinfo : (P.info? e).map (fun i => (i.zero, i.size, i.bytes)) = some (some z, sz, bytes))
    (c : Nat) (k : Int) (hk : k = c) (hb : bytes * c ≤ 281474976710656) (h63 : c ≤ 9223372036854775807) :
    ∀ W : World, (Instr.makeSlice t (.int .i64 0) (.int .i64 k)).run P W = .ok (.slice (some ⟨W.heap.size, 0, none⟩) 0 c) (W.alloc (.cells (madeCells z.cells (c * sz)) e)) := by
  intro W
  subst hk
  obtain ⟨i0, hi, hzz⟩ := Option.map_eq_some_iff.1 hinfo
  simp only [Prod.mk.injEq] at hzz
  obtain ⟨hz0, hz1, hz2⟩ := hzz
  have h := run_make (P := P) W t e i0 z ht hi hz0 .i64 .i64 0 c (by omega) (by omega) (by rw [hz2, ← Int.natCast_mul]; omega) (by omega)
  rw [hz1] at h
  simpa using h

/-- the first elements of a slice that reads -/
theorem Reads.take {α : Type} {B : Nat} {w : World} {enc : α → List Value} {sz : Nat} {A : Option Addr} {l : List α} (h : Reads B w enc sz A l) (k : Nat) : Reads B w enc sz A (l.take k) := by
  rcases h with rfl | ⟨b, off, h1, h2, h3⟩
  · exact .inl (by simp)
  · refine .inr ⟨b, off, h1, h2, fun i x hx => h3 i x ?_⟩
    rw [List.getElem?_take] at hx
    split at hx
    · exact hx
    · cases hx

theorem wrap_u64_in {x : Int} (h0 : 0 ≤ x) (h1 : x ≤ 18446744073709551615) : IntKind.u64.wrap x = x := by
  unfold IntKind.wrap
  simp only [IntKind.signed, IntKind.bits]
  first | omega | (simp; omega)

theorem own_ge {w : World} {base : Nat} {e : TypeId} {size n : Nat} {v : Value} {xs : List Value} (h : w.ownsRow base e size v n xs) : ∀ k, v.ownBlock = some k → base ≤ k := fun k hk => (h.lt k hk).1

theorem Reads.drop {α : Type} {B : Nat} {w : World} {enc : α → List Value} {sz : Nat} {b off : Nat} {l : List α} (h : Reads B w enc sz (some ⟨b, off, none⟩) l) (m : Nat) : Reads B w enc sz (some ⟨b, off + m * sz, none⟩) (l.drop m) := by
  rcases h with rfl | ⟨b', off', h1, h2, h3⟩
  · exact .inl (by simp)
  · cases h1
    refine .inr ⟨b, _, rfl, h2, fun i x hx j v hv => ?_⟩
    rw [List.getElem?_drop] at hx
    have := h3 (m + i) x hx j v hv
    rw [Nat.add_mul, ← Nat.add_assoc] at this
    exact this

/-- 'xs[m:]': one equation for the walk, the address under a name. -/
theorem drop_run {α : Type} {P : Program} {enc : α → List Value} (t e : TypeId) (z : Value) (sz bytes : Nat) (ht : P.underlying t = some (.slice e)) (hinfo : (P.info? e).map (fun i => (i.zero, i.size, i.bytes)) = some (some z, sz, bytes))
    (A : Option Addr) (n c m : Nat) (k : Int) (hk : k = m) (hm : m ≤ n) (hnc : n ≤ c) :
    ∃ A' : Option Addr, (∀ W : World, (Instr.slice t (.slice A n c) (some (.int .i64 k)) none none).run P W = .ok (.slice A' (n - m) (c - m)) W) ∧
      ∀ (B : Nat) (w : World) (l : List α), l.length = n → Reads B w enc sz A l → Reads B w enc sz A' (l.drop m) := by
  subst hk
  obtain ⟨i0, hi, hzz⟩ := Option.map_eq_some_iff.1 hinfo
  simp only [Prod.mk.injEq] at hzz
  obtain ⟨hz0, hz1, hz2⟩ := hzz
  refine ⟨if c = m then A else A.map (·.add (m * sz)), fun W => ?_, fun B w l hl h => ?_⟩
  · have hel : P.elem t = e := by simp [Program.elem, ht]
    have hu : P.underlying t = some (.slice (P.elem t)) := by rw [hel]; exact ht
    rw [run_slice_l W t A n c hu .i64 (m : Int) (Int.natCast_nonneg _) (by omega), hel]
    simp [sizeOf, typeInfo, hi, hz1, sliced, Result.andThen]
  · split
    · have : l.drop m = [] := List.eq_nil_of_length_eq_zero (by rw [List.length_drop]; omega)
      rw [this]; exact .inl rfl
    · rcases h with rfl | ⟨b, off, rfl, h2, h3⟩
      · exact .inl (by simp)
      · have := Reads.drop (.inr ⟨b, off, rfl, h2, h3⟩ : Reads B w enc sz (some ⟨b, off, none⟩) l) m
        simpa [addr_add] using this

theorem enters_fn {P : Program} {f : FuncId} {fn : Func} {c : Code} (hf : P.funcs[f]? = some fn) (hname : (fn.name == "runtime.NumGoroutine") = false) (hb : fn.body = some c) : ∀ args w, (callFunc f args).run P w = .ok (.enter f args) w := by
  intro args w
  have h1 : fn.name ≠ "runtime.NumGoroutine" := by simpa using hname
  simp [callFunc, hf, h1, hb, mark]

theorem ret_bool {a b : Bool} (h : a = b) : Ending.returned (.bool a) = .returned (.bool b) := by rw [h]
theorem ret_i {k : IntKind} {a b : Int} (h : a = b) : Ending.returned (.int k a) = .returned (.int k b) := by rw [h]
end Go.Proofs.YtfcgmlofiaehkaaDoor
