/- Layer 9: what a slot's bytes hold, walked. -/
import Derived.Test.YtfcgmlofiaehkaaDoorJH
import Derived.Test.YtfcgmlofiaehkaaDoorJR
namespace Go.Proofs.YtfcgmlofiaehkaaDoor
open Go.RowKit

section
variable {P : Program} {o : Oper} {a : Act} {K : Act → World → Prop} {Q : Exit → Act → World → Prop}
/-- append(v, ys...) in a drawn region -/
theorem oper_append_reads {α : Type} {enc : α → List Value} {sz B : Nat} (W : World) (base : Nat) (s x : Operand) (t e : TypeId) (z : Value) (bytes : Nat)
    (ho : o.op = .call { callee := .builtin .append, args := #[s, x], argTypes := #[t, t] })
    (ht : P.underlying t = some (.slice e)) (hinfo : (P.info? e).map (fun i => (i.zero, i.size, i.bytes)) = some (some z, sz, bytes)) (hz : z.cells.size = sz) (hsz : 0 < sz)
    (v : Value) (n : Nat) (xs : List Value) (hs : a.eval s = v) (HO : W.ownsRow base e sz v n xs)
    (A : Option Addr) (m c : Nat) (ys : List α) (hx : a.eval x = .slice A m c) (hm : ys.length = m) (HR : Reads B W enc sz A ys) (henc : ∀ y, (enc y).length = sz) (hone : ∀ y, ∀ u ∈ enc y, u.oneCell' = true)
    (h63 : n + m ≤ maxLen) (hbytes : (n + m) * bytes ≤ 140737488355328) (hbase : base ≤ W.heap.size)
    (h : ∀ v1 w1, w1.ownsRow base e sz v1 (n + m) (xs ++ ys.flatMap enc) → W.grownBy w1 v.ownBlock → (v1.ownBlock = v.ownBlock ∨ v1.ownBlock = some W.heap.size) → K (a.put o.dst v1) w1) :
    o.wp P a W K Q := by
  obtain ⟨i0, hi, hzz⟩ := Option.map_eq_some_iff.1 hinfo
  simp only [Prod.mk.injEq] at hzz
  obtain ⟨hz0, hz1, hz2⟩ := hzz
  have hrun : ∃ v1 w1, (Builtin.append_ #[t, t] o.type #[v, .slice A m c]).run P W = .ok v1 w1 ∧ w1.ownsRow base e sz v1 (n + m) (xs ++ ys.flatMap enc) ∧ W.grownBy w1 v.ownBlock ∧ (v1.ownBlock = v.ownBlock ∨ v1.ownBlock = some W.heap.size) := by
    rcases A with _ | ad
    · obtain rfl : ys = [] := by
        rcases HR with h | ⟨b, off, h, _⟩
        · exact h
        · cases h
      obtain rfl : m = 0 := by simpa using hm.symm
      refine ⟨v, W, ?_, by simpa using HO, World.grownBy_refl' W _, .inl rfl⟩
      rcases HO.2 with ⟨rfl, hn⟩ | ⟨g, cap, cur, rfl, _, _, hnc, _⟩
      · simp [Builtin.append_, run_underlying ht, sizeOf, typeInfo, hi, Builtin.lenOf, Builtin.firstCells]
      · simp [Builtin.append_, run_underlying ht, sizeOf, typeInfo, hi, Builtin.lenOf, Builtin.firstCells, hnc, storeCells]
    · have hcells : ∀ j u, (ys.flatMap enc)[j]? = some u → W.cell? (ad.add j) = some u := by
        intro j u hu
        have hj : j < ys.length * sz := by
          have := (List.getElem?_eq_some_iff.1 hu).1
          rwa [flatMap_length henc] at this
        have hlt : j / sz < ys.length := (Nat.div_lt_iff_lt_mul hsz).2 hj
        obtain ⟨b, off, y, hy, hA, _, hc⟩ := HR.at (j / sz) hlt
        cases hA
        have hmod : j % sz < (enc y).length := by rw [henc]; exact Nat.mod_lt _ hsz
        have h1 := flatMap_get henc ys (j / sz) y hy (j % sz) _ (List.getElem?_eq_getElem hmod)
        have e1 : j / sz * sz + j % sz = j := by rw [Nat.mul_comm]; exact Nat.div_add_mod j sz
        rw [e1, hu] at h1
        have h2 := hc (j % sz) _ (List.getElem?_eq_getElem hmod)
        rw [← h1, Nat.add_assoc, e1] at h2
        rw [addr_add]
        exact h2
      exact run_append_own_at (P := P) W base t o.type e i0 z sz bytes ht hi hz0 hz1 hz2 hz hsz v n xs HO ad m c (ys.flatMap enc) (by rw [flatMap_length henc, hm]) hcells
        (by intro u hu; obtain ⟨y, _, hy⟩ := List.mem_flatMap.1 hu; exact hone y u hy) h63 hbytes hbase |>.imp fun v1 h => h.imp fun w1 h => ⟨h.1, h.2.1, h.2.2.1, h.2.2.2.2⟩
  obtain ⟨v1, w1, hr, hown, hg, hat⟩ := hrun
  unfold Oper.wp execOp
  simp only [ho, resolve, invoke, builtin, Sem.run_bind, Sem.run_pure, Result.andThen_ok, List.map_toArray, List.map_cons, List.map_nil, hs, hx, hr]
  exact h v1 w1 hown hg hat

/-- append(v, y), y an element just laid: in a drawn region -/
theorem oper_append_one {α : Type} {enc : α → List Value} {sz : Nat} (W : World) (base : Nat) (s x : Operand) (t e : TypeId) (z : Value) (bytes : Nat)
    (ho : o.op = .call { callee := .builtin .append, args := #[s, x], argTypes := #[t, t] })
    (ht : P.underlying t = some (.slice e)) (hinfo : (P.info? e).map (fun i => (i.zero, i.size, i.bytes)) = some (some z, sz, bytes)) (hz : z.cells.size = sz) (hsz : 0 < sz)
    (henc : ∀ y, (enc y).length = sz) (hone : ∀ y, ∀ u ∈ enc y, u.oneCell' = true)
    (v : Value) (l : List α) (y : α) (cs : Array Value) (hcs : cs = (enc y).toArray) (hs : a.eval s = v) (N : Nat) (hx : a.eval x = .slice (some ⟨N, 0, none⟩) 1 1) (hN : N = W.heap.size)
    (HO : W.ownsRow base e sz v l.length (l.flatMap enc)) (h63 : l.length + 1 ≤ maxLen) (hbytes : (l.length + 1) * bytes ≤ 140737488355328) (hbase : base ≤ W.heap.size)
    (h : ∀ v1 w1, w1.ownsRow base e sz v1 (l ++ [y]).length ((l ++ [y]).flatMap enc) → W.grownBy w1 v.ownBlock → K (a.put o.dst v1) w1) :
    o.wp P a (W.alloc (.cells cs e)) K Q := by
  subst hcs
  subst hN
  refine oper_append_reads (B := W.heap.size + 1) (W.alloc (.cells (enc y).toArray e)) base s x t e z bytes ho ht hinfo hz hsz v l.length (l.flatMap enc) hs (HO.alloc _) (some ⟨W.heap.size, 0, none⟩) 1 1 [y] hx rfl
    (.inr ⟨_, 0, rfl, by omega, fun i u hu j v hv => ?_⟩) henc hone h63 hbytes (by simp; omega) ?_
  · cases i with
    | zero =>
      simp at hu
      subst hu
      have := (Row.new W (enc y) e).2 j v hv
      simpa using this
    | succ i => simp at hu
  · intro v1 w1 hown hg _
    refine h v1 w1 (by simpa using hown) (World.grownBy.trans (World.grownBy_alloc W _ _) hg)
end

/-- a box of six cells -/
def Box6 (W : World) (g : Nat) (x0 x1 x2 x3 x4 x5 : Value) : Prop := W.heap[g]? = some (.cells #[x0, x1, x2, x3, x4, x5] 109 (0, 0))
theorem Box6.cells {W : World} {g : Nat} {x0 x1 x2 x3 x4 x5 : Value} (h : Box6 W g x0 x1 x2 x3 x4 x5) : W.cell? ⟨g, 0, none⟩ = some x0 ∧ W.cell? ⟨g, 1, none⟩ = some x1 ∧ W.cell? ⟨g, 2, none⟩ = some x2 ∧ W.cell? ⟨g, 3, none⟩ = some x3 ∧ W.cell? ⟨g, 4, none⟩ = some x4 ∧ W.cell? ⟨g, 5, none⟩ = some x5 := by
  unfold Box6 at h
  refine ⟨?_, ?_, ?_, ?_, ?_, ?_⟩ <;> simp [World.cell?, h]
theorem Box6.fz {W : World} {g : Nat} {x0 x1 x2 x3 x4 x5 : Value} (h : Box6 W g x0 x1 x2 x3 x4 x5) (i : Nat) : W.frozen? ⟨g, i, none⟩ = false := by
  unfold Box6 at h
  simp [World.frozen?, h]
theorem Box6.set6 {W : World} {g : Nat} {x0 x1 x2 x3 x4 x5 : Value} (h : Box6 W g x0 x1 x2 x3 x4 x5) (y0 y1 y2 y3 y4 y5 : Value) :
    Box6 ((((((W.setCell ⟨g, 0, none⟩ y0).setCell ⟨g, 1, none⟩ y1).setCell ⟨g, 2, none⟩ y2).setCell ⟨g, 3, none⟩ y3).setCell ⟨g, 4, none⟩ y4).setCell ⟨g, 5, none⟩ y5) g y0 y1 y2 y3 y4 y5 := by
  unfold Box6 at h ⊢
  exact heap_setCell_at y5 (heap_setCell_at y4 (heap_setCell_at y3 (heap_setCell_at y2 (heap_setCell_at y1 (heap_setCell_at y0 h)))))
theorem Box6.kept {W W' : World} {g : Nat} {x0 x1 x2 x3 x4 x5 : Value} (h : Box6 W g x0 x1 x2 x3 x4 x5) (hb : Below W.heap.size W W') : Box6 W' g x0 x1 x2 x3 x4 x5 := (hb.block g (Array.getElem?_eq_some_iff.1 h).1).trans h
theorem Box6.lt {W : World} {g : Nat} {x0 x1 x2 x3 x4 x5 : Value} (h : Box6 W g x0 x1 x2 x3 x4 x5) : g < W.heap.size := (Array.getElem?_eq_some_iff.1 h).1
/-- a slot as scan hands it out -/
def SlotIs (w w' : World) (sv : Value) (s : SlotL) : Prop :=
  ∃ As ns cs V, sv = .agg #[.bool s.whole, .int .u64 s.gen, .slice As ns cs, V, .int .i64 s.good, .int .u32 s.sum] ∧ s.state.length = ns ∧ ns ≤ cs ∧ U8s w.heap.size w As s.state ∧ Holds w' w.heap.size V s.recs
def ScanRes (w w' : World) (sv err : Value) (x : SlotL × EndL) : Prop := SlotIs w w' sv x.1 ∧ Ended w w' err x.2.1 x.2.2
theorem SlotIs.zero (w w' : World) : SlotIs w w' (.agg #[.bool false, .int .u64 0, .slice none 0 0, .slice none 0 0, .int .i64 0, .int .u32 0]) .none :=
  ⟨none, 0, 0, _, rfl, rfl, Nat.le_refl _, .inl rfl, Holds.nil _ _⟩

theorem results_cell_iface {fn : Func} {p q : Tmp} (h : fn.results = #[.cell p 109, .tmp q]) (tmps : Array Value) (w : World) (g : Nat) (cs : Array Value) (err : Value)
    (hp : tmps.getD p undef = .pointer (some ⟨g, 0, none⟩)) (hg : w.heap[g]? = some (.cells cs 109 (0, 0))) (hi : cs.size = 6) (he : tmps.getD q undef = err) : (results fn tmps).run Tryd.prog w = .ok (.tuple #[.agg cs, err]) w := by
  have hp' : tmps[p]?.getD undef = .pointer (some ⟨g, 0, none⟩) := by simpa using hp
  have he' : tmps[q]?.getD undef = err := by simpa using he
  have hr := run_loadVar_row w g 109 109 cs (0, 0) _ hg Tryd.underlying109 rfl (by rw [hi]; kernel_rfl)
  simp [results, h, hp', he', asAddr, hr, Result.andThen]
/-- writing one box over leaves what lies below it, and all rows -/
theorem below_set6 {B : Nat} {w W : World} {g : Nat} (h : Below B w W) (hg : B ≤ g) (y0 y1 y2 y3 y4 y5 : Value) :
    Below B w ((((((W.setCell ⟨g, 0, none⟩ y0).setCell ⟨g, 1, none⟩ y1).setCell ⟨g, 2, none⟩ y2).setCell ⟨g, 3, none⟩ y3).setCell ⟨g, 4, none⟩ y4).setCell ⟨g, 5, none⟩ y5) :=
  (((((h.setCell (p := ⟨g, 0, none⟩) hg _).setCell (p := ⟨g, 1, none⟩) hg _).setCell (p := ⟨g, 2, none⟩) hg _).setCell (p := ⟨g, 3, none⟩) hg _).setCell (p := ⟨g, 4, none⟩) hg _).setCell (p := ⟨g, 5, none⟩) hg _
theorem Row.set6 {W : World} {b g : Nat} {vs : List Value} (h : Row W b vs) (hne : b ≠ g) (y0 y1 y2 y3 y4 y5 : Value) :
    Row ((((((W.setCell ⟨g, 0, none⟩ y0).setCell ⟨g, 1, none⟩ y1).setCell ⟨g, 2, none⟩ y2).setCell ⟨g, 3, none⟩ y3).setCell ⟨g, 4, none⟩ y4).setCell ⟨g, 5, none⟩ y5) b vs := by
  refine ⟨by simpa [World.setCell] using h.1, fun j v hv => ?_⟩
  have := h.2 j v hv
  simp only [World.cell?]
  repeat rw [Below.heap_setCell _ _ _ _ hne]
  exact this
/-- between two records -/
structure ScSt (w : World) (S : Nat) (gg : Int) (sv : Value) (W : World) (acc : List (List Int)) (V : Value) (good : Nat) (sum : Int) : Prop where
  bel : Below w.heap.size w W
  rb : Box6 W w.heap.size (.bool false) (.int .u64 0) (.slice none 0 0) (.slice none 0 0) (.int .i64 0) (.int .u32 0)
  sb : Box6 W S (.bool true) (.int .u64 gg) sv V (.int .i64 good) (.int .u32 sum)
  hold : Holds W w.heap.size V acc
  hS : w.heap.size < S
theorem ScSt.drewN {w : World} {S : Nat} {gg : Int} {sv : Value} {W : World} {acc : List (List Int)} {V : Value} {good : Nat} {sum : Int} (h : ScSt w S gg sv W acc V good sum) (q : Nat) : ScSt w S gg sv (W.drewN q) acc V good sum :=
  ⟨below_drewN' h.bel q, h.rb, h.sb, h.hold, h.hS⟩
theorem ScSt.drawn {w : World} {S : Nat} {gg : Int} {sv : Value} {W W' : World} {acc : List (List Int)} {V : Value} {good : Nat} {sum : Int} (h : ScSt w S gg sv W acc V good sum) (hd : Drawn W W') : ScSt w S gg sv W' acc V good sum := hd.elim fun _ e => e ▸ h.drewN _
/-- what scan hands out at its end -/
theorem ScSt.done {w : World} {S : Nat} {gg : Int} {As : Option Addr} {ns cs : Nat} {W : World} {acc : List (List Int)} {V : Value} {good : Nat} {sum : Int} {st : List Int} {at' : Nat} {rot : Bool} (h : ScSt w S gg (.slice As ns cs) W acc V good sum) (hs : st.length = ns) (hc : ns ≤ cs) (hst : U8s w.heap.size w As st) (T : TypeId) :
    let W2 := W.alloc (.cells #[.int .i64 at', .string (endS rot)] T)
    let W3 := ((((((W2.setCell ⟨w.heap.size, 0, none⟩ (.bool true)).setCell ⟨w.heap.size, 1, none⟩ (.int .u64 gg)).setCell ⟨w.heap.size, 2, none⟩ (.slice As ns cs)).setCell ⟨w.heap.size, 3, none⟩ V).setCell ⟨w.heap.size, 4, none⟩ (.int .i64 good)).setCell ⟨w.heap.size, 5, none⟩ (.int .u32 sum))
    ScanRes w W3 (.agg #[.bool true, .int .u64 gg, .slice As ns cs, V, .int .i64 good, .int .u32 sum]) (.iface 113 (.pointer (some ⟨W.heap.size, 0, none⟩))) (⟨true, gg, st, acc, good, sum⟩, (at', rot)) := by
  have hb2 : Below W.heap.size W (W.alloc (.cells #[.int .i64 at', .string (endS rot)] T)) := (Below.refl _ _).alloc (Nat.le_refl _) _
  have hr2 := h.rb.kept hb2
  refine ⟨⟨As, ns, cs, V, rfl, hs, hc, hst, ?_⟩, W.heap.size, rfl, h.bel.size, (Row.new W [.int .i64 at', .string (endS rot)] T).set6 (Nat.ne_of_lt h.rb.lt).symm _ _ _ _ _ _, below_set6 (h.bel.alloc h.bel.size _) (Nat.le_refl _) _ _ _ _ _ _⟩
  refine (h.hold.below hb2).keep ?_
  have k0 := heap_setCell_at (k := 0) (.bool true) hr2
  have k1 := heap_setCell_at (k := 1) (.int .u64 gg) k0
  have k2 := heap_setCell_at (k := 2) (.slice As ns cs) k1
  have k3 := heap_setCell_at (k := 3) V k2
  have k4 := heap_setCell_at (k := 4) (.int .i64 good) k3
  exact (keep_setCell (a := ⟨w.heap.size, 0, none⟩) hr2 (by decide) (by decide) _).trans ((keep_setCell (a := ⟨w.heap.size, 1, none⟩) k0 (by decide) (by decide) _).trans ((keep_setCell (a := ⟨w.heap.size, 2, none⟩) k1 (by decide) (by decide) _).trans ((keep_setCell (a := ⟨w.heap.size, 3, none⟩) k2 (by decide) (by decide) _).trans ((keep_setCell (a := ⟨w.heap.size, 4, none⟩) k3 (by decide) (by decide) _).trans (keep_setCell (a := ⟨w.heap.size, 5, none⟩) k4 (by decide) (by decide) _)))))
theorem size_setCell' (W : World) (a : Addr) (v : Value) : (W.setCell a v).heap.size = W.heap.size := by simp [World.setCell]
theorem set6_alloc (W : World) (g : Nat) (hg : g < W.heap.size) (o : Obj) (y0 y1 y2 y3 y4 y5 : Value) :
    (((((((W.alloc o).setCell ⟨g, 0, none⟩ y0).setCell ⟨g, 1, none⟩ y1).setCell ⟨g, 2, none⟩ y2).setCell ⟨g, 3, none⟩ y3).setCell ⟨g, 4, none⟩ y4).setCell ⟨g, 5, none⟩ y5)
      = (((((((W.setCell ⟨g, 0, none⟩ y0).setCell ⟨g, 1, none⟩ y1).setCell ⟨g, 2, none⟩ y2).setCell ⟨g, 3, none⟩ y3).setCell ⟨g, 4, none⟩ y4).setCell ⟨g, 5, none⟩ y5).alloc o) := by
  rw [World.setCell_alloc_past _ _ _ _ hg, World.setCell_alloc_past _ _ _ _ (by simpa only [size_setCell'] using hg), World.setCell_alloc_past _ _ _ _ (by simpa only [size_setCell'] using hg), World.setCell_alloc_past _ _ _ _ (by simpa only [size_setCell'] using hg), World.setCell_alloc_past _ _ _ _ (by simpa only [size_setCell'] using hg), World.setCell_alloc_past _ _ _ _ (by simpa only [size_setCell'] using hg)]
theorem heap_alloc_set {W : World} {g : Nat} {x : Obj} (o : Obj) (_ : g < W.heap.size) (h : W.heap[g]? = some x) : (W.alloc o).heap[g]? = some x := ((World.grownBy_alloc W o none).block g (Array.getElem?_eq_some_iff.1 h).1 (by simp)).trans h
theorem ScanRes.drew {w W : World} {sv err : Value} {x : SlotL × EndL} (h : ScanRes w W sv err x) : ScanRes w W.drew sv err x := by
  obtain ⟨⟨a1, a2, a3, a4, a5, a6, a7, a8, a9⟩, b1, b2, b3, b4, b5⟩ := h
  exact ⟨⟨a1, a2, a3, a4, a5, a6, a7, a8, a9⟩, b1, b2, b3, b4, b5.drew⟩
theorem ScSt.next {w : World} {S : Nat} {gg : Int} {sv : Value} {W : World} {acc : List (List Int)} {V : Value} {good : Nat} {sum : Int} (h : ScSt w S gg sv W acc V good sum) (g' : Nat) (s' : Int) : ScSt w S gg sv ((W.setCell ⟨S, 4, none⟩ (.int .i64 g')).setCell ⟨S, 5, none⟩ (.int .u32 s')) acc V g' s' := by
  have k4 := heap_setCell_at (k := 4) (.int .i64 g') h.sb
  have k5 := heap_setCell_at (k := 5) (.int .u32 s') k4
  refine ⟨(h.bel.setCell (p := ⟨S, 4, none⟩) (Nat.le_of_lt h.hS) _).setCell (p := ⟨S, 5, none⟩) (Nat.le_of_lt h.hS) _, ?_, k5, h.hold.keep ((keep_setCell (a := ⟨S, 4, none⟩) h.sb (by decide) (by decide) _).trans (keep_setCell (a := ⟨S, 5, none⟩) k4 (by decide) (by decide) _)), h.hS⟩
  unfold Box6
  rw [Below.heap_setCell _ _ _ _ (Nat.ne_of_lt h.hS), Below.heap_setCell _ _ _ _ (Nat.ne_of_lt h.hS)]
  exact h.rb
/-- a record appended -/
theorem ScSt.append {w : World} {S : Nat} {gg : Int} {sv : Value} {U : World} {acc : List (List Int)} {V : Value} {good : Nat} {sum : Int} (h : ScSt w S gg sv U acc V good sum) {vs : List SV} (h1 : vs.length = acc.length) (h2 : U.ownsRow w.heap.size 22 1 V vs.length (vs.flatMap svE)) (h3 : ∀ (i : Nat) (s : SV) (l : List Int), vs[i]? = some s → acc[i]? = some l → OwnB U w.heap.size s.v l)
    (h4 : ∀ (i j : Nat) (s t : SV) (k : Nat), i < j → vs[i]? = some s → vs[j]? = some t → s.v.ownBlock = some k → t.v.ownBlock ≠ some k) {w6 w7 : World} {s : SV} {r : List Int} {V1 : Value} (hb : Below U.heap.size U w6) (hv : OwnB w6 U.heap.size s.v r)
    (hown : w7.ownsRow w.heap.size 22 1 V1 (vs ++ [s]).length ((vs ++ [s]).flatMap svE)) (hg : w6.grownBy w7 V.ownBlock) :
    Box6 w7 S (.bool true) (.int .u64 gg) sv V (.int .i64 good) (.int .u32 sum) ∧ ScSt w S gg sv (w7.setCell ⟨S, 3, none⟩ V1) (acc ++ [r]) V1 good sum := by
  have hVb : ∀ k, V.ownBlock = some k → w.heap.size ≤ k ∧ ∃ cs, U.heap[k]? = some (.cells cs 22 (0, 0)) := fun k e => h.hold.own k e
  have hslot : ∀ {g : Nat} {x0 x1 x2 x3 x4 x5 : Value}, Box6 U g x0 x1 x2 x3 x4 x5 → Box6 w7 g x0 x1 x2 x3 x4 x5 := fun {g} {x0 x1 x2 x3 x4 x5} hx => by
    have hx6 := hx.kept hb
    refine (hg.block g hx6.lt (fun e => ?_)).trans hx6
    obtain ⟨_, cs, hc⟩ := hVb g e.symm
    have hx' := hx
    unfold Box6 at hx'
    rw [hc] at hx'
    cases hx'
  have hs7 := hslot h.sb
  have hb7 : Below w.heap.size w w7 := (h.bel.trans (hb.mono h.bel.size)).grown hg (Nat.le_trans h.bel.size hb.size) (fun k e => (hVb k e).1)
  refine ⟨hs7, hb7.setCell (p := ⟨S, 3, none⟩) (Nat.le_of_lt h.hS) _, ?_, heap_setCell_at (k := 3) V1 hs7, (Holds.push h1 h2 h3 h4 (keep_below hb) hv h.bel.size hown hg).keep (keep_setCell (a := ⟨S, 3, none⟩) hs7 (by decide) (by decide) _), h.hS⟩
  unfold Box6
  rw [Below.heap_setCell _ _ _ _ (Nat.ne_of_lt h.hS)]
  exact hslot h.rb
theorem endS_torn : endS false = { data := #[116, 104, 101, 32, 98, 121, 116, 101, 115, 32, 101, 110, 100, 32, 104, 101, 114, 101] } := rfl
theorem endS_rot : endS true = { data := #[110, 111, 32, 99, 114, 97, 115, 104, 32, 108, 101, 97, 118, 101, 115, 32, 115, 117, 99, 104, 32, 98, 121, 116, 101, 115] } := rfl
theorem slot_info : (Tryd.prog.info? 109).map (·.size) = some 6 := by kernel_rfl

set_option maxRecDepth 100000 in
set_option maxHeartbeats 8000000 in
theorem scan_any (w : World) (A : Option Addr) (n c : Nat) (b : List Int) (which : Int) (hl : b.length = n) (hnc : n ≤ c) (hm : n ≤ 100000000) (hb : ∀ x ∈ b, isB x) (hR : U8s w.heap.size w A b) :
    Calls Tryd.prog 52 #[.slice A n c, .int .i64 which] w fun e w' => ∃ sv err, e = .returned (.tuple #[sv, err]) ∧ ScanRes w w' sv err (scanL b which) := by
  subst hl
  obtain ⟨X0, hX0⟩ : ∃ X0, X0 = w.alloc (.cells #[.bool false, .int .u64 0, .slice none 0 0, .slice none 0 0, .int .i64 0, .int .u32 0] 109) := ⟨_, rfl⟩
  have hB0 : Below w.heap.size w X0 := by rw [hX0]; exact (Below.refl _ w).alloc (Nat.le_refl _) _
  have hR0 : U8s X0.heap.size X0 A b := (hR.below hB0).mono hB0.size
  have hbox : X0.heap[w.heap.size]? = some (.cells #[.bool false, .int .u64 0, .slice none 0 0, .slice none 0 0, .int .i64 0, .int .u32 0] 109 (0, 0)) := by rw [hX0]; exact heap_alloc_new w _
  have HH := hid (head_any X0 A b.length c b which rfl hnc (by omega) hb hR0)
  have HX0 := hid hX0
  have HB0 := hid hB0
  have HR0 := hid hR0
  have HR := hid hR
  have HB := hid hb
  have HBX := hid hbox
  clear hR hB0 hR0 hb hX0 hbox
  obtain ⟨sc, hsc⟩ : ∃ sc, scanL b which = sc := ⟨_, rfl⟩
  rw [hsc]
  have HSC := hid hsc
  clear hsc
  go_enter Tryd.func52, Tryd.ntmps52
  go_wp2_with fail
  rw [← HX0.out]
  refine HH.out.mono ?_
  rintro e w1 ⟨err, rfl, he⟩
  cases hbad : headBad b which with
  | some rot =>
    obtain rfl : (SlotL.none, ((0 : Nat), rot)) = sc := by rw [← HSC.out]; unfold scanL; rw [hbad]
    rw [hbad] at he
    obtain ⟨bk, rfl, hbk, hrow, hbel⟩ := he
    have hbox1 : Box6 w1 w.heap.size _ _ _ _ _ _ := (hbel.block w.heap.size (by rw [HX0.out]; simp)).trans HBX.out
    obtain ⟨c0, c1, c2, c3, c4, c5⟩ := hbox1.cells
    have z0 := hbox1.fz 0
    have z1 := hbox1.fz 1
    have z2 := hbox1.fz 2
    have z3 := hbox1.fz 3
    have z4 := hbox1.fz 4
    have z5 := hbox1.fz 5
    have HBOX := hid hbox1
    have HROW := hid hrow
    have HBK := hid hbk
    have HBEL := hid hbel
    clear hbox1 hrow hbk hbel
    go_wp2_with fail
    refine bodyPost_ret (results_cell_iface rfl _ _ _ _ _ rfl (HBOX.out.set6 _ _ _ _ _ _) rfl rfl) rfl ?_
    refine ⟨_, _, rfl, SlotIs.zero _ _, bk, rfl, Nat.le_trans HB0.out.size HBK.out, ?_, below_set6 ((HB0.out.trans (HBEL.out.mono HB0.out.size))) (Nat.le_refl _) _ _ _ _ _ _⟩
    exact HROW.out.set6 (by have := HBK.out; rw [HX0.out] at this; simp at this; omega) _ _ _ _ _ _
  | none =>
    rw [hbad] at he
    obtain ⟨rfl, hbel⟩ := he
    have hlen20 : ¬ b.length < 20 := fun h => by unfold headBad at hbad; rw [if_pos h] at hbad; cases hbad
    have hG : headG b which = genB b := by unfold headG; rw [hbad]; rfl
    have hN : headN b which = lenB b := by unfold headN; rw [hbad]; rfl
    have hn0 := lenB_W HB.out
    have hnmax : lenB b ≤ 4194304 := by
      unfold headBad at hbad
      rw [if_neg hlen20] at hbad
      have : headRot b which = false := by
        cases h : headRot b which with
        | false => rfl
        | true => rw [h] at hbad; cases hbad
      unfold headRot at this
      simp only [decide_eq_false_iff_not, not_or] at this
      omega
    rw [hG, hN]
    have hbox1 : Box6 w1 w.heap.size _ _ _ _ _ _ := (hbel.block w.heap.size (by rw [HX0.out]; simp)).trans HBX.out
    have hB1 := HB0.out.trans (hbel.mono HB0.out.size)
    obtain ⟨nn, hnn⟩ : ∃ nn : Nat, lenB b = (nn : Int) := ⟨(lenB b).toNat, by have := hn0.1; omega⟩
    rw [hnn] at hnmax ⊢
    have HSC2 : Hid (sc = if (b.length : Int) - 20 < nn + 4 then (.none, (20, false)) else if get4 (b.drop (20 + nn)) ≠ stateSum b then (.none, (20, true)) else (⟨true, genB b, stateB b, (recsL b b.length [] (24 + nn) (stateSum b)).1.1, (recsL b b.length [] (24 + nn) (stateSum b)).1.2.1, (recsL b b.length [] (24 + nn) (stateSum b)).1.2.2⟩, (recsL b b.length [] (24 + nn) (stateSum b)).2)) := hid (by
      rw [← HSC.out]; unfold scanL; rw [hbad]; dsimp only; rw [hnn, Int.toNat_natCast])
    have HST : Hid (stateB b = (b.drop 20).take nn) := hid (by unfold stateB; rw [hnn, Int.toNat_natCast])
    have hwn : IntKind.i64.wrap ((nn : Int) + 4) = (nn : Int) + 4 := wrap_small _ (by omega) (by omega)
    have hwl : IntKind.i64.wrap ((b.length : Int) - 20) = (b.length : Int) - 20 := wrap_small _ (by omega) (by omega)
    have hwe : IntKind.i64.wrap (20 + (nn : Int)) = 20 + (nn : Int) := wrap_small _ (by omega) (by omega)
    by_cases hsh : (b.length : Int) - 20 < nn + 4
    · obtain rfl : (SlotL.none, ((20 : Nat), false)) = sc := by rw [HSC2.out, if_pos hsh]
      have hk2 := hbox1.kept (W' := w1.alloc (.cells #[.int .i64 20, .string { data := #[116, 104, 101, 32, 98, 121, 116, 101, 115, 32, 101, 110, 100, 32, 104, 101, 114, 101] }] 118)) ((Below.refl _ w1).alloc (Nat.le_refl _) _)
      obtain ⟨c0, c1, c2, c3, c4, c5⟩ := hk2.cells
      have z0 := hk2.fz 0
      have z1 := hk2.fz 1
      have z2 := hk2.fz 2
      have z3 := hk2.fz 3
      have z4 := hk2.fz 4
      have z5 := hk2.fz 5
      have HK2 := hid hk2
      have HBOX := hid hbox1
      have HB1 := hid hB1
      have b1 : decide ((b.length : Int) - 20 < nn + 4) = true := by simpa using hsh
      clear hbox1 hB1 hbel hnn hn0 hG hN hbad hk2
      go_wp2_with fail
      refine bodyPost_ret (results_cell_iface rfl _ _ _ _ _ rfl (HK2.out.set6 _ _ _ _ _ _) rfl rfl) rfl ?_
      refine ⟨_, _, rfl, SlotIs.zero _ _, w1.heap.size, rfl, HB1.out.size, (Row.new w1 [.int .i64 20, .string tornS] _).set6 ?_ _ _ _ _ _ _, below_set6 (HB1.out.alloc HB1.out.size _) (Nat.le_refl _) _ _ _ _ _ _⟩
      have := HBOX.out.lt
      omega
    · obtain ⟨A16, run16, rd16, _⟩ := headB_run A b.length c 16 16 rfl (by omega) hnc
      obtain ⟨Ast, runst, rdst⟩ := cutB_run A b.length c 20 (20 + nn) 20 (20 + (nn : Int)) rfl (by omega) (by omega) (by omega) hnc
      have b1 : decide ((b.length : Int) - 20 < nn + 4) = false := by simpa using hsh
      have HU : Hid (∀ W, Below w.heap.size w W → U8s W.heap.size W A b) := hid (fun W hW => (HR.out.below hW).mono hW.size)
      have HC1 : Hid (∀ W, Below w.heap.size w W → Calls Tryd.prog 78 #[.slice A16 16 c] W fun e w' => e = .returned (.int .u32 (crcM 0 (b.take 16))) ∧ w' = W) := hid (fun W hW => crc_any W A16 16 c (b.take 16) (by rw [List.length_take]; omega) (by omega) (fun x hx => HB.out x (List.mem_of_mem_take hx)) (rd16 _ _ _ rfl (HU.out W hW)))
      have HC2 : Hid (∀ W, Below w.heap.size w W → Calls Tryd.prog 64 #[.int .u32 (crcM 0 (b.take 16)), .slice Ast nn (c - 20)] W fun e w' => e = .returned (.int .u32 (stateSum b)) ∧ w' = W) := hid (fun W hW => by
        unfold stateSum
        rw [HST.out]
        have hcm := crcMore_any W (crcM 0 (b.take 16)) Ast (20 + nn - 20) (c - 20) ((b.take (20 + nn)).drop 20) (by rw [List.length_drop, List.length_take]; omega) (by omega) (crcM_W _ _) (fun x hx => HB.out x (List.mem_of_mem_take (List.mem_of_mem_drop hx))) (rdst _ _ _ rfl (HU.out W hW))
        rwa [List.drop_take, show 20 + nn - 20 = nn by omega] at hcm)
      obtain ⟨SS, hSS⟩ : ∃ SS, stateSum b = SS := ⟨_, rfl⟩
      have hSW : isW SS := by rw [← hSS]; exact crcM_W _ _
      rw [hSS] at HC2
      have HSC3 : Hid (sc = if get4 (b.drop (20 + nn)) ≠ SS then (.none, (20, true)) else (⟨true, genB b, stateB b, (recsL b b.length [] (24 + nn) SS).1.1, (recsL b b.length [] (24 + nn) SS).1.2.1, (recsL b b.length [] (24 + nn) SS).1.2.2⟩, (recsL b b.length [] (24 + nn) SS).2)) := hid (by rw [HSC2.out, if_neg hsh, hSS])
      have HStR : Hid (∀ W, Below w.heap.size w W → U8s w.heap.size W Ast (stateB b)) := hid (fun W hW => by
        rw [HST.out]
        have := rdst w.heap.size W b rfl (HR.out.below hW)
        rwa [List.drop_take, show 20 + nn - 20 = nn by omega] at this)
      obtain ⟨gg, hgg⟩ : ∃ gg, genB b = gg := ⟨_, rfl⟩
      rw [hgg] at HSC3 ⊢
      have HBOX := hid hbox1
      have HB1 := hid hB1
      have hsl : 20 + nn - 20 = nn := by omega
      rw [hsl] at runst
      clear hbox1 hB1 hbel hnn hn0 hG hN hbad rd16 rdst hSS hgg HSC2 hsl HH HBX
      go_upto_region 7 with fail
      go_cut [10] from 38 to 165 (fun v wd => ∃ S, v = .pointer (some ⟨S, 0, none⟩) ∧ Box6 wd S (.bool false) (.int .u64 gg) (.slice Ast nn (c - 20)) (.slice none 0 0) (.int .i64 0) (.int .u32 SS) ∧ w1.heap.size ≤ S ∧ Below w1.heap.size w1 wd)
      case first =>
        --H
        go_region_with (first
          | (go_at_call 78; with_reducible refine (HC1.out _ (by repeat' (first | exact HB1.out | refine Below.drew ?_ | refine below_drewN' ?_ _ | refine Below.alloc ?_ ?_ _ | exact HB1.out.size))).mono ?_; rintro e w' ⟨rfl, rfl⟩)
          | (go_at_call 64; with_reducible refine (HC2.out _ (by repeat' (first | exact HB1.out | refine Below.drew ?_ | refine below_drewN' ?_ _ | refine Below.alloc ?_ ?_ _ | exact HB1.out.size))).mono ?_; rintro e w' ⟨rfl, rfl⟩))
        all_goals go_wp2_with fail
        all_goals go_meet
        all_goals exact ⟨_, rfl, heap_alloc_new _ _, Nat.le_refl _, ((Below.refl _ w1).alloc (Nat.le_refl _) _).drew⟩
        --E
      case rest =>
      obtain ⟨S, rfl, hS6, hS1, hbc⟩ := hcut
      have hBc := HB1.out.trans (hbc.mono HB1.out.size)
      have HBc := hid hBc
      have HR6 : Hid (Box6 wc w.heap.size (.bool false) (.int .u64 0) (.slice none 0 0) (.slice none 0 0) (.int .i64 0) (.int .u32 0)) := hid (HBOX.out.kept hbc)
      have HRS : Hid (w.heap.size < S) := hid (Nat.lt_of_lt_of_le HBOX.out.lt hS1)
      obtain ⟨_, _, _, _, _, c5⟩ := hS6.cells
      have hsl := sealed_any wc A b.length c b (20 + nn) (20 + (nn : Int)) (by omega) SS rfl hnc (by omega) (by omega) HB.out (HU.out wc hBc)
      have HSL := hid hsl
      have HS6 := hid hS6
      clear hBc hbc hsl hS6 HC1 HC2 run16 runst
      by_cases hseal : get4 (b.drop (20 + nn)) = SS
      case neg =>
        obtain rfl : (SlotL.none, ((20 : Nat), true)) = sc := by rw [HSC3.out, if_pos hseal]
        have hbq : (get4 (b.drop (20 + nn)) == SS) = false := by simpa using hseal
        have HBQ := hid hbq
        clear hseal hbq
        go_wp2_with fail
        refine HSL.out.mono ?_
        rintro e w2 ⟨rfl, q, rfl⟩
        rw [HBQ.out]
        have hk2 := (show Box6 (wc.drewN q) w.heap.size _ _ _ _ _ _ from HR6.out).kept (W' := (wc.drewN q).alloc (.cells #[.int .i64 20, .string { data := #[110, 111, 32, 99, 114, 97, 115, 104, 32, 108, 101, 97, 118, 101, 115, 32, 115, 117, 99, 104, 32, 98, 121, 116, 101, 115] }] 118)) ((Below.refl _ _).alloc (Nat.le_refl _) _)
        obtain ⟨d0, d1, d2, d3, d4, d5⟩ := hk2.cells
        have z0 := hk2.fz 0
        have z1 := hk2.fz 1
        have z2 := hk2.fz 2
        have z3 := hk2.fz 3
        have z4 := hk2.fz 4
        have z5 := hk2.fz 5
        have HK2 := hid hk2
        clear hk2
        go_wp2_with fail
        refine bodyPost_ret (results_cell_iface rfl _ _ _ _ _ rfl (HK2.out.set6 _ _ _ _ _ _) rfl rfl) rfl ?_
        refine ⟨_, _, rfl, SlotIs.zero _ _, (wc.drewN q).heap.size, rfl, HBc.out.size, (Row.new (wc.drewN q) [.int .i64 20, .string rotS] _).set6 ?_ _ _ _ _ _ _, below_set6 ((below_drewN' HBc.out q).alloc HBc.out.size _) (Nat.le_refl _) _ _ _ _ _ _⟩
        have := HR6.out.lt
        exact (Nat.ne_of_lt this).symm
      case pos =>
      have hbq : (get4 (b.drop (20 + nn)) == SS) = true := by simpa using hseal
      have HSC4 : Hid (sc = (⟨true, gg, stateB b, (recsL b b.length [] (24 + nn) SS).1.1, (recsL b b.length [] (24 + nn) SS).1.2.1, (recsL b b.length [] (24 + nn) SS).1.2.2⟩, (recsL b b.length [] (24 + nn) SS).2)) := hid (by rw [HSC3.out, if_neg (by simpa using hseal)])
      have HBQ := hid hbq
      clear hseal hbq HSC3
      go_wp2_with fail
      refine HSL.out.mono ?_
      rintro e w2 ⟨rfl, q, rfl⟩
      rw [HBQ.out]
      obtain ⟨WW, hWW⟩ : ∃ WW, WW = wc.drewN q := ⟨_, rfl⟩
      have hS6 : Box6 WW S (.bool false) (.int .u64 gg) (.slice Ast nn (c - 20)) (.slice none 0 0) (.int .i64 0) (.int .u32 SS) := by rw [hWW]; exact HS6.out
      have hR6 : Box6 WW w.heap.size (.bool false) (.int .u64 0) (.slice none 0 0) (.slice none 0 0) (.int .i64 0) (.int .u32 0) := by rw [hWW]; exact HR6.out
      have hBW : Below w.heap.size w WW := by rw [hWW]; exact below_drewN' HBc.out q
      obtain ⟨d0, d1, d2, d3, d4, d5⟩ := hS6.cells
      have z0 := hS6.fz 0
      have z4 := hS6.fz 4
      have hw24 : IntKind.i64.wrap (20 + (nn : Int) + 4) = ((24 + nn : Nat) : Int) := by rw [wrap_small _ (by omega) (by omega)]; omega
      have HST0 : Hid (ScSt w S gg (.slice Ast nn (c - 20)) ((WW.setCell ⟨S, 0, none⟩ (.bool true)).setCell ⟨S, 4, none⟩ (.int .i64 ((24 + nn : Nat) : Int))) [] (.slice none 0 0) (24 + nn) SS) := hid (by
        have k0 := heap_setCell_at (k := 0) (.bool true) hS6
        have k1 := heap_setCell_at (k := 4) (.int .i64 ((24 + nn : Nat) : Int)) k0
        refine ⟨(hBW.setCell (p := ⟨S, 0, none⟩) (Nat.le_of_lt HRS.out) _).setCell (p := ⟨S, 4, none⟩) (Nat.le_of_lt HRS.out) _, ?_, k1, Holds.nil _ _, HRS.out⟩
        unfold Box6
        rw [Below.heap_setCell _ _ _ _ (Nat.ne_of_lt HRS.out), Below.heap_setCell _ _ _ _ (Nat.ne_of_lt HRS.out)]
        exact hR6)
      have hSB : ∀ x ∈ stateB b, isB x := fun x hx => by
        rw [HST.out] at hx
        exact HB.out x (List.mem_of_mem_drop (List.mem_of_mem_take hx))
      rw [← hWW]
      clear hWW hS6 hR6 hBW hSB
      go_wp2_with fail
      obtain ⟨rx, hrx⟩ : ∃ rx, recsL b b.length [] (24 + nn) SS = rx := ⟨_, rfl⟩
      have HRX := hid hrx
      rw [hrx] at HSC4
      clear hrx
      have hnn24 : 24 + nn ≤ b.length := by omega
      have hstl : (stateB b).length = nn := by rw [HST.out, List.length_take, List.length_drop]; omega
      have HSTL := hid hstl
      have hncs : nn ≤ c - 20 := by omega
      clear hstl z0 z4 d0 d1 d2 d3 d4 d5 c5 hw24 hwe hwl hwn b1 hsh
      go_loopg [11] b.length (fun gx s11 wr => ∃ (acc : List (List Int)) (V : Value) (good : Nat) (sum : Int) (f : Nat), good ≤ b.length ∧ b.length - good ≤ gx ∧ b.length ≤ good + f ∧ acc.length ≤ good ∧ isW sum ∧ Hid (recsL b f acc good sum = rx) ∧ Hid (ScSt w S gg (.slice Ast nn (c - 20)) wr acc V good sum))
      case atStart => exact ⟨[], _, 24 + nn, SS, b.length, hnn24, by omega, by omega, Nat.zero_le _, hSW, HRX, HST0⟩
      case round =>
        obtain ⟨acc, V, good, sum, f, hgl, hgx, hf, hag, hsumW, HREC, HS⟩ := hrel
        obtain ⟨AV, cV, rfl, hV1, hV2⟩ := HS.out.hold.slice
        obtain ⟨c0, c1, c2, c3, c4, c5⟩ := HS.out.sb.cells
        have hw0 : IntKind.i64.wrap ((b.length : Int) - good) = (b.length : Int) - good := wrap_small _ (by omega) (by omega)
        have HSTEP := hid (recsL_step (acc := acc) (sum := sum) hf)
        by_cases h8 : b.length < good + 8
        ·
          --H
          have hq8 : decide ((b.length : Int) - good < 8) = true := by simp; omega
          have hst : recStep b good sum = .inl (good, false) := by unfold recStep; rw [if_pos h8]
          obtain rfl : (⟨true, gg, stateB b, acc, good, sum⟩, (good, false)) = sc := by
            rw [HSC4.out, ← HREC.out, HSTEP.out, hst]
          have hb2 : Below wr.heap.size wr (wr.alloc (.cells #[.int .i64 (good : Int), .string { data := #[116, 104, 101, 32, 98, 121, 116, 101, 115, 32, 101, 110, 100, 32, 104, 101, 114, 101] }] 118)) := (Below.refl _ wr).alloc (Nat.le_refl _) _
          have hk2 := HS.out.sb.kept hb2
          have hr2 := HS.out.rb.kept hb2
          obtain ⟨e0, e1, e2, e3, e4, e5⟩ := hk2.cells
          obtain ⟨r0, r1, r2, r3, r4, r5⟩ := hr2.cells
          have z0 := hr2.fz 0
          have z1 := hr2.fz 1
          have z2 := hr2.fz 2
          have z3 := hr2.fz 3
          have z4 := hr2.fz 4
          have z5 := hr2.fz 5
          obtain ⟨q0, q1, q2, q3, q4, q5⟩ := HS.out.rb.cells
          have y0 := HS.out.rb.fz 0
          have y1 := HS.out.rb.fz 1
          have y2 := HS.out.rb.fz 2
          have y3 := HS.out.rb.fz 3
          have y4 := HS.out.rb.fz 4
          have y5 := HS.out.rb.fz 5
          have hne1 : S ≠ w.heap.size := Nat.ne_of_gt HS.out.hS
          have hne2 : w.heap.size ≠ S := Nat.ne_of_lt HS.out.hS
          have HK2 := hid hr2
          clear hb2 hk2 hr2 hst
          go_wp2_with fail
          have hdn := HS.out.done (rot := false) (at' := good) HSTL.out hncs (HStR.out w (Below.refl _ _)) 118
          dsimp only at hdn
          rw [endS_torn, set6_alloc _ _ HS.out.rb.lt] at hdn
          have HDN := hid hdn
          clear hdn
          go_region
          all_goals go_wp2_with fail
          all_goals (try rw [set6_alloc _ _ HS.out.rb.lt])
          all_goals refine bodyPost_ret (results_cell_iface rfl _ _ _ _ _ rfl (heap_alloc_set _ (HS.out.rb.set6 _ _ _ _ _ _).lt (HS.out.rb.set6 _ _ _ _ _ _)) rfl rfl) rfl ?_
          all_goals exact ⟨_, _, rfl, HDN.out.drew⟩
          --E
        · have hq8 : decide ((b.length : Int) - good < 8) = false := by simp; omega
          have hz := sizeB_W HB.out good
          obtain ⟨z, hzz⟩ : ∃ z, sizeB b good = z := ⟨_, rfl⟩
          obtain ⟨rs, hrs⟩ : ∃ rs, recSum b good sum = rs := ⟨_, rfl⟩
          have hrsW : isW rs := by rw [← hrs]; exact crcM_W _ _
          rw [hzz] at hz
          obtain ⟨Ac, runc, rdc⟩ := cutB_run A b.length c good (good + 4) (good : Int) ((good : Int) + 4) rfl (by omega) (by omega) (by omega) hnc
          obtain ⟨Ad, rund, rdd⟩ := drop_run (P := Tryd.prog) (enc := u8s) 22 5 _ 1 1 Tryd.underlying22 infoU8 A b.length c good (good : Int) rfl (by omega) hnc
          have HCR : Hid (∀ W, Drawn wr W → Calls Tryd.prog 64 #[.int .u32 sum, .slice Ac 4 (c - good)] W fun e w' => e = .returned (.int .u32 rs) ∧ w' = W) := hid (fun W hW => by
            have hh := crcMore_any W sum Ac (good + 4 - good) (c - good) ((b.take (good + 4)).drop good) (by rw [List.length_drop, List.length_take]; omega) (by omega) hsumW (fun x hx => HB.out x (List.mem_of_mem_take (List.mem_of_mem_drop hx))) (rdc _ _ _ rfl (HU.out W (HS.out.drawn hW).bel))
            rw [List.drop_take, show good + 4 - good = 4 by omega] at hh
            rw [← hrs]; exact hh)
          have HGT : Hid (∀ W, Drawn wr W → Calls Tryd.prog 80 #[.slice Ad (b.length - good) (c - good)] W fun e w' => e = .returned (.int .u32 z) ∧ Drawn wr w') := hid (fun W hW => by
            have hh := get32_any W Ad (b.length - good) (c - good) (b.drop good) (by simp) (by omega) (by omega) (fun x hx => HB.out x (List.mem_of_mem_drop hx)) (rdd _ _ _ rfl (HU.out W (HS.out.drawn hW).bel))
            rw [← hzz]
            exact hh.mono fun _ _ h => ⟨h.1, hW.trans h.2⟩)
          have HSE : Hid (∀ W, Drawn wr W → Calls Tryd.prog 79 #[.slice A b.length c, .int .i64 ((good : Int) + 4), .int .u32 rs] W fun e w' => e = .returned (.bool (get4 (b.drop (good + 4)) == rs)) ∧ Drawn wr w') := hid (fun W hW =>
            (sealed_any W A b.length c b (good + 4) ((good : Int) + 4) (by omega) rs rfl hnc (by omega) (by omega) HB.out (HU.out W (HS.out.drawn hW).bel)).mono fun _ _ h => ⟨h.1, hW.trans h.2⟩)
          have hw4 : IntKind.i64.wrap ((good : Int) + 4) = (good : Int) + 4 := wrap_small _ (by omega) (by omega)
          have hw8 : IntKind.i64.wrap ((good : Int) + 8) = (good : Int) + 8 := wrap_small _ (by omega) (by omega)
          have hg4 : good + 4 - good = 4 := by omega
          rw [hg4] at runc
          have HZ := hid hzz
          have HRS2 := hid hrs
          clear rdc rdd hg4 hzz hrs
          go_upto_region 13 with fail
          have hDr := Drawn.refl wr
          go_region_held3 (fun w' => w'.cell? ⟨S, 4, none⟩ = some (.int .i64 (good : Int)) ∧ w'.cell? ⟨S, 5, none⟩ = some (.int .u32 sum) ∧ Drawn wr w') (first | (refine ⟨?_, ?_, ?_⟩ <;> first | assumption | exact Drawn.drew (by assumption)))
            (first
            | (go_at_call 64; with_reducible refine (HCR.out _ (by first | assumption | exact (Drawn.refl _).drew | exact Drawn.drew (by assumption))).mono ?_; rintro e w' ⟨rfl, rfl⟩))
          all_goals
            rename_i hcc
            go_wp2_with fail
            with_reducible refine (HGT.out _ (by first | assumption | exact (Drawn.refl _).drew | exact Drawn.drew (by assumption))).mono ?_
            rintro e w3 ⟨rfl, hD3⟩
            have HS3 := hid (HS.out.drawn hD3)
            obtain ⟨d0, d1, d2, d3, d4, d5⟩ := HS3.out.sb.cells
            by_cases hrot : get4 (b.drop (good + 4)) ≠ rs ∨ z = 0 ∨ 8192 < z
            · --H
              have hst : recStep b good sum = .inl (good, true) := by
                unfold recStep
                rw [if_neg h8, HZ.out, HRS2.out, if_pos hrot]
              obtain rfl : (⟨true, gg, stateB b, acc, good, sum⟩, (good, true)) = sc := by
                rw [HSC4.out, ← HREC.out, HSTEP.out, hst]
              have hz2 := hz.2
              have hf : (∃ p, (get4 (b.drop (good + 4)) == rs) = p ∧ (p = false ∨ p = true ∧ (z == 0) = true ∨ p = true ∧ (z == 0) = false ∧ decide (8192 < z) = true)) := by
                by_cases k1 : get4 (b.drop (good + 4)) = rs
                · refine ⟨true, by simpa using k1, .inr ?_⟩
                  by_cases k2 : z = 0
                  · exact .inl ⟨rfl, by simpa using k2⟩
                  · refine .inr ⟨rfl, by simpa using k2, ?_⟩
                    rcases hrot with k | k | k
                    · exact absurd k1 k
                    · exact absurd k k2
                    · simpa using k
                · exact ⟨false, by simpa using k1, .inl rfl⟩
              obtain ⟨p, hp, hcases⟩ := hf
              have HP := hid hp
              clear hst hrot hp
              go_wp2_with fail
              with_reducible refine (HSE.out _ (by first | assumption | exact Drawn.drew (by assumption))).mono ?_
              rintro e w4 ⟨rfl, hD4⟩
              rw [HP.out]
              have HS4 := hid (HS.out.drawn hD4)
              clear d0 d1 d2 d3 d4 d5 c0 c1 c2 c3 c4 c5 HREC HSTEP HCR HGT HSE
              rcases hcases with rfl | ⟨rfl, f2⟩ | ⟨rfl, f2, f3⟩
              all_goals try have f3' : decide (z > 8192) = true := f3
              all_goals
                have hb2 : Below w4.heap.size w4 (w4.alloc (.cells #[.int .i64 ((good : Int)), .string { data := #[110, 111, 32, 99, 114, 97, 115, 104, 32, 108, 101, 97, 118, 101, 115, 32, 115, 117, 99, 104, 32, 98, 121, 116, 101, 115] }] 118)) := (Below.refl _ w4).alloc (Nat.le_refl _) _
                have hk2 := HS4.out.sb.kept hb2
                have hr2 := HS4.out.rb.kept hb2
                obtain ⟨e0, e1, e2, e3, e4, e5⟩ := hk2.cells
                obtain ⟨r0, r1, r2, r3, r4, r5⟩ := hr2.cells
                have z0 := hr2.fz 0
                have z1 := hr2.fz 1
                have z2 := hr2.fz 2
                have z3 := hr2.fz 3
                have z4 := hr2.fz 4
                have z5 := hr2.fz 5
                obtain ⟨q0, q1, q2, q3, q4, q5⟩ := HS4.out.rb.cells
                have y0 := HS4.out.rb.fz 0
                have y1 := HS4.out.rb.fz 1
                have y2 := HS4.out.rb.fz 2
                have y3 := HS4.out.rb.fz 3
                have y4 := HS4.out.rb.fz 4
                have y5 := HS4.out.rb.fz 5
                obtain ⟨p0, p1, p2, p3, p4, p5⟩ := HS4.out.sb.cells
                have hne1 : S ≠ w.heap.size := Nat.ne_of_gt HS4.out.hS
                have hne2 : w.heap.size ≠ S := Nat.ne_of_lt HS4.out.hS
                have hdn := HS4.out.done (rot := true) (at' := good) HSTL.out hncs (HStR.out w (Below.refl _ _)) 118
                dsimp only at hdn
                rw [endS_rot, set6_alloc _ _ HS4.out.rb.lt] at hdn
                have HDN := hid hdn
                clear hb2 hk2 hr2 hdn
                go_wp2_with fail
                go_region
                all_goals go_wp2_with fail
                all_goals (try rw [set6_alloc _ _ HS4.out.rb.lt])
                all_goals refine bodyPost_ret (results_cell_iface rfl _ _ _ _ _ rfl (heap_alloc_set _ (HS4.out.rb.set6 _ _ _ _ _ _).lt (HS4.out.rb.set6 _ _ _ _ _ _)) rfl rfl) rfl ?_
                all_goals exact ⟨_, _, rfl, HDN.out.drew⟩
              --E
            · have hnr : get4 (b.drop (good + 4)) = rs ∧ z ≠ 0 ∧ ¬ 8192 < z := ⟨Decidable.byContradiction fun h => hrot (.inl h), fun h => hrot (.inr (.inl h)), fun h => hrot (.inr (.inr h))⟩
              obtain ⟨zn, rfl⟩ : ∃ zn : Nat, z = (zn : Int) := ⟨z.toNat, by have := hz.1; omega⟩
              have f1 : (get4 (b.drop (good + 4)) == rs) = true := by simpa using hnr.1
              have f2 : ((zn : Int) == 0) = false := by simpa using hnr.2.1
              have f2' : (zn == 0) = false := by have := hnr.2.1; rw [beq_eq_false_iff_ne]; omega
              have f3 : decide (8192 < (zn : Int)) = false := by simpa using hnr.2.2
              have f3' : decide ((zn : Int) > 8192) = false := by simpa using hnr.2.2
              have f3n : decide (8192 < zn) = false := by have := hnr.2.2; simp; omega
              have hzn : zn ≤ 8192 := by have := hnr.2.2; omega
              have hzn0 : 0 < zn := by have := hnr.2.1; omega
              have hwz : IntKind.i64.wrap (zn : Int) = (zn : Int) := wrap_small _ (by omega) (by omega)
              have hwz4 : IntKind.i64.wrap ((zn : Int) + 4) = (zn : Int) + 4 := wrap_small _ (by omega) (by omega)
              have hwl8 : IntKind.i64.wrap ((b.length : Int) - ((good : Int) + 8)) = (b.length : Int) - ((good : Int) + 8) := wrap_small _ (by omega) (by omega)
              have hwgz : IntKind.i64.wrap ((good : Int) + 8 + (zn : Int)) = (good : Int) + 8 + (zn : Int) := wrap_small _ (by omega) (by omega)
              have hwgz4 : IntKind.i64.wrap ((good : Int) + 8 + (zn : Int) + 4) = (good : Int) + 8 + (zn : Int) + 4 := wrap_small _ (by omega) (by omega)
              have F1 := hid f1
              have HNR := hid hnr
              clear f1 hrot hnr
              go_wp2_with fail
              with_reducible refine (HSE.out _ (by first | assumption | exact Drawn.drew (by assumption))).mono ?_
              rintro e w4 ⟨rfl, hD4⟩
              rw [F1.out]
              have HS4 := hid (HS.out.drawn hD4)
              clear d0 d1 d2 d3 d4 d5 c0 c1 c2 c3 c4 c5 hcc hD3 HS3
              by_cases hsz : (b.length : Int) < good + 8 + zn + 4
              · --H
                have hst : recStep b good sum = .inl (good + 8, false) := by
                  unfold recStep
                  rw [if_neg h8, HZ.out, HRS2.out, if_neg (fun h => by rcases h with h | h | h; exact h HNR.out.1; omega; omega), if_pos hsz]
                obtain rfl : (⟨true, gg, stateB b, acc, good, sum⟩, (good + 8, false)) = sc := by
                  rw [HSC4.out, ← HREC.out, HSTEP.out, hst]
                have g1 : decide ((b.length : Int) - ((good : Int) + 8) < (zn : Int) + 4) = true := by simp; omega
                clear hst hsz HREC HSTEP HCR HGT HSE
                have hb2 : Below w4.heap.size w4 (w4.alloc (.cells #[.int .i64 ((good : Int) + 8), .string { data := #[116, 104, 101, 32, 98, 121, 116, 101, 115, 32, 101, 110, 100, 32, 104, 101, 114, 101] }] 118)) := (Below.refl _ w4).alloc (Nat.le_refl _) _
                have hk2 := HS4.out.sb.kept hb2
                have hr2 := HS4.out.rb.kept hb2
                obtain ⟨e0, e1, e2, e3, e4, e5⟩ := hk2.cells
                obtain ⟨r0, r1, r2, r3, r4, r5⟩ := hr2.cells
                have z0 := hr2.fz 0
                have z1 := hr2.fz 1
                have z2 := hr2.fz 2
                have z3 := hr2.fz 3
                have z4 := hr2.fz 4
                have z5 := hr2.fz 5
                obtain ⟨q0, q1, q2, q3, q4, q5⟩ := HS4.out.rb.cells
                have y0 := HS4.out.rb.fz 0
                have y1 := HS4.out.rb.fz 1
                have y2 := HS4.out.rb.fz 2
                have y3 := HS4.out.rb.fz 3
                have y4 := HS4.out.rb.fz 4
                have y5 := HS4.out.rb.fz 5
                obtain ⟨p0, p1, p2, p3, p4, p5⟩ := HS4.out.sb.cells
                have hne1 : S ≠ w.heap.size := Nat.ne_of_gt HS4.out.hS
                have hne2 : w.heap.size ≠ S := Nat.ne_of_lt HS4.out.hS
                have hdn := HS4.out.done (rot := false) (at' := good + 8) HSTL.out hncs (HStR.out w (Below.refl _ _)) 118
                dsimp only at hdn
                rw [endS_torn, set6_alloc _ _ HS4.out.rb.lt] at hdn
                simp only [Int.natCast_add, Int.cast_ofNat_Int] at hdn
                have HDN := hid hdn
                clear hb2 hk2 hr2 hdn
                go_wp2_with fail
                all_goals (try rw [set6_alloc _ _ HS4.out.rb.lt])
                all_goals refine bodyPost_ret (results_cell_iface rfl _ _ _ _ _ rfl (heap_alloc_set _ (HS4.out.rb.set6 _ _ _ _ _ _).lt (HS4.out.rb.set6 _ _ _ _ _ _)) rfl rfl) rfl ?_
                all_goals exact ⟨_, _, rfl, HDN.out⟩
                --E
              · have g1 : decide ((b.length : Int) - ((good : Int) + 8) < (zn : Int) + 4) = false := by simp; omega
                obtain ⟨rec, hrec⟩ : ∃ rec, recBody b good = rec := ⟨_, rfl⟩
                have hrecE : rec = (b.drop (good + 8)).take zn := by rw [← hrec]; unfold recBody; rw [HZ.out, Int.toNat_natCast]
                have hrecL : rec.length = zn := by rw [hrecE, List.length_take, List.length_drop]; omega
                have hrecB : ∀ x ∈ rec, isB x := fun x hx => by rw [hrecE] at hx; exact HB.out x (List.mem_of_mem_drop (List.mem_of_mem_take hx))
                obtain ⟨rs2, hrs2⟩ : ∃ rs2, crcM rs rec = rs2 := ⟨_, rfl⟩
                have hrs2W : isW rs2 := by rw [← hrs2]; exact crcM_W _ _
                obtain ⟨Ar, runr, rdr⟩ := cutB_run A b.length c (good + 8) (good + 8 + zn) ((good : Int) + 8) ((good : Int) + 8 + (zn : Int)) (by omega) (by omega) (by omega) (by omega) hnc
                rw [show good + 8 + zn - (good + 8) = zn by omega] at runr
                have HRR : Hid (∀ W, Drawn wr W → U8s W.heap.size W Ar rec) := hid (fun W hW => by
                  have := rdr _ _ b rfl (HU.out W (HS.out.drawn hW).bel)
                  rw [List.drop_take, show good + 8 + zn - (good + 8) = zn by omega, ← hrecE] at this
                  exact this)
                have HC3 : Hid (∀ W, Drawn wr W → Calls Tryd.prog 64 #[.int .u32 rs, .slice Ar zn (c - (good + 8))] W fun e w' => e = .returned (.int .u32 rs2) ∧ w' = W) := hid (fun W hW => by
                  rw [← hrs2]
                  exact crcMore_any W rs Ar zn (c - (good + 8)) rec hrecL (by omega) hrsW hrecB (HRR.out W hW))
                have HSE2 : Hid (∀ W, Drawn wr W → Calls Tryd.prog 79 #[.slice A b.length c, .int .i64 ((good : Int) + 8 + (zn : Int)), .int .u32 rs2] W fun e w' => e = .returned (.bool (get4 (b.drop (good + 8 + zn)) == rs2)) ∧ Drawn wr w') := hid (fun W hW =>
                  (sealed_any W A b.length c b (good + 8 + zn) ((good : Int) + 8 + (zn : Int)) (by omega) rs2 rfl hnc (by omega) (by omega) HB.out (HU.out W (HS.out.drawn hW).bel)).mono fun _ _ h => ⟨h.1, hW.trans h.2⟩)
                have HRE := hid hrec
                have HRS3 := hid hrs2
                have HSZ := hid hsz
                clear hrec hrecE hrs2 rdr hsz
                obtain ⟨d0, d1, d2, d3, d4, d5⟩ := HS4.out.sb.cells
                go_wp2_with fail
                with_reducible refine (HC3.out _ (by first | assumption | exact Drawn.drew (by assumption))).mono ?_
                rintro e w5 ⟨rfl, hw5⟩
                obtain rfl : w4 = w5 := hw5.symm
                go_wp2_with fail
                with_reducible refine (HSE2.out _ (by first | assumption | exact Drawn.drew (by assumption))).mono ?_
                rintro e w5 ⟨rfl, hD5⟩
                have HS5 := hid (HS.out.drawn hD5)
                by_cases hs2 : get4 (b.drop (good + 8 + zn)) = rs2
                case neg =>
                  --H
                  have hst : recStep b good sum = .inl (good + 8, true) := by
                    unfold recStep
                    rw [if_neg h8, HZ.out, HRS2.out, if_neg (fun h => by rcases h with h | h | h; exact h HNR.out.1; omega; omega), if_neg (by have := HSZ.out; omega), HRE.out, HRS3.out, Int.toNat_natCast, if_pos hs2]
                  obtain rfl : (⟨true, gg, stateB b, acc, good, sum⟩, (good + 8, true)) = sc := by
                    rw [HSC4.out, ← HREC.out, HSTEP.out, hst]
                  have g2 : (get4 (b.drop (good + 8 + zn)) == rs2) = false := by simpa using hs2
                  rw [g2]
                  clear hst hs2 g2 HREC HSTEP HCR HGT HSE HSE2 HC3
                  have hb2 : Below w5.heap.size w5 (w5.alloc (.cells #[.int .i64 ((good : Int) + 8), .string { data := #[110, 111, 32, 99, 114, 97, 115, 104, 32, 108, 101, 97, 118, 101, 115, 32, 115, 117, 99, 104, 32, 98, 121, 116, 101, 115] }] 118)) := (Below.refl _ w5).alloc (Nat.le_refl _) _
                  have hk2 := HS5.out.sb.kept hb2
                  have hr2 := HS5.out.rb.kept hb2
                  obtain ⟨e0, e1, e2, e3, e4, e5⟩ := hk2.cells
                  obtain ⟨r0, r1, r2, r3, r4, r5⟩ := hr2.cells
                  have z0 := hr2.fz 0
                  have z1 := hr2.fz 1
                  have z2 := hr2.fz 2
                  have z3 := hr2.fz 3
                  have z4 := hr2.fz 4
                  have z5 := hr2.fz 5
                  obtain ⟨q0, q1, q2, q3, q4, q5⟩ := HS5.out.rb.cells
                  have y0 := HS5.out.rb.fz 0
                  have y1 := HS5.out.rb.fz 1
                  have y2 := HS5.out.rb.fz 2
                  have y3 := HS5.out.rb.fz 3
                  have y4 := HS5.out.rb.fz 4
                  have y5 := HS5.out.rb.fz 5
                  obtain ⟨p0, p1, p2, p3, p4, p5⟩ := HS5.out.sb.cells
                  have hne1 : S ≠ w.heap.size := Nat.ne_of_gt HS5.out.hS
                  have hne2 : w.heap.size ≠ S := Nat.ne_of_lt HS5.out.hS
                  have hdn := HS5.out.done (rot := true) (at' := good + 8) HSTL.out hncs (HStR.out w (Below.refl _ _)) 118
                  dsimp only at hdn
                  rw [endS_rot, set6_alloc _ _ HS5.out.rb.lt] at hdn
                  simp only [Int.natCast_add, Int.cast_ofNat_Int] at hdn
                  have HDN := hid hdn
                  clear hb2 hk2 hr2 hdn
                  go_wp2_with fail
                  all_goals (try rw [set6_alloc _ _ HS5.out.rb.lt])
                  all_goals refine bodyPost_ret (results_cell_iface rfl _ _ _ _ _ rfl (heap_alloc_set _ (HS5.out.rb.set6 _ _ _ _ _ _).lt (HS5.out.rb.set6 _ _ _ _ _ _)) rfl rfl) rfl ?_
                  all_goals exact ⟨_, _, rfl, HDN.out⟩
                  --E
                case pos =>
                have g2 : (get4 (b.drop (good + 8 + zn)) == rs2) = true := by simpa using hs2
                rw [g2]
                have hst : recStep b good sum = .inr (rec, good + 12 + zn, rs2) := by
                  unfold recStep
                  rw [if_neg h8, HZ.out, HRS2.out, if_neg (fun h => by rcases h with h | h | h; exact h HNR.out.1; omega; omega), if_neg (by have := HSZ.out; omega), HRE.out, HRS3.out, Int.toNat_natCast, if_neg (by simpa using hs2)]
                have HREC2 : Hid (recsL b (f - 1) (acc ++ [rec]) (good + 12 + zn) rs2 = rx) := hid (by rw [← HREC.out, HSTEP.out, hst])
                clear hst hs2 g2 HREC HSTEP HCR HGT HSE HSE2 HC3
                obtain ⟨d0, d1, d2, d3, d4, d5⟩ := HS5.out.sb.cells
                have y3 := HS5.out.sb.fz 3
                obtain ⟨vs, v1, v2, v3, v4⟩ := HS5.out.hold
                have HCP : Hid (∀ W, Below w5.heap.size w5 W → Calls Tryd.prog 54 #[.slice Ar zn (c - (good + 8))] W fun e w' => ∃ A n c, e = .returned (.slice A n c) ∧ Below w5.heap.size w5 w' ∧ OwnB w' w5.heap.size (SV.v (A, n, c)) rec) := hid (fun W hW => by
                  have hRW : U8s W.heap.size W Ar rec := ((HRR.out w5 hD5).below hW).mono hW.size
                  refine (copied_any W Ar zn (c - (good + 8)) rec hrecL (by omega) hRW).mono ?_
                  rintro e w' ⟨v, rfl, ho, hb⟩
                  rw [← hrecL] at ho
                  obtain ⟨_, A', c', rfl, _, _, _⟩ := owns_reads u8s_len ho (by decide)
                  exact ⟨A', rec.length, c', rfl, hW.trans (hb.mono hW.size), own_mono ho hW.size⟩)
                have HV1 := hid v1
                have HV2 := hid v2
                have HV3 := hid v3
                have HV4 := hid v4
                clear v1 v2 v3 v4
                have hS3 : Hid (∀ W, Below w5.heap.size w5 W → W.cell? ⟨S, 3, none⟩ = some (.slice AV acc.length cV)) := hid (fun W hW => ((HS5.out.sb.kept hW).cells).2.2.2.1)
                go_upto_region 24 with fail
                refine wp_region_noPanic ?_
                refine wp_region_held_drew (S := (fun _ => True)) (by kernel_rfl) trivial (fun hHeld => ?_)
                refine wpAnyH_take (i := 0) (v := ?_) rfl (by kernel_rfl) (by kernel_rfl) (by kernel_rfl) (fun _ _ _ h => h) (Or.inl ⟨by rfl, ?_⟩) (by assumption) ?_
                rotate_left 1
                · (intro w hSw; (try dsimp only at hSw); go_simp) <;> (with_reducible rfl)
                (try simp only [Act.put, List.setIfInBounds_toArray])
                refine wpAnyH_take (i := 2) (v := ?_) rfl (by kernel_rfl) (by kernel_rfl) (by kernel_rfl) (fun _ _ _ h => h) (Or.inl ⟨by rfl, ?_⟩) (by assumption) ?_
                rotate_left 1
                · (intro w hSw; (try dsimp only at hSw); go_simp) <;> (with_reducible rfl)
                (try simp only [Act.put])
                refine wpAnyH_ready (rs := [1, 3]) (by kernel_rfl) (by simp) ?_
                refine AllReadyH.cons rfl (fun K hK => ?_) (AllReadyH.cons rfl (fun K hK => ?_) (AllReadyH.nil))
                · go_simp
                  refine hK.out _ _ trivial (fun hHeld => ?_)
                  clear hK K
                  (try simp only [Act.put, List.setIfInBounds_toArray, List.set_cons_zero, List.set_cons_succ])
                  refine wpAnyH_ready (rs := [3]) (by kernel_rfl) (by simp) ?_
                  refine AllReadyH.cons rfl (fun K hK => ?_) (AllReadyH.nil)
                  · go_simp
                    with_reducible refine (HCP.out _ (Below.refl _ _).drew).mono ?_
                    rintro e w6 ⟨A6, n6, c6, rfl, hb6, ho6⟩
                    have e63 := hS3.out _ hb6
                    have e64 := (World.cell?_alloc_lt w6 (Obj.cells #[Value.slice A6 n6 c6] 22) ⟨S, 3, none⟩ (World.block_lt_of_cell? _ _ e63)).trans e63
                    refine hK.out _ _ trivial (fun hHeld => ?_)
                    clear hK K
                    (try simp only [Act.put, List.setIfInBounds_toArray, List.set_cons_zero, List.set_cons_succ])
                    refine wpAnyH_ready (rs := [4]) (by kernel_rfl) (by simp) ?_
                    refine AllReadyH.cons rfl (fun K hK => ?_) (AllReadyH.nil)
                    · go_simp
                      refine hK.out _ _ trivial (fun hHeld => ?_)
                      clear hK K
                      (try simp only [Act.put, List.setIfInBounds_toArray, List.set_cons_zero, List.set_cons_succ])
                      refine wpAnyH_ready (rs := [5]) (by kernel_rfl) (by simp) ?_
                      refine AllReadyH.cons rfl (fun K hK => ?_) (AllReadyH.nil)
                      · refine oper_append_one (enc := svE) w6 w.heap.size _ _ 28 22 _ 24 rfl Tryd.underlying28 infoBs rfl (by decide) svE_len svE_one (.slice AV acc.length cV) vs (A6, n6, c6) _ rfl rfl _ rfl rfl (ownB_keep row_bs HV2.out (keep_below hb6)) (by rw [HV1.out]; simp only [maxLen]; omega) (by rw [HV1.out]; omega) (Nat.le_trans HS5.out.bel.size hb6.size) ?_
                        intro v1 w7 hown hgr
                        obtain ⟨hap1, hap2⟩ := HS5.out.append HV1.out HV2.out HV3.out HV4.out hb6 ho6 hown hgr
                        obtain ⟨_, A7, c7, rfl, _, _, _⟩ := owns_reads svE_len hown (by decide)
                        clear hown hgr
                        obtain ⟨n7, hn7⟩ : ∃ n7, (vs ++ [(A6, n6, c6)]).length = n7 := ⟨_, rfl⟩
                        rw [hn7] at hap2 ⊢
                        clear hn7
                        have e3 := hap1.cells.2.2.2.1
                        have x3 := hap1.fz 3
                        have HAP2 := hid hap2
                        clear hap1 hap2
                        refine hK.out _ _ trivial (fun hHeld => ?_)
                        clear hK K
                        (try simp only [Act.put, List.setIfInBounds_toArray])
                        refine wpAnyH_take (i := 6) (v := ?_) rfl (by kernel_rfl) (by kernel_rfl) (by kernel_rfl) (fun _ _ _ h => h) (Or.inl ⟨by rfl, ?_⟩) (by assumption) ?_
                        rotate_left 1
                        · (intro w hSw; (try dsimp only at hSw); go_simp) <;> (with_reducible rfl)
                        (try simp only [Act.put])
                        refine wpAnyH_ready (rs := [7]) (by kernel_rfl) (by simp) ?_
                        refine AllReadyH.cons rfl (fun K hK => ?_) (AllReadyH.nil)
                        · go_simp
                          refine hK.out _ _ trivial (fun hHeld => ?_)
                          clear hK K
                          (try simp only [Act.put, List.setIfInBounds_toArray, List.set_cons_zero, List.set_cons_succ])
                          refine wpAnyH_done (by kernel_rfl) ?_ _
                          refine NoPanic.normal ?_
                          obtain ⟨g0, g1, g2, g3, g4, g5⟩ := HAP2.out.sb.cells
                          have k4 := HAP2.out.sb.fz 4
                          have k5 := HAP2.out.sb.fz 5
                          have HNX := hid (HAP2.out.next (good + 12 + zn) rs2)
                          have hg12 : ((good + 12 + zn : Nat) : Int) = (good : Int) + 8 + (zn : Int) + 4 := by omega
                          rw [hg12] at HNX
                          have HG12 := hid hg12
                          clear hg12 e3 x3
                          go_wp2_with fail
                          go_roundg (b.length - (good + 12 + zn))
                          case measure => omega
                          case rel => exact ⟨acc ++ [rec], _, good + 12 + zn, rs2, f - 1, by have := HSZ.out; omega, Nat.le_refl _, by omega, by simp; omega, hrs2W, HREC2, HNX⟩
                · go_simp
                  with_reducible refine (HCP.out _ (Below.refl _ _).drew).mono ?_
                  rintro e w6 ⟨A6, n6, c6, rfl, hb6, ho6⟩
                  have e63 := hS3.out _ hb6
                  have e64 := (World.cell?_alloc_lt w6 (Obj.cells #[Value.slice A6 n6 c6] 22) ⟨S, 3, none⟩ (World.block_lt_of_cell? _ _ e63)).trans e63
                  refine hK.out _ _ trivial (fun hHeld => ?_)
                  clear hK K
                  (try simp only [Act.put, List.setIfInBounds_toArray, List.set_cons_zero, List.set_cons_succ])
                  refine wpAnyH_ready (rs := [1, 4]) (by kernel_rfl) (by simp) ?_
                  refine AllReadyH.cons rfl (fun K hK => ?_) (AllReadyH.cons rfl (fun K hK => ?_) (AllReadyH.nil))
                  · go_simp
                    refine hK.out _ _ trivial (fun hHeld => ?_)
                    clear hK K
                    (try simp only [Act.put, List.setIfInBounds_toArray, List.set_cons_zero, List.set_cons_succ])
                    refine wpAnyH_ready (rs := [4]) (by kernel_rfl) (by simp) ?_
                    refine AllReadyH.cons rfl (fun K hK => ?_) (AllReadyH.nil)
                    · go_simp
                      refine hK.out _ _ trivial (fun hHeld => ?_)
                      clear hK K
                      (try simp only [Act.put, List.setIfInBounds_toArray, List.set_cons_zero, List.set_cons_succ])
                      refine wpAnyH_ready (rs := [5]) (by kernel_rfl) (by simp) ?_
                      refine AllReadyH.cons rfl (fun K hK => ?_) (AllReadyH.nil)
                      · refine oper_append_one (enc := svE) w6 w.heap.size _ _ 28 22 _ 24 rfl Tryd.underlying28 infoBs rfl (by decide) svE_len svE_one (.slice AV acc.length cV) vs (A6, n6, c6) _ rfl rfl _ rfl rfl (ownB_keep row_bs HV2.out (keep_below hb6)) (by rw [HV1.out]; simp only [maxLen]; omega) (by rw [HV1.out]; omega) (Nat.le_trans HS5.out.bel.size hb6.size) ?_
                        intro v1 w7 hown hgr
                        obtain ⟨hap1, hap2⟩ := HS5.out.append HV1.out HV2.out HV3.out HV4.out hb6 ho6 hown hgr
                        obtain ⟨_, A7, c7, rfl, _, _, _⟩ := owns_reads svE_len hown (by decide)
                        clear hown hgr
                        obtain ⟨n7, hn7⟩ : ∃ n7, (vs ++ [(A6, n6, c6)]).length = n7 := ⟨_, rfl⟩
                        rw [hn7] at hap2 ⊢
                        clear hn7
                        have e3 := hap1.cells.2.2.2.1
                        have x3 := hap1.fz 3
                        have HAP2 := hid hap2
                        clear hap1 hap2
                        refine hK.out _ _ trivial (fun hHeld => ?_)
                        clear hK K
                        (try simp only [Act.put, List.setIfInBounds_toArray])
                        refine wpAnyH_take (i := 6) (v := ?_) rfl (by kernel_rfl) (by kernel_rfl) (by kernel_rfl) (fun _ _ _ h => h) (Or.inl ⟨by rfl, ?_⟩) (by assumption) ?_
                        rotate_left 1
                        · (intro w hSw; (try dsimp only at hSw); go_simp) <;> (with_reducible rfl)
                        (try simp only [Act.put])
                        refine wpAnyH_ready (rs := [7]) (by kernel_rfl) (by simp) ?_
                        refine AllReadyH.cons rfl (fun K hK => ?_) (AllReadyH.nil)
                        · go_simp
                          refine hK.out _ _ trivial (fun hHeld => ?_)
                          clear hK K
                          (try simp only [Act.put, List.setIfInBounds_toArray, List.set_cons_zero, List.set_cons_succ])
                          refine wpAnyH_done (by kernel_rfl) ?_ _
                          refine NoPanic.normal ?_
                          obtain ⟨g0, g1, g2, g3, g4, g5⟩ := HAP2.out.sb.cells
                          have k4 := HAP2.out.sb.fz 4
                          have k5 := HAP2.out.sb.fz 5
                          have HNX := hid (HAP2.out.next (good + 12 + zn) rs2)
                          have hg12 : ((good + 12 + zn : Nat) : Int) = (good : Int) + 8 + (zn : Int) + 4 := by omega
                          rw [hg12] at HNX
                          have HG12 := hid hg12
                          clear hg12 e3 x3
                          go_wp2_with fail
                          go_roundg (b.length - (good + 12 + zn))
                          case measure => omega
                          case rel => exact ⟨acc ++ [rec], _, good + 12 + zn, rs2, f - 1, by have := HSZ.out; omega, Nat.le_refl _, by omega, by simp; omega, hrs2W, HREC2, HNX⟩
                  · go_simp
                    refine hK.out _ _ trivial (fun hHeld => ?_)
                    clear hK K
                    (try simp only [Act.put, List.setIfInBounds_toArray, List.set_cons_zero, List.set_cons_succ])
                    refine wpAnyH_ready (rs := [1]) (by kernel_rfl) (by simp) ?_
                    refine AllReadyH.cons rfl (fun K hK => ?_) (AllReadyH.nil)
                    · go_simp
                      refine hK.out _ _ trivial (fun hHeld => ?_)
                      clear hK K
                      (try simp only [Act.put, List.setIfInBounds_toArray, List.set_cons_zero, List.set_cons_succ])
                      refine wpAnyH_ready (rs := [5]) (by kernel_rfl) (by simp) ?_
                      refine AllReadyH.cons rfl (fun K hK => ?_) (AllReadyH.nil)
                      · refine oper_append_one (enc := svE) w6 w.heap.size _ _ 28 22 _ 24 rfl Tryd.underlying28 infoBs rfl (by decide) svE_len svE_one (.slice AV acc.length cV) vs (A6, n6, c6) _ rfl rfl _ rfl rfl (ownB_keep row_bs HV2.out (keep_below hb6)) (by rw [HV1.out]; simp only [maxLen]; omega) (by rw [HV1.out]; omega) (Nat.le_trans HS5.out.bel.size hb6.size) ?_
                        intro v1 w7 hown hgr
                        obtain ⟨hap1, hap2⟩ := HS5.out.append HV1.out HV2.out HV3.out HV4.out hb6 ho6 hown hgr
                        obtain ⟨_, A7, c7, rfl, _, _, _⟩ := owns_reads svE_len hown (by decide)
                        clear hown hgr
                        obtain ⟨n7, hn7⟩ : ∃ n7, (vs ++ [(A6, n6, c6)]).length = n7 := ⟨_, rfl⟩
                        rw [hn7] at hap2 ⊢
                        clear hn7
                        have e3 := hap1.cells.2.2.2.1
                        have x3 := hap1.fz 3
                        have HAP2 := hid hap2
                        clear hap1 hap2
                        refine hK.out _ _ trivial (fun hHeld => ?_)
                        clear hK K
                        (try simp only [Act.put, List.setIfInBounds_toArray])
                        refine wpAnyH_take (i := 6) (v := ?_) rfl (by kernel_rfl) (by kernel_rfl) (by kernel_rfl) (fun _ _ _ h => h) (Or.inl ⟨by rfl, ?_⟩) (by assumption) ?_
                        rotate_left 1
                        · (intro w hSw; (try dsimp only at hSw); go_simp) <;> (with_reducible rfl)
                        (try simp only [Act.put])
                        refine wpAnyH_ready (rs := [7]) (by kernel_rfl) (by simp) ?_
                        refine AllReadyH.cons rfl (fun K hK => ?_) (AllReadyH.nil)
                        · go_simp
                          refine hK.out _ _ trivial (fun hHeld => ?_)
                          clear hK K
                          (try simp only [Act.put, List.setIfInBounds_toArray, List.set_cons_zero, List.set_cons_succ])
                          refine wpAnyH_done (by kernel_rfl) ?_ _
                          refine NoPanic.normal ?_
                          obtain ⟨g0, g1, g2, g3, g4, g5⟩ := HAP2.out.sb.cells
                          have k4 := HAP2.out.sb.fz 4
                          have k5 := HAP2.out.sb.fz 5
                          have HNX := hid (HAP2.out.next (good + 12 + zn) rs2)
                          have hg12 : ((good + 12 + zn : Nat) : Int) = (good : Int) + 8 + (zn : Int) + 4 := by omega
                          rw [hg12] at HNX
                          have HG12 := hid hg12
                          clear hg12 e3 x3
                          go_wp2_with fail
                          go_roundg (b.length - (good + 12 + zn))
                          case measure => omega
                          case rel => exact ⟨acc ++ [rec], _, good + 12 + zn, rs2, f - 1, by have := HSZ.out; omega, Nat.le_refl _, by omega, by simp; omega, hrs2W, HREC2, HNX⟩

end Go.Proofs.YtfcgmlofiaehkaaDoor
