/- Layer 15: the heap of sides: the sides' own methods, called through the heap's interface. Layer 15: the heap of sides, plain. Layer 15: the heap of sides: Swap, Pop, down. Layer 15: the heap of sides: down. Layer 15: the heap of sides: Init, Fix at the top, Pop, used. Layer 15: the heap of sides: used. -/
import Derived.Test.YtpkcccphoolapaaTg
import Derived.ChangeKeysEq
namespace Go.Proofs.Ytpkcccphoolapaa
open Go.RowKit

/-- a host and what it has too much, or lacks -/
abbrev Sd := Int × Int
def sdE (s : Sd) : List Value := [.int .i64 s.1, .int .i64 s.2]
theorem sdE_len (s : Sd) : (sdE s).length = 2 := rfl
theorem sdE_one (s : Sd) : ∀ u ∈ sdE s, u.oneCell' = true := by
  intro u hu; simp [sdE] at hu; rcases hu with rfl | rfl <;> rfl
/-- the greater one: more left, or as much and a lower host -/
def gtB (a b : Sd) : Bool := decide (b.2 < a.2) || (decide (a.2 = b.2) && decide (a.1 < b.1))
theorem gtB_iff {a b : Sd} : gtB a b = true ↔ b.2 < a.2 ∨ (a.2 = b.2 ∧ a.1 < b.1) := by simp [gtB]
theorem gtB_not {a b : Sd} : gtB a b = false ↔ ¬ (b.2 < a.2 ∨ (a.2 = b.2 ∧ a.1 < b.1)) := by
  rw [← gtB_iff]; simp

theorem infoSd : (Try.prog.info? 102).map (fun i => (i.zero, i.size, i.bytes)) = some (some (.agg #[.int .i64 0, .int .i64 0]), 2, 16) := by kernel_rfl

/-! ### which function a call through the interface is -/
noncomputable def tiS : TypeInfo := (Try.prog.info? 104).get (by kernel_rfl)
theorem tiS_eq : Try.prog.info? 104 = some tiS := by kernel_rfl
theorem under_sides (W : World) : (underlying 104).run Try.prog W = .ok (.pointer 100) W := by kernel_rfl
theorem rcvV (W : World) (a : Addr) (v : Value) (n : String) (h : (loadVar 100 a).run Try.prog W = .ok v W) : (receiverAt 104 (.val (.pointer (some a))) false (some n)).run Try.prog W = .ok v W := by
  have hw : (Builtin.ssaWrapNilChk_ #[104] 104 #[.pointer (some a), strVal "", strVal n]).run Try.prog W = .ok (.pointer (some a)) W := by kernel_rfl
  unfold receiverAt
  rw [Sem.run_bind, under_sides]
  simp only [Result.andThen, Place.get, Sem.run_bind, Sem.run_pure, hw, asAddr, h]
theorem rcvP (W : World) (a : Addr) (n : String) : (receiverAt 104 (.val (.pointer (some a))) true (some n)).run Try.prog W = .ok (.pointer (some a)) W := by
  unfold receiverAt
  rw [Sem.run_bind, under_sides]
  simp only [Result.andThen, Place.get, Sem.run_pure]
theorem meth_at (W : World) (a : Addr) (name : String) (f : FuncId) (b : Bool) (r : Value) (m : Method) (hm : tiS.methods.find? (·.name == name) = some m) (hp : m.path = #[]) (hf : m.func = some (f, b))
    (hr : ∀ n : String, (receiverAt 104 (.val (.pointer (some a))) b (some n)).run Try.prog W = .ok r W) : (method 266 104 (.pointer (some a)) name).run Try.prog W = .ok (f, r) W := by
  unfold method
  rw [Sem.run_bind, run_typeInfo W tiS_eq]
  simp only [Result.andThen, hm, hp, hf, follow, Sem.run_bind, Sem.run_pure]
  have h2 := hr ((name.splitOn ".").getLastD name)
  simp only [show (#[] : Array FieldStep).isEmpty = true from rfl, if_true, h2]
theorem load_sides (W : World) (a : Addr) (v : Value) (h : W.cell? a = some v) : (loadVar 100 a).run Try.prog W = .ok v W := by
  simp [loadVar, Try.isAgg100, h]
noncomputable def mLen := (tiS.methods.find? (·.name == "Len")).get (by kernel_rfl)
noncomputable def mLess := (tiS.methods.find? (·.name == "Less")).get (by kernel_rfl)
noncomputable def mSwap := (tiS.methods.find? (·.name == "Swap")).get (by kernel_rfl)
noncomputable def mPop := (tiS.methods.find? (·.name == "Pop")).get (by kernel_rfl)
theorem meth_len (W : World) (a : Addr) (v : Value) (h : W.cell? a = some v) : (method 266 104 (.pointer (some a)) "Len").run Try.prog W = .ok (119, v) W :=
  meth_at W a "Len" _ false v mLen (by kernel_rfl) (by kernel_rfl) (by kernel_rfl) fun n => rcvV W a v n (load_sides W a v h)
theorem meth_less (W : World) (a : Addr) (v : Value) (h : W.cell? a = some v) : (method 266 104 (.pointer (some a)) "Less").run Try.prog W = .ok (120, v) W :=
  meth_at W a "Less" _ false v mLess (by kernel_rfl) (by kernel_rfl) (by kernel_rfl) fun n => rcvV W a v n (load_sides W a v h)
theorem meth_swap (W : World) (a : Addr) (v : Value) (h : W.cell? a = some v) : (method 266 104 (.pointer (some a)) "Swap").run Try.prog W = .ok (121, v) W :=
  meth_at W a "Swap" _ false v mSwap (by kernel_rfl) (by kernel_rfl) (by kernel_rfl) fun n => rcvV W a v n (load_sides W a v h)
theorem meth_pop (W : World) (a : Addr) : (method 266 104 (.pointer (some a)) "Pop").run Try.prog W = .ok (122, .pointer (some a)) W :=
  meth_at W a "Pop" _ true _ mPop (by kernel_rfl) (by kernel_rfl) (by kernel_rfl) fun n => rcvP W a n

/-! ### the heap's variable and its row -/
structure HeapAt (w : World) (B Hb g c : Nat) (l : List Sd) : Prop where
  box : w.heap[Hb]? = some (Obj.cells #[.slice (some ⟨g, 0, none⟩) l.length c] 100 (0, 0))
  row : w.ownsRow B 102 2 (.slice (some ⟨g, 0, none⟩) l.length c) l.length (l.flatMap sdE)
  ne : Hb ≠ g
  hB : B ≤ Hb
namespace HeapAt
variable {w w' : World} {B Hb g c : Nat} {l : List Sd}
theorem c0 (h : HeapAt w B Hb g c l) : w.cell? ⟨Hb, 0, none⟩ = some (.slice (some ⟨g, 0, none⟩) l.length c) := by simp [World.cell?, h.box]
theorem at' (h : HeapAt w B Hb g c l) {i : Nat} {s : Sd} (hs : l[i]? = some s) : w.cell? ⟨g, i * 2, none⟩ = some (.int .i64 s.1) ∧ w.cell? ⟨g, i * 2 + 1, none⟩ = some (.int .i64 s.2) := by
  have h0 := h.row.cells (g := g) rfl (i * 2) (.int .i64 s.1) (by have := flatMap_get sdE_len l i s hs 0 _ rfl; simpa using this)
  have h1 := h.row.cells (g := g) rfl (i * 2 + 1) (.int .i64 s.2) (by have := flatMap_get sdE_len l i s hs 1 _ rfl; simpa using this)
  simp only [addr_add, Nat.zero_add] at h0 h1
  exact ⟨h0, h1⟩
theorem fz (h : HeapAt w B Hb g c l) (k : Nat) : w.frozen? ⟨g, k, none⟩ = false := h.row.frozenAt k
theorem drewN (h : HeapAt w B Hb g c l) (q : Nat) : HeapAt (w.drewN q) B Hb g c l := ⟨h.box, h.row, h.ne, h.hB⟩
end HeapAt

/-- Less reads two sides -/
theorem less_any (W : World) (B Hb g c : Nat) (l : List Sd) (i j : Nat) (x y : Sd) (h : HeapAt W B Hb g c l) (hi : l[i]? = some x) (hj : l[j]? = some y) (_ : l.length ≤ 16) :
    Calls Try.prog 120 #[.slice (some ⟨g, 0, none⟩) l.length c, .int .i64 (i : Int), .int .i64 (j : Int)] W fun e w' => e = .returned (.bool (gtB x y)) ∧ ∃ q, w' = W.drewN q := by
  obtain ⟨x0, x1⟩ := h.at' hi
  obtain ⟨y0, y1⟩ := h.at' hj
  have hil := (List.getElem?_eq_some_iff.1 hi).1
  have hjl := (List.getElem?_eq_some_iff.1 hj).1
  obtain ⟨xh, xl⟩ := x
  obtain ⟨yh, yl⟩ := y
  dsimp only at x0 x1 y0 y1
  clear h hi hj
  by_cases h1 : yl < xl
  · have d0 : decide (xl > yl) = true := by simpa using h1
    have d1 : decide (yl < xl) = true := by simpa using h1
    have HG : Hid (gtB (xh, xl) (yh, yl) = true) := hid (gtB_iff.2 (.inl h1))
    clear h1
    go_enter Try.func120, Try.ntmps120
    go_wp2_with fail
    go_quiet (fail)
    go_wp2_with fail
    go_ret
    exact ⟨ret_bool HG.out.symm, nq, rfl⟩
  · have d0 : decide (xl > yl) = false := by simpa using h1
    have d1 : decide (yl < xl) = false := by simpa using h1
    by_cases h2 : xl = yl
    · subst h2
      have e0 : (xl == xl) = true := by simp
      by_cases h3 : xh < yh
      · have d2 : decide (xh < yh) = true := by simpa using h3
        have HG : Hid (gtB (xh, xl) (yh, xl) = true) := hid (gtB_iff.2 (.inr ⟨rfl, h3⟩))
        clear h1 h3
        go_enter Try.func120, Try.ntmps120
        go_wp2_with fail
        go_quiet (fail)
        go_wp2_with fail
        go_ret
        exact ⟨ret_bool HG.out.symm, nq, rfl⟩
      · have d2 : decide (xh < yh) = false := by simpa using h3
        have HG : Hid (gtB (xh, xl) (yh, xl) = false) := hid (gtB_not.2 (by dsimp only; omega))
        clear h1 h3
        go_enter Try.func120, Try.ntmps120
        go_wp2_with fail
        go_quiet (fail)
        go_wp2_with fail
        go_ret
        exact ⟨ret_bool HG.out.symm, nq, rfl⟩
    · have e0 : (xl == yl) = false := by simpa using h2
      have HG : Hid (gtB (xh, xl) (yh, yl) = false) := hid (gtB_not.2 (by dsimp only; omega))
      clear h1 h2
      go_enter Try.func120, Try.ntmps120
      go_wp2_with fail
      go_quiet (fail)
      go_wp2_with fail
      go_ret
      exact ⟨ret_bool HG.out.symm, nq, rfl⟩
end Go.Proofs.Ytpkcccphoolapaa
namespace Go.Proofs.Ytpkcccphoolapaa

theorem gtB_irr (a : Sd) : gtB a a = false := gtB_not.2 (by omega)
theorem gtB_asymm {a b : Sd} (h : gtB a b = true) : gtB b a = false := by rw [gtB_iff] at h; rw [gtB_not]; omega
theorem gtB_ntrans {a b c : Sd} (h1 : gtB a b = false) (h2 : gtB b c = false) : gtB a c = false := by rw [gtB_not] at *; omega

/-- no child from place i0 on is greater than its parent, as far as n -/
def HeapFrom (l : List Sd) (i0 n : Nat) : Prop := ∀ j x y, 1 ≤ j → j < n → i0 ≤ (j - 1) / 2 → l[j]? = some x → l[(j - 1) / 2]? = some y → gtB x y = false
/-- the same but for the place i, which may be too small -/
structure DownI (l : List Sd) (i0 i n : Nat) : Prop where
  le : i0 ≤ i
  rest : ∀ j x y, 1 ≤ j → j < n → i0 ≤ (j - 1) / 2 → (j - 1) / 2 ≠ i → l[j]? = some x → l[(j - 1) / 2]? = some y → gtB x y = false
  over : i0 < i → ∀ j x y, 1 ≤ j → j < n → (j - 1) / 2 = i → l[j]? = some x → l[(i - 1) / 2]? = some y → gtB x y = false

theorem DownI.start {l : List Sd} {i n : Nat} (h : HeapFrom l (i + 1) n) : DownI l i i n :=
  ⟨Nat.le_refl _, fun j x y h1 h2 h3 h4 hx hy => h j x y h1 h2 (by omega) hx hy, fun h1 => absurd h1 (by omega)⟩
theorem DownI.leaf {l : List Sd} {i0 i n : Nat} (h : DownI l i0 i n) (hn : n ≤ 2 * i + 1) : HeapFrom l i0 n := fun j x y h1 h2 h3 hx hy =>
  h.rest j x y h1 h2 h3 (by omega) hx hy
theorem DownI.stop {l : List Sd} {i0 i n : Nat} {a b : Sd} (h : DownI l i0 i n) (hb : l[i]? = some b) (hab : gtB a b = false)
    (hs : ∀ k z, (k = 2 * i + 1 ∨ k = 2 * i + 2) → k < n → l[k]? = some z → gtB z a = false) : HeapFrom l i0 n := fun k x y h1 h2 h3 hx hy => by
  by_cases hk : (k - 1) / 2 = i
  · rw [hk, hb] at hy
    injection hy with hy
    subst hy
    exact gtB_ntrans (hs k x (by omega) h2 hx) hab
  · exact h.rest k x y h1 h2 h3 hk hx hy
/-- two places changed about -/
def swapL (l : List Sd) (i j : Nat) (x y : Sd) : List Sd := (l.set i y).set j x
theorem swapL_get {l : List Sd} {i j : Nat} {x y : Sd} (hi : i < l.length) (hj : j < l.length) (k : Nat) : (swapL l i j x y)[k]? = if k = j then some x else if k = i then some y else l[k]? := by
  unfold swapL
  by_cases h1 : k = j
  · subst h1; rw [if_pos rfl, List.getElem?_set_self (by simpa using hj)]
  · rw [if_neg h1, List.getElem?_set_ne (Ne.symm h1)]
    by_cases h2 : k = i
    · subst h2; rw [if_pos rfl, List.getElem?_set_self hi]
    · rw [if_neg h2, List.getElem?_set_ne (Ne.symm h2)]
theorem swapL_len (l : List Sd) (i j : Nat) (x y : Sd) : (swapL l i j x y).length = l.length := by simp [swapL]
theorem swapL_perm {l : List Sd} {i j : Nat} {x y : Sd} (hx : l[i]? = some x) (hy : l[j]? = some y) : (swapL l i j x y).Perm l := by
  have hi := (List.getElem?_eq_some_iff.1 hx).1
  have hj := (List.getElem?_eq_some_iff.1 hy).1
  by_cases e : i = j
  · subst e
    rw [hx] at hy
    injection hy with hy
    subst hy
    have : swapL l i i x x = l := by
      apply List.ext_getElem?
      intro k
      rw [swapL_get hi hj]
      split
      · subst_vars; exact hx.symm
      · rfl
    rw [this]
  · rw [List.perm_iff_count]
    intro a
    have ei := (List.getElem?_eq_some_iff.1 hx).2
    have ej := (List.getElem?_eq_some_iff.1 hy).2
    unfold swapL
    rw [List.count_set (by simpa using hj), List.count_set hi, List.getElem_set_ne e, ei, ej]
    have c1 : 0 < l.count x := List.count_pos_iff.2 (ei ▸ List.getElem_mem hi)
    have c2 : 0 < l.count y := List.count_pos_iff.2 (ej ▸ List.getElem_mem hj)
    by_cases h1 : x = a <;> by_cases h2 : y = a
    · subst h1; subst h2; simp; omega
    · subst h1; simp [h2]; omega
    · subst h2; simp [h1]
    · simp [h1, h2]

theorem DownI.swap {l : List Sd} {i0 i n j : Nat} {a b : Sd} (h : DownI l i0 i n) (hn : n ≤ l.length) (hjn : j < n) (hj : j = 2 * i + 1 ∨ j = 2 * i + 2) (ha : l[j]? = some a) (hab : gtB a b = true)
    (hs : ∀ k z, (k = 2 * i + 1 ∨ k = 2 * i + 2) → k < n → l[k]? = some z → gtB z a = false) : DownI (swapL l i j b a) i0 j n := by
  have g := fun k => swapL_get (l := l) (i := i) (j := j) (x := b) (y := a) (by omega) (by omega) k
  have hle := h.le
  refine ⟨by omega, fun k x y h1 h2 h3 h4 hx hy => ?_, fun h0 k x y h1 h2 h3 hx hy => ?_⟩
  · rw [g] at hx hy
    rw [if_neg (show (k - 1) / 2 ≠ j by omega)] at hy
    by_cases hp : (k - 1) / 2 = i
    · rw [if_pos hp] at hy
      injection hy with hy
      subst hy
      by_cases hk : k = j
      · rw [if_pos hk] at hx
        injection hx with hx
        subst hx
        exact gtB_asymm hab
      · rw [if_neg hk, if_neg (by omega)] at hx
        exact hs k x (by omega) h2 hx
    · rw [if_neg hp] at hy
      rw [if_neg (show k ≠ j by omega)] at hx
      by_cases hk : k = i
      · rw [if_pos hk] at hx
        injection hx with hx
        subst hx
        refine h.over (by omega) j a y (by omega) hjn (by omega) ha ?_
        rw [← hk]; exact hy
      · rw [if_neg hk] at hx
        exact h.rest k x y h1 h2 h3 hp hx hy
  · rw [g] at hx hy
    rw [if_neg (by omega), if_neg (by omega)] at hx
    rw [if_neg (by omega), if_pos (by omega)] at hy
    injection hy with hy
    subst hy
    exact h.rest k x a h1 h2 (by omega) (by omega) hx (by rw [h3]; exact ha)

/-- the first of a heap is the greatest -/
theorem heap_top {l : List Sd} (h : HeapFrom l 0 l.length) {t : Sd} (ht : l[0]? = some t) : ∀ s ∈ l, gtB s t = false := by
  have key : ∀ (n j : Nat) (s : Sd), j ≤ n → l[j]? = some s → gtB s t = false := by
    intro n
    induction n with
    | zero =>
      intro j s hj hs
      obtain rfl : j = 0 := by omega
      rw [ht] at hs
      injection hs with hs
      subst hs
      exact gtB_irr _
    | succ n ih =>
      intro j s hj hs
      by_cases h0 : j = 0
      · exact ih j s (by omega) hs
      · have hjl := (List.getElem?_eq_some_iff.1 hs).1
        have hp : l[(j - 1) / 2]? = some (l[(j - 1) / 2]'(by omega)) := List.getElem?_eq_getElem _
        exact gtB_ntrans (h j s _ (by omega) hjl (Nat.zero_le _) hs hp) (ih _ _ (by omega) hp)
  intro s hs
  obtain ⟨j, hj, rfl⟩ := List.mem_iff_getElem.1 hs
  exact key j j _ (Nat.le_refl _) (List.getElem?_eq_getElem _)

theorem flat_sd_set {l : List Sd} {i : Nat} (s : Sd) (hi : i < l.length) : ((l.flatMap sdE).set (i * 2) (.int .i64 s.1)).set (i * 2 + 1) (.int .i64 s.2) = (l.set i s).flatMap sdE := by
  induction l generalizing i with
  | nil => simp at hi
  | cons a l ih =>
    cases i with
    | zero => simp [sdE]
    | succ i =>
      have := ih (i := i) (by simpa using hi)
      have e1 : (i + 1) * 2 = i * 2 + 1 + 1 := by omega
      rw [e1]
      simp only [List.flatMap_cons, sdE, List.cons_append, List.nil_append, List.set_cons_succ, this]
end Go.Proofs.Ytpkcccphoolapaa
namespace Go.Proofs.Ytpkcccphoolapaa
open Go.RowKit

theorem HeapAt.below_row {w w' : World} {B Hb g c : Nat} {l l' : List Sd} (h : HeapAt w B Hb g c l) (hr : w'.ownsRow B 102 2 (.slice (some ⟨g, 0, none⟩) l'.length c) l'.length (l'.flatMap sdE)) (hl : l'.length = l.length) (hg : w.grownBy w' (some g)) : HeapAt w' B Hb g c l' :=
  ⟨by rw [hg.block Hb (Array.getElem?_eq_some_iff.1 h.box).1 (fun e => h.ne (by injection e)), hl]; exact h.box, hr, h.ne, h.hB⟩

theorem HeapAt.kept {w w' : World} {B Hb g c : Nat} {l : List Sd} (h : HeapAt w B Hb g c l) {row : Option Nat} (hg : w.grownBy w' row) (h1 : row ≠ some Hb) (h2 : row ≠ some g) : HeapAt w' B Hb g c l :=
  ⟨(hg.block Hb (Array.getElem?_eq_some_iff.1 h.box).1 (fun e => h1 e.symm)).trans h.box, h.row.kept hg (.inr (fun e => h2 e.symm)), h.ne, h.hB⟩

theorem HeapAt.swapped {W : World} {B Hb g c : Nat} {l : List Sd} {i j : Nat} {x y : Sd} (h : HeapAt W B Hb g c l) (hi : i < l.length) (hj : j < l.length) (q : Nat) :
    HeapAt (((((W.setCell ⟨g, i * 2, none⟩ (.int .i64 y.1)).setCell ⟨g, i * 2 + 1, none⟩ (.int .i64 y.2)).setCell ⟨g, j * 2, none⟩ (.int .i64 x.1)).setCell ⟨g, j * 2 + 1, none⟩ (.int .i64 x.2)).drewN q) B Hb g c (swapL l i j x y) ∧
      W.grownBy (((((W.setCell ⟨g, i * 2, none⟩ (.int .i64 y.1)).setCell ⟨g, i * 2 + 1, none⟩ (.int .i64 y.2)).setCell ⟨g, j * 2, none⟩ (.int .i64 x.1)).setCell ⟨g, j * 2 + 1, none⟩ (.int .i64 x.2)).drewN q) (some g) := by
  have r1 := h.row.stored (i * 2) (.int .i64 y.1)
  have r2 := r1.1.stored (i * 2 + 1) (.int .i64 y.2)
  have r3 := r2.1.stored (j * 2) (.int .i64 x.1)
  have r4 := r3.1.stored (j * 2 + 1) (.int .i64 x.2)
  have hg : W.grownBy (((((W.setCell ⟨g, i * 2, none⟩ (.int .i64 y.1)).setCell ⟨g, i * 2 + 1, none⟩ (.int .i64 y.2)).setCell ⟨g, j * 2, none⟩ (.int .i64 x.1)).setCell ⟨g, j * 2 + 1, none⟩ (.int .i64 x.2)).drewN q) (some g) := by
    have := ((r1.2.trans r2.2).trans r3.2).trans r4.2
    exact ⟨this.os, this.tape, this.output, this.size, this.block⟩
  refine ⟨h.below_row (l' := swapL l i j x y) ?_ (swapL_len ..) hg, hg⟩
  rw [swapL_len, swapL, ← flat_sd_set x (by simpa using hj), ← flat_sd_set y hi]
  exact r4.1

set_option maxHeartbeats 2000000 in
theorem swap_any (W : World) (B Hb g c : Nat) (l : List Sd) (i j : Nat) (x y : Sd) (h : HeapAt W B Hb g c l) (hi : l[i]? = some x) (hj : l[j]? = some y) :
    Calls Try.prog 121 #[.slice (some ⟨g, 0, none⟩) l.length c, .int .i64 (i : Int), .int .i64 (j : Int)] W fun e w' => (∃ z, e = .returned z) ∧ HeapAt w' B Hb g c (swapL l i j x y) ∧ W.grownBy w' (some g) := by
  obtain ⟨x0, x1⟩ := h.at' hi
  obtain ⟨y0, y1⟩ := h.at' hj
  have f0 := h.fz (i * 2)
  have f1 := h.fz (i * 2 + 1)
  have f2 := h.fz (j * 2)
  have f3 := h.fz (j * 2 + 1)
  have hil := (List.getElem?_eq_some_iff.1 hi).1
  have hjl := (List.getElem?_eq_some_iff.1 hj).1
  have H := hid h
  clear h
  by_cases hij : i = j
  · subst hij
    rw [hi] at hj
    injection hj with hj
    subst hj
    obtain ⟨xh, xl⟩ := x
    dsimp only at x0 x1 y0 y1
    clear hi
    go_enter Try.func121, Try.ntmps121
    go_wp2_with fail
    go_region
    refine bodyPost_end (results_none rfl _ _ _) rfl ?_
    exact ⟨⟨_, rfl⟩, (H.out.swapped (x := (xh, xl)) (y := (xh, xl)) hil hjl 1)⟩
  · obtain ⟨xh, xl⟩ := x
    obtain ⟨yh, yl⟩ := y
    dsimp only at x0 x1 y0 y1
    clear hi hj
    go_enter Try.func121, Try.ntmps121
    go_wp2_with fail
    go_region
    refine bodyPost_end (results_none rfl _ _ _) rfl ?_
    exact ⟨⟨_, rfl⟩, (H.out.swapped (x := (xh, xl)) (y := (yh, yl)) hil hjl 1)⟩

set_option maxHeartbeats 2000000 in
theorem sdPop_any (W : World) (B Hb g c : Nat) (l : List Sd) (x : Sd) (h : HeapAt W B Hb g c (l ++ [x])) (h16 : l.length ≤ 16) :
    Calls Try.prog 122 #[.pointer (some ⟨Hb, 0, none⟩)] W fun e w' => (∃ z, e = .returned z) ∧ HeapAt w' B Hb g c l ∧ W.grownBy w' (some Hb) := by
  have c0 := h.c0
  obtain ⟨x0, x1⟩ := h.at' (i := l.length) (s := x) (by simp)
  have fz : W.frozen? ⟨Hb, 0, none⟩ = false := by simp [World.frozen?, h.box]
  obtain ⟨xh, xl⟩ := x
  have hn : (l ++ [(xh, xl)]).length = l.length + 1 := by simp
  rw [hn] at c0
  have hw : IntKind.i64.wrap (((l.length + 1 : Nat) : Int) - 1) = (l.length : Int) := by
    rw [wrap_small _ (by omega) (by omega)]; omega
  have H := hid h
  have hcap : l.length + 1 ≤ c := by
    rcases h.row.2 with ⟨e, _⟩ | ⟨_, cap, _, e, _, _, h1, _⟩
    · cases e
    · injection e with _ _ e3
      rw [e3, ← hn]; exact h1
  dsimp only at x0 x1
  have hHb : Hb < W.heap.size := (Array.getElem?_eq_some_iff.1 h.box).1
  obtain ⟨W6, hW6⟩ : ∃ W6, W6 = W.alloc (.cells #[.int .i64 xh, .int .i64 xl] 102) := ⟨_, rfl⟩
  have b6 : Below W.heap.size W W6 := by rw [hW6]; exact (Below.refl _ W).alloc (Nat.le_refl _) _
  have fz6 : (W.alloc (.cells #[.int .i64 xh, .int .i64 xl] 102)).frozen? ⟨Hb, 0, none⟩ = false := by
    rw [← hW6, World.frozen?_of_block (a := ⟨Hb, 0, none⟩) (b6.block Hb hHb)]; exact fz
  have c6 : (W.alloc (.cells #[.int .i64 xh, .int .i64 xl] 102)).cell? ⟨Hb, 0, none⟩ = some (.slice (some ⟨g, 0, none⟩) (l.length + 1) c) := by
    rw [← hW6, World.cell?_of_block (a := ⟨Hb, 0, none⟩) (b6.block Hb hHb)]; exact c0
  have y0 : ((W.alloc (.cells #[.int .i64 xh, .int .i64 xl] 102)).setCell ⟨Hb, 0, none⟩ (.slice (some ⟨g, 0, none⟩) l.length c)).cell? ⟨W.heap.size, 0, none⟩ = some (.int .i64 xh) := by
    rw [World.cell?_of_block (a := ⟨W.heap.size, 0, none⟩) (Below.heap_setCell _ _ _ _ (by show W.heap.size ≠ Hb; omega))]; simp
  have y1 : ((W.alloc (.cells #[.int .i64 xh, .int .i64 xl] 102)).setCell ⟨Hb, 0, none⟩ (.slice (some ⟨g, 0, none⟩) l.length c)).cell? ⟨W.heap.size, 1, none⟩ = some (.int .i64 xl) := by
    rw [World.cell?_of_block (a := ⟨W.heap.size, 1, none⟩) (Below.heap_setCell _ _ _ _ (by show W.heap.size ≠ Hb; omega))]; simp
  have HF : HeapAt (W.setCell ⟨Hb, 0, none⟩ (.slice (some ⟨g, 0, none⟩) l.length c)) B Hb g c l ∧ W.grownBy (W.setCell ⟨Hb, 0, none⟩ (.slice (some ⟨g, 0, none⟩) l.length c)) (some Hb) := by
    have hk : ∀ k, k ≠ Hb → (W.setCell ⟨Hb, 0, none⟩ (.slice (some ⟨g, 0, none⟩) l.length c)).heap[k]? = W.heap[k]? := fun k hne => Below.heap_setCell _ _ _ _ hne
    refine ⟨⟨heap_setCell_at _ h.box, ?_, h.ne, h.hB⟩, ⟨rfl, rfl, rfl, by rw [size_setCell]; exact Nat.le_refl _, fun k _ hk2 => hk k (fun e => hk2 (by rw [e]))⟩⟩
    have hr := h.row
    rcases hr.2 with ⟨e, _⟩ | ⟨g', cap, cur, e, h1, h2, h3, h4, h5, h6⟩
    · cases e
    · injection e with e1 _ e3
      obtain rfl : g = g' := by injection e1 with e1; injection e1
      subst e3
      refine ⟨by simp [flatMap_length sdE_len], .inr ⟨g, c, cur, rfl, h1, (hk g (Ne.symm h.ne)).trans h2, by omega, h4, h5, ?_⟩⟩
      have h7 := congrArg (List.take (l.length * 2)) h6
      rw [List.take_take, List.flatMap_append, List.take_left' (flatMap_length sdE_len l)] at h7
      rw [← h7]
      congr 1
      simp
  have HFN : Hid (HeapAt ((W.setCell ⟨Hb, 0, none⟩ (.slice (some ⟨g, 0, none⟩) l.length c)).alloc (.cells #[.int .i64 xh, .int .i64 xl] 102)) B Hb g c l ∧ W.grownBy ((W.setCell ⟨Hb, 0, none⟩ (.slice (some ⟨g, 0, none⟩) l.length c)).alloc (.cells #[.int .i64 xh, .int .i64 xl] 102)) (some Hb)) := by
    have hga := World.grownBy_alloc (W.setCell ⟨Hb, 0, none⟩ (.slice (some ⟨g, 0, none⟩) l.length c)) (.cells #[.int .i64 xh, .int .i64 xl] 102) none
    exact hid ⟨HF.1.kept hga (by simp) (by simp), ⟨rfl, rfl, rfl, by have := hga.size; rw [size_setCell] at this; exact this, fun k hk1 hk2 => (hga.block k (by rw [size_setCell]; exact hk1) (by simp)).trans (HF.2.block k hk1 hk2)⟩⟩
  clear h hn b6 hW6 HF
  go_enter Try.func122, Try.ntmps122
  go_wp2_with fail
  go_ret
  exact ⟨⟨_, rfl⟩, HFN.out⟩
end Go.Proofs.Ytpkcccphoolapaa
namespace Go.Proofs.Ytpkcccphoolapaa
open Go.RowKit

/-- what holds between two rounds of down -/
structure DownSt (w wr : World) (B Hb g c : Nat) (l l' : List Sd) (i0 i n : Nat) : Prop where
  hp : HeapAt wr B Hb g c l'
  inv : DownI l' i0 i n
  perm : l'.Perm l
  far : ∀ k, n ≤ k → l'[k]? = l[k]?
  gr : w.grownBy wr (some g)
namespace DownSt
variable {w wr W : World} {B Hb g c : Nat} {l l' : List Sd} {i0 i n : Nat}
theorem len (h : DownSt w wr B Hb g c l l' i0 i n) : l'.length = l.length := h.perm.length_eq
theorem drewN (h : DownSt w wr B Hb g c l l' i0 i n) (q : Nat) : DownSt w (wr.drewN q) B Hb g c l l' i0 i n :=
  ⟨h.hp.drewN q, h.inv, h.perm, h.far, ⟨h.gr.os, h.gr.tape, h.gr.output, h.gr.size, h.gr.block⟩⟩
theorem swap (h : DownSt w wr B Hb g c l l' i0 i n) (hn : n ≤ l.length) {j : Nat} {a b : Sd} (hjn : j < n) (hj : j = 2 * i + 1 ∨ j = 2 * i + 2) (ha : l'[j]? = some a) (hb : l'[i]? = some b) (hab : gtB a b = true)
    (hs : ∀ k z, (k = 2 * i + 1 ∨ k = 2 * i + 2) → k < n → l'[k]? = some z → gtB z a = false) (hw : HeapAt W B Hb g c (swapL l' i j b a)) (hg : wr.grownBy W (some g)) : DownSt w W B Hb g c l (swapL l' i j b a) i0 j n := by
  refine ⟨hw, h.inv.swap (by rw [h.len]; exact hn) hjn hj ha hab hs, (swapL_perm hb ha).trans h.perm, fun k hk => ?_, h.gr.trans hg⟩
  have hjl := (List.getElem?_eq_some_iff.1 ha).1
  have hil := (List.getElem?_eq_some_iff.1 hb).1
  rw [swapL_get hil hjl, if_neg (by omega), if_neg (by omega)]
  exact h.far k hk
end DownSt

set_option maxHeartbeats 4000000 in
theorem down_any (w : World) (B Hb g c : Nat) (l : List Sd) (i0 n : Nat) (h : HeapAt w B Hb g c l) (hn : n ≤ l.length) (h16 : l.length ≤ 16) (hi0 : i0 ≤ n) (hd : DownI l i0 i0 n) :
    Calls Try.prog 74 #[.iface 104 (.pointer (some ⟨Hb, 0, none⟩)), .int .i64 (i0 : Int), .int .i64 (n : Int)] w fun e w' =>
      ∃ b l', e = .returned (.bool b) ∧ HeapAt w' B Hb g c l' ∧ l'.Perm l ∧ (∀ k, n ≤ k → l'[k]? = l[k]?) ∧ HeapFrom l' i0 n ∧ w.grownBy w' (some g) := by
  have HS0 := hid (DownSt.mk h hd (List.Perm.refl l) (fun _ _ => rfl) (World.grownBy_refl' w (some g)))
  clear h hd
  go_enter Try.func74, Try.ntmps74
  go_wp2_with fail
  go_loopg [7] n (fun gx si wr => ∃ (i : Nat) (l' : List Sd), si = .int .i64 i ∧ i ≤ n ∧ n - i ≤ gx ∧ Hid (DownSt w wr B Hb g c l l' i0 i n))
  case atStart => exact ⟨i0, l, rfl, hi0, by omega, HS0⟩
  case round =>
    obtain ⟨i, l', rfl, hin, hgx, HS⟩ := hrel
    have hw0 : IntKind.i64.wrap (2 * (i : Int)) = 2 * (i : Int) := wrap_small _ (by omega) (by omega)
    have hw1 : IntKind.i64.wrap (2 * (i : Int) + 1) = 2 * (i : Int) + 1 := wrap_small _ (by omega) (by omega)
    have hw2 : IntKind.i64.wrap (2 * (i : Int) + 1 + 1) = 2 * (i : Int) + 1 + 1 := wrap_small _ (by omega) (by omega)
    have b1 : decide (2 * (i : Int) + 1 < 0) = false := by simp; omega
    by_cases hA : n ≤ 2 * i + 1
    · have b0 : decide ((n : Int) ≤ 2 * (i : Int) + 1) = true := by simp; omega
      go_wp2_with fail
      go_ret
      exact ⟨_, l', rfl, HS.out.hp, HS.out.perm, HS.out.far, HS.out.inv.leaf hA, HS.out.gr⟩
    · have b0 : decide ((n : Int) ≤ 2 * (i : Int) + 1) = false := by simp; omega
      have hln := HS.out.len
      obtain ⟨xi, hxi⟩ : ∃ x, l'[i]? = some x := ⟨l'[i]'(by omega), List.getElem?_eq_getElem _⟩
      obtain ⟨x1, hx1⟩ : ∃ x, l'[2 * i + 1]? = some x := ⟨l'[2 * i + 1]'(by omega), List.getElem?_eq_getElem _⟩
      have c0 := HS.out.hp.c0
      have m0 := meth_less wr _ _ c0
      have HXI := hid hxi
      have HX1 := hid hx1
      have HLN := hid hln
      clear hxi hx1 hln
      by_cases hB : 2 * i + 2 < n
      · have b2 : decide (2 * (i : Int) + 1 + 1 < (n : Int)) = true := by simp; omega
        obtain ⟨x2, hx2⟩ : ∃ x, l'[2 * i + 2]? = some x := ⟨l'[2 * i + 2]'(by have := HLN.out; omega), List.getElem?_eq_getElem _⟩
        have hc1 := less_any wr B Hb g c l' (2 * i + 2) (2 * i + 1) x2 x1 HS.out.hp hx2 HX1.out (by have := HLN.out; omega)
        rw [show ((2 * i + 2 : Nat) : Int) = 2 * (i : Int) + 1 + 1 by omega, show ((2 * i + 1 : Nat) : Int) = 2 * (i : Int) + 1 by omega] at hc1
        have HX2 := hid hx2
        have HC := hid hc1
        clear hx2 hc1
        cases hgt : gtB x2 x1 with
        | true =>
          rw [hgt] at HC
          have HGT := hid hgt
          clear hgt
          go_wp2_with fail
          refine HC.out.mono ?_
          rintro e w1 ⟨rfl, q, rfl⟩
          have HS1 := hid (HS.out.drewN q)
          clear m0 c0
          have hji : ((2 * i + 2 : Nat) : Int) = 2 * (i : Int) + 1 + 1 := by omega
          have hlt := HS1.out.len
          have hc2 := less_any (wr.drewN q) B Hb g c l' (2 * i + 2) i x2 xi HS1.out.hp HX2.out HXI.out (by omega)
          rw [hji] at hc2
          have HC2 := hid hc2
          have m1 := meth_less (wr.drewN q) _ _ HS1.out.hp.c0
          have hs : ∀ k z, (k = 2 * i + 1 ∨ k = 2 * i + 2) → k < n → l'[k]? = some z → gtB z x2 = false := fun k z hk hkn hz => by
            rcases hk with rfl | rfl
            · obtain rfl : x1 = z := Option.some.inj (HX1.out.symm.trans hz); exact gtB_asymm HGT.out
            · obtain rfl : x2 = z := Option.some.inj (HX2.out.symm.trans hz); exact gtB_irr _
          have HHS := hid hs
          have HJI := hid hji
          clear hc2 hs hji hlt
          cases hab : gtB x2 xi with
          | false =>
            rw [hab] at HC2
            have HAB := hid hab
            clear hab
            go_wp2_with fail
            refine HC2.out.mono ?_
            rintro e w2 ⟨rfl, q2, rfl⟩
            have HS2 := hid (HS.out.drewN (q + q2))
            clear m1
            go_wp2_with fail
            go_ret
            exact ⟨_, l', rfl, HS2.out.hp, HS2.out.perm, HS2.out.far, HS2.out.inv.stop HXI.out HAB.out HHS.out, HS2.out.gr⟩
          | true =>
            rw [hab] at HC2
            have HAB := hid hab
            clear hab
            go_wp2_with fail
            refine HC2.out.mono ?_
            rintro e w2 ⟨rfl, q2, rfl⟩
            have HS2 := hid (HS.out.drewN (q + q2))
            have m2 := meth_swap (wr.drewN (q + q2)) _ _ HS2.out.hp.c0
            have hc3 := swap_any (wr.drewN (q + q2)) B Hb g c l' i (2 * i + 2) xi x2 HS2.out.hp HXI.out HX2.out
            rw [HJI.out] at hc3
            have HC3 := hid hc3
            clear m1 hc3
            go_wp2_with fail
            refine HC3.out.mono ?_
            rintro e w3 ⟨⟨z, rfl⟩, hp3, hg3⟩
            have HS3 := hid (HS2.out.swap hn (j := 2 * i + 2) (by omega) (by omega) HX2.out HXI.out HAB.out HHS.out hp3 hg3)
            clear m2 hp3 hg3
            go_wp2_with fail
            go_roundg (n - (2 * i + 2))
            case measure => omega
            case rel => exact ⟨2 * i + 2, _, by rw [HJI.out], by omega, Nat.le_refl _, HS3⟩
        | false =>
          rw [hgt] at HC
          have HGT := hid hgt
          clear hgt
          go_wp2_with fail
          refine HC.out.mono ?_
          rintro e w1 ⟨rfl, q, rfl⟩
          have HS1 := hid (HS.out.drewN q)
          clear m0 c0
          have hji : ((2 * i + 1 : Nat) : Int) = 2 * (i : Int) + 1 := by omega
          have hlt := HS1.out.len
          have hc2 := less_any (wr.drewN q) B Hb g c l' (2 * i + 1) i x1 xi HS1.out.hp HX1.out HXI.out (by omega)
          rw [hji] at hc2
          have HC2 := hid hc2
          have m1 := meth_less (wr.drewN q) _ _ HS1.out.hp.c0
          have hs : ∀ k z, (k = 2 * i + 1 ∨ k = 2 * i + 2) → k < n → l'[k]? = some z → gtB z x1 = false := fun k z hk hkn hz => by
            rcases hk with rfl | rfl
            · obtain rfl : x1 = z := Option.some.inj (HX1.out.symm.trans hz); exact gtB_irr _
            · obtain rfl : x2 = z := Option.some.inj (HX2.out.symm.trans hz); exact HGT.out
          have HHS := hid hs
          have HJI := hid hji
          clear hc2 hs hji hlt
          cases hab : gtB x1 xi with
          | false =>
            rw [hab] at HC2
            have HAB := hid hab
            clear hab
            go_wp2_with fail
            refine HC2.out.mono ?_
            rintro e w2 ⟨rfl, q2, rfl⟩
            have HS2 := hid (HS.out.drewN (q + q2))
            clear m1
            go_wp2_with fail
            go_ret
            exact ⟨_, l', rfl, HS2.out.hp, HS2.out.perm, HS2.out.far, HS2.out.inv.stop HXI.out HAB.out HHS.out, HS2.out.gr⟩
          | true =>
            rw [hab] at HC2
            have HAB := hid hab
            clear hab
            go_wp2_with fail
            refine HC2.out.mono ?_
            rintro e w2 ⟨rfl, q2, rfl⟩
            have HS2 := hid (HS.out.drewN (q + q2))
            have m2 := meth_swap (wr.drewN (q + q2)) _ _ HS2.out.hp.c0
            have hc3 := swap_any (wr.drewN (q + q2)) B Hb g c l' i (2 * i + 1) xi x1 HS2.out.hp HXI.out HX1.out
            rw [HJI.out] at hc3
            have HC3 := hid hc3
            clear m1 hc3
            go_wp2_with fail
            refine HC3.out.mono ?_
            rintro e w3 ⟨⟨z, rfl⟩, hp3, hg3⟩
            have HS3 := hid (HS2.out.swap hn (j := 2 * i + 1) (by omega) (by omega) HX1.out HXI.out HAB.out HHS.out hp3 hg3)
            clear m2 hp3 hg3
            go_wp2_with fail
            go_roundg (n - (2 * i + 1))
            case measure => omega
            case rel => exact ⟨2 * i + 1, _, by rw [HJI.out], by omega, Nat.le_refl _, HS3⟩
      · have b2 : decide (2 * (i : Int) + 1 + 1 < (n : Int)) = false := by simp; omega
        clear m0 c0
        have hji : ((2 * i + 1 : Nat) : Int) = 2 * (i : Int) + 1 := by omega
        have hlt := HS.out.len
        have hc2 := less_any (wr) B Hb g c l' (2 * i + 1) i x1 xi HS.out.hp HX1.out HXI.out (by omega)
        rw [hji] at hc2
        have HC2 := hid hc2
        have m1 := meth_less (wr) _ _ HS.out.hp.c0
        have hs : ∀ k z, (k = 2 * i + 1 ∨ k = 2 * i + 2) → k < n → l'[k]? = some z → gtB z x1 = false := fun k z hk hkn hz => by
          rcases hk with rfl | rfl
          · obtain rfl : x1 = z := Option.some.inj (HX1.out.symm.trans hz); exact gtB_irr _
          · omega
        have HHS := hid hs
        have HJI := hid hji
        clear hc2 hs hji hlt
        cases hab : gtB x1 xi with
        | false =>
          rw [hab] at HC2
          have HAB := hid hab
          clear hab
          go_wp2_with fail
          refine HC2.out.mono ?_
          rintro e w2 ⟨rfl, q2, rfl⟩
          have HS2 := hid (HS.out.drewN (q2))
          clear m1
          go_wp2_with fail
          go_ret
          exact ⟨_, l', rfl, HS2.out.hp, HS2.out.perm, HS2.out.far, HS2.out.inv.stop HXI.out HAB.out HHS.out, HS2.out.gr⟩
        | true =>
          rw [hab] at HC2
          have HAB := hid hab
          clear hab
          go_wp2_with fail
          refine HC2.out.mono ?_
          rintro e w2 ⟨rfl, q2, rfl⟩
          have HS2 := hid (HS.out.drewN (q2))
          have m2 := meth_swap (wr.drewN q2) _ _ HS2.out.hp.c0
          have hc3 := swap_any (wr.drewN q2) B Hb g c l' i (2 * i + 1) xi x1 HS2.out.hp HXI.out HX1.out
          rw [HJI.out] at hc3
          have HC3 := hid hc3
          clear m1 hc3
          go_wp2_with fail
          refine HC3.out.mono ?_
          rintro e w3 ⟨⟨z, rfl⟩, hp3, hg3⟩
          have HS3 := hid (HS2.out.swap hn (j := 2 * i + 1) (by omega) (by omega) HX1.out HXI.out HAB.out HHS.out hp3 hg3)
          clear m2 hp3 hg3
          go_wp2_with fail
          go_roundg (n - (2 * i + 1))
          case measure => omega
          case rel => exact ⟨2 * i + 1, _, by rw [HJI.out], by omega, Nat.le_refl _, HS3⟩
end Go.Proofs.Ytpkcccphoolapaa
namespace Go.Proofs.Ytpkcccphoolapaa
open Go.RowKit

/-- only these two blocks were written, and new ones made -/
structure TwoBy (a b : Nat) (w w' : World) : Prop where
  os : w'.os = w.os
  tape : w'.tape = w.tape
  output : w'.output = w.output
  size : w.heap.size ≤ w'.heap.size
  block : ∀ k, k < w.heap.size → k ≠ a → k ≠ b → w'.heap[k]? = w.heap[k]?
namespace TwoBy
variable {a b : Nat} {w w1 w2 : World}
theorem refl (w : World) : TwoBy a b w w := ⟨rfl, rfl, rfl, Nat.le_refl _, fun _ _ _ _ => rfl⟩
theorem one (h : w.grownBy w1 (some b)) : TwoBy a b w w1 := ⟨h.os, h.tape, h.output, h.size, fun k hk _ h2 => h.block k hk (fun e => h2 (by injection e))⟩
theorem two (h : w.grownBy w1 (some a)) : TwoBy a b w w1 := ⟨h.os, h.tape, h.output, h.size, fun k hk h1 _ => h.block k hk (fun e => h1 (by injection e))⟩
theorem trans (h : TwoBy a b w w1) (h2 : TwoBy a b w1 w2) : TwoBy a b w w2 :=
  ⟨h2.os.trans h.os, h2.tape.trans h.tape, h2.output.trans h.output, Nat.le_trans h.size h2.size, fun k hk h3 h4 => (h2.block k (Nat.lt_of_lt_of_le hk h.size) h3 h4).trans (h.block k hk h3 h4)⟩
theorem below (h : TwoBy a b w w1) {B : Nat} {v : World} (hb : Below B v w) (ha : B ≤ a) (hb' : B ≤ b) (hbw : B ≤ w.heap.size) : Below B v w1 :=
  ⟨h.os.trans hb.os, h.tape.trans hb.tape, h.output.trans hb.output, Nat.le_trans hb.size h.size, fun k hk => (h.block k (by omega) (by omega) (by omega)).trans (hb.block k hk)⟩
end TwoBy

set_option maxHeartbeats 1000000 in
theorem sdLen_any (W : World) (A : Option Addr) (n c : Nat) : Calls Try.prog 119 #[.slice A n c] W fun e w' => e = .returned (.int .i64 (n : Int)) ∧ w' = W := by
  go_enter Try.func119, Try.ntmps119
  go_wp2_with fail
  go_ret
  exact ⟨rfl, rfl⟩

set_option maxHeartbeats 1000000 in
theorem up_zero (W : World) (v : Value) : Calls Try.prog 94 #[v, .int .i64 0] W fun e w' => (∃ z, e = .returned z) ∧ w' = W := by
  go_enter Try.func94, Try.ntmps94
  go_wp2_with fail
  refine wp_loop_rounds 1 ?_
  rw [rounds_succ]
  go_wp2_with fail
  refine bodyPost_end (results_none rfl _ _ _) rfl ?_
  exact ⟨⟨_, rfl⟩, rfl⟩

set_option maxHeartbeats 2000000 in
theorem init_any (w : World) (B Hb g c : Nat) (l : List Sd) (h : HeapAt w B Hb g c l) (h16 : l.length ≤ 16) :
    Calls Try.prog 55 #[.iface 104 (.pointer (some ⟨Hb, 0, none⟩))] w fun e w' =>
      ∃ z l', e = .returned z ∧ HeapAt w' B Hb g c l' ∧ l'.Perm l ∧ HeapFrom l' 0 l'.length ∧ w.grownBy w' (some g) := by
  have m0 := meth_len w _ _ h.c0
  have hl := sdLen_any w (some ⟨g, 0, none⟩) l.length c
  have H := hid h
  have hq : (l.length : Int).tdiv 2 = ((l.length / 2 : Nat) : Int) := by rw [Int.tdiv_eq_ediv_of_nonneg (by omega)]; omega
  have hwq : IntKind.i64.wrap (((l.length / 2 : Nat) : Int)) = ((l.length / 2 : Nat) : Int) := wrap_small _ (by omega) (by omega)
  have hws : IntKind.i64.wrap (((l.length / 2 : Nat) : Int) - 1) = ((l.length / 2 : Nat) : Int) - 1 := IntWalk.i64_in _ ⟨by omega, by omega⟩
  obtain ⟨K, hK⟩ : ∃ K, K = l.length / 2 := ⟨_, rfl⟩
  rw [← hK] at hq hwq hws
  have HK := hid hK
  clear h hK
  go_enter Try.func55, Try.ntmps55
  go_wp2_with fail
  refine hl.mono ?_
  rintro e w1 ⟨rfl, hw⟩
  obtain rfl : w = w1 := hw.symm
  go_wp2_with fail
  clear m0 hl hq hwq hws
  go_loopg [3] (K + 1) (fun gx si wr => ∃ (k : Nat) (l' : List Sd), si = .int .i64 ((k : Int) - 1) ∧ k ≤ K ∧ k + 1 ≤ gx ∧ Hid (HeapAt wr B Hb g c l') ∧ Hid (l'.Perm l) ∧ Hid (HeapFrom l' k l'.length) ∧ Hid (w.grownBy wr (some g)))
  case atStart => exact ⟨K, l, rfl, Nat.le_refl _, Nat.le_refl _, H, hid (List.Perm.refl l), hid (fun j x y h1 h2 h3 _ _ => by have := HK.out; omega), hid (World.grownBy_refl' w (some g))⟩
  case round =>
    obtain ⟨k, l', rfl, hkK, hgx, HA, HP, HF, HG⟩ := hrel
    have hln := HP.out.length_eq
    have hKl := HK.out
    cases k with
    | zero =>
      go_wp2_with fail
      refine bodyPost_end (results_none rfl _ _ _) rfl ?_
      exact ⟨_, l', rfl, HA.out, HP.out, HF.out, HG.out⟩
    | succ k =>
      have e : ((k + 1 : Nat) : Int) - 1 = (k : Int) := by omega
      rw [e]
      have hk0 : (0 : Int) ≤ (k : Int) := by omega
      have hw1 : IntKind.i64.wrap ((k : Int) - 1) = (k : Int) - 1 := IntWalk.i64_in _ ⟨by omega, by omega⟩
      have hd := down_any wr B Hb g c l' k l.length HA.out (by omega) (by omega) (by omega) (by rw [← hln]; exact DownI.start HF.out)
      have HD := hid hd
      have HL := hid hln
      clear hd e hln hKl
      go_wp2_with fail
      refine HD.out.mono ?_
      rintro e w1 ⟨b, l2, rfl, ha2, hp2, hf2, hh2, hg2⟩
      have HA2 := hid ha2
      have HP2 := hid (hp2.trans HP.out)
      have HF2 : Hid (HeapFrom l2 k l2.length) := hid (by rw [HP2.out.length_eq]; exact hh2)
      have HG2 := hid (HG.out.trans hg2)
      clear ha2 hp2 hf2 hh2 hg2
      go_wp2_with fail
      go_roundg (k + 1)
      case measure => omega
      case rel => exact ⟨k, l2, rfl, by omega, Nat.le_refl _, HA2, HP2, HF2, HG2⟩

set_option maxHeartbeats 2000000 in
theorem fix_any (w : World) (B Hb g c : Nat) (l : List Sd) (h : HeapAt w B Hb g c l) (h16 : l.length ≤ 16) (hd : DownI l 0 0 l.length) :
    Calls Try.prog 76 #[.iface 104 (.pointer (some ⟨Hb, 0, none⟩)), .int .i64 0] w fun e w' =>
      ∃ z l', e = .returned z ∧ HeapAt w' B Hb g c l' ∧ l'.Perm l ∧ HeapFrom l' 0 l'.length ∧ w.grownBy w' (some g) := by
  have m0 := meth_len w _ _ h.c0
  have hl := sdLen_any w (some ⟨g, 0, none⟩) l.length c
  have hdn := down_any w B Hb g c l 0 l.length h (Nat.le_refl _) h16 (Nat.zero_le _) hd
  have hup := fun W => up_zero W (.iface 104 (.pointer (some ⟨Hb, 0, none⟩)))
  have HL := hid hl
  have HD := hid hdn
  have HU := hid hup
  clear h hd hl hdn hup
  go_enter Try.func76, Try.ntmps76
  go_wp2_with fail
  refine HL.out.mono ?_
  rintro e w1 ⟨rfl, hw⟩
  obtain rfl : w = w1 := hw.symm
  clear m0
  go_wp2_with fail
  refine HD.out.mono ?_
  rintro e w1 ⟨b, l2, rfl, ha2, hp2, hf2, hh2, hg2⟩
  have HF : Hid (HeapAt w1 B Hb g c l2 ∧ l2.Perm l ∧ HeapFrom l2 0 l2.length ∧ w.grownBy w1 (some g)) := hid ⟨ha2, hp2, by rw [hp2.length_eq]; exact hh2, hg2⟩
  clear ha2 hp2 hf2 hh2 hg2
  cases b with
  | true =>
    go_wp2_with fail
    refine bodyPost_end (results_none rfl _ _ _) rfl ?_
    exact ⟨_, l2, rfl, HF.out⟩
  | false =>
    go_wp2_with fail
    refine (HU.out w1).mono ?_
    rintro e w2 ⟨⟨z, rfl⟩, hw2⟩
    obtain rfl : w1 = w2 := hw2.symm
    go_wp2_with fail
    refine bodyPost_end (results_none rfl _ _ _) rfl ?_
    exact ⟨_, l2, rfl, HF.out⟩

theorem popped {l : List Sd} {t u : Sd} {rest : List Sd} (hl : l = t :: rest) (hu : l[l.length - 1]? = some u) : ∃ m, swapL l 0 (l.length - 1) t u = m ++ [t] ∧ m.Perm rest := by
  subst hl
  have hlen : (t :: rest).length - 1 = rest.length := by simp
  rw [hlen] at hu ⊢
  have h1 : (swapL (t :: rest) 0 rest.length t u)[rest.length]? = some t := by rw [swapL_get (by simp) (by simp), if_pos rfl]
  have h2 : (swapL (t :: rest) 0 rest.length t u).length = rest.length + 1 := by rw [swapL_len]; simp
  refine ⟨(swapL (t :: rest) 0 rest.length t u).take rest.length, ?_, ?_⟩
  · have h3 := List.take_add_one (l := swapL (t :: rest) 0 rest.length t u) (i := rest.length)
    rw [h1, List.take_of_length_le (by rw [h2]; exact Nat.le_refl _)] at h3
    exact h3
  · have h3 := List.take_add_one (l := swapL (t :: rest) 0 rest.length t u) (i := rest.length)
    rw [h1, List.take_of_length_le (by rw [h2]; exact Nat.le_refl _)] at h3
    have h4 : (swapL (t :: rest) 0 rest.length t u).Perm (t :: rest) := swapL_perm rfl hu
    rw [h3] at h4
    have h5 := (List.perm_append_singleton t ((swapL (t :: rest) 0 rest.length t u).take rest.length)).symm.trans h4
    exact h5.cons_inv

set_option maxHeartbeats 4000000 in
theorem heapPop_any (w : World) (B Hb g c : Nat) (l : List Sd) (t : Sd) (rest : List Sd) (h : HeapAt w B Hb g c l) (hl : l = t :: rest) (h16 : l.length ≤ 16) (hh : DownI l 0 0 l.length) :
    Calls Try.prog 75 #[.iface 104 (.pointer (some ⟨Hb, 0, none⟩))] w fun e w' =>
      ∃ z l', e = .returned z ∧ HeapAt w' B Hb g c l' ∧ l'.Perm rest ∧ HeapFrom l' 0 l'.length ∧ TwoBy g Hb w w' := by
  have hpos : 0 < l.length := by rw [hl]; simp
  have m0 := meth_len w _ _ h.c0
  have ms := meth_swap w _ _ h.c0
  have hlen := sdLen_any w (some ⟨g, 0, none⟩) l.length c
  obtain ⟨u, hu⟩ : ∃ u, l[l.length - 1]? = some u := ⟨l[l.length - 1]'(by omega), List.getElem?_eq_getElem _⟩
  have ht : l[0]? = some t := by rw [hl]; rfl
  have hs := swap_any w B Hb g c l 0 (l.length - 1) t u h ht hu
  have hc1 : ((l.length - 1 : Nat) : Int) = (l.length : Int) - 1 := by omega
  have hw1 : IntKind.i64.wrap ((l.length : Int) - 1) = (l.length : Int) - 1 := wrap_small _ (by omega) (by omega)
  rw [hc1] at hs
  obtain ⟨m, hm1, hm2⟩ := popped hl hu
  have hm3 : m.length = l.length - 1 := by
    have := congrArg List.length hm1
    rw [swapL_len] at this
    simp at this
    omega
  have hdI : DownI (m ++ [t]) 0 0 (l.length - 1) := by
    refine ⟨Nat.le_refl _, fun j x y h1 h2 h3 h4 hx hy => ?_, fun h => absurd h (by omega)⟩
    rw [← hm1, swapL_get hpos (by omega)] at hx hy
    rw [if_neg (by omega), if_neg (by omega)] at hx hy
    exact hh.rest j x y h1 (by omega) h3 h4 hx hy
  have HS := hid hs
  have HL := hid hlen
  have HM1 := hid hm1
  have HM2 := hid hm2
  have HM3 := hid hm3
  have HDI := hid hdI
  have HC1 := hid hc1
  clear hs hlen hm1 hm2 hm3 hdI h hh hu ht hl hc1
  go_enter Try.func75, Try.ntmps75
  go_wp2_with fail
  refine HL.out.mono ?_
  rintro e w1 ⟨rfl, hw⟩
  obtain rfl : w = w1 := hw.symm
  go_wp2_with fail
  refine HS.out.mono ?_
  rintro e w1 ⟨⟨z, rfl⟩, hp1, hg1⟩
  rw [HM1.out] at hp1
  have hd := down_any w1 B Hb g c (m ++ [t]) 0 (l.length - 1) hp1 (by simp; have := HM3.out; omega) (by simp; have := HM3.out; omega) (Nat.zero_le _) HDI.out
  rw [HC1.out] at hd
  have HD := hid hd
  have HG1 := hid hg1
  clear m0 ms hd hp1 hg1
  go_wp2_with fail
  refine HD.out.mono ?_
  rintro e w2 ⟨b, l2, rfl, ha2, hp2, hf2, hh2, hg2⟩
  have hlast : ∃ m2, l2 = m2 ++ [t] ∧ m2.Perm m := by
    have e1 := hp2.length_eq
    have e2 := hf2 (l.length - 1) (Nat.le_refl _)
    have e3 := HM3.out
    have e4 : (m ++ [t])[l.length - 1]? = some t := by rw [← e3]; simp
    rw [e4] at e2
    have h3 := List.take_add_one (l := l2) (i := l.length - 1)
    rw [e2, List.take_of_length_le (by rw [e1]; simp; omega)] at h3
    refine ⟨l2.take (l.length - 1), h3, ?_⟩
    rw [h3] at hp2
    exact (((List.perm_append_singleton t _).symm.trans hp2).trans (List.perm_append_singleton t m)).cons_inv
  obtain ⟨m2, rfl, hm2⟩ := hlast
  have hm2l := hm2.length_eq
  have hpo := sdPop_any w2 B Hb g c m2 t ha2 (by have := HM3.out; omega)
  have mp := meth_pop w2 ⟨Hb, 0, none⟩
  have HPO := hid hpo
  have HG2 := hid hg2
  have HMM := hid hm2
  have HH2 : Hid (HeapFrom m2 0 m2.length) := hid fun j x y h1 h2 h3 hx hy => by
    refine hh2 j x y h1 (by have := HM3.out; omega) h3 ?_ ?_
    · rw [List.getElem?_append_left h2]; exact hx
    · rw [List.getElem?_append_left (by omega)]; exact hy
  clear hpo hg2 hm2 hh2 hf2 hp2 ha2 hm2l
  go_wp2_with fail
  refine HPO.out.mono ?_
  rintro e w3 ⟨⟨z3, rfl⟩, ha3, hg3⟩
  have HA3 := hid ha3
  have HG3 := hid hg3
  clear mp ha3 hg3
  go_wp2_with fail
  go_ret
  exact ⟨_, m2, rfl, HA3.out, HMM.out.trans HM2.out, HH2.out, ((TwoBy.two HG1.out).trans (TwoBy.two HG2.out)).trans (TwoBy.one HG3.out)⟩
end Go.Proofs.Ytpkcccphoolapaa
namespace Go.Proofs.Ytpkcccphoolapaa
open Go.RowKit

set_option maxHeartbeats 4000000 in
theorem used_any (w : World) (B Hb g c : Nat) (l : List Sd) (h0 v k : Int) (rest : List Sd) (h : HeapAt w B Hb g c l) (hl : l = (h0, v) :: rest) (h16 : l.length ≤ 16) (hh : HeapFrom l 0 l.length) (hk0 : 0 ≤ k) (hkv : k ≤ v) (hv : v ≤ 4611686018427387904) :
    Calls Try.prog 57 #[.pointer (some ⟨Hb, 0, none⟩), .int .i64 k] w fun e w' =>
      ∃ z l', e = .returned z ∧ HeapAt w' B Hb g c l' ∧ l'.Perm (if v - k = 0 then rest else (h0, v - k) :: rest) ∧ HeapFrom l' 0 l'.length ∧ TwoBy g Hb w w' := by
  subst hl
  have hw : IntKind.i64.wrap (v - k) = v - k := wrap_small _ (by omega) (by omega)
  have c0 := h.c0
  have c1 := (h.at' (i := 0) (s := (h0, v)) rfl).2
  simp only [Nat.zero_mul, Nat.zero_add] at c1
  have f1 := h.fz 1
  have hst := h.row.stored 1 (.int .i64 (v - k))
  have hA1 : HeapAt (w.setCell ⟨g, 1, none⟩ (.int .i64 (v - k))) B Hb g c ((h0, v - k) :: rest) := by
    refine h.below_row (l' := (h0, v - k) :: rest) ?_ rfl hst.2
    have := hst.1
    simpa [sdE] using this
  have hdI : DownI ((h0, v - k) :: rest) 0 0 ((h0, v - k) :: rest).length := by
    refine ⟨Nat.le_refl _, fun j x y h1 h2 h3 h4 hx hy => ?_, fun h => absurd h (by omega)⟩
    refine hh j x y h1 h2 h3 ?_ ?_
    · obtain ⟨j', rfl⟩ : ∃ j', j = j' + 1 := ⟨j - 1, by omega⟩
      simpa using hx
    · obtain ⟨j', e⟩ : ∃ j', (j - 1) / 2 = j' + 1 := ⟨(j - 1) / 2 - 1, by omega⟩
      rw [e] at hy ⊢
      simpa using hy
  have d0 := hA1.c0
  have d1 := (hA1.at' (i := 0) (s := (h0, v - k)) rfl).2
  simp only [Nat.zero_mul, Nat.zero_add] at d1
  have HG := hid hst.2
  have HA := hid hA1
  have HDI := hid hdI
  have hlen : ((h0, v - k) :: rest).length ≤ 16 := h16
  have hle : ((h0, v) :: rest).length = ((h0, v - k) :: rest).length := rfl
  rw [hle] at c0
  have hpos : (0 : Int) < (((h0, v - k) :: rest).length : Int) := by simp
  have HLEN := hid hlen
  generalize hM : (w.setCell ⟨g, 1, none⟩ (.int .i64 (v - k))) = W1 at *
  have HM := hid hM
  have hpo := heapPop_any W1 B Hb g c ((h0, v - k) :: rest) (h0, v - k) rest HA.out rfl HLEN.out HDI.out
  have hfi := fix_any W1 B Hb g c ((h0, v - k) :: rest) HA.out HLEN.out HDI.out
  have HP := hid hpo
  have HFI := hid hfi
  clear h hh hst hA1 hdI hM hpo hfi h16 hle
  generalize ((h0, v - k) :: rest).length = N at *
  by_cases hz : v - k = 0
  · have b0 : (v - k == 0) = true := by simpa using hz
    rw [if_pos hz]
    clear hz
    go_enter Try.func57, Try.ntmps57
    go_wp2_with fail
    rw [HM.out]
    refine HP.out.mono ?_
    rintro e w2 ⟨z, l2, rfl, ha, hp, hf, ht⟩
    have HF : Hid (HeapAt w2 B Hb g c l2 ∧ l2.Perm rest ∧ HeapFrom l2 0 l2.length ∧ TwoBy g Hb w w2) := hid ⟨ha, hp, hf, (TwoBy.two HG.out).trans ht⟩
    clear ha hp hf ht
    go_wp2_with fail
    refine bodyPost_ret (results_none rfl _ _ _) rfl ?_
    exact ⟨_, l2, rfl, HF.out⟩
  · have b0 : (v - k == 0) = false := by simpa using hz
    rw [if_neg hz]
    clear hz
    go_enter Try.func57, Try.ntmps57
    go_wp2_with fail
    rw [HM.out]
    refine HFI.out.mono ?_
    rintro e w2 ⟨z, l2, rfl, ha, hp, hf, ht⟩
    have HF : Hid (HeapAt w2 B Hb g c l2 ∧ l2.Perm ((h0, v - k) :: rest) ∧ HeapFrom l2 0 l2.length ∧ TwoBy g Hb w w2) := hid ⟨ha, hp, hf, (TwoBy.two HG.out).trans (TwoBy.two ht)⟩
    clear ha hp hf ht
    go_wp2_with fail
    refine bodyPost_end (results_none rfl _ _ _) rfl ?_
    exact ⟨_, l2, rfl, HF.out⟩
end Go.Proofs.Ytpkcccphoolapaa
