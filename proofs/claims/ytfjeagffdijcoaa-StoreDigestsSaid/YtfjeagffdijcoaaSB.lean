/- Layer 7: the shelf: lists of pairs in memory; Scan. Layer 7: the shelf: Scan. Layer 7: the shelf: Cut. Layer 7: the shelf: Lay. -/
import Derived.Test.YtfjeagffdijcoaaSA
import Derived.Test.YtfjeagffdijcoaaIt
import Derived.Test.YtfjeagffdijcoaaInR
namespace Go.Proofs.Ytfjeagffdijcoaa
open Go.RowKit Go.Shelf
attribute [local go_sem] Oper.semAt_some

theorem infoPair : (Try.prog.info? 69).map (fun i => (i.zero, i.size, i.bytes)) = some (some (.agg #[.int .u64 0, .slice none 0 0]), 2, 32) := by kernel_rfl

def prE (p : Int × TU.SV) : List Value := [.int .u64 p.1, .slice p.2.1 p.2.2.1 p.2.2.2]
theorem prE_len (p : Int × TU.SV) : (prE p).length = 2 := rfl
theorem prE_one (p : Int × TU.SV) : ∀ u ∈ prE p, u.oneCell' = true := by
  intro u hu
  simp [prE] at hu
  rcases hu with rfl | rfl <;> rfl

/-- a list of pairs that is the holder's own, beyond B -/
def PairsAt (w : World) (B : Nat) (v : Value) (L : List (Int × List Int)) : Prop :=
  ∃ r : List (Int × TU.SV), w.ownsRow B 69 2 v r.length (r.flatMap prE) ∧ ValsOf w B r L

namespace ValsOf
variable {w w' : World} {B : Nat} {r : List (Int × TU.SV)} {s : List (Int × List Int)}
theorem cells (h : ValsOf w B r s) : ∀ p ∈ r, ∀ g, (TU.ev p.2).ownBlock = some g → B ≤ g ∧ ∃ cur, w.heap[g]? = some (Obj.cells cur 5 (0, 0)) := by
  induction r generalizing s with
  | nil => intro p hp; cases hp
  | cons p r ih =>
    cases s with
    | nil => exact h.elim
    | cons q s =>
      obtain ⟨h1, h2, h3, h4⟩ := h
      intro x hx g hg
      rcases List.mem_cons.1 hx with rfl | hx
      · rcases h2.2 with ⟨hz, _⟩ | ⟨g', cap, cur, hv, hb, hh, _⟩
        · simp only [TU.ev] at hz hg; rw [hz] at hg; cases hg
        · have e : g' = g := by simp only [TU.ev] at hv hg; rw [hv] at hg; simpa [Value.ownBlock] using hg
          subst e
          exact ⟨hb, cur, hh⟩
      · exact ih h4 x hx g hg
theorem append (h : ValsOf w B r s) {p : Int × TU.SV} {bs : List Int} (hv : w.ownsRow B 5 1 (TU.ev p.2) bs.length (bs.flatMap u8s)) (hb : ∀ x ∈ bs, 0 ≤ x ∧ x ≤ 255) : ValsOf w B (r ++ [p]) (s ++ [(p.1, bs)]) := by
  induction r generalizing s with
  | nil => cases s with
    | nil => exact ⟨rfl, hv, hb, trivial⟩
    | cons => exact h.elim
  | cons q r ih =>
    cases s with
    | nil => exact h.elim
    | cons y s =>
      obtain ⟨h1, h2, h3, h4⟩ := h
      exact ⟨h1, h2, h3, ih h4⟩
theorem filter (f : Int → Bool) (h : ValsOf w B r s) : ValsOf w B (r.filter fun p => f p.1) (s.filter fun p => f p.1) := by
  induction r generalizing s with
  | nil => cases s with
    | nil => trivial
    | cons => exact h.elim
  | cons q r ih =>
    cases s with
    | nil => exact h.elim
    | cons y s =>
      obtain ⟨k, x⟩ := q
      obtain ⟨k', y⟩ := y
      obtain ⟨rfl, h2, h3, h4⟩ := h
      rw [List.filter_cons, List.filter_cons]
      by_cases hf : f k = true
      · rw [if_pos hf, if_pos hf]; exact ⟨rfl, h2, h3, ih h4⟩
      · rw [if_neg hf, if_neg hf]; exact ih h4
theorem at' (h : ValsOf w B r s) {i : Nat} {p : Int × TU.SV} (hp : r[i]? = some p) : ∃ bs, s[i]? = some (p.1, bs) ∧ w.ownsRow B 5 1 (TU.ev p.2) bs.length (bs.flatMap u8s) ∧ ∀ x ∈ bs, 0 ≤ x ∧ x ≤ 255 := by
  induction r generalizing s i with
  | nil => simp at hp
  | cons q r ih =>
    cases s with
    | nil => exact h.elim
    | cons y s =>
      obtain ⟨k, x⟩ := q
      obtain ⟨k', y⟩ := y
      obtain ⟨rfl, h2, h3, h4⟩ := h
      cases i with
      | zero => simp at hp; subst hp; exact ⟨y, rfl, h2, h3⟩
      | succ i => exact ih h4 (by simpa using hp)
theorem low {B' : Nat} (h : ValsOf w B r s) (hB : B' ≤ B) : ValsOf w B' r s := by
  induction r generalizing s with
  | nil => cases s with
    | nil => trivial
    | cons => exact h.elim
  | cons q r ih =>
    cases s with
    | nil => exact h.elim
    | cons y s =>
      obtain ⟨h1, h2, h3, h4⟩ := h
      exact ⟨h1, ⟨h2.1, h2.2.imp id fun ⟨g, cap, cur, e1, e2, e⟩ => ⟨g, cap, cur, e1, Nat.le_trans hB e2, e⟩⟩, h3, ih h4⟩
end ValsOf

theorem ownsRow_keepc {X Y : World} {B size n : Nat} {e : TypeId} {v : Value} {xs : List Value} (h : X.ownsRow B e size v n xs) (hk : ∀ (g : Nat) (cur : Array Value) (t : TypeId) (fr : Nat × Nat), X.heap[g]? = some (Obj.cells cur t fr) → Y.heap[g]? = X.heap[g]?) : Y.ownsRow B e size v n xs :=
  by
  refine ⟨h.1, ?_⟩
  rcases h.2 with hz | ⟨g, cap, cur, e1, e2, e3, r⟩
  · exact .inl hz
  · exact .inr ⟨g, cap, cur, e1, e2, (hk g _ _ _ e3).trans e3, r⟩

theorem results_cell2 {P : Program} {fn : Func} {q1 q2 : Tmp} {t1 t2 e : TypeId} (h : fn.results = #[.cell q1 t1, .cell q2 t2]) (tmps : Array Value) (w : World) (g1 g2 : Nat) (v1 v2 : Value) (hp1 : tmps.getD q1 undef = .pointer (some ⟨g1, 0, none⟩)) (hp2 : tmps.getD q2 undef = .pointer (some ⟨g2, 0, none⟩))
    (hu1 : P.underlying t1 = some (.slice e)) (hu2 : P.underlying t2 = some .bool) (hc1 : w.cell? ⟨g1, 0, none⟩ = some v1) (hc2 : w.cell? ⟨g2, 0, none⟩ = some v2) :
    (results fn tmps).run P w = .ok (.tuple #[v1, v2]) w := by
  have hp1' : tmps[q1]?.getD undef = .pointer (some ⟨g1, 0, none⟩) := by simpa using hp1
  have hp2' : tmps[q2]?.getD undef = .pointer (some ⟨g2, 0, none⟩) := by simpa using hp2
  simp [go_sem, results, h, hp1', hp2', asAddr, loadVar, isAgg, run_underlying hu1, run_underlying hu2, hc1, hc2, Result.andThen]

theorem prefix_at {α : Type} {pre F : List α} {x : α} (h : pre ++ [x] <+: F) : F[pre.length]? = some x := by
  obtain ⟨t, rfl⟩ := h
  simp
theorem prefix_len {α : Type} {pre F : List α} {x : α} (h : pre ++ [x] <+: F) : pre.length < F.length := (List.getElem?_eq_some_iff.1 (prefix_at h)).1

/-- what holds between two rounds of Scan -/
structure ScanI (w w6 : World) (Bl R1 R2 : Nat) (P6 : Nat → Prop) (F : List (Int × TU.SV)) (G : List (Int × List Int)) (K : Nat) (pre : List (Int × TU.SV)) (W : World) : Prop where
  box : ∃ A c r, Boxed W Bl 59 (.slice A pre.length c) ∧ W.ownsRow w6.heap.size 69 2 (.slice A pre.length c) r.length (r.flatMap prE) ∧ r.length = pre.length ∧ ValsOf W w6.heap.size r (G.take pre.length)
  r1 : Boxed W R1 59 (.slice none 0 0)
  r2 : Boxed W R2 4 (.bool false)
  kp : KeepsT P6 w6 W
  bel : Below w.heap.size w W
  sz : w6.heap.size ≤ W.heap.size
  pf : pre <+: F
  le : pre.length ≤ K

theorem ScanI.from (w w6 : World) (Bl R1 R2 : Nat) (P6 : Nat → Prop) (F : List (Int × TU.SV)) (G : List (Int × List Int)) (K B : Nat) (hP : ∀ k, P6 k → k < B ∧ k < w6.heap.size) (h1 : w.heap.size ≤ B) :
    OwnFrom B (ScanI w w6 Bl R1 R2 P6 F G K) := by
  rintro pre X Y row h hg hr
  have hk : ∀ (g : Nat) (cur : Array Value) (t : TypeId) (fr : Nat × Nat), X.heap[g]? = some (Obj.cells cur t fr) → Y.heap[g]? = X.heap[g]? := fun g cur t fr hx => hg.block g (Array.getElem?_eq_some_iff.1 hx).1 (fun e => by
    obtain ⟨_, o, ho, hc⟩ := hr g e.symm
    rw [hx] at ho; cases ho; cases hc)
  obtain ⟨A, c, r, b1, b2, b3, b4⟩ := h.box
  exact ⟨⟨A, c, r, (hk _ _ _ _ b1).trans b1, ownsRow_keepc b2 hk, b3, b4.keeps fun p hp g hg' => by obtain ⟨_, cur, hc⟩ := b4.cells p hp g hg'; exact hk _ _ _ _ hc⟩, (hk _ _ _ _ h.r1).trans h.r1, (hk _ _ _ _ h.r2).trans h.r2,
    ownFrom_keepsT (β := Unit) hP () X Y row h.kp hg hr, ownFrom_below (β := Unit) (Nat.le_refl _) h1 () X Y row h.bel hg hr, Nat.le_trans h.sz hg.size, h.pf, h.le⟩

theorem take_snoc' {α : Type} {G : List α} {n : Nat} {x : α} (h : G[n]? = some x) : G.take (n + 1) = G.take n ++ [x] := by
  rw [List.take_add_one, h]; rfl

theorem ScanI.step {w w6 W W2 w1 : World} {Bl R1 R2 : Nat} {P6 : Nat → Prop} {F : List (Int × TU.SV)} {G : List (Int × List Int)} {K : Nat} {pre : List (Int × TU.SV)} (h : ScanI w w6 Bl R1 R2 P6 F G K pre W) (hlt : pre.length < K) {key : Int} {sv : TU.SV} {bs : List Int}
    (hx : pre ++ [(key, sv)] <+: F) (hG : G[pre.length]? = some (key, bs)) (hb2 : Below W.heap.size W W2) {vA : Option Addr} {vc : Nat} (hv2 : W2.ownsRow W.heap.size 5 1 (.slice vA bs.length vc) bs.length (bs.flatMap u8s)) (hb : ∀ x ∈ bs, 0 ≤ x ∧ x ≤ 255)
    {A : Option Addr} {c : Nat} {r : List (Int × TU.SV)} (hbx : Boxed W Bl 59 (.slice A pre.length c)) (hrow : W.ownsRow w6.heap.size 69 2 (.slice A pre.length c) r.length (r.flatMap prE)) (hrl : r.length = pre.length) (hvals : ValsOf W w6.heap.size r (G.take pre.length))
    {v1 : Value} (hown : w1.ownsRow w6.heap.size 69 2 v1 (r ++ [(key, (vA, bs.length, vc))]).length ((r ++ [(key, (vA, bs.length, vc))]).flatMap prE)) (hg : W2.grownBy w1 (Value.slice A pre.length c).ownBlock)
    (hP : ∀ k, P6 k → k < w6.heap.size) (hBl : ¬ P6 Bl) (hBw : w.heap.size ≤ Bl) (hB1 : R1 ≠ Bl) (hB2 : R2 ≠ Bl) (hw6 : w.heap.size ≤ w6.heap.size) :
    ∃ A' c', v1 = .slice A' (pre.length + 1) c' ∧ Boxed w1 Bl 59 (.slice A pre.length c) ∧ ScanI w w6 Bl R1 R2 P6 F G K (pre ++ [(key, sv)]) (w1.setCell ⟨Bl, 0, none⟩ v1) ∧ KeepsFrom w6.heap.size W (w1.setCell ⟨Bl, 0, none⟩ v1) := by
  have hsz := h.sz
  have hs2 := hb2.size
  have hs1 := hg.size
  -- the row's block
  have hrb : ∀ g, (Value.slice A pre.length c).ownBlock = some g → w6.heap.size ≤ g ∧ ∃ cur, W.heap[g]? = some (Obj.cells cur 69 (0, 0)) := fun g e => by
    rcases hrow.2 with ⟨hz, _⟩ | ⟨g', cap, cur, hv, hb', hh, _⟩
    · have : A = none := by injection hz
      rw [this] at e; cases e
    · have : A = some ⟨g', 0, none⟩ := by injection hv
      rw [this] at e
      obtain rfl : g' = g := by simpa [Value.ownBlock] using e
      exact ⟨hb', cur, hh⟩
  have keep : ∀ k, k < W.heap.size → (∀ cur fr, W.heap[k]? ≠ some (Obj.cells cur 69 fr)) → w1.heap[k]? = W.heap[k]? := fun k hk hn => by
    refine (hg.block k (by omega) (fun e => ?_)).trans (hb2.block k hk)
    obtain ⟨_, cur, hc⟩ := hrb k e.symm
    exact hn _ _ hc
  have keepS : ∀ k, k < W.heap.size → k ≠ Bl → (∀ cur fr, W.heap[k]? ≠ some (Obj.cells cur 69 fr)) → (w1.setCell ⟨Bl, 0, none⟩ v1).heap[k]? = W.heap[k]? := fun k hk hne hn => (Below.heap_setCell _ _ _ _ hne).trans (keep k hk hn)
  have hbx1 : Boxed w1 Bl 59 (.slice A pre.length c) := (keep Bl hbx.lt (fun cur fr e => by rw [show W.heap[Bl]? = _ from hbx] at e; cases e)).trans hbx
  obtain ⟨_, A', c', e1, _, _, _⟩ := owns_reads (l := r ++ [(key, (vA, bs.length, vc))]) prE_len hown (by decide)
  have e2 : v1 = .slice A' (pre.length + 1) c' := by rw [e1]; simp [hrl]
  have hkeepV : ∀ {s : List (Int × TU.SV)} {t : List (Int × List Int)} {B : Nat}, ValsOf W B s t → ValsOf (w1.setCell ⟨Bl, 0, none⟩ v1) B s t := fun {s t B} hv => hv.keeps fun p hp g hg' => by
    obtain ⟨_, cur, hc⟩ := hv.cells p hp g hg'
    exact keepS g (Array.getElem?_eq_some_iff.1 hc).1 (fun e => by rw [e, show W.heap[Bl]? = _ from hbx] at hc; cases hc) (fun cur' fr e => by rw [hc] at e; cases e)
  have hgB : some Bl ≠ v1.ownBlock := fun e => by
    rcases hown.2 with ⟨hz, _⟩ | ⟨g', cap, cur, hv, _, hh, _⟩
    · rw [hz] at e; cases e
    · rw [hv] at e
      have e' : Bl = g' := by simpa [Value.ownBlock] using e
      rw [← e', show w1.heap[Bl]? = _ from hbx1] at hh; cases hh
  have hown' : (w1.setCell ⟨Bl, 0, none⟩ v1).ownsRow w6.heap.size 69 2 v1 (r ++ [(key, (vA, bs.length, vc))]).length ((r ++ [(key, (vA, bs.length, vc))]).flatMap prE) := hown.kept (grownBy_setCell' w1 Bl v1) (.inr fun e => hgB e.symm)
  have hv3 : (w1.setCell ⟨Bl, 0, none⟩ v1).ownsRow w6.heap.size 5 1 (.slice vA bs.length vc) bs.length (bs.flatMap u8s) := by
    refine ⟨hv2.1, ?_⟩
    rcases hv2.2 with hz | ⟨g', cap, cur, hv, hb', hh, rest⟩
    · exact .inl hz
    · refine .inr ⟨g', cap, cur, hv, by omega, ?_, rest⟩
      have hne : g' ≠ Bl := fun e => by have := hbx.lt; omega
      refine (Below.heap_setCell _ _ _ _ hne).trans ((hg.block g' (Array.getElem?_eq_some_iff.1 hh).1 (fun e => ?_)).trans hh)
      obtain ⟨_, cur', hc⟩ := hrb g' e.symm
      have := (Array.getElem?_eq_some_iff.1 hc).1
      omega
  refine ⟨A', c', e2, hbx1, ⟨⟨A', c', r ++ [(key, (vA, bs.length, vc))], ?_, ?_, by simp [hrl], ?_⟩, ?_, ?_, ?_, ?_, ?_, hx, by simp; omega⟩, ?_⟩
  · rw [List.length_append, List.length_singleton, ← e2]; exact hbx1.set _
  · rw [List.length_append, List.length_singleton (a := (key, sv)), ← e2]; exact hown'
  · rw [List.length_append, List.length_singleton, take_snoc' hG]
    exact (hkeepV hvals).append hv3 hb
  · exact (keepS R1 h.r1.lt hB1 (fun cur fr e => by rw [show W.heap[R1]? = _ from h.r1] at e; cases e)).trans h.r1
  · exact (keepS R2 h.r2.lt hB2 (fun cur fr e => by rw [show W.heap[R2]? = _ from h.r2] at e; cases e)).trans h.r2
  · intro k hk
    have hk6 := hP k hk
    have hne : k ≠ Bl := fun e => hBl (e ▸ hk)
    refine ((Below.heap_setCell _ _ _ _ hne).trans ((hg.block k (by omega) (fun e => ?_)).trans (hb2.block k (by omega)))).trans (h.kp k hk)
    have := (hrb k e.symm).1
    omega
  · have hB3 : Below w.heap.size w W2 := h.bel.trans (hb2.mono h.bel.size)
    exact (hB3.grown hg hB3.size (fun k e => by have := (hrb k e).1; omega)).setCell (p := ⟨Bl, 0, none⟩) hBw _
  · simp only [World.setCell, Array.size_modify]; omega
  · refine ⟨by simp only [World.setCell, Array.size_modify]; omega, fun k o _ hk ho => ?_⟩
    have hlt' := (Array.getElem?_eq_some_iff.1 hk).1
    refine (keepS k hlt' (fun e => ?_) (fun cur fr e => ?_)).trans hk
    · rw [e, show W.heap[Bl]? = _ from hbx] at hk; cases hk; cases ho
    · rw [hk] at e; cases e; cases ho

/-- what holds where Scan has said that there is more -/
structure ScanX (w : World) (R1 R2 : Nat) (F : List (Int × TU.SV)) (G : List (Int × List Int)) (K : Nat) (W : World) : Prop where
  r1 : ∃ v, Boxed W R1 59 v ∧ PairsAt W w.heap.size v (G.take K)
  r2 : Boxed W R2 4 (.bool (decide (K < F.length)))
  bel : Below w.heap.size w W

theorem ScanX.from {β : Type} (w : World) (R1 R2 : Nat) (F : List (Int × TU.SV)) (G : List (Int × List Int)) (K B : Nat) (h1 : w.heap.size ≤ B) : OwnFrom B (fun (_ : β) W => ScanX w R1 R2 F G K W) := by
  rintro pre X Y row h hg hr
  have hk : ∀ (g : Nat) (cur : Array Value) (t : TypeId) (fr : Nat × Nat), X.heap[g]? = some (Obj.cells cur t fr) → Y.heap[g]? = X.heap[g]? := fun g cur t fr hx => hg.block g (Array.getElem?_eq_some_iff.1 hx).1 (fun e => by
    obtain ⟨_, o, ho, hc⟩ := hr g e.symm
    rw [hx] at ho; cases ho; cases hc)
  obtain ⟨v, b1, r, b2, b4⟩ := h.r1
  exact ⟨⟨v, (hk _ _ _ _ b1).trans b1, r, ownsRow_keepc b2 hk, b4.keeps fun p hp g hg' => by obtain ⟨_, cur, hc⟩ := b4.cells p hp g hg'; exact hk _ _ _ _ hc⟩, (hk _ _ _ _ h.r2).trans h.r2, ownFrom_below (β := Unit) (Nat.le_refl _) h1 () X Y row h.bel hg hr⟩
end Go.Proofs.Ytfjeagffdijcoaa
namespace Go.Proofs.Ytfjeagffdijcoaa
open Go.RowKit Go.Shelf
attribute [local go_sem] Oper.semAt_some

theorem scan_ends {w X : World} {D : Nat} {F : List (Int × TU.SV)} {G : List (Int × List Int)} {K : Nat} {tmps : Array Value} (h : ScanX w (w.heap.size + 1) (w.heap.size + 1 + 1) F G K X) (hD : X.heap[D]? = some (.deferred (some []))) (hwD : w.heap.size ≤ D) (hFn : F.length = G.length)
    (h1 : tmps.getD 8 undef = .pointer (some ⟨w.heap.size + 1, 0, none⟩) := by rfl) (h2 : tmps.getD 9 undef = .pointer (some ⟨w.heap.size + 1 + 1, 0, none⟩) := by rfl) :
    ∃ v, (results Try.f40 tmps).run Try.prog (X.putObj D (.deferred none)) = .ok v (X.putObj D (.deferred none)) ∧
      ∃ v', Ending.returned v = .returned (.tuple #[v', .bool (decide (K < G.length))]) ∧ PairsAt (X.putObj D (.deferred none)) w.heap.size v' (G.take K) ∧ Below w.heap.size w (X.putObj D (.deferred none)) := by
  have hk : ∀ (g : Nat) (cur : Array Value) (t : TypeId) (fr : Nat × Nat), X.heap[g]? = some (Obj.cells cur t fr) → (X.putObj D (.deferred none)).heap[g]? = X.heap[g]? := fun g cur t fr hg => World.putObj_heap_other (fun e => by rw [e, hD] at hg; cases hg)
  obtain ⟨v, b1, r, b2, b3⟩ := h.r1
  refine ⟨.tuple #[v, .bool (decide (K < F.length))], results_cell2 rfl _ _ _ _ v _ h1 h2 Try.underlying59 Try.underlying4 (Boxed.cell ((hk _ _ _ _ b1).trans b1)) (Boxed.cell ((hk _ _ _ _ h.r2).trans h.r2)), v, by rw [hFn], ⟨r, ownsRow_keepc b2 hk, b3.keeps fun p hp g hg => by
    obtain ⟨_, cur, hc⟩ := b3.cells p hp g hg
    exact hk _ _ _ _ hc⟩, h.bel.trans (belowK_b (w := w) (Nat.le_refl _) X D _ _ hwD hD rfl rfl)⟩

set_option maxRecDepth 100000 in
set_option maxHeartbeats 4000000 in
theorem shScan_any (w : World) (S : Nat) (most : Int) (P : Nat → Prop) (L : List (Int × List Int)) (lo hi limit : Int) (h : IsShelf w S most P L) :
    Calls Try.prog 40 #[.pointer (some ⟨S, 0, none⟩), .int .u64 lo, .int .u64 hi, .int .i64 limit] w fun e w' =>
      ∃ v, e = .returned (.tuple #[v, .bool (decide (limit.toNat < (L.filter (inR TI.cmpI lo hi)).length))]) ∧ PairsAt w' w.heap.size v ((L.filter (inR TI.cmpI lo hi)).take limit.toNat) ∧ Below w.heap.size w w' := by
  have hsmall := h.small
  have hfew := h.few
  obtain ⟨G, hG⟩ : ∃ G, G = L.filter (inR TI.cmpI lo hi) := ⟨_, rfl⟩
  rw [← hG]
  have HG := hid hG
  clear hG
  obtain ⟨M, T, h⟩ := h
  obtain ⟨w4, hw4⟩ : ∃ w4, w4 = (((w.alloc (.cells #[.int .i64 limit] 3)).alloc (.cells #[.slice none 0 0] 59)).alloc (.cells #[.bool false] 4)).alloc (.cells #[.slice none 0 0] 59) := ⟨_, rfl⟩
  have hs4 : w4.heap.size = w.heap.size + 1 + 1 + 1 + 1 := by rw [hw4]; simp
  have hb4 : Below w.heap.size w w4 := by rw [hw4]; exact ((((Below.refl _ w).alloc (Nat.le_refl _) _).alloc (by simp) _).alloc (by simp; omega) _).alloc (by simp; omega) _
  have k0 : Boxed w4 w.heap.size 3 (.int .i64 limit) := by rw [hw4]; exact (((Boxed.new w _ _).alloc _).alloc _).alloc _
  have k1 : Boxed w4 (w.heap.size + 1) 59 (.slice none 0 0) := by
    rw [hw4]
    have := ((Boxed.new (w.alloc (.cells #[.int .i64 limit] 3)) 59 (.slice none 0 0)).alloc (.cells #[.bool false] 4)).alloc (.cells #[.slice none 0 0] 59)
    rwa [World.size_alloc] at this
  have k2 : Boxed w4 (w.heap.size + 1 + 1) 4 (.bool false) := by
    rw [hw4]
    have := (Boxed.new ((w.alloc (.cells #[.int .i64 limit] 3)).alloc (.cells #[.slice none 0 0] 59)) 4 (.bool false)).alloc (.cells #[.slice none 0 0] 59)
    rwa [World.size_alloc, World.size_alloc] at this
  have k3 : Boxed w4 (w.heap.size + 1 + 1 + 1) 59 (.slice none 0 0) := by
    rw [hw4]
    have := Boxed.new (((w.alloc (.cells #[.int .i64 limit] 3)).alloc (.cells #[.slice none 0 0] 59)).alloc (.cells #[.bool false] 4)) 59 (.slice none 0 0)
    rwa [World.size_alloc, World.size_alloc, World.size_alloc] at this
  have h4 := h.below hb4
  have c0 := h4.c0
  rw [hw4] at c0
  have HW4 := hid hw4
  have HB4 := hid hb4
  have HS4 := hid hs4
  have HK := hid (And.intro k0 (And.intro k1 (And.intro k2 k3)))
  have H4 := hid h4
  have HSM := hid hsmall
  have HF := hid hfew
  have HLT := hid h.lt
  clear hw4 hb4 hs4 k0 k1 k2 k3 h4 h hsmall hfew
  refine (callsIn_wide (n := 4)).1 ?_
  refine callsIn_of_wp_marks Try.func40 rfl trivial ?_ rfl
  simp only [Try.ntmps40, List.size_toArray, List.length_cons, List.length_nil, Nat.reduceAdd, Nat.reduceSub, Array.replicate_succ, Array.replicate_zero, List.push_toArray, List.append_toArray, List.nil_append, List.cons_append]
  refine wpIn_wide.2 ?_
  go_wp2_with fail
  rw [← HW4.out]
  refine (TU.between_any w4 (some ⟨M, 0, none⟩) lo hi).mono ?_
  rintro e w6 ⟨rfl, hw6⟩
  obtain ⟨N4, hN4⟩ : ∃ N4, N4 = w4.heap.size := ⟨_, rfl⟩
  rw [← hN4]
  have hs4 := HS4.out
  have hb6 : Below N4 w4 w6 := by rw [hw6, hN4]; exact (((Below.refl _ w4).alloc (Nat.le_refl _) _).alloc (by simp) _).alloc (by simp; omega) _
  have hs6 : w6.heap.size = N4 + 1 + 1 + 1 := by rw [hw6, hN4]; simp
  have cm6 : w6.cell? ⟨N4, 0, none⟩ = some (.pointer (some ⟨M, 0, none⟩)) := by
    rw [hw6, hN4]
    exact (((Boxed.new w4 _ _).alloc _).alloc _).cell
  have cl6 : w6.cell? ⟨N4 + 1, 0, none⟩ = some (.int .u64 lo) := by
    rw [hw6, hN4]
    have := ((Boxed.new (w4.alloc (.cells #[.pointer (some ⟨M, 0, none⟩)] 150)) 60 (.int .u64 lo)).alloc (.cells #[.int .u64 hi] 60)).cell
    rwa [World.size_alloc] at this
  have ch6 : w6.cell? ⟨N4 + 1 + 1, 0, none⟩ = some (.int .u64 hi) := by
    rw [hw6, hN4]
    have := (Boxed.new ((w4.alloc (.cells #[.pointer (some ⟨M, 0, none⟩)] 150)).alloc (.cells #[.int .u64 lo] 60)) 60 (.int .u64 hi)).cell
    rwa [World.size_alloc, World.size_alloc] at this
  obtain ⟨k0, k1, k2, k3⟩ := HK.out
  have hN : N4 = w.heap.size + 1 + 1 + 1 + 1 := by omega
  have k0 := (hb6.block _ (by omega)).trans k0
  have k1 := (hb6.block _ (by omega)).trans k1
  have k2 := (hb6.block _ (by omega)).trans k2
  have k3 := (hb6.block _ (by omega)).trans k3
  have hB6 : Below w.heap.size w w6 := HB4.out.trans (hb6.mono (by omega))
  have h6 : ShelfAt w6 S M T most P L := by
    have := H4.out.below (w' := w6) (by rw [← hN4]; exact hb6)
    exact this
  -- what is told
  obtain ⟨F, hF⟩ : ∃ F, F = T.pairs.filter (inR TI.cmpI lo hi) := ⟨_, rfl⟩
  have hG := HG.out
  have hFG : ValsOf w6 0 F G := by rw [hF, hG]; exact h6.vals.filter (fun k => decide (0 ≤ TI.cmpI k lo) && decide (TI.cmpI k hi ≤ 0))
  have hFs : ∀ p ∈ F, p ∈ T.pairs := fun p hp => by rw [hF] at hp; exact (List.mem_filter.1 hp).1
  have hGl : ∀ p ∈ G, p.2.length ≤ 64 := fun p hp => by rw [hG] at hp; exact (HSM.out p ((List.mem_filter.1 hp).1)).1
  have hGn : G.length ≤ 32768 := by
    have := List.length_filter_le (inR TI.cmpI lo hi) L
    have := HF.out
    rw [hG]; omega
  have hFn : F.length = G.length := hFG.len
  obtain ⟨P6, hP6⟩ : ∃ P6 : Nat → Prop, P6 = fun x => x < w6.heap.size ∧ x ≠ w.heap.size + 1 + 1 + 1 ∧ x ≠ w.heap.size + 1 ∧ x ≠ w.heap.size + 1 + 1 := ⟨_, rfl⟩
  have hPlt : ∀ k, P6 k → k < w6.heap.size := fun k hk => by rw [hP6] at hk; exact hk.1
  have hPi : ∀ k, k < w6.heap.size → k ≠ w.heap.size + 1 + 1 + 1 → k ≠ w.heap.size + 1 → k ≠ w.heap.size + 1 + 1 → P6 k := fun k h1 h2 h3 h4 => by rw [hP6]; exact ⟨h1, h2, h3, h4⟩
  have hPo : ∀ k, P k → P6 k := fun k hk => by have := HLT.out k hk; exact hPi k (by omega) (by omega) (by omega) (by omega)
  have hPv : ∀ p ∈ F, ∀ g, (TU.ev p.2).ownBlock = some g → P6 g := fun p hp g hg => hPo g (h6.own p (hFs p hp) g hg).1
  have hP3 : ¬ P6 (w.heap.size + 1 + 1 + 1) := fun hk => by rw [hP6] at hk; exact hk.2.1 rfl
  have hP1 : ¬ P6 (w.heap.size + 1) := fun hk => by rw [hP6] at hk; exact hk.2.2.1 rfl
  have hP2 : ¬ P6 (w.heap.size + 1 + 1) := fun hk => by rw [hP6] at hk; exact hk.2.2.2 rfl
  have hseq := TU.between_stops TI.cmpI TI.cmpI_ord 134 #[] (fun _ => True) TU.cmp_fn.eg (fun w a b _ => TU.compare_same w a b) (fun _ => trivial) 3 N4 (N4 + 1) (N4 + 1 + 1) M lo hi T P6 w6 cm6 cl6 ch6 h6.map h6.up (fun x hx => hPo x (h6.pT x hx))
  rw [← hF] at hseq
  have HSEQ := hid hseq
  have hs60 : w.heap.size ≤ w6.heap.size := by omega
  have hs63 : w.heap.size + 1 + 1 + 1 + 1 ≤ w6.heap.size := by omega
  clear hseq hP6 hF hb6 hw6 cm6 cl6 ch6 hs6 hs4 hN4 hN
  clear hG HW4 HB4 HS4 HK H4 c0
  have HB6 := hid hB6
  have HFG := hid hFG
  have H0 := hid (And.intro k0 (And.intro k1 (And.intro k2 k3)))
  clear hB6 k0 k1 k2 k3 hFG
  go_wp2_with fail
  refine (wpIn_wide (n := 4)).1 ?_
  refine' range_law (gf := 137) (lb := #[.pointer (some ⟨N4, 0, none⟩), .pointer (some ⟨N4 + 1, 0, none⟩), .pointer (some ⟨N4 + 1 + 1, 0, none⟩)]) rfl (enters_of Try.func137 (by kernel_rfl) rfl) TU.encP (fun _ => rfl)
    (ScanI w w6 (w.heap.size + 1 + 1 + 1) (w.heap.size + 1) (w.heap.size + 1 + 1) P6 F G limit.toNat)
    (fun cd (_ : List (Int × TU.SV)) W => cd = .ret ∧ ScanX w (w.heap.size + 1) (w.heap.size + 1 + 1) F G limit.toNat W)
    (fun pre x _ => pre ++ [x] <+: F) (fun xs => xs = F) (fun pre => pre <+: F)
    (ScanI.from _ _ _ _ _ _ _ _ _ _ (fun k hk => ⟨hPlt k hk, hPlt k hk⟩) hs60) (fun cd => OwnFrom.and (ownFrom_pure _ (fun (_ : List (Int × TU.SV)) => cd = .ret)) (ScanX.from _ _ _ _ _ _ _ hs60)) (fun pre x => ownFrom_pure _ (fun (_ : Unit) => pre ++ [x] <+: F)) ?h0 ?hseq _ ?assign ?body ?done ?stop
  case h0 => exact ⟨⟨none, 0, [], H0.out.2.2.2, World.ownsRow_nil _ _ _ _, rfl, trivial⟩, H0.out.2.1, H0.out.2.2.1, fun _ _ => rfl, HB6.out, Nat.le_refl _, List.nil_prefix, Nat.zero_le _⟩
  case hseq =>
    intro l J Jx W hW hJ hJx hJI hY h0
    refine HSEQ.out l J Jx W hW hJ hJx ?_ h0
    intro pre x W1 hj hx
    refine (hY pre x W1 hj hx).mono ?_
    rintro e W' (⟨rfl, hj'⟩ | hr)
    · exact .inl ⟨rfl, hj', fun k hk => ((hJI _ _ hj').kp k hk).trans ((hJI _ _ hj).kp k hk).symm⟩
    · exact .inr hr
  case assign =>
    intro l x W K hK
    gi_wp2
    exact hK
  case body =>
    rintro l1 pre x W hI hx
    have hI0 := hI
    obtain ⟨⟨A, c, r, hv, hrow, hrl, hvals⟩, hr1, hr2, hkp, hbel, hsz, hpf, hle⟩ := hI
    have hc := hv.cell
    have kl : Boxed w6 w.heap.size 3 (.int .i64 limit) := H0.out.1
    have hl6 : P6 w.heap.size := hPi _ (by omega) (by omega) (by omega) (by omega)
    have hlim : W.cell? ⟨w.heap.size, 0, none⟩ = some (.int .i64 limit) := (keepsT_cell hkp (p := ⟨w.heap.size, 0, none⟩) hl6).trans kl.cell
    have hxF := prefix_at hx
    have hxl := prefix_len hx
    by_cases hfull : limit ≤ (pre.length : Int)
    · have b1 : decide ((pre.length : Int) ≥ limit) = true := by simpa using hfull
      have b2 : decide (limit ≤ (pre.length : Int)) = true := by simpa using hfull
      have hKF : decide (limit.toNat < F.length) = true := by simp; omega
      have hc1 := hr1.cell
      have hf1 := hr1.frozen
      have hc2 := hr2.cell
      have hf2 := hr2.frozen
      have hX : Hid (ScanX w (w.heap.size + 1) (w.heap.size + 1 + 1) F G limit.toNat ((W.setCell ⟨w.heap.size + 1, 0, none⟩ (.slice A pre.length c)).setCell ⟨w.heap.size + 1 + 1, 0, none⟩ (.bool true))) := by
        have hkc : ∀ (g : Nat) (cur : Array Value) (t : TypeId), t ≠ 59 → t ≠ 4 → W.heap[g]? = some (Obj.cells cur t (0, 0)) → ((W.setCell ⟨w.heap.size + 1, 0, none⟩ (.slice A pre.length c)).setCell ⟨w.heap.size + 1 + 1, 0, none⟩ (.bool true)).heap[g]? = W.heap[g]? := fun g cur t h1 h2 hg => by
          rw [Below.heap_setCell _ _ _ _ (fun e => ?_), Below.heap_setCell _ _ _ _ (fun e => ?_)]
          · dsimp only at e; rw [e, show W.heap[w.heap.size + 1]? = _ from hr1] at hg; cases hg; exact h1 rfl
          · dsimp only at e; rw [e, show W.heap[w.heap.size + 1 + 1]? = _ from hr2] at hg; cases hg; exact h2 rfl
        have hKp : limit.toNat = pre.length := by omega
        refine ⟨⟨.slice A pre.length c, ((hr1.set _).other (by omega) _), r, ?_, ?_⟩, ?_, ?_⟩
        · refine ⟨hrow.1, ?_⟩
          rcases hrow.2 with hz | ⟨g, cap, cur, e1, e2, e3, rest⟩
          · exact .inl hz
          · exact .inr ⟨g, cap, cur, e1, by omega, (hkc g cur _ (by decide) (by decide) e3).trans e3, rest⟩
        · rw [hKp]
          exact (hvals.low hs60).keeps fun p hp g hg => by
            obtain ⟨_, cur, hcc⟩ := hvals.cells p hp g hg
            exact hkc g cur _ (by decide) (by decide) hcc
        · rw [hKF]; exact (hr2.other (by omega) _).set _
        · exact (hbel.setCell (p := ⟨w.heap.size + 1, 0, none⟩) (by show w.heap.size ≤ w.heap.size + 1; omega) _).setCell (p := ⟨w.heap.size + 1 + 1, 0, none⟩) (by show w.heap.size ≤ w.heap.size + 1 + 1; omega) _
      clear hfull hv hrow hrl hvals hr1 hr2 hkp hbel hpf hle hI0 hxF hxl hKF kl
      gi_wp2_with fail
      exact ⟨((KeepsOthers.setCell _ _ _).trans (KeepsOthers.setCell _ _ _)).from _, rfl, hX.out⟩
    · have b1 : decide ((pre.length : Int) ≥ limit) = false := by simpa using hfull
      have b2 : decide (limit ≤ (pre.length : Int)) = false := by simpa using hfull
      have hvF := HFG.out.keeps (w' := W.drew) (fun p hp g hg => hkp g (hPv p hp g hg))
      obtain ⟨key, sv⟩ := x
      obtain ⟨bs, hGb, hvx, hb255⟩ := hvF.at' hxF
      obtain ⟨vA, vc, hx2, hvn, hvr⟩ := ownsRow_ev hvx
      dsimp only at hx2 hGb
      subst hx2
      have hb64 : bs.length ≤ 64 := hGl (key, bs) (List.mem_of_getElem? hGb)
      have hcl := clone_any W.drew vA bs.length vc bs rfl (by omega) hvn hvr
      have hstep : ∀ (W2 : World) (v2 : Value), Below W.drew.heap.size W.drew W2 → W2.ownsRow W.drew.heap.size 5 1 v2 bs.length (bs.flatMap u8s) → ∃ vA2 vc2, v2 = .slice vA2 bs.length vc2 ∧ W2.cell? ⟨w.heap.size + 1 + 1 + 1, 0, none⟩ = some (.slice A pre.length c) ∧
          W2.ownsRow w6.heap.size 69 2 (.slice A pre.length c) r.length (r.flatMap prE) ∧ w6.heap.size ≤ W2.heap.size ∧
          ∀ v1 w1, w1.ownsRow w6.heap.size 69 2 v1 (r ++ [(key, (vA2, bs.length, vc2))]).length ((r ++ [(key, (vA2, bs.length, vc2))]).flatMap prE) → W2.grownBy w1 (Value.slice A pre.length c).ownBlock →
            ∃ A' c', v1 = .slice A' (pre.length + 1) c' ∧ w1.cell? ⟨w.heap.size + 1 + 1 + 1, 0, none⟩ = some (.slice A pre.length c) ∧ w1.frozen? ⟨w.heap.size + 1 + 1 + 1, 0, none⟩ = false ∧ Hid (KeepsFrom w6.heap.size W (w1.setCell ⟨w.heap.size + 1 + 1 + 1, 0, none⟩ v1)) ∧ Hid (ScanI w w6 (w.heap.size + 1 + 1 + 1) (w.heap.size + 1) (w.heap.size + 1 + 1) P6 F G limit.toNat (pre ++ [(key, (vA, bs.length, vc))]) (w1.setCell ⟨w.heap.size + 1 + 1 + 1, 0, none⟩ v1)) := by
        intro W2 v2 hb hv2
        obtain ⟨_, vA2, vc2, rfl, _, _, _⟩ := owns_reads u8s_len hv2 (by decide)
        have hb2 : Below W.heap.size W W2 := Below.trans (below_drewN' (Below.refl _ W) 1) hb
        refine ⟨vA2, vc2, rfl, (hb2.cell (p := ⟨w.heap.size + 1 + 1 + 1, 0, none⟩) hv.lt).trans hc, ownsRow_wrote hrow (Wrote.below hb2 : Wrote (fun _ => False) W W2) (fun _ _ => id), Nat.le_trans hsz hb2.size, fun v1 w1 hown hg => ?_⟩
        obtain ⟨A', c', e1, e2, e3, e4⟩ := ScanI.step hI0 (by omega) hx hGb hb2 hv2 hb255 hv hrow hrl hvals hown hg hPlt hP3 (by omega) (by omega) (by omega) hs60
        exact ⟨A', c', e1, e2.cell, e2.frozen, hid e4, hid e3⟩
      have HSTEP := hid hstep
      have HCL := hid hcl
      have hrn : r.length + 1 ≤ 40000 := by omega
      clear hstep hcl hvals hrow hb255 hGb hx hI0 hvx hvn hvr hvF hr1 hr2 hkp hbel hpf hle hxF hxl hv kl
      gi_wp2_with fail
      refine region_in_round (by kernel_rfl) (by kernel_rfl) (by rintro ⟨_, _, h⟩; exact h) ?_
      change wpAny _ _ _ _ _ _ _ (World.drew W)
      refine wpAny_take (i := 1) (v := ?_) rfl (by kernel_rfl) (by kernel_rfl) (by kernel_rfl) (fun _ _ _ h => h) (Or.inl ⟨by first | kernel_rfl | rfl, ?_⟩) ?_
      rotate_left 1
      · (intro w; go_simp) <;> (with_reducible rfl)
      refine wpAny_take (i := 2) (v := ?_) rfl (by kernel_rfl) (by kernel_rfl) (by kernel_rfl) (fun _ _ _ h => h) (Or.inl ⟨by first | kernel_rfl | rfl, ?_⟩) ?_
      rotate_left 1
      · (intro w; go_simp) <;> (with_reducible rfl)
      refine wpAny_ready (rs := [0, 3]) (by kernel_rfl) (by simp) ?_
      refine AllReady.cons rfl (fun K hK => ?_) (AllReady.cons rfl (fun K hK => ?_) AllReady.nil)
      · go_simp
        refine hK _ _ ?_
        clear hK K
        refine any_rest 3 (by rfl) (by kernel_rfl) ?_
        change wpList _ _ _ (_ :: _) _ _
        go_wp2_with (first | (go_at_call 94; refine HCL.out.mono ?_; rintro e W2 ⟨v2, rfl, hv2, hb2⟩; obtain ⟨vA2, vc2, rfl, hcW2, hrow2, hsz2, hend⟩ := HSTEP.out W2 v2 hb2 hv2; have HR2 := hid hrow2; have HE := hid hend; clear hv2 hb2 hrow2 hend) | (at_builtin; refine wpList_append_one (enc := prE) W2 w6.heap.size rfl _ _ 59 69 _ 32 rfl Try.underlying59 infoPair rfl (by decide) prE_len prE_one (.slice A pre.length c) r (key, (vA2, bs.length, vc2)) _ rfl rfl _ rfl rfl HR2.out (by simp only [maxLen]; omega) (by omega) hsz2 ?_; intro v1 w1 hown hg _; obtain ⟨A', c', rfl, hc1, hf1, HK1, HI1⟩ := HE.out v1 w1 hown hg; clear hown hg))
        exact ⟨HK1.out, trivial, HI1.out⟩
      · go_simp
        refine HCL.out.mono ?_
        rintro e W2 ⟨v2, rfl, hv2, hb2⟩
        obtain ⟨vA2, vc2, rfl, hcW2, hrow2, hsz2, hend⟩ := HSTEP.out W2 v2 hb2 hv2
        have HR2 := hid hrow2
        have HE := hid hend
        clear hv2 hb2 hrow2 hend
        go_simp
        refine hK _ _ ?_
        clear hK K
        refine wpAny_ready (rs := [0, 4]) (by kernel_rfl) (by simp) ?_
        refine AllReady.cons rfl (fun K hK => ?_) (AllReady.cons rfl (fun K hK => ?_) AllReady.nil)
        · go_simp
          refine hK _ _ ?_
          clear hK K
          refine any_rest 4 (by rfl) (by kernel_rfl) ?_
          change wpList _ _ _ (_ :: _) _ _
          go_wp2_with (at_builtin; refine wpList_append_one (enc := prE) W2 w6.heap.size rfl _ _ 59 69 _ 32 rfl Try.underlying59 infoPair rfl (by decide) prE_len prE_one (.slice A pre.length c) r (key, (vA2, bs.length, vc2)) _ rfl rfl _ rfl rfl HR2.out (by simp only [maxLen]; omega) (by omega) hsz2 ?_; intro v1 w1 hown hg _; obtain ⟨A', c', rfl, hc1, hf1, HK1, HI1⟩ := HE.out v1 w1 hown hg; clear hown hg)
          exact ⟨HK1.out, trivial, HI1.out⟩
        · go_simp
          refine hK _ _ ?_
          clear hK K
          refine wpAny_ready (rs := [0, 5]) (by kernel_rfl) (by simp) ?_
          refine AllReady.cons rfl (fun K hK => ?_) (AllReady.cons rfl (fun K hK => ?_) AllReady.nil)
          · go_simp
            refine hK _ _ ?_
            clear hK K
            refine any_rest 5 (by rfl) (by kernel_rfl) ?_
            change wpList _ _ _ (_ :: _) _ _
            go_wp2_with (at_builtin; refine wpList_append_one (enc := prE) W2 w6.heap.size rfl _ _ 59 69 _ 32 rfl Try.underlying59 infoPair rfl (by decide) prE_len prE_one (.slice A pre.length c) r (key, (vA2, bs.length, vc2)) _ rfl rfl _ rfl rfl HR2.out (by simp only [maxLen]; omega) (by omega) hsz2 ?_; intro v1 w1 hown hg _; obtain ⟨A', c', rfl, hc1, hf1, HK1, HI1⟩ := HE.out v1 w1 hown hg; clear hown hg)
            exact ⟨HK1.out, trivial, HI1.out⟩
          · have hcW3 : (W2.alloc (.cells #[.int .u64 key, .slice vA2 bs.length vc2] 69)).cell? ⟨w.heap.size + 1 + 1 + 1, 0, none⟩ = some (.slice A pre.length c) := by rw [World.cell?_alloc_lt _ _ _ (World.block_lt_of_cell? _ _ hcW2)]; exact hcW2
            go_simp
            refine hK _ _ ?_
            clear hK K
            refine wpAny_ready (rs := [0]) (by kernel_rfl) (by simp) ?_
            refine AllReady.cons rfl (fun K hK => ?_) AllReady.nil
            go_simp
            refine hK _ _ ?_
            clear hK K
            refine any_rest 6 (by rfl) (by kernel_rfl) ?_
            change wpList _ _ _ (_ :: _) _ _
            go_wp2_with (at_builtin; refine wpList_append_one (enc := prE) W2 w6.heap.size rfl _ _ 59 69 _ 32 rfl Try.underlying59 infoPair rfl (by decide) prE_len prE_one (.slice A pre.length c) r (key, (vA2, bs.length, vc2)) _ rfl rfl _ rfl rfl HR2.out (by simp only [maxLen]; omega) (by omega) hsz2 ?_; intro v1 w1 hown hg _; obtain ⟨A', c', rfl, hc1, hf1, HK1, HI1⟩ := HE.out v1 w1 hown hg; clear hown hg)
            exact ⟨HK1.out, trivial, HI1.out⟩
  case done =>
    rintro D xs W hD rfl hI hKD
    obtain ⟨⟨A, c, r, hv, hrow, hrl, hvals⟩, hr1, hr2, hkp, hbel, hsz, hpf, hle⟩ := hI
    have hc := hv.cell
    have hc1 := hr1.cell
    have hf1 := hr1.frozen
    have hc2 := hr2.cell
    have hf2 := hr2.frozen
    have hX : Hid (ScanX w (w.heap.size + 1) (w.heap.size + 1 + 1) xs G limit.toNat ((W.setCell ⟨w.heap.size + 1, 0, none⟩ (.slice A xs.length c)).setCell ⟨w.heap.size + 1 + 1, 0, none⟩ (.bool false))) := by
      have hkc : ∀ (g : Nat) (cur : Array Value) (t : TypeId), t ≠ 59 → t ≠ 4 → W.heap[g]? = some (Obj.cells cur t (0, 0)) → ((W.setCell ⟨w.heap.size + 1, 0, none⟩ (.slice A xs.length c)).setCell ⟨w.heap.size + 1 + 1, 0, none⟩ (.bool false)).heap[g]? = W.heap[g]? := fun g cur t h1 h2 hg => by
        rw [Below.heap_setCell _ _ _ _ (fun e => ?_), Below.heap_setCell _ _ _ _ (fun e => ?_)]
        · dsimp only at e; rw [e, show W.heap[w.heap.size + 1]? = _ from hr1] at hg; cases hg; exact h1 rfl
        · dsimp only at e; rw [e, show W.heap[w.heap.size + 1 + 1]? = _ from hr2] at hg; cases hg; exact h2 rfl
      refine ⟨⟨.slice A xs.length c, ((hr1.set _).other (by omega) _), r, ?_, ?_⟩, ?_, ?_⟩
      · refine ⟨hrow.1, ?_⟩
        rcases hrow.2 with hz | ⟨g, cap, cur, e1, e2, e3, rest⟩
        · exact .inl hz
        · exact .inr ⟨g, cap, cur, e1, by omega, (hkc g cur _ (by decide) (by decide) e3).trans e3, rest⟩
      · rw [List.take_of_length_le (by omega : G.length ≤ limit.toNat)]
        rw [List.take_of_length_le (by omega)] at hvals
        exact (hvals.low hs60).keeps fun p hp g hg => by
          obtain ⟨_, cur, hcc⟩ := hvals.cells p hp g hg
          exact hkc g cur _ (by decide) (by decide) hcc
      · rw [show decide (limit.toNat < xs.length) = false by simp; omega]; exact (hr2.other (by omega) _).set _
      · exact (hbel.setCell (p := ⟨w.heap.size + 1, 0, none⟩) (by show w.heap.size ≤ w.heap.size + 1; omega) _).setCell (p := ⟨w.heap.size + 1 + 1, 0, none⟩) (by show w.heap.size ≤ w.heap.size + 1 + 1; omega) _
    have hKX : ((W.setCell ⟨w.heap.size + 1, 0, none⟩ (.slice A xs.length c)).setCell ⟨w.heap.size + 1 + 1, 0, none⟩ (.bool false)).heap[D]? = some (.deferred (some [])) := (Below.heap_setCell _ _ _ _ (by show D ≠ w.heap.size + 1 + 1; omega)).trans ((Below.heap_setCell _ _ _ _ (by show D ≠ w.heap.size + 1; omega)).trans hKD)
    have HKX := hid hKX
    have HFN := hid hFn
    have hwD : w.heap.size ≤ D := by omega
    clear hFn hKX hv hrow hrl hvals hr1 hr2 hkp hbel hpf hle hKD
    go_wp2_with fail
    generalize ((W.setCell ⟨w.heap.size + 1, 0, none⟩ (.slice A xs.length c)).setCell ⟨w.heap.size + 1 + 1, 0, none⟩ (.bool false)) = X at *
    refine ⟨by simp, .inl ⟨_, _, rfl, run_takeDeferred HKX.out, ?_⟩⟩
    exact scan_ends hX.out HKX.out hwD HFN.out
  case stop =>
    rintro D cd pre W hD hSp ⟨rfl, hX⟩ hKD
    refine wpIn_ret ?_
    refine ⟨by simp, .inl ⟨_, _, rfl, run_takeDeferred hKD, ?_⟩⟩
    exact scan_ends hX hKD (by omega) hFn
end Go.Proofs.Ytfjeagffdijcoaa
namespace Go.Proofs.Ytfjeagffdijcoaa
open Go.RowKit Go.Shelf

theorem cutP_filter (key : Int) {ν : Type} {L : List (Int × ν)} (h : Up TI.cmpI L) : cutP TI.cmpI key L = L.filter fun p => decide (p.1 ≠ key) := by
  induction L with
  | nil => rfl
  | cons p L ih =>
    obtain ⟨k, x⟩ := p
    obtain ⟨h1, h2⟩ := List.pairwise_cons.1 h
    have hgt : ∀ y ∈ L, k < y.1 := fun y hy => by
      have := h1 y hy
      simp only [TI.cmpI] at this
      (repeat' split at this) <;> omega
    simp only [cutP]
    by_cases h3 : key < k
    · have e : TI.cmpI key k = -1 := by unfold TI.cmpI; rw [if_pos h3]
      rw [if_pos (by omega)]
      rw [List.filter_eq_self.2]
      intro y hy
      rcases List.mem_cons.1 hy with rfl | hy
      · simp; omega
      · have := hgt y hy; simp; omega
    · by_cases h4 : k < key
      · have e : TI.cmpI key k = 1 := by unfold TI.cmpI; rw [if_neg h3, if_pos h4]
        rw [if_neg (by omega), if_pos (by omega), List.filter_cons, if_pos (by simp; omega), ih h2]
      · have e : TI.cmpI key k = 0 := by unfold TI.cmpI; rw [if_neg h3, if_neg h4]
        rw [if_neg (by omega), if_neg (by omega), List.filter_cons, if_neg (by simp; omega)]
        rw [List.filter_eq_self.2]
        intro y hy
        have := hgt y hy; simp; omega

/-- behind several Deletes -/
def cutK {ν : Type} (ks : List Int) (L : List (Int × ν)) : List (Int × ν) := L.filter fun p => decide (p.1 ∉ ks)
theorem cutK_nil {ν : Type} (L : List (Int × ν)) : cutK [] L = L := by simp [cutK]
theorem cutK_snoc {ν : Type} (ks : List Int) (key : Int) {L : List (Int × ν)} (h : Up TI.cmpI L) : cutP TI.cmpI key (cutK ks L) = cutK (ks ++ [key]) L := by
  rw [cutP_filter key (L := cutK ks L) (List.Pairwise.filter _ h)]
  unfold cutK
  rw [List.filter_filter]
  congr 1
  funext p
  simp [and_comm]
theorem cutK_range {ν : Type} (lo hi : Int) (L : List (Int × ν)) : cutK ((L.filter (inR TI.cmpI lo hi)).map Prod.fst) L = L.filter fun p => !inR TI.cmpI lo hi p := by
  unfold cutK
  refine List.filter_congr fun p hp => ?_
  have hiff : p.1 ∈ (L.filter (inR TI.cmpI lo hi)).map Prod.fst ↔ inR TI.cmpI lo hi p = true := by
    constructor
    · intro hm
      obtain ⟨q, hq, e⟩ := List.mem_map.1 hm
      have := (List.mem_filter.1 hq).2
      unfold inR at this ⊢
      rw [← e]; exact this
    · intro hi'
      exact List.mem_map.2 ⟨p, List.mem_filter.2 ⟨hp, hi'⟩, rfl⟩
  cases h : inR TI.cmpI lo hi p with
  | true => simp only [Bool.not_true, decide_eq_false_iff_not, Decidable.not_not]; exact hiff.2 h
  | false => simp only [Bool.not_false, decide_eq_true_eq]; exact fun hm => by rw [hiff.1 hm] at h; cases h

/-- a list of pairs as a slice: where it lies, and what its places hold -/
theorem PairsAt.slice {w : World} {B : Nat} {v : Value} {G : List (Int × List Int)} (h : PairsAt w B v G) : ∃ A c, v = .slice A G.length c ∧ G.length ≤ c ∧ c ≤ maxLen ∧
    ∀ i, i < G.length → ∃ b off key bs vA vc, G[i]? = some (key, bs) ∧ A = some ⟨b, off, none⟩ ∧ B ≤ b ∧ b < w.heap.size ∧ w.cell? ⟨b, off + i * 2, none⟩ = some (.int .u64 key) ∧ w.cell? ⟨b, off + i * 2 + 1, none⟩ = some (.slice vA bs.length vc) ∧
      w.ownsRow B 5 1 (.slice vA bs.length vc) bs.length (bs.flatMap u8s) ∧ ∀ x ∈ bs, 0 ≤ x ∧ x ≤ 255 := by
  obtain ⟨r, hrow, hv⟩ := h
  obtain ⟨_, A, c, rfl, h1, h2, hR⟩ := owns_reads prE_len hrow (by decide)
  refine ⟨A, c, by rw [hv.len], by rw [← hv.len]; exact h1, h2, fun i hi => ?_⟩
  obtain ⟨b, off, x, hx, rfl, hb, hc⟩ := hR.at i (by rw [hv.len]; exact hi)
  obtain ⟨bs, hG, hrow2, h255⟩ := hv.at' hx
  obtain ⟨vA, vc, e, _, _⟩ := ownsRow_ev hrow2
  obtain ⟨key, sv⟩ := x
  dsimp only at e
  subst e
  exact ⟨b, off, key, bs, vA, vc, hG, rfl, (hrow.lt b rfl).1, hb, by simpa using hc 0 _ rfl, hc 1 _ rfl, hrow2, h255⟩

theorem PairsAt.wrote {w w' : World} {B : Nat} {v : Value} {G : List (Int × List Int)} {Q : Nat → Prop} (h : PairsAt w B v G) (hw : Wrote Q w w') (hq : ∀ x, Q x → x < B) : PairsAt w' B v G := by
  obtain ⟨r, hrow, hv⟩ := h
  refine ⟨r, ownsRow_wrote hrow hw (fun g hg hx => by have := hrow.lt g hg; have := hq g hx; omega), hv.keeps fun p hp g hg => ?_⟩
  obtain ⟨hB, cur, hc⟩ := hv.cells p hp g hg
  exact hw.block g (Array.getElem?_eq_some_iff.1 hc).1 (fun hx => by have := hq g hx; omega)
theorem PairsAt.low {w : World} {B B' : Nat} {v : Value} {G : List (Int × List Int)} (h : PairsAt w B v G) (hB : B' ≤ B) : PairsAt w B' v G := by
  obtain ⟨r, hrow, hv⟩ := h
  exact ⟨r, ⟨hrow.1, hrow.2.imp id fun ⟨g, cap, cur, e1, e2, e⟩ => ⟨g, cap, cur, e1, Nat.le_trans hB e2, e⟩⟩, hv.low hB⟩

theorem shCut_span (w : World) (S : Nat) (lo hi : Int) (h : hi < lo) :
    Calls Try.prog 68 #[.pointer (some ⟨S, 0, none⟩), .int .u64 lo, .int .u64 hi] w fun e w' => e = .returned (.tuple #[.slice none 0 0, .int .i64 74]) ∧ w' = w := by
  have b0 : decide (lo > hi) = true := by simpa using h
  have b1 : decide (hi < lo) = true := by simpa using h
  clear h
  go_enter Try.func68, Try.ntmps68
  go_wp2_with fail
  go_ret2
  exact ⟨rfl, rfl⟩

set_option maxRecDepth 100000 in
set_option maxHeartbeats 2000000 in
theorem shCut_any (w : World) (S : Nat) (most : Int) (P : Nat → Prop) (L : List (Int × List Int)) (lo hi : Int) (h : IsShelf w S most P L) (hle : lo ≤ hi) :
    Calls Try.prog 68 #[.pointer (some ⟨S, 0, none⟩), .int .u64 lo, .int .u64 hi] w fun e w' =>
      ∃ v, e = .returned (.tuple #[v, .int .i64 0]) ∧ PairsAt w' w.heap.size v (L.filter (inR TI.cmpI lo hi)) ∧ IsShelf w' S most P (L.filter fun p => !inR TI.cmpI lo hi p) ∧ Wrote P w w' := by
  have b0 : decide (lo > hi) = false := by simpa using hle
  have b1 : decide (hi < lo) = false := by simpa using hle
  have hup := h.up
  have hplt := h.lt
  have hln := h.few
  have hlen := shLen_any w S most P L h
  have hscan := shScan_any w S most P L lo hi (L.length : Nat) h
  obtain ⟨G, hG⟩ : ∃ G, G = L.filter (inR TI.cmpI lo hi) := ⟨_, rfl⟩
  have hGl : G.length ≤ L.length := by rw [hG]; exact List.length_filter_le _ _
  rw [← hG, Int.toNat_natCast, List.take_of_length_le hGl] at hscan
  rw [← hG, ← cutK_range, ← hG]
  have HLEN := hid hlen
  have HSCAN := hid hscan
  have HUP := hid hup
  have HPLT := hid hplt
  have H := hid h
  have hG64 : G.length ≤ 32768 := by omega
  clear hlen hscan hup hplt hG hln hle h hGl
  go_enter Try.func68, Try.ntmps68
  go_wp2_with (first | (go_at_call 43; refine HLEN.out.mono ?_; rintro e w1 ⟨rfl, rfl⟩) | (go_at_call 40; refine HSCAN.out.mono ?_; rintro e w1 ⟨v, rfl, hpa, hb⟩; obtain ⟨A, c, rfl, hc1, hc2, hat⟩ := hpa.slice; have HPA := hid hpa; have HAT := hid hat; have HB := hid hb; clear hpa hat hb))
  go_loopg [28] G.length (fun gx si wr => ∃ i : Nat, si = .int .i64 i ∧ i ≤ G.length ∧ G.length - i ≤ gx ∧ Hid (IsShelf wr S most P (cutK ((G.map Prod.fst).take i) L)) ∧ Hid (Wrote P w1 wr))
  case atStart => exact ⟨0, rfl, Nat.zero_le _, Nat.le_refl _, by rw [List.take_zero, cutK_nil]; exact hid (H.out.below HB.out), hid (Wrote.refl _ _)⟩
  case round =>
    obtain ⟨i, rfl, hi, hg, HI, HW⟩ := hrel
    by_cases hlt : i < G.length
    · have hii : (i : Int) < (G.length : Int) := by omega
      have hwi : IntKind.i64.wrap ((i : Int) + 1) = (i : Int) + 1 := wrap_small _ (by omega) (by omega)
      obtain ⟨b, off, key, bs, vA, vc, hgi, rfl, hbB, hb, h0, h1, _, _⟩ := HAT.out i hlt
      have hnP : ¬ P b := fun hp => by have := HPLT.out b hp; omega
      have c0 := HW.out.cell (p := ⟨b, off + i * 2, none⟩) hnP h0
      have c1 := HW.out.cell (p := ⟨b, off + i * 2 + 1, none⟩) hnP h1
      have hdel := shDelete_any (wr.alloc (.cells #[.int .u64 key, .slice vA bs.length vc] 69)) S most P _ key (HI.out.below ((Below.refl _ wr).alloc (Nat.le_refl _) _))
      have hks : (G.map Prod.fst).take (i + 1) = (G.map Prod.fst).take i ++ [key] := by rw [List.take_add_one, List.getElem?_map, hgi]; rfl
      rw [cutK_snoc _ _ HUP.out, ← hks] at hdel
      have HD := hid hdel
      clear hgi h0 h1 hdel hks
      go_wp2_with (go_at_call 111; refine HD.out.mono ?_; rintro e w2 ⟨rfl, hS, hw⟩; have HS := hid hS; have HW2 := hid hw; clear hS hw)
      go_roundg (G.length - (i + 1))
      case measure => omega
      case rel => exact ⟨i + 1, by go_num, hlt, Nat.le_refl _, HS, hid ((HW.out.alloc _).trans HW2.out)⟩
    · have hii : ¬ (i : Int) < (G.length : Int) := by omega
      have hfin : Hid (IsShelf wr S most P (cutK (G.map Prod.fst) L)) := by have := HI.out; rw [List.take_of_length_le (by simp; omega)] at this; exact this
      go_wp2_with fail
      go_ret2
      exact ⟨_, rfl, HPA.out.wrote HW.out HPLT.out, hfin.out, Wrote.step (Wrote.below HB.out) HW.out (fun x hx => .inl hx)⟩
end Go.Proofs.Ytfjeagffdijcoaa
namespace Go.Proofs.Ytfjeagffdijcoaa
open Go.RowKit Go.Shelf

def putAll (PL : List (Int × List Int)) (L : List (Int × List Int)) : List (Int × List Int) := PL.foldl (fun l p => putL TI.cmpI p.1 p.2 l) L
theorem putAll_snoc (PL : List (Int × List Int)) (p : Int × List Int) (L : List (Int × List Int)) : putAll (PL ++ [p]) L = putL TI.cmpI p.1 p.2 (putAll PL L) := by simp [putAll]
theorem putAll_up (PL : List (Int × List Int)) {L : List (Int × List Int)} (h : Up TI.cmpI L) : Up TI.cmpI (putAll PL L) := by
  induction PL generalizing L with
  | nil => exact h
  | cons p PL ih => exact ih (putL_up TI.cmpI_ord p.1 p.2 h)
/-- the keys rise -/
def Ris (PL : List (Int × List Int)) : Prop := ∀ j p q, PL[j]? = some p → PL[j + 1]? = some q → p.1 < q.1
def There (L : List (Int × List Int)) (p : Int × List Int) : Prop := (getL TI.cmpI p.1 L).isSome = true

/-- what Lay answers, and whether it lays -/
def LayOut (most : Int) (L PL : List (Int × List Int)) (res : Int) : Prop :=
  (¬ Ris PL ∧ res = 72) ∨ (Ris PL ∧ (∃ p ∈ PL, 64 < p.2.length) ∧ res = 70) ∨ (Ris PL ∧ (∀ p ∈ PL, p.2.length ≤ 64) ∧ (∃ p ∈ PL, There L p) ∧ res = 73) ∨
  (Ris PL ∧ (∀ p ∈ PL, p.2.length ≤ 64) ∧ (∀ p ∈ PL, ¬ There L p) ∧ most < (L.length : Int) + PL.length ∧ res = 71) ∨ (Ris PL ∧ (∀ p ∈ PL, p.2.length ≤ 64) ∧ (∀ p ∈ PL, ¬ There L p) ∧ (L.length : Int) + PL.length ≤ most ∧ res = 0)

theorem ris_lt {PL : List (Int × List Int)} (h : Ris PL) : PL.Pairwise fun a b => a.1 < b.1 := by
  rw [List.pairwise_iff_getElem]
  intro i j hi hj hij
  have key : ∀ d i (h1 : i < PL.length) (h2 : i + d + 1 < PL.length), (PL[i]).1 < (PL[i + d + 1]).1 := by
    intro d
    induction d with
    | zero => intro i h1 h2; exact h i _ _ (List.getElem?_eq_getElem h1) (List.getElem?_eq_getElem h2)
    | succ d ih =>
      intro i h1 h2
      have h3 : i + d + 1 < PL.length := by omega
      have := ih i h1 h3
      have h4 := h (i + d + 1) _ _ (List.getElem?_eq_getElem h3) (List.getElem?_eq_getElem (show i + d + 1 + 1 < PL.length by omega))
      have e : i + (d + 1) + 1 = i + d + 1 + 1 := by omega
      simp only [e]
      omega
  have := key (j - i - 1) i hi (by omega)
  simp only [show i + (j - i - 1) + 1 = j by omega] at this
  exact this

/-- behind a Put of a key that was not there, what is there -/
theorem there_put {L : List (Int × List Int)} (h : Up TI.cmpI L) {key : Int} {bs : List Int} {p : Int × List Int} (hne : p.1 ≠ key) : There (putL TI.cmpI key bs L) p ↔ There L p := by
  have ht : Tight TI.cmpI := fun a b e => by unfold TI.cmpI at e; (repeat' split at e) <;> omega
  unfold There
  have hi : ∀ v, getL TI.cmpI p.1 (putL TI.cmpI key bs L) = some v ↔ getL TI.cmpI p.1 L = some v := fun v => by
    rw [getL_iff TI.cmpI_ord ht (putL_up TI.cmpI_ord key bs h), getL_iff TI.cmpI_ord ht h, putL_mem_iff TI.cmpI_ord ht h]
    constructor
    · rintro (⟨e, _⟩ | ⟨_, e⟩)
      · exact absurd e hne
      · exact e
    · exact fun e => .inr ⟨hne, e⟩
  cases h1 : getL TI.cmpI p.1 (putL TI.cmpI key bs L) with
  | none =>
    cases h2 : getL TI.cmpI p.1 L with
    | none => simp
    | some v => rw [(hi v).2 h2] at h1; cases h1
  | some v => rw [(hi v).1 h1]

theorem there_all {L : List (Int × List Int)} (h : Up TI.cmpI L) (PL : List (Int × List Int)) {p : Int × List Int} (hne : ∀ q ∈ PL, p.1 ≠ q.1) : There (putAll PL L) p ↔ There L p := by
  induction PL generalizing L with
  | nil => exact Iff.rfl
  | cons q PL ih =>
    show There (putAll PL (putL TI.cmpI q.1 q.2 L)) p ↔ _
    rw [ih (putL_up TI.cmpI_ord q.1 q.2 h) (fun x hx => hne x (by simp [hx])), there_put h (hne q (by simp))]

theorem putAll_len {L : List (Int × List Int)} (h : Up TI.cmpI L) {PL : List (Int × List Int)} (hr : PL.Pairwise fun a b => a.1 < b.1) (hn : ∀ p ∈ PL, ¬ There L p) : (putAll PL L).length = L.length + PL.length := by
  induction PL generalizing L with
  | nil => rfl
  | cons q PL ih =>
    obtain ⟨h1, h2⟩ := List.pairwise_cons.1 hr
    show (putAll PL (putL TI.cmpI q.1 q.2 L)).length = _
    rw [ih (putL_up TI.cmpI_ord q.1 q.2 h) h2 (fun p hp => by rw [there_put h (fun e => by have := h1 p hp; omega)]; exact hn p (by simp [hp])), putL_len]
    have := hn q (by simp)
    unfold There at this
    rw [if_neg this, List.length_cons]; omega

theorem pairs_small {w : World} {B : Nat} {v : Value} {PL : List (Int × List Int)} (h : PairsAt w B v PL) : PL.length ≤ maxLen := by
  obtain ⟨A, c, _, h1, h2, _⟩ := h.slice
  omega

theorem lay_end {w W : World} {S : Nat} {most : Int} {P : Nat → Prop} {L : List (Int × List Int)} {a : Addr} {v : Value} (h : IsShelf (W.setCell a v) S most (Grown P w W) L) : IsShelf (W.setCell a v).drew S most (Grown P w (W.setCell a v).drew) L := by
  obtain ⟨M, T, h⟩ := h.drewN 1
  have e : (W.setCell a v).drew.heap.size = W.heap.size := by show (W.setCell a v).heap.size = _; simp only [World.setCell, Array.size_modify]
  refine ⟨M, T, h.grow (fun x hx => ?_) (fun x hx => ?_)⟩
  · rcases hx with hx | hx
    · exact .inl hx
    · exact .inr ⟨hx.1, by rw [e]; exact hx.2⟩
  · refine h.lt x ?_
    rcases hx with hx | hx
    · exact .inl hx
    · exact .inr ⟨hx.1, by rw [← e]; exact hx.2⟩

set_option maxRecDepth 100000 in
set_option maxHeartbeats 8000000 in
theorem shLay_any (w : World) (S : Nat) (most : Int) (P : Nat → Prop) (L PL : List (Int × List Int)) (B : Nat) (v : Value) (h : IsShelf w S most P L) (hPL : PairsAt w B v PL) (hB : ∀ x, P x → x < B) (hm : PL.length ≤ 1000000000) (hk : ∀ p ∈ PL, 0 ≤ p.1 ∧ p.1 ≤ 18446744073709551615) :
    Calls Try.prog 69 #[.pointer (some ⟨S, 0, none⟩), v] w fun e w' =>
      ∃ res, e = .returned (.int .i64 res) ∧ LayOut most L PL res ∧ IsShelf w' S most (Grown P w w') (if res = 0 then putAll PL L else L) ∧ Wrote P w w' := by
  obtain ⟨A, c, rfl, hc1, hc2, hat⟩ := hPL.slice
  have hgr : ∀ wr, Below w.heap.size w wr → IsShelf wr S most (Grown P w wr) L := fun wr hb => by
    obtain ⟨M, T, h⟩ := h.below hb
    exact ⟨M, T, h.grow (fun x hx => .inl hx) (fun x hx => by
      rcases hx with hx | hx
      · exact h.lt x hx
      · exact hx.2)⟩
  have hnB : ∀ b, B ≤ b → ¬ P b := fun b hb hp => by have := hB b hp; omega
  have hat1 : ∀ i, i < PL.length → ∃ b off key bs vA vc, Hid (PL[i]? = some (key, bs)) ∧ A = some ⟨b, off, none⟩ ∧ B ≤ b ∧ b < w.heap.size ∧ w.cell? ⟨b, off + i * 2, none⟩ = some (.int .u64 key) ∧ w.cell? ⟨b, off + i * 2 + 1, none⟩ = some (.slice vA bs.length vc) := fun i hi => by
    obtain ⟨b, off, key, bs, vA, vc, g1, g2, g3, g4, g5, g6, _, _⟩ := hat i hi
    exact ⟨b, off, key, bs, vA, vc, g1, g2, g3, g4, g5, g6⟩
  have HAT := hid hat1
  have HGR := hid hgr
  have HNB := hid hnB
  have HAT2 := hid hat
  have H := hid h
  have HK := hid hk
  clear hat hat1 hgr hnB h hk hPL hB
  go_enter Try.func69, Try.ntmps69
  go_wp2_with fail
  -- do the keys rise?
  go_loopg [19] PL.length (fun gx si wr => ∃ i : Nat, si = .int .i64 i ∧ i ≤ PL.length ∧ PL.length - i ≤ gx ∧ Hid (∀ j p q, j + 1 < i → PL[j]? = some p → PL[j + 1]? = some q → p.1 < q.1) ∧ Hid (Below w.heap.size w wr))
  case atStart => exact ⟨0, rfl, Nat.zero_le _, Nat.le_refl _, hid (fun j _ _ h => by omega), hid (Below.refl _ _)⟩
  case round =>
    obtain ⟨i, rfl, hi, hg, HR, HW⟩ := hrel
    by_cases hlt : i < PL.length
    · have hii : (i : Int) < (PL.length : Int) := by omega
      have hwi : IntKind.i64.wrap ((i : Int) + 1) = (i : Int) + 1 := wrap_small _ (by omega) (by omega)
      obtain ⟨b, off, key, bs, vA, vc, hgi, rfl, hbB, hb, h0, h1⟩ := HAT.out i hlt
      have c0 := (HW.out.cell (p := ⟨b, off + i * 2, none⟩) hb).trans h0
      have c1 := (HW.out.cell (p := ⟨b, off + i * 2 + 1, none⟩) hb).trans h1
      clear h0 h1
      by_cases hi0 : i = 0
      · have b2 : decide ((i : Int) > 0) = false := by simp; omega
        have b2' : decide ((0 : Int) < (i : Int)) = false := by simp; omega
        have b2'' : decide (0 < i) = false := by simp; omega
        have HR2 : Hid (∀ j p q, j + 1 < i + 1 → PL[j]? = some p → PL[j + 1]? = some q → p.1 < q.1) := fun j _ _ h => by omega
        clear hgi hi0
        go_wp2_with fail
        go_quiet (fail)
        go_wp2_with fail
        go_roundg (PL.length - (i + 1))
        case measure => omega
        case rel => exact ⟨i + 1, by go_num, hlt, Nat.le_refl _, HR2, hid (below_drewN' ((HW.out).alloc HW.out.size _) _)⟩
      · obtain ⟨j, hj⟩ : ∃ j, j = i - 1 := ⟨_, rfl⟩
        obtain ⟨b', off', key0, bs0, vA0, vc0, hgj, hbe, _, _, h0, _⟩ := HAT.out j (by omega)
        obtain ⟨rfl, rfl⟩ : b = b' ∧ off = off' := by injection hbe with e; injection e with e1 e2; exact ⟨e1, e2⟩
        have d0 := (HW.out.cell (p := ⟨b, off + j * 2, none⟩) hb).trans h0
        have d1 : (wr.alloc (.cells #[.int .u64 key, .slice vA bs.length vc] 69)).cell? ⟨b, off + j * 2, none⟩ = some (.int .u64 key0) := by rw [World.cell?_alloc_lt _ _ _ (World.block_lt_of_cell? _ _ d0)]; exact d0
        have hwj : IntKind.i64.wrap ((i : Int) - 1) = (j : Int) := by rw [wrap_mid _ (by omega) (by omega)]; omega
        have hj0 : (0 : Int) ≤ (j : Int) := by omega
        have hj1 : (j : Int) < (PL.length : Int) := by omega
        have b2 : decide ((i : Int) > 0) = true := by simp; omega
        have b2' : decide ((0 : Int) < (i : Int)) = true := by simp; omega
        have b2'' : decide (0 < i) = true := by simp; omega
        have HJ := hid (show i = j + 1 by omega)
        clear h0 hbe hi0 hj
        by_cases hkk : key ≤ key0
        · have b3 : decide (key ≤ key0) = true := by simpa using hkk
          have HN : Hid (¬ Ris PL) := fun hr => by have := hr j _ _ hgj.out (by rw [← HJ.out]; exact hgi.out); simp only at this; omega
          clear hkk hgj hgi
          go_wp2_with fail
          go_quiet (fail)
          go_wp2_with fail
          refine bodyPost_ret (results_tmp rfl _ _ _) rfl ?_
          have hbw := below_drewN' (HW.out.alloc HW.out.size (.cells #[.int .u64 key, .slice vA bs.length vc] 69)) nq
          exact ⟨72, rfl, .inl ⟨HN.out, rfl⟩, HGR.out _ hbw, Wrote.below hbw⟩
        · have b3 : decide (key ≤ key0) = false := by simpa using hkk
          have HR2 : Hid (∀ j p q, j + 1 < i + 1 → PL[j]? = some p → PL[j + 1]? = some q → p.1 < q.1) := fun j' p q h hp hq => by
            rcases Nat.lt_or_ge (j' + 1) i with h1 | h1
            · exact HR.out j' p q h1 hp hq
            · have e1 : j' + 1 = i := by omega
              have e2 : j' = j := by have := HJ.out; omega
              rw [e2, hgj.out] at hp
              rw [e1, hgi.out] at hq
              cases hp; cases hq
              simp only; omega
          clear hkk hgj hgi
          go_wp2_with fail
          go_quiet (fail)
          go_wp2_with fail
          go_roundg (PL.length - (i + 1))
          case measure => omega
          case rel => exact ⟨i + 1, by go_num, hlt, Nat.le_refl _, HR2, hid (below_drewN' ((HW.out).alloc HW.out.size _) _)⟩
    · have HRIS : Hid (Ris PL) := fun j p q hp hq => HR.out j p q (by have := (List.getElem?_eq_some_iff.1 hq).1; omega) hp hq
      obtain rfl : i = PL.length := by omega
      clear HR hg hi hlt
      go_wp2_with fail
      -- are the values short?
      go_loopg [40] PL.length (fun gx si wq => ∃ i : Nat, si = .int .i64 i ∧ i ≤ PL.length ∧ PL.length - i ≤ gx ∧ Hid (∀ j p, j < i → PL[j]? = some p → p.2.length ≤ 64) ∧ Hid (Below w.heap.size w wq))
      case atStart => exact ⟨0, rfl, Nat.zero_le _, Nat.le_refl _, hid (fun j _ h => by omega), HW⟩
      case round =>
        clear HW
        obtain ⟨i, rfl, hi, hg, HR, HW⟩ := hrel
        by_cases hlt : i < PL.length
        · have hii : (i : Int) < (PL.length : Int) := by omega
          have hwi : IntKind.i64.wrap ((i : Int) + 1) = (i : Int) + 1 := wrap_small _ (by omega) (by omega)
          obtain ⟨b, off, key, bs, vA, vc, hgi, rfl, hbB, hb, h0, h1⟩ := HAT.out i hlt
          have c0 := (HW.out.cell (p := ⟨b, off + i * 2, none⟩) hb).trans h0
          have c1 := (HW.out.cell (p := ⟨b, off + i * 2 + 1, none⟩) hb).trans h1
          clear h0 h1
          by_cases hb64 : 64 < bs.length
          · have b2 : decide ((bs.length : Int) > 64) = true := by simp; omega
            have b2' : decide (64 < (bs.length : Int)) = true := by simp; omega
            have b2'' : decide (64 < bs.length) = true := by simpa using hb64
            have HN : Hid (∃ p ∈ PL, 64 < p.2.length) := ⟨_, List.mem_of_getElem? hgi.out, hb64⟩
            clear hb64 hgi
            go_wp2_with fail
            refine bodyPost_ret (results_tmp rfl _ _ _) rfl ?_
            have hbw := HW.out.alloc HW.out.size (.cells #[.int .u64 key, .slice vA bs.length vc] 69)
            exact ⟨70, rfl, .inr (.inl ⟨HRIS.out, HN.out, rfl⟩), HGR.out _ hbw, Wrote.below hbw⟩
          · have b2 : decide ((bs.length : Int) > 64) = false := by simp; omega
            have b2' : decide (64 < (bs.length : Int)) = false := by simp; omega
            have b2'' : decide (64 < bs.length) = false := by simpa using hb64
            have HR2 : Hid (∀ j p, j < i + 1 → PL[j]? = some p → p.2.length ≤ 64) := fun j p h hp => by
              rcases Nat.lt_or_ge j i with h1 | h1
              · exact HR.out j p h1 hp
              · obtain rfl : j = i := by omega
                rw [hgi.out] at hp; cases hp; simp only; omega
            clear hb64 hgi
            go_wp2_with fail
            go_roundg (PL.length - (i + 1))
            case measure => omega
            case rel => exact ⟨i + 1, by go_num, hlt, Nat.le_refl _, HR2, hid ((HW.out).alloc HW.out.size _)⟩
        · have HSH : Hid (∀ p ∈ PL, p.2.length ≤ 64) := fun p hp => by
            obtain ⟨j, hj⟩ := List.getElem?_of_mem hp
            exact HR.out j p (by have := (List.getElem?_eq_some_iff.1 hj).1; omega) hj
          obtain rfl : i = PL.length := by omega
          clear HR hg hi hlt
          go_wp2_with fail
          -- is one there?
          go_loopg [51] PL.length (fun gx si wt => ∃ i : Nat, si = .int .i64 i ∧ i ≤ PL.length ∧ PL.length - i ≤ gx ∧ Hid (∀ j p, j < i → PL[j]? = some p → ¬ There L p) ∧ Hid (Below w.heap.size w wt))
          case atStart => exact ⟨0, rfl, Nat.zero_le _, Nat.le_refl _, hid (fun j _ h => by omega), HW⟩
          case round =>
            clear HW
            obtain ⟨i, rfl, hi, hg, HR, HW⟩ := hrel
            obtain ⟨M, T, hS⟩ := H.out.below HW.out
            by_cases hlt : i < PL.length
            · have hii : (i : Int) < (PL.length : Int) := by omega
              have hwi : IntKind.i64.wrap ((i : Int) + 1) = (i : Int) + 1 := wrap_small _ (by omega) (by omega)
              obtain ⟨b, off, key, bs, vA, vc, hgi, rfl, hbB, hb, h0, h1⟩ := HAT.out i hlt
              have c0 := (HW.out.cell (p := ⟨b, off + i * 2, none⟩) hb).trans h0
              have c1 := (HW.out.cell (p := ⟨b, off + i * 2 + 1, none⟩) hb).trans h1
              have hS2 := hS.below ((Below.refl _ wr).alloc (Nat.le_refl _) (.cells #[.int .u64 key, .slice vA bs.length vc] 69))
              have e0 := hS2.c0
              have hget := fun q => TU.mapGet_any _ _ _ _ _ TU.cmp_fn ((wr.alloc (.cells #[.int .u64 key, .slice vA bs.length vc] 69)).drewN q) M T key (hS2.map.drewN q) trivial
              obtain ⟨A', c', e1, _⟩ := hS.told2 key
              rw [e1, (hS.told key).1] at hget
              have HG := hid hget
              clear h0 h1 hget hS hS2 e1
              generalize ((getL TI.cmpI key L).getD []).length = m at *
              obtain ⟨had, hhad⟩ : ∃ had, (getL TI.cmpI key L).isSome = had := ⟨_, rfl⟩
              rw [hhad] at HG
              cases had with
              | true =>
                have HN : Hid (∃ p ∈ PL, There L p) := ⟨_, List.mem_of_getElem? hgi.out, hhad⟩
                clear hgi hhad
                go_wp2_with fail
                go_quiet (refine Calls.quiet_of (HG.out _))
                go_wp2_with fail
                refine bodyPost_ret (results_tmp rfl _ _ _) rfl ?_
                have hbw := below_drewN' (HW.out.alloc HW.out.size (.cells #[.int .u64 key, .slice vA bs.length vc] 69)) nq
                exact ⟨73, rfl, .inr (.inr (.inl ⟨HRIS.out, HSH.out, HN.out, rfl⟩)), HGR.out _ hbw, Wrote.below hbw⟩
              | false =>
                have HR2 : Hid (∀ j p, j < i + 1 → PL[j]? = some p → ¬ There L p) := fun j p h hp => by
                  rcases Nat.lt_or_ge j i with h1 | h1
                  · exact HR.out j p h1 hp
                  · obtain rfl : j = i := by omega
                    rw [hgi.out] at hp; cases hp; unfold There; simp only; rw [hhad]; simp
                clear hgi hhad
                go_wp2_with fail
                go_quiet (refine Calls.quiet_of (HG.out _))
                go_wp2_with fail
                go_roundg (PL.length - (i + 1))
                case measure => omega
                case rel => exact ⟨i + 1, by go_num, hlt, Nat.le_refl _, HR2, hid (below_drewN' ((HW.out).alloc HW.out.size _) _)⟩
            · have HNT : Hid (∀ p ∈ PL, ¬ There L p) := fun p hp => by
                obtain ⟨j, hj⟩ := List.getElem?_of_mem hp
                exact HR.out j p (by have := (List.getElem?_eq_some_iff.1 hj).1; omega) hj
              obtain rfl : i = PL.length := by omega
              have e1 := hS.c1
              have hlen := fun q => shLen_any (wr.drewN q) S most P L ((H.out.below HW.out).drewN q)
              have HLEN := hid hlen
              have hfew := H.out.few
              have hwl : IntKind.i64.wrap ((L.length : Int) + (PL.length : Int)) = (L.length : Int) + (PL.length : Int) := wrap_small _ (by omega) (by omega)
              clear HR hg hi hlt hS hlen hfew
              by_cases hroom : most < (L.length : Int) + PL.length
              · have b2 : decide ((L.length : Int) + (PL.length : Int) > most) = true := by simpa using hroom
                have b2' : decide (most < (L.length : Int) + (PL.length : Int)) = true := by simpa using hroom
                have HRM := hid hroom
                clear hroom
                go_wp2_with fail
                go_quiet (refine Calls.quiet_of_same (HLEN.out _))
                go_wp2_with fail
                refine bodyPost_ret (results_tmp rfl _ _ _) rfl ?_
                have hbw := below_drewN' HW.out nq
                exact ⟨71, rfl, .inr (.inr (.inr (.inl ⟨HRIS.out, HSH.out, HNT.out, HRM.out, rfl⟩))), HGR.out _ hbw, Wrote.below hbw⟩
              · have b2 : decide ((L.length : Int) + (PL.length : Int) > most) = false := by simpa using hroom
                have b2' : decide (most < (L.length : Int) + (PL.length : Int)) = false := by simpa using hroom
                have HRM : Hid ((L.length : Int) + PL.length ≤ most) := by show _ ≤ _; omega
                clear hroom
                go_wp2_with fail
                go_quiet (refine Calls.quiet_of_same (HLEN.out _))
                go_wp2_with fail
                -- all are laid in
                go_loopg [79] PL.length (fun gx si wx => ∃ i : Nat, si = .int .i64 i ∧ i ≤ PL.length ∧ PL.length - i ≤ gx ∧ Hid (IsShelf wx S most (Grown P w wx) (putAll (PL.take i) L)) ∧ Hid (Wrote P w wx))
                case atStart =>
                  have hbw := below_drewN' HW.out nq
                  exact ⟨0, rfl, Nat.zero_le _, Nat.le_refl _, hid (HGR.out _ hbw), hid (Wrote.below hbw)⟩
                case round =>
                  clear HW HLEN e1
                  obtain ⟨i, rfl, hi, hg, HI, HW⟩ := hrel
                  by_cases hlt : i < PL.length
                  · have hii : (i : Int) < (PL.length : Int) := by omega
                    have hwi : IntKind.i64.wrap ((i : Int) + 1) = (i : Int) + 1 := wrap_small _ (by omega) (by omega)
                    obtain ⟨b, off, key, bs, vA, vc, hgi, rfl, hbB, hb, h0, h1, hvr, h255⟩ := HAT2.out i hlt
                    have c0 := HW.out.cell (p := ⟨b, off + i * 2, none⟩) (HNB.out b hbB) h0
                    have c1 := HW.out.cell (p := ⟨b, off + i * 2 + 1, none⟩) (HNB.out b hbB) h1
                    obtain ⟨L', hL'⟩ : ∃ L', L' = putAll (PL.take i) L := ⟨_, rfl⟩
                    have hLn : putAll (PL.take (i + 1)) L = putL TI.cmpI key bs L' := by rw [take_snoc' hgi, putAll_snoc, hL']
                    have hup := H.out.up
                    have hbs64 : bs.length ≤ 64 := HSH.out _ (List.mem_of_getElem? hgi)
                    have hkk := HK.out _ (List.mem_of_getElem? hgi)
                    have hpw := ris_lt HRIS.out
                    have htk : (PL.take i).length = i := by rw [List.length_take]; omega
                    have hlen' : L'.length = L.length + i := by
                      rw [hL', putAll_len hup (hpw.sublist (List.take_sublist _ _)) (fun p hp => HNT.out p (List.mem_of_mem_take hp)), htk]
                    have hnt : (getL TI.cmpI key L').isSome = false := by
                      have h1 : ¬ There L' (key, bs) := by
                        rw [hL', there_all hup]
                        · exact HNT.out _ (List.mem_of_getElem? hgi)
                        · intro q hq
                          obtain ⟨j, hj⟩ := List.getElem?_of_mem hq
                          rw [List.getElem?_take] at hj
                          split at hj
                          · rename_i hji
                            have h5 := (List.pairwise_iff_getElem.1 hpw) j i (by omega) hlt hji
                            rw [(List.getElem?_eq_some_iff.1 hj).2, (List.getElem?_eq_some_iff.1 hgi).2] at h5
                            simp only at h5 ⊢
                            omega
                          · cases hj
                      unfold There at h1
                      simpa using h1
                    have hroom : (L'.length : Int) < most := by have := HRM.out; omega
                    obtain ⟨wA, hwA⟩ : ∃ wA, wA = wr.alloc (.cells #[.int .u64 key, .slice vA bs.length vc] 69) := ⟨_, rfl⟩
                    have hbA : Below wr.heap.size wr wA := by rw [hwA]; exact (Below.refl _ wr).alloc (Nat.le_refl _) _
                    have hbox : wA.heap[wr.heap.size]? = some (.cells #[.int .u64 key, .slice vA bs.length vc] 69 (0, 0)) := by rw [hwA]; exact World.alloc_heap_new wr _
                    have hsA : wA.heap.size = wr.heap.size + 1 := by rw [hwA]; simp
                    have hI := HI.out
                    rw [← hL'] at hI
                    obtain ⟨M, T, hS⟩ := hI
                    have hSA := hS.below hbA
                    have e0 := hSA.c0
                    have e2 := hSA.c2
                    have e3 := hSA.fz
                    have htot := hSA.tot
                    have hsum := total_put TI.cmpI key bs L'
                    have hgn : getL TI.cmpI key L' = none := by cases hx : getL TI.cmpI key L' with
                      | none => rfl
                      | some _ => rw [hx] at hnt; cases hnt
                    rw [hgn] at hsum
                    simp only [Option.getD_none, List.length_nil, Nat.add_zero] at hsum
                    have hwt : IntKind.i64.wrap ((total L' : Int) + (bs.length : Int)) = ((total (putL TI.cmpI key bs L') : Nat) : Int) := by rw [wrap_mid _ (by omega) (by omega)]; omega
                    have hrowA : wA.drew.ownsRow B 5 1 (TU.ev (vA, bs.length, vc)) bs.length (bs.flatMap u8s) :=
                      ownsRow_wrote hvr ((Wrote.step HW.out (Wrote.below (S := fun _ => False) hbA) (fun _ h => h.elim)).drew) (fun g hg hx => HNB.out g (hvr.lt g hg).1 hx)
                    obtain ⟨vA', vc', e4, hvn, hU⟩ := ownsRow_ev hrowA
                    obtain ⟨rfl, rfl⟩ : vA = vA' ∧ vc = vc' := by
                      injection e4 with e5 e6
                      injection e6 with _ e7
                      exact ⟨e5, e7⟩
                    have hcl := clone_below (w := wA) (below_drewN' (Below.refl _ wA) 1) (clone_any wA.drew vA bs.length vc bs rfl (by omega) hvn hU)
                    have hput : ∀ (W3 : World) (v : TU.SV), Below wA.heap.size wA W3 → Calls Try.prog 96 #[.pointer (some ⟨M, 0, none⟩), .int .u64 key, .slice v.1 v.2.1 v.2.2] W3 fun e w' =>
                        ∃ nb v', W3.heap.size ≤ nb ∧ e = .returned v' ∧ TU.IsMap w' M 134 #[] (Tr.put TI.cmpI key v nb T) ∧ Wrote (fun x => x = M ∨ x ∈ T.blocks) W3 w' := fun W3 v hb => by
                      have := TU.mapPut_any _ _ _ _ _ TU.cmp_fn W3 M T key v (hSA.map.below hb) (by have := hSA.many; omega) trivial (fun _ _ => id) id
                      exact this.mono (by rintro e w' ⟨nb, g1, g2, g3, g4, _⟩; exact ⟨nb, _, g1, g2, g3, g4⟩)
                    have hset := fun W3 W4 nb v hb hv hnb hM hw => hSA.set (W2 := W3) (W3 := W4) (nb := nb) (v := v) (key := key) (bs := bs) hb hv h255 hbs64 hkk hnb hM hw (.inr hroom)
                    have hafter : ∀ W3 W4 nb (v : TU.SV), Below wA.heap.size wA W3 → W3.ownsRow wA.heap.size 5 1 (TU.ev v) bs.length (bs.flatMap u8s) → W3.heap.size ≤ nb → TU.IsMap W4 M 134 #[] (Tr.put TI.cmpI key v nb T) → Wrote (fun x => x = M ∨ x ∈ T.blocks) W3 W4 →
                        W4.cell? ⟨S, 2, none⟩ = some (.int .i64 (total L' : Nat)) ∧ W4.frozen? ⟨S, 2, none⟩ = false ∧ W4.cell? ⟨wr.heap.size, 1, none⟩ = some (.slice vA bs.length vc) ∧ W4.cell? ⟨S, 0, none⟩ = some (.pointer (some ⟨M, 0, none⟩)) ∧ W4.cell? ⟨wr.heap.size, 0, none⟩ = some (.int .u64 key) ∧
                        Hid (IsShelf (W4.setCell ⟨S, 2, none⟩ (.int .i64 (total (putL TI.cmpI key bs L') : Nat))) S most (Grown P w W4) (putAll (PL.take (i + 1)) L)) ∧ Hid (Wrote P w (W4.setCell ⟨S, 2, none⟩ (.int .i64 (total (putL TI.cmpI key bs L') : Nat)))) := by
                      intro W3 W4 nb v hb hv hnb hM hw
                      have hn : ¬ (S = M ∨ S ∈ T.blocks) := by
                        rintro (e | e)
                        · exact hS.sm e
                        · exact hS.st e
                      have hn2 : ¬ (wr.heap.size = M ∨ wr.heap.size ∈ T.blocks) := by
                        rintro (e | e)
                        · have := hS.lt M hS.pM; omega
                        · have := hS.lt _ (hS.pT _ e); omega
                      have hSl := hSA.lt S hSA.pS
                      obtain ⟨hs1, hs2⟩ := hset W3 W4 nb v hb hv hnb hM hw
                      have hz3 := hb.size
                      have hz4 := hw.size
                      have hzr := HW.out.size
                      refine ⟨hw.cell (p := ⟨S, 2, none⟩) hn (later hb e2), (hw.fz ⟨S, 2, none⟩ (Nat.lt_of_lt_of_le hSl hz3)).trans ((hb.frozen (p := ⟨S, 2, none⟩) hSl).trans e3), hw.cell (p := ⟨wr.heap.size, 1, none⟩) hn2 (later hb (show wA.cell? ⟨wr.heap.size, 1, none⟩ = _ by simp [World.cell?, hbox])), hw.cell (p := ⟨S, 0, none⟩) hn (later hb e0), hw.cell (p := ⟨wr.heap.size, 0, none⟩) hn2 (later hb (show wA.cell? ⟨wr.heap.size, 0, none⟩ = _ by simp [World.cell?, hbox])), hid ⟨M, Tr.put TI.cmpI key v nb T, ?_⟩, hid ?_⟩
                      · rw [hLn]
                        refine hs1.grow (fun x hx => ?_) (fun x hx => ?_)
                        · rcases hx with (hx | hx) | hx
                          · exact .inl hx
                          · exact .inr ⟨hx.1, by omega⟩
                          · exact .inr ⟨by omega, by omega⟩
                        · have hsz5 : (W4.setCell ⟨S, 2, none⟩ (.int .i64 (total (putL TI.cmpI key bs L') : Nat))).heap.size = W4.heap.size := by simp only [World.setCell, Array.size_modify]
                          rw [hsz5]
                          rcases hx with hx | hx
                          · have := H.out.lt x hx; omega
                          · exact hx.2
                      · refine Wrote.step (Wrote.step HW.out (Wrote.below (S := fun _ => False) hbA) (fun _ h => h.elim)) hs2 (fun x hx => ?_)
                        rcases hx with hx | hx
                        · exact .inl hx
                        · exact .inr hx.1
                    have HCL := hid hcl
                    have HPUT := hid hput
                    have HAF := hid hafter
                    have HWA := hid hwA
                    have HBX := hid hbox
                    clear h0 h1 hvr h255 hgi hL' hLn hup hbs64 hkk hpw htk hlen' hnt hroom hsum hgn hrowA e4 hvn hU hcl hput hset hafter hS hSA hwA hbox hbA hsA htot e2 e3
                    go_wp2_with fail
                    rw [← HWA.out]
                    have x0 : wA.cell? ⟨wr.heap.size, 0, none⟩ = some (.int .u64 key) := by simp [World.cell?, HBX.out]
                    have x1 : wA.cell? ⟨wr.heap.size, 1, none⟩ = some (.slice vA bs.length vc) := by simp [World.cell?, HBX.out]
                    go_region_held3 (fun w' => w'.cell? ⟨S, 0, none⟩ = some (.pointer (some ⟨M, 0, none⟩)) ∧ w'.cell? ⟨wr.heap.size, 0, none⟩ = some (.int .u64 key) ∧ w'.cell? ⟨wr.heap.size, 1, none⟩ = some (.slice vA bs.length vc)) (first | (refine ⟨?_, ?_, ?_⟩ <;> assumption) | go_keep)
                      (first
                      | (go_at_call 94; refine HCL.out.mono ?_; rintro e W3 ⟨vA3, vc3, rfl, hv3, hb3⟩; have d1 := later hb3 e0; have d2 : W3.cell? ⟨wr.heap.size, 0, none⟩ = some (.int .u64 key) := later hb3 x0; have d3 := later hb3 x1; have HB3 := hid hb3; have HV3 := hid hv3; clear hv3 hb3)
                      | (go_at_call 96; refine (HPUT.out _ (vA3, bs.length, vc3) HB3.out).mono ?_; rintro e W4 ⟨nb, v', hnb, rfl, hM4, hw4⟩
                         obtain ⟨g1, g2, g3, g4, g5, G4, G5⟩ := HAF.out W3 W4 nb (vA3, bs.length, vc3) HB3.out HV3.out hnb hM4 hw4
                         clear hM4 hw4 hnb))
                    all_goals
                      go_wp2_with fail
                      go_still_tail 10, (by kernel_rfl)
                      change wpList _ _ _ _ _ (World.drew W4)
                      go_wp2_with fail
                      go_roundg (PL.length - (i + 1))
                      case measure => omega
                      case rel => exact ⟨i + 1, by go_num, hlt, Nat.le_refl _, hid (lay_end G4.out), hid (G5.out.drewN 1)⟩
                  · have hfin : Hid (IsShelf wr S most (Grown P w wr) (putAll PL L)) := by have := HI.out; rw [List.take_of_length_le (by omega)] at this; exact this
                    go_wp2_with fail
                    refine bodyPost_ret (results_tmp rfl _ _ _) rfl ?_
                    exact ⟨0, rfl, .inr (.inr (.inr (.inr ⟨HRIS.out, HSH.out, HNT.out, HRM.out, rfl⟩))), hfin.out, HW.out⟩
end Go.Proofs.Ytfjeagffdijcoaa
