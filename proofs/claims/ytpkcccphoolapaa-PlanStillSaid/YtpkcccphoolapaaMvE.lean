/- Layer 15: the program's Moves: what it answers; up to its first loop. -/
import Derived.Test.YtpkcccphoolapaaMvC
import Derived.Test.YtpkcccphoolapaaMvD
import Derived.Test.YtpkcccphoolapaaAssignP
import Derived.Test.YtpkcccphoolapaaLoads
namespace Go.Proofs.Ytpkcccphoolapaa
open Go.RowKit

abbrev OwnMoves (w : World) (base : Nat) (v : Value) (l : List MoveL) : Prop := w.ownsRow base 62 5 v l.length (l.flatMap encMove)
theorem infoMove : (Try.prog.info? 62).map (fun i => (i.zero, i.size, i.bytes)) = some (some (.agg #[.int .u8 0, .int .u8 0, .int .u64 0, .int .u64 0, .int .i64 0]), 5, 32) := by kernel_rfl

/-- how many each host is to have -/
def wantL (H : Nat) (l : List Seg) (ks : List Int) (h : Nat) : Int := targetL (countsOf H l ks) h
open Classical in
/-- what Moves answers -/
noncomputable def movesOf (hosts : Int) (l : List Seg) (ks : List Int) (most : Int) : Int × List MoveL :=
  if ¬ (1 ≤ hosts ∧ hosts ≤ 16 ∧ 1 ≤ most ∧ most ≤ 32) then (2, [])
  else if LayOk hosts l ks then (0, (movesL hosts.toNat most ks (wantL hosts.toNat (Rng.loadL l 8192).2 ks) (ks.length + 1) (Rng.loadL l 8192).2).1) else (151, [])

theorem countsOf_get {H : Nat} {l : List Seg} {ks : List Int} {h : Nat} (hh : h < H) : (countsOf H l ks)[h]? = some (cntH l ks (h : Int)) := by simp [countsOf, cntH, hh]
theorem cntH_range (l : List Seg) (ks : List Int) (h : Int) : 0 ≤ cntH l ks h ∧ cntH l ks h ≤ ks.length := by
  unfold cntH
  have := List.countP_le_length (p := fun key => decide (hostOf l key = h)) (l := ks)
  omega
theorem counts_good {H : Nat} {l : List Seg} {ks : List Int} (h1 : 1 ≤ H) (h2 : H ≤ 16) (hk : ks.length ≤ 1073741824) : goodLoads (countsOf H l ks) = true := by
  unfold goodLoads
  rw [decide_eq_true_iff, countsOf_len]
  refine ⟨h1, h2, fun x hx => ?_⟩
  obtain ⟨i, hi⟩ := List.mem_iff_getElem?.1 hx
  have hiH : i < H := by have := (List.getElem?_eq_some_iff.1 hi).1; rwa [countsOf_len] at this
  rw [countsOf_get hiH] at hi
  obtain rfl := Option.some.inj hi
  have := cntH_range l ks (i : Int)
  unfold okLoad; omega
theorem targets_get {l : List Int} {h : Nat} (hh : h < l.length) : (targets l)[h]? = some (targetL l h) := by simp [targets, hh]
theorem targets_len (l : List Int) : (targets l).length = l.length := by simp [targets]
theorem target_range {l : List Int} (hg : goodLoads l = true) (h : Nat) : 0 ≤ targetL l h ∧ targetL l h ≤ 17179869185 := by
  have h1 := total_bound hg
  obtain ⟨h2, h3⟩ := div_facts (n := l.length) h1.1 h1.2 (goodLoads_iff hg).1
  unfold targetL
  split <;> omega

/-- a side and one more -/
theorem SideAt.append {W w6 : World} {B Hb c : Nat} {A : Option Addr} {l : List Sd} {y : Sd} {v6 : Value} (h : SideAt W B Hb A c l) (hown : w6.ownsRow B 102 2 v6 (l ++ [y]).length ((l ++ [y]).flatMap sdE))
    (hgr : W.grownBy w6 (Value.slice A l.length c).ownBlock) (hat : v6.ownBlock = (Value.slice A l.length c).ownBlock ∨ ∃ b, v6.ownBlock = some b ∧ W.heap.size ≤ b) :
    ∃ A6 c6, v6 = .slice A6 (l.length + 1) c6 ∧ SideAt (w6.setCell ⟨Hb, 0, none⟩ (.slice A6 (l.length + 1) c6)) B Hb A6 c6 (l ++ [y]) ∧ (∀ k, A6.map Addr.block = some k → A.map Addr.block = some k ∨ W.heap.size ≤ k) ∧
      w6.cell? ⟨Hb, 0, none⟩ = some (.slice A l.length c) ∧ w6.frozen? ⟨Hb, 0, none⟩ = false ∧
      (∀ k, k < W.heap.size → k ≠ Hb → A.map Addr.block ≠ some k → (w6.setCell ⟨Hb, 0, none⟩ (.slice A6 (l.length + 1) c6)).heap[k]? = W.heap[k]?) ∧ W.heap.size ≤ w6.heap.size := by
  have e : (l ++ [y]).length = l.length + 1 := by simp
  obtain ⟨_, A6, c6, rfl, _, _, _⟩ := owns_reads (l := l ++ [y]) sdE_len hown (by decide)
  rw [SideAt.ownBlock_eq, SideAt.ownBlock_eq] at hat
  rw [SideAt.ownBlock_eq] at hgr
  rw [e] at hown ⊢
  have hlt := h.lt
  have hHb : w6.heap[Hb]? = W.heap[Hb]? := hgr.block Hb hlt (fun e => h.ne e.symm)
  have hne6 : A6.map Addr.block ≠ some Hb := by
    intro e2
    rcases hat with e3 | ⟨b, e3, hb⟩
    · exact h.ne (e3.symm.trans e2)
    · rw [e2] at e3; injection e3 with e3; omega
  refine ⟨A6, c6, rfl, ⟨?_, ?_, hne6, h.hB⟩, fun k hk => ?_, ?_, ?_, fun k hk h1 h2 => ?_, hgr.size⟩
  · rw [e]; exact heap_setCell_at _ (hHb.trans h.box)
  · rw [e]
    refine ⟨hown.1, hown.2.imp id fun ⟨g, cap, cur, e1, e2, e3, e4⟩ => ⟨g, cap, cur, e1, e2, ?_, e4⟩⟩
    rw [Below.heap_setCell _ _ _ _ (fun e5 => hne6 (by injection e1 with e1; rw [e1]; show some g = some Hb; rw [e5]))]
    exact e3
  · rcases hat with e3 | ⟨b, e3, hb⟩
    · exact .inl (e3.symm.trans hk)
    · rw [hk] at e3; injection e3 with e3; exact .inr (by omega)
  · exact (World.cell?_of_block (a := ⟨Hb, 0, none⟩) hHb).trans h.c0
  · exact (World.frozen?_of_block (a := ⟨Hb, 0, none⟩) hHb).trans h.fz0
  · exact (Below.heap_setCell _ _ _ _ h1).trans (hgr.block k hk (fun e => h2 e.symm))

theorem SideAt.drewS {W : World} {B Hb c : Nat} {A : Option Addr} {l : List Sd} (h : SideAt W B Hb A c l) (q : Nat) : SideAt (W.drewN q) B Hb A c l := ⟨h.box, h.row, h.ne, h.hB⟩

/-- two sides that share nothing -/
structure Apart (Hb1 Hb2 : Nat) (A1 A2 : Option Addr) : Prop where
  h12 : Hb1 ≠ Hb2
  a1 : A1.map Addr.block ≠ some Hb2
  a2 : A2.map Addr.block ≠ some Hb1
  aa : ∀ k, A1.map Addr.block = some k → A2.map Addr.block ≠ some k
theorem Apart.symm {Hb1 Hb2 : Nat} {A1 A2 : Option Addr} (h : Apart Hb1 Hb2 A1 A2) : Apart Hb2 Hb1 A2 A1 := ⟨Ne.symm h.h12, h.a2, h.a1, fun k h1 h2 => h.aa k h2 h1⟩
/-- the first one grew -/
theorem Apart.grow {W : World} {B Hb1 Hb2 c2 : Nat} {A1 A2 A6 : Option Addr} {l2 : List Sd} (h : Apart Hb1 Hb2 A1 A2) (h2 : SideAt W B Hb2 A2 c2 l2) (hk : ∀ k, A6.map Addr.block = some k → A1.map Addr.block = some k ∨ W.heap.size ≤ k) : Apart Hb1 Hb2 A6 A2 :=
  ⟨h.h12, fun e => by rcases hk _ e with e2 | e2
                      · exact h.a1 e2
                      · have := h2.lt; omega, h.a2, fun k e1 e2 => by
    rcases hk _ e1 with e3 | e3
    · exact h.aa k e3 e2
    · have := (h2.blk e2).2; omega⟩

theorem own_keep {w w' : World} {B n : Nat} {e : TypeId} {size : Nat} {v : Value} {xs : List Value} (h : w.ownsRow B e size v n xs) (hk : ∀ g, v.ownBlock = some g → w'.heap[g]? = w.heap[g]?) : w'.ownsRow B e size v n xs :=
  ⟨h.1, h.2.imp id fun ⟨g, cap, cur, e1, e2, e3, e4⟩ => ⟨g, cap, cur, e1, e2, (hk g (by rw [e1]; rfl)).trans e3, e4⟩⟩
theorem own_under {w w' : World} {B n : Nat} {e : TypeId} {size : Nat} {v : Value} {xs : List Value} (h : w.ownsRow B e size v n xs) (hb : Below w.heap.size w w') : w'.ownsRow B e size v n xs :=
  own_keep h fun g hg => hb.block g (h.lt g hg).2
theorem reads_keep {α : Type} {B : Nat} {w w' : World} {enc : α → List Value} {sz b o : Nat} {l : List α} (h : Reads B w enc sz (some ⟨b, o, none⟩) l) (hk : w'.heap[b]? = w.heap[b]?) : Reads B w' enc sz (some ⟨b, o, none⟩) l := by
  rcases h with h | ⟨b', o', e, hb, hc⟩
  · exact .inl h
  · refine .inr ⟨b', o', e, hb, fun i u hu j v hv => ?_⟩
    have : b = b' := by injection e with e; injection e
    subst this
    exact (World.cell?_of_block (a := ⟨b, o' + i * sz + j, none⟩) hk).trans (hc i u hu j v hv)

/-- a row of segments that is somebody's own: where it lies -/
theorem own_segs {w : World} {B : Nat} {v : Value} {l : List Seg} (h : OwnSegs w B v l) (hl : 0 < l.length) : ∃ g c, v = .slice (some ⟨g, 0, none⟩) l.length c ∧ (B ≤ g ∧ g < w.heap.size) ∧ Segs w.heap.size w (some ⟨g, 0, none⟩) l ∧ l.length ≤ c := by
  obtain ⟨_, A, c, rfl, h1, _, hR⟩ := owns_reads encSeg_len h (by decide)
  rcases h.2 with ⟨_, e⟩ | ⟨g, cap, cur, e, h2, h3, _⟩
  · omega
  · injection e with e1
    subst e1
    exact ⟨g, c, rfl, ⟨h2, (Array.getElem?_eq_some_iff.1 h3).1⟩, hR, h1⟩
theorem movesL_none {H : Nat} {most : Int} {ks : List Int} {want : Nat → Int} {l : List Seg} (h : best H (overL ks want l) = none ∨ best H (fun h => - overL ks want l h) = none) (f : Nat) : movesL H most ks want f l = ([], l) := by
  have e : moveStep H most ks want l = none := by
    unfold moveStep
    rcases h with h | h
    · rw [h]
    · rw [h]; cases best H (overL ks want l) <;> rfl
  cases f with
  | zero => rfl
  | succ f => unfold movesL; rw [e]

theorem cut_dst (ks : List Int) (s : Seg) (h t n : Int) : cutMove ks s h 0 n = ⟨h, 0, (cutMove ks s h t n).lo, (cutMove ks s h t n).hi, (cutMove ks s h t n).pairs⟩ ∧ cutMove ks s h t n = ⟨h, t, (cutMove ks s h t n).lo, (cutMove ks s h t n).hi, (cutMove ks s h t n).pairs⟩ := by
  unfold cutMove
  split <;> exact ⟨rfl, rfl⟩

/-- two new boxes, each with a side -/
def BoxesAt (wr wc : World) (x y : Sd) (a b : Value) : Prop :=
  ∃ p q : Nat, a = .pointer (some ⟨p, 0, none⟩) ∧ b = .pointer (some ⟨q, 0, none⟩) ∧ p < wc.heap.size ∧ q < wc.heap.size ∧ wc.cell? ⟨p, 0, none⟩ = some (.int .i64 x.1) ∧ wc.cell? ⟨p, 1, none⟩ = some (.int .i64 x.2) ∧ wc.cell? ⟨q, 0, none⟩ = some (.int .i64 y.1) ∧ wc.cell? ⟨q, 1, none⟩ = some (.int .i64 y.2) ∧ Below wr.heap.size wr wc
theorem two_boxes (wr : World) (x y : Sd) : BoxesAt wr (((wr.alloc (.cells #[.int .i64 x.1, .int .i64 x.2] 102)).alloc (.cells #[.int .i64 y.1, .int .i64 y.2] 102)).drew) x y (.pointer (some ⟨wr.heap.size, 0, none⟩)) (.pointer (some ⟨wr.heap.size + 1, 0, none⟩)) ∧
    BoxesAt wr (((wr.alloc (.cells #[.int .i64 x.1, .int .i64 x.2] 102)).alloc (.cells #[.int .i64 y.1, .int .i64 y.2] 102)).drew) y x (.pointer (some ⟨wr.heap.size + 1, 0, none⟩)) (.pointer (some ⟨wr.heap.size, 0, none⟩)) := by
  have r1 := Row.new wr [.int .i64 x.1, .int .i64 x.2] 102
  have r2 := Row.new (wr.alloc (.cells #[.int .i64 x.1, .int .i64 x.2] 102)) [.int .i64 y.1, .int .i64 y.2] 102
  have hb := (Below.refl (wr.alloc (.cells #[.int .i64 x.1, .int .i64 x.2] 102)).heap.size (wr.alloc (.cells #[.int .i64 x.1, .int .i64 x.2] 102))).alloc (Nat.le_refl _) (.cells #[.int .i64 y.1, .int .i64 y.2] 102)
  have hB : Below wr.heap.size wr (((wr.alloc (.cells #[.int .i64 x.1, .int .i64 x.2] 102)).alloc (.cells #[.int .i64 y.1, .int .i64 y.2] 102)).drew) := below_drewT (((Below.refl _ wr).alloc (Nat.le_refl _) _).alloc (by simp) _) 1
  have es : (wr.alloc (.cells #[.int .i64 x.1, .int .i64 x.2] 102)).heap.size = wr.heap.size + 1 := by simp
  have hs : (((wr.alloc (.cells #[.int .i64 x.1, .int .i64 x.2] 102)).alloc (.cells #[.int .i64 y.1, .int .i64 y.2] 102)).drew).heap.size = wr.heap.size + 2 := by show (World.alloc _ _).heap.size = _; simp
  have a0 := (hb.cell (p := ⟨wr.heap.size, 0, none⟩) (by simp)).trans (r1.2 0 _ rfl)
  have a1 := (hb.cell (p := ⟨wr.heap.size, 1, none⟩) (by simp)).trans (r1.2 1 _ rfl)
  have b0 := r2.2 0 _ rfl
  have b1 := r2.2 1 _ rfl
  rw [es] at b0 b1
  exact ⟨⟨_, _, rfl, rfl, by omega, by omega, a0, a1, b0, b1, hB⟩, ⟨_, _, rfl, rfl, by omega, by omega, b0, b1, a0, a1, hB⟩⟩

/-- what holds between two moves -/
structure RunSt (w3 wr : World) (H : Nat) (most : Int) (ks : List Int) (want : Nat → Int) (L0 : List Seg) (A1 : Option Addr) (c1 : Nat) (A2 : Option Addr) (c2 f : Nat) (L : List Seg) (gl tl : List Sd) (out : List MoveL) (lb lo : Nat) (oA : Option Addr) (oc : Nat) : Prop where
  tab : TabOk H L
  segs : Segs wr.heap.size wr (some ⟨lb, lo, none⟩) L
  sz : L.length ≤ 8192 + 2 * out.length
  fuel : out.length + f = ks.length + 1
  more : overSum H (overL ks want L) < f
  all : (movesL H most ks want (ks.length + 1) L0).1 = out ++ (movesL H most ks want f L).1
  g : SideAt wr w3.heap.size w3.heap.size A1 c1 gl
  t : SideAt wr w3.heap.size (w3.heap.size + 1) A2 c2 tl
  gp : gl.Perm (gvK (overL ks want L) H)
  tp : tl.Perm (gvK (fun h => - overL ks want L h) H)
  gh : HeapFrom gl 0 gl.length
  th : HeapFrom tl 0 tl.length
  out : OwnMoves wr w3.heap.size (.slice oA out.length oc) out
  bel : Below w3.heap.size w3 wr
  safeL : lb ≠ w3.heap.size ∧ lb ≠ w3.heap.size + 1 ∧ A1.map Addr.block ≠ some lb ∧ A2.map Addr.block ≠ some lb ∧ oA.map Addr.block ≠ some lb
  safeO : ∀ k, oA.map Addr.block = some k → k ≠ w3.heap.size ∧ k ≠ w3.heap.size + 1 ∧ A1.map Addr.block ≠ some k ∧ A2.map Addr.block ≠ some k
end Go.Proofs.Ytpkcccphoolapaa
