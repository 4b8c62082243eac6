/- Layer 6: the iterator of Within: its contract. -/
import Derived.Test.YtpkcccphoolapaaWithin
namespace Go.Proofs.Ytpkcccphoolapaa
open Go.RowKit Go.Shelf

attribute [local go_sem] Oper.semAt_some

/-- these blocks lie as they lay -/
def KeepsP (P : Nat → Prop) (W W' : World) : Prop := ∀ k, P k → W'.heap[k]? = W.heap[k]?
theorem keepsP_t {P : Nat → Prop} {A B C : World} (h : KeepsP P A B) (k : KeepsP P B C) : KeepsP P A C := fun i hi => (k i hi).trans (h i hi)
theorem keepsP_of_below {P : Nat → Prop} {n : Nat} (hP : ∀ k, P k → k < n) {A B : World} (h : Below n A B) : KeepsP P A B := fun k hk => h.block k (hP k hk)
theorem keepsP_b {P : Nat → Prop} {w : World} (hP : ∀ k, P k → k < w.heap.size) (W : World) (l : Nat) (o o' : Obj) (hl : w.heap.size ≤ l) (h : W.heap[l]? = some o) (h1 : o.isCells = false) (h2 : o.isWalk = false) : KeepsP P W (W.putObj l o') :=
  keepsP_of_below hP (belowK_b (Nat.le_refl _) W l o o' hl h h1 h2)

/-- a segment, cut to a range -/
def cutTo (lo hi : Int) (s : Seg) : Seg := ⟨if lo > s.lo then lo else s.lo, if hi < s.hi then hi else s.hi, s.host⟩

theorem segs_kept {W W' : World} {B b off : Nat} {zs : List Seg} (h : Segs B W (some ⟨b, off, none⟩) zs) (hk : W'.heap[b]? = W.heap[b]?) : Segs B W' (some ⟨b, off, none⟩) zs := by
  rcases h with h2 | ⟨b', off', e, h3, h4⟩
  · exact .inl h2
  · cases e
    exact .inr ⟨b, off, rfl, h3, fun i x hx j v hv => (World.cell?_of_block (w := W) hk).trans (h4 i x hx j v hv)⟩

theorem IsIter.kept {P : Nat → Prop} {W W' : World} {S Lo Hi b : Nat} {lo hi : Int} {zs : List Seg} (h : IsIter W S Lo Hi b lo hi zs) (hk : KeepsP P W W') (pS : P S) (pL : P Lo) (pH : P Hi) (pb : P b) : IsIter W' S Lo Hi b lo hi zs := by
  obtain ⟨off, c, h1, h2⟩ := h.sl
  refine ⟨⟨off, c, (World.cell?_of_block (w := W) (hk S pS)).trans h1, ?_⟩, (World.cell?_of_block (w := W) (hk Lo pL)).trans h.lo, (World.cell?_of_block (w := W) (hk Hi pH)).trans h.hi⟩
  exact segs_kept h2 (hk b pb)

set_option maxRecDepth 100000 in
set_option maxHeartbeats 4000000 in
theorem iter_in (F : Fence) (n : Nat) (h41 : F.fn 97) (hro : F.round = none) (hn : 1 ≤ n) (l S Lo Hi b : Nat) (P : Nat → Prop) (pS : P S) (pL : P Lo) (pH : P Hi) (pb : P b) (lo hi : Int) (zs : List Seg) (hlen : zs.length ≤ 1000000000)
    (J Jx : List Seg → World → Prop) (w0 : World) (hJ : AbidesFrom w0.heap.size J) (hP : ∀ k, P k → k < w0.heap.size)
    (hY : ∀ pre x W, J pre W → pre.length < zs.length → YieldAt F (n - 1) Try.prog l #[.agg #[.int .u64 x.lo, .int .u64 x.hi, .int .u8 x.host]] W fun e W' =>
      (e = .returned (.bool true) ∧ J (pre ++ [x]) W' ∧ KeepsP P W W') ∨ (e = .returned (.bool false) ∧ Jx (pre ++ [x]) W'))
    (hI : IsIter w0 S Lo Hi b lo hi zs) (h0 : J [] w0) :
    CallsIn F n Try.prog 97 #[.func (.yield l) #[] #[], .pointer (some ⟨S, 0, none⟩), .pointer (some ⟨Lo, 0, none⟩), .pointer (some ⟨Hi, 0, none⟩)] w0 fun e W' => (∃ v, e = .returned v) ∧
      ((∃ ys, ys = zs.map (cutTo lo hi) ∧ J ys W') ∨ (∃ pre, (∃ k, k ≤ zs.length ∧ pre = (zs.take k).map (cutTo lo hi)) ∧ Jx pre W')) := by
  obtain ⟨off, c, hS, hR⟩ := hI.sl
  have hLo := hI.lo
  have hHi := hI.hi
  refine callsIn_of_wp Try.func97 rfl h41 ?_ hro
  simp only [Try.ntmps97, List.size_toArray, List.length_cons, List.length_nil, Nat.reduceAdd, Nat.reduceSub, Array.replicate_succ, Array.replicate_zero, List.push_toArray, List.append_toArray, List.nil_append, List.cons_append]
  gi_wp2
  gi_loopw [9] (fun i wr => ∃ k : Nat, k ≤ zs.length ∧ i = .int .i64 k ∧ J ((zs.take k).map (cutTo lo hi)) wr ∧ KeepsP P w0 wr)
    (fun i _ => zs.length - (intOf i).toNat)
  case atStart => exact ⟨0, Nat.zero_le _, rfl, by simpa using h0, fun _ _ => rfl⟩
  case round =>
    obtain ⟨k, hk, rfl, hJs, hkp⟩ := hrel
    by_cases hlt : k < zs.length
    · have hItr := hI.kept hkp pS pL pH pb
      have hLo2 := hItr.lo
      have hHi2 := hItr.hi
      have hR2 := (segs_kept hR (hkp b pb)).at3 k hlt
      obtain ⟨b', off', s, hs, hA, hb, c0, c1, c2⟩ := hR2
      cases hA
      have hLo3 : Lo < wr.heap.size := World.block_lt_of_cell? _ _ hLo2
      have hHi3 : Hi < wr.heap.size := World.block_lt_of_cell? _ _ hHi2
      have hcut : Hid ((zs.take (k + 1)).map (cutTo lo hi) = (zs.take k).map (cutTo lo hi) ++ [cutTo lo hi s]) := by
        show _ = _
        rw [List.take_add_one, hs.out]; simp
      have hJ1 : J ((zs.take k).map (cutTo lo hi)) (wr.alloc (.cells #[.int .u64 s.lo, .int .u64 s.hi, .int .u8 s.host] 67)) := hJ _ _ _ none hJs (World.grownBy_alloc wr _ none) (fun r e => by cases e)
      obtain ⟨fn, tmps, assign, body, hy, hRd⟩ := hY _ (cutTo lo hi s) _ hJ1 (by simp; omega)
      have hKP : Hid (KeepsP P wr (wr.alloc (.cells #[.int .u64 s.lo, .int .u64 s.hi, .int .u8 s.host] 67))) := fun k hk => Below.heap_alloc wr _ k (by
        have h1 := hkp k hk
        rw [Array.getElem?_eq_getElem (hP k hk)] at h1
        exact (Array.getElem?_eq_some_iff.1 h1).1)
      have hx1 : cutTo lo hi s = ⟨if lo > s.lo then lo else s.lo, if hi < s.hi then hi else s.hi, s.host⟩ := rfl
      by_cases ha : lo > s.lo <;> by_cases hb2 : hi < s.hi <;>
        simp only [ha, hb2, if_true, if_false] at hx1 <;> rw [hx1] at hy hRd <;> dsimp only at hy <;> have hx2 := hid hx1 <;> clear hx1
      all_goals gi_wp2
      all_goals refine hRd.mono ?_
      all_goals rintro e W3 (⟨rfl, hJ3, hk3⟩ | ⟨rfl, hJx3⟩)
      all_goals gi_wp2
      all_goals first
        | (go_roundw
           case rel => exact ⟨k + 1, by omega, by simp, by rw [hcut.out, hx2.out]; exact hJ3, keepsP_t hkp (keepsP_t hKP.out hk3)⟩
           case measure => simp [intOf]; omega)
        | (refine bodyPost_ret (results_none rfl _ _ _) rfl ?_
           exact ⟨⟨_, rfl⟩, .inr ⟨_, ⟨k + 1, by omega, by rw [hcut.out, hx2.out]⟩, hJx3⟩⟩)
    · obtain rfl : k = zs.length := by omega
      gi_wp2
      go_end0
      exact ⟨⟨_, rfl⟩, .inl ⟨_, rfl, by simpa using hJs⟩⟩
end Go.Proofs.Ytpkcccphoolapaa
