/- Layer 15: the hosts sorted by their loads: sort.SliceStable by its contract. -/
import Derived.Test.YtpkcccphoolapaaTgtR
import Derived.Test.YtpkcccphoolapaaStb
import Derived.Deep.QuietTactic
namespace Go.Proofs.Ytpkcccphoolapaa
open Go.RowKit Go.Sort Go.Lib Go.Shelf

noncomputable def siT : TypeInfo := (Try.prog.info? 22).get (by kernel_rfl)
noncomputable def siE : TypeInfo := (Try.prog.info? 3).get (by kernel_rfl)
theorem siK (n : Nat) (h2 : 2 ≤ n) : Lib.swapperK n siE 2 = 5 := by
  have a : siE.hasPointers = false := by kernel_rfl
  have b : siE.bytes = 8 := by kernel_rfl
  have c : (n == 0) = false := by simp; omega
  have d : (n == 1) = false := by simp; omega
  simp [Lib.swapperK, a, b, c, d]

set_option maxHeartbeats 2000000 in
/-- the closure: reads two host numbers and their loads -/
theorem less_tgt (W : World) (i j n b1 b3 blk b off c hx hy L : Nat) (x y : Int) (hi : i < n) (hj : j < n) (h1 : hx < L) (h2 : hy < L) (_ : n ≤ 16) (_ : L ≤ 16)
    (c1 : W.cell? ⟨b1, 0, none⟩ = some (.slice (some ⟨b, off, none⟩) L c)) (c3 : W.cell? ⟨b3, 0, none⟩ = some (.slice (some ⟨blk, 0, none⟩) n n))
    (ci : W.cell? ⟨blk, i, none⟩ = some (.int .i64 (hx : Int))) (cj : W.cell? ⟨blk, j, none⟩ = some (.int .i64 (hy : Int)))
    (cx : W.cell? ⟨b, off + hx, none⟩ = some (.int .i64 x)) (cy : W.cell? ⟨b, off + hy, none⟩ = some (.int .i64 y)) :
    Calls Try.prog 54 #[.int .i64 (i : Int), .int .i64 (j : Int), .pointer (some ⟨b1, 0, none⟩), .pointer (some ⟨b3, 0, none⟩)] W fun e w' => e = .returned (.bool (decide (y < x))) ∧ ∃ q, w' = W.drewN q := by
  go_enter Try.func54, Try.ntmps54
  go_wp2_with fail
  go_quiet (fail)
  go_wp2_with fail
  go_ret
  exact ⟨rfl, nq, rfl⟩

/-- a row of host numbers as it lies -/
def hostCells (l : List Nat) : Array Value := (l.map fun (h : Nat) => Value.int .i64 (h : Int)).toArray

theorem stableHosts_any (W : World) (l : List Int) (b off c b1 b3 blk : Nat) (h1 : 1 ≤ l.length) (h16 : l.length ≤ 16)
    (hl : ∀ (k : Nat) (x : Int), l[k]? = some x → W.cell? ⟨b, off + k, none⟩ = some (.int .i64 x))
    (c1 : W.cell? ⟨b1, 0, none⟩ = some (.slice (some ⟨b, off, none⟩) l.length c)) (c3 : W.cell? ⟨b3, 0, none⟩ = some (.slice (some ⟨blk, 0, none⟩) l.length l.length))
    (hrow : W.heap[blk]? = some (.cells (hostCells (List.range l.length)) 3 (0, 0))) (hb : b < W.heap.size ∧ b ≠ blk) (hb1 : b1 < W.heap.size ∧ b1 ≠ blk) (hb3 : b3 < W.heap.size ∧ b3 ≠ blk) :
    Calls Try.prog 53 #[.iface 22 (.slice (some ⟨blk, 0, none⟩) l.length l.length), .func (.func 54) #[] #[.pointer (some ⟨b1, 0, none⟩), .pointer (some ⟨b3, 0, none⟩)]] W fun e w' =>
      e = .returned (.tuple #[]) ∧ ∃ o : List Nat, o.length = l.length ∧ o.Perm (List.range l.length) ∧ (∀ r h, o[r]? = some h → rankH l h = r) ∧ w'.heap[blk]? = some (.cells (hostCells o) 3 (0, 0)) ∧ W.grownBy w' (some blk) := by
  obtain ⟨n, hn⟩ : ∃ n, n = l.length := ⟨_, rfl⟩
  have hblk : blk < W.heap.size := (Array.getElem?_eq_some_iff.1 hrow).1
  by_cases h2 : 2 ≤ n
  · have hI : Inhabited (Fin n) := ⟨⟨0, by omega⟩⟩
    have hH : Holds (fun x : Fin n => Value.int .i64 (x.val : Int)) W blk 0 (hostsA n) := by
      intro j hj
      rw [hostsA_size] at hj
      show W.cell? ⟨blk, 0 + j, none⟩ = some (.int .i64 (((hostsA n)[j]!).val : Int)) ∧ _
      rw [hostsA_get hj, Nat.zero_add]
      constructor
      · simp only [World.cell?, hrow]
        simp [hostCells, ← hn, hj]
      · simp [World.frozen?, hrow]
    have hless : LessReads Try.prog 54 #[.pointer (some ⟨b1, 0, none⟩), .pointer (some ⟨b3, 0, none⟩)] (fun x : Fin n => Value.int .i64 (x.val : Int)) (ltL l) blk 0 (hostsA n).size W := by
      intro m os dk hs i j hi hj
      rw [hostsA_size] at hs hi hj
      have hw : sortWorld (fun x : Fin n => Value.int .i64 (x.val : Int)) W blk 0 m dk os = putRow (fun x : Fin n => Value.int .i64 (x.val : Int)) (grow (Sort.ahead W m) os) blk 0 dk := by
        unfold sortWorld; rw [putRow_grow _ (Sort.ahead W m) _ blk 0 _ hblk]
      have hHg : Holds (fun x : Fin n => Value.int .i64 (x.val : Int)) (grow (Sort.ahead W m) os) blk 0 (hostsA n) := holds_grow _ _ _ blk 0 (hostsA n) hblk (holds_ahead _ _ _ _ _ _ hH)
      have other : ∀ a : Addr, a.block < W.heap.size → a.block ≠ blk → (sortWorld (fun x : Fin n => Value.int .i64 (x.val : Int)) W blk 0 m dk os).cell? a = W.cell? a := fun a ha hne => by
        rw [hw, cell?_putRow_other _ _ blk 0 dk _ (Or.inl hne), cell?_grow (Sort.ahead W m) os _ ha]; rfl
      have row : ∀ t, t < n → (sortWorld (fun x : Fin n => Value.int .i64 (x.val : Int)) W blk 0 m dk os).cell? ⟨blk, t, none⟩ = some (.int .i64 ((dk[t]!).val : Int)) := fun t ht => by
        have := cell?_putRow (fun x : Fin n => Value.int .i64 (x.val : Int)) _ blk 0 (hostsA n) dk hHg (by rw [hostsA_size, hs]) t (by rw [hs]; exact ht)
        rw [Nat.zero_add] at this
        rw [hw]; exact this
      have ld : ∀ f : Fin n, ∃ x, l[f.val]? = some x := fun f => ⟨l[f.val]'(by have := f.isLt; omega), List.getElem?_eq_getElem _⟩
      obtain ⟨x, hx⟩ := ld dk[i]!
      obtain ⟨y, hy⟩ := ld dk[j]!
      have e : ltL l dk[i]! dk[j]! = decide (y < x) := by unfold ltL; rw [hx, hy]; rfl
      rw [e]
      exact less_tgt _ i j n b1 b3 blk b off c (dk[i]!).val (dk[j]!).val l.length x y hi hj (by have := (dk[i]!).isLt; omega) (by have := (dk[j]!).isLt; omega) (by omega) h16
        ((other _ hb1.1 hb1.2).trans c1) ((other _ hb3.1 hb3.2).trans (by rw [hn]; exact c3)) (row i hi) (row j hj) ((other _ hb.1 hb.2).trans (hl _ _ hx)) ((other _ hb.1 hb.2).trans (hl _ _ hy))
    have hS := Any.sort_SliceStable_small slStable 22 3 siT siE (by kernel_rfl) (by kernel_rfl) (by kernel_rfl) (by kernel_rfl) 2 (fun _ => by kernel_rfl) (by kernel_rfl) (fun _ => by kernel_rfl) (fun x : Fin n => Value.int .i64 (x.val : Int)) (fun _ => rfl) (ltL l) 54 _
      (enters_of Try.func54 (by kernel_rfl) rfl) blk 0 n (hostsA n) (by rw [hostsA_size]; exact h2) (by rw [hostsA_size]; omega) 87 (by rw [siK _ (by rw [hostsA_size]; exact h2)]; kernel_rfl) true
      (fun args W => run_callFunc_extern Try.func87 (by kernel_rfl) (by kernel_rfl) (by kernel_rfl) (e := Extern.ReflectliteSwapper.swap true) (by kernel_rfl) args W) W hless hH hblk
    rw [hostsA_size] at hS
    rw [← hn]
    refine hS.mono ?_
    rintro e w' ⟨rfl, m, os, rfl⟩
    refine ⟨rfl, orderH n l, orderH_len l, orderH_perm l, fun r h hr => ?_, ?_, ⟨rfl, rfl, rfl, ?_, fun k hk hne => ?_⟩⟩
    · have := orderH_rank (n := n) l hr
      unfold rankH; rw [← hn]; exact this
    · rw [heap_grow_old _ _ (by rw [size_putRow]; exact hblk)]
      show (W.heap.modify blk (onCells (putCells (fun x : Fin n => Value.int .i64 (x.val : Int)) 0 (sortedH l))))[blk]? = _
      rw [Array.getElem?_modify, if_pos rfl, hrow]
      simp only [Option.map_some, onCells]
      congr 2
      apply Array.ext
      · simp [putCells, hostCells, orderH_len, hn]
      · intro k k1 k2
        have hk : k < n := by simpa [hostCells, orderH_len] using k2
        have hg := orderH_get (n := n) l hk
        obtain ⟨_, he⟩ := List.getElem?_eq_some_iff.1 hg
        simp only [putCells, Array.getElem_mapIdx, hostCells, List.getElem_toArray, List.getElem_map, he]
        rw [if_pos ⟨Nat.zero_le _, by rw [sortedH_size]; omega⟩, Nat.sub_zero]
    · rw [size_grow, size_putRow]
      show W.heap.size ≤ W.heap.size + os.size
      omega
    · rw [heap_grow_old _ _ (by rw [size_putRow]; exact hk)]
      show (W.heap.modify blk _)[k]? = _
      rw [Array.getElem?_modify, if_neg (fun e => hne (by rw [e]))]
  · obtain rfl : n = 1 := by omega
    have hS := Any.sort_SliceStable_tiny slStable 22 3 siT siE (by kernel_rfl) (by kernel_rfl) (by kernel_rfl) (by kernel_rfl) 2 (fun _ => by kernel_rfl) (some ⟨blk, 0, none⟩) 1 1 (Nat.le_refl _) 84 (by kernel_rfl)
      (.func 54) #[] #[.pointer (some ⟨b1, 0, none⟩), .pointer (some ⟨b3, 0, none⟩)] W
    rw [← hn] at hrow ⊢
    refine hS.mono ?_
    rintro e w' ⟨rfl, os, rfl⟩
    refine ⟨rfl, [0], rfl, List.Perm.refl _, fun r h hr => ?_, ?_, ⟨rfl, rfl, rfl, ?_, fun k hk _ => ?_⟩⟩
    · obtain ⟨rfl, rfl⟩ : r = 0 ∧ h = 0 := by
        cases r with
        | zero => simpa using hr.symm
        | succ r => simp at hr
      unfold rankH
      rw [← hn]
      simp [aheadB]
    · rw [heap_grow_old _ _ hblk]; exact hrow
    · rw [size_grow]; omega
    · rw [heap_grow_old _ _ hk]
end Go.Proofs.Ytpkcccphoolapaa
