/- Layer 9: a journal that is nil or dead. -/
import Derived.Test.YtfcgmlofiaehkaaDoorJG
import Derived.Test.YtfcgmlofiaehkaaDoorJC
namespace Go.Proofs.YtfcgmlofiaehkaaDoor
open Go.RowKit

/-- the journal under the pointer V answers to nothing but with the number x -/
def Gone (w : World) (V : Value) (x : Int) : Prop := V = .pointer none ∧ x = 1 ∨ ∃ j, V = .pointer (some ⟨j, 0, none⟩) ∧ x = 92 ∧ w.heap[j]? = some (.cells deadCells 120 (0, 0))
theorem Gone.alive {w : World} {V : Value} {x : Int} (h : Gone w V x) : Calls Tryd.prog 59 #[V] w fun e w' => e = .returned (.int .i64 x) ∧ w' = w := by
  rcases h with ⟨rfl, rfl⟩ | ⟨j, rfl, rfl, h⟩
  · exact alive_nil w
  · exact alive_dead w j h
theorem Gone.ne {w : World} {V : Value} {x : Int} (h : Gone w V x) : x = 1 ∨ x = 92 := by
  rcases h with ⟨_, h⟩ | ⟨_, _, h, _⟩
  · exact .inl h
  · exact .inr h
theorem Gone.kept {w w' : World} {V : Value} {x : Int} (h : Gone w V x) (hb : Below w.heap.size w w') : Gone w' V x := by
  rcases h with ⟨rfl, rfl⟩ | ⟨j, rfl, rfl, h⟩
  · exact .inl ⟨rfl, rfl⟩
  · exact .inr ⟨j, rfl, rfl, (hb.block j (Array.getElem?_eq_some_iff.1 h).1).trans h⟩
theorem results_disk1 {fn : Func} {p : Tmp} (h : fn.results = #[.cell p 25]) (tmps : Array Value) (w : World) (g : Nat) (cs : Array Value)
    (hp : tmps.getD p undef = .pointer (some ⟨g, 0, none⟩)) (hg : w.heap[g]? = some (.cells cs 25 (0, 0))) (hi : cs.size = 2) : (results fn tmps).run Tryd.prog w = .ok (.agg cs) w := by
  have hp' : tmps[p]?.getD undef = .pointer (some ⟨g, 0, none⟩) := by simpa using hp
  have hr := run_loadVar_row w g 25 25 cs (0, 0) _ hg Tryd.underlying25 rfl (by rw [hi]; kernel_rfl)
  simp [results, h, hp', asAddr, hr]
theorem results_stat {fn : Func} {p : Tmp} (h : fn.results = #[.cell p 89]) (tmps : Array Value) (w : World) (g : Nat) (cs : Array Value)
    (hp : tmps.getD p undef = .pointer (some ⟨g, 0, none⟩)) (hg : w.heap[g]? = some (.cells cs 89 (0, 0))) (hi : cs.size = 6) : (results fn tmps).run Tryd.prog w = .ok (.agg cs) w := by
  have hp' : tmps[p]?.getD undef = .pointer (some ⟨g, 0, none⟩) := by simpa using hp
  have hr := run_loadVar_row w g 89 89 cs (0, 0) _ hg Tryd.underlying89 rfl (by rw [hi]; kernel_rfl)
  simp [results, h, hp', asAddr, hr]
theorem gone_append (w : World) (V : Value) (x : Int) (b : Value) (h : Gone w V x) : Calls Tryd.prog 42 #[V, b] w fun e w' => e = .returned (.int .i64 x) ∧ w' = w := by
  have HA := hid h.alive
  have hx := h.ne
  have hx0 : decide (x = 0) = false := by rcases hx with rfl | rfl <;> rfl
  have hx1 : x ≠ 0 := by omega
  clear h hx
  go_enter Tryd.func42, Tryd.ntmps42
  go_wp2_with fail
  refine HA.out.mono ?_
  rintro e w1 ⟨rfl, hw1⟩
  subst hw1
  clear HA
  go_wp2_with fail
  go_ret
  exact ⟨rfl, rfl⟩
theorem gone_sync (w : World) (V : Value) (x : Int) (h : Gone w V x) : Calls Tryd.prog 37 #[V] w fun e w' => e = .returned (.tuple #[.int .i64 0, .int .i64 x]) ∧ w' = w := by
  have HA := hid h.alive
  have hx := h.ne
  have hx0 : decide (x = 0) = false := by rcases hx with rfl | rfl <;> rfl
  have hx1 : x ≠ 0 := by omega
  clear h hx
  go_enter Tryd.func37, Tryd.ntmps37
  go_wp2_with fail
  refine HA.out.mono ?_
  rintro e w1 ⟨rfl, hw1⟩
  subst hw1
  clear HA
  go_wp2_with fail
  go_ret2
  exact ⟨rfl, rfl⟩
theorem gone_snapshot (w : World) (V : Value) (x : Int) (b : Value) (h : Gone w V x) : Calls Tryd.prog 41 #[V, b] w fun e w' => e = .returned (.int .i64 x) ∧ w' = w := by
  have HA := hid h.alive
  have hx := h.ne
  have hx0 : decide (x = 0) = false := by rcases hx with rfl | rfl <;> rfl
  have hx1 : x ≠ 0 := by omega
  clear h hx
  go_enter Tryd.func41, Tryd.ntmps41
  go_wp2_with fail
  refine HA.out.mono ?_
  rintro e w1 ⟨rfl, hw1⟩
  subst hw1
  clear HA
  go_wp2_with fail
  go_ret
  exact ⟨rfl, rfl⟩
theorem gone_disk (w : World) (V : Value) (x : Int) (h : Gone w V x) : Calls Tryd.prog 38 #[V] w fun e w' => e = .returned (.agg #[.slice none 0 0, .slice none 0 0]) ∧ Below w.heap.size w w' := by
  have HA := hid (fun (o : Obj) => (h.kept ((Below.refl w.heap.size w).alloc (Nat.le_refl _) o)).alive)
  have hx := h.ne
  have hx0 : decide (x = 0) = false := by rcases hx with rfl | rfl <;> rfl
  have hx1 : x ≠ 0 := by omega
  clear h hx
  go_enter Tryd.func38, Tryd.ntmps38
  go_wp2_with fail
  refine (HA.out _).mono ?_
  rintro e w1 ⟨rfl, hw1⟩
  subst hw1
  clear HA
  go_wp2_with fail
  refine bodyPost_ret (results_disk1 rfl _ _ _ _ rfl (heap_alloc_new w _) rfl) rfl ?_
  exact ⟨rfl, (Below.refl w.heap.size w).alloc (Nat.le_refl _) _⟩
theorem gone_crash (w : World) (V : Value) (x : Int) (k : Int) (h : Gone w V x) : Calls Tryd.prog 27 #[V, .int .i64 k] w fun e w' => e = .returned (.tuple #[.agg #[.slice none 0 0, .slice none 0 0], .int .i64 x]) ∧ Below w.heap.size w w' := by
  have HA := hid (fun (o : Obj) => (h.kept ((Below.refl w.heap.size w).alloc (Nat.le_refl _) o)).alive)
  have hx := h.ne
  have hx0 : decide (x = 0) = false := by rcases hx with rfl | rfl <;> rfl
  have hx1 : x ≠ 0 := by omega
  clear h hx
  go_enter Tryd.func27, Tryd.ntmps27
  go_wp2_with fail
  refine (HA.out _).mono ?_
  rintro e w1 ⟨rfl, hw1⟩
  subst hw1
  clear HA
  go_wp2_with fail
  refine bodyPost_ret (results_disk rfl _ _ _ _ _ rfl (heap_alloc_new w _) rfl rfl) rfl ?_
  exact ⟨rfl, (Below.refl w.heap.size w).alloc (Nat.le_refl _) _⟩
theorem gone_stat (w : World) (V : Value) (x : Int) (h : Gone w V x) : Calls Tryd.prog 43 #[V] w fun e w' => e = .returned (.agg #[.int .u64 0, .int .i64 0, .int .i64 0, .int .i64 0, .int .i64 0, .int .i64 0]) ∧ Below w.heap.size w w' := by
  have HA := hid (fun (o : Obj) => (h.kept ((Below.refl w.heap.size w).alloc (Nat.le_refl _) o)).alive)
  have hx := h.ne
  have hx0 : decide (x = 0) = false := by rcases hx with rfl | rfl <;> rfl
  have hx1 : x ≠ 0 := by omega
  clear h hx
  go_enter Tryd.func43, Tryd.ntmps43
  go_wp2_with fail
  refine (HA.out _).mono ?_
  rintro e w1 ⟨rfl, hw1⟩
  subst hw1
  clear HA
  go_wp2_with fail
  refine bodyPost_ret (results_stat rfl _ _ _ _ rfl (heap_alloc_new w _) rfl) rfl ?_
  exact ⟨rfl, (Below.refl w.heap.size w).alloc (Nat.le_refl _) _⟩
end Go.Proofs.YtfcgmlofiaehkaaDoor
