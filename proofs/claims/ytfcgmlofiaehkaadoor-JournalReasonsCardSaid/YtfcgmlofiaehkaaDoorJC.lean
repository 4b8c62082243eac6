/- Layer 9: whether a journal lives. -/
import Derived.Test.YtfcgmlofiaehkaaDoorJM
namespace Go.Proofs.YtfcgmlofiaehkaaDoor
open Go.RowKit

theorem alive_nil (w : World) : Calls Tryd.prog 59 #[.pointer none] w fun e w' => e = .returned (.int .i64 1) ∧ w' = w := by
  go_enter Tryd.func59, Tryd.ntmps59
  go_wp2_with fail
  go_ret
  exact ⟨rfl, rfl⟩
/-- a dead journal's cells -/
def deadCells : Array Value := #[.int .i64 0, .slice none 0 0, .slice none 0 0, .int .i64 0, .int .i64 0, .int .u64 0, .int .u32 0, .int .i64 0, .int .i64 0, .bool true]
theorem alive_dead (w : World) (j : Nat) (h : w.heap[j]? = some (.cells deadCells 120 (0, 0))) : Calls Tryd.prog 59 #[.pointer (some ⟨j, 0, none⟩)] w fun e w' => e = .returned (.int .i64 92) ∧ w' = w := by
  have x9 : w.cell? ⟨j, 9, none⟩ = some (.bool true) := by simp [World.cell?, h, deadCells]
  clear h
  go_enter Tryd.func59, Tryd.ntmps59
  go_wp2_with fail
  go_ret
  exact ⟨rfl, rfl⟩
theorem alive_live (w : World) (j : Nat) (J : JL) (s0 s1 : SV) (h : w.heap[j]? = some (.cells (jCells J s0 s1) 120 (0, 0))) : Calls Tryd.prog 59 #[.pointer (some ⟨j, 0, none⟩)] w fun e w' => e = .returned (.int .i64 0) ∧ w' = w := by
  have x9 : w.cell? ⟨j, 9, none⟩ = some (.bool false) := by simp [World.cell?, h, jCells]
  clear h
  go_enter Tryd.func59, Tryd.ntmps59
  go_wp2_with fail
  go_ret
  exact ⟨rfl, rfl⟩
end Go.Proofs.YtfcgmlofiaehkaaDoor
