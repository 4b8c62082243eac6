/-
  No cell of these rows narrows 'for every input' (looked for: loops, veiled, ifaces, maps, wideKeys, modest, calm, conditions, laid).
  DERIVED. THE GIVEN ROWS OF THIS SEAT. 10 by the template 'for every input the law returns true; each argument reads behind the call as it read before'; 0 by the template 'total and deterministic' (their statements: YtpkcccphoolapaaTotals.lean).
  GIVEN WITH THE SEED: the statements are not yours to turn. If you find one false, say at which input.
  Laid BY PROGRAM, IN A SANDBOX (cutbox-rows.mjs): the forced cells as the released guide's own fill.sh prints them over the translation fc73b650fd7e3d03… (all of the seat's roots in one cut). By AI agents, Wed Nov 11 2026. No macro, syntax, notation, axiom, sorry.
-/
import Derived.Test.YtpkcccphoolapaaChecked
import GoSem.Claim
import GoSem.ClaimJoined
import GoSem.ClaimMapViews
import Derived.JoinedTies
import Derived.KernelRfl
namespace Go.Proofs.Ytpkcccphoolapaa
/- THE CELL 'sum', in the pinned program and in every row, IS THE sha256 OF THE DUMP (.gsa) THAT YtpkcccphoolapaaProg.lean LOADS. Nothing in Lean hashes anything: it is a label: what it is worth is what the hold of that sum in a sandbox is worth. -/
noncomputable def Try.pinned : Pinned := { name := "ytpkcccphoolapaa", sum := "fc73b650fd7e3d034311d04f990cd6eb3fd3d7d63465e9dafe1a237f6a400b80", checked := Try.checked }
namespace Rows
def none {H : Type} : Left H := { results := [], args := [] }

/-- 'shardlaw15.PlanSkews': WHATEVER THE INPUT: true; the input reads as it did. -/
def planSkewsSpec : ChangeSpec := { name := "planSkews", fn := fun _ => fun
  | [d] => { results := [.lit (.bool true)], args := [d] }
  | _ => none }
def planSkewsRow : OpenClaim := { program := "ytpkcccphoolapaa", sum := "fc73b650fd7e3d034311d04f990cd6eb3fd3d7d63465e9dafe1a237f6a400b80", func := "shard/shardlaw15.PlanSkews", spec := "planSkews", apart := false }
def PlanSkewsSaid : Prop := planSkewsRow.holds Try.pinned (OpenSpec.ofChange planSkewsSpec)

/-- ITS FALSE NEIGHBOUR: 'it returns false'. Refute it at one input. -/
def planSkewsWrong : ChangeSpec := { name := "planSkews", fn := fun _ => fun
  | [d] => { results := [.lit (.bool false)], args := [d] }
  | _ => none }
def PlanSkewsWrongFalsely : Prop := planSkewsRow.holds Try.pinned (OpenSpec.ofChange planSkewsWrong)

/-- 'shardlaw15.PlanLoads': WHATEVER THE INPUT: true; the input reads as it did. -/
def planLoadsSpec : ChangeSpec := { name := "planLoads", fn := fun _ => fun
  | [d1, d2, d3] => { results := [.lit (.bool true)], args := [d1, d2, d3] }
  | _ => none }
def planLoadsRow : OpenClaim := { program := "ytpkcccphoolapaa", sum := "fc73b650fd7e3d034311d04f990cd6eb3fd3d7d63465e9dafe1a237f6a400b80", func := "shard/shardlaw15.PlanLoads", spec := "planLoads", unfollowed := true, recurses := true, apart := false }
def PlanLoadsSaid : Prop := planLoadsRow.holds Try.pinned (OpenSpec.ofChange planLoadsSpec)

/-- ITS FALSE NEIGHBOUR: 'it returns false'. Refute it at one input. -/
def planLoadsWrong : ChangeSpec := { name := "planLoads", fn := fun _ => fun
  | [d1, d2, d3] => { results := [.lit (.bool false)], args := [d1, d2, d3] }
  | _ => none }
def PlanLoadsWrongFalsely : Prop := planLoadsRow.holds Try.pinned (OpenSpec.ofChange planLoadsWrong)

/-- 'shardlaw15.PlanPlays': WHATEVER THE INPUT: true; the input reads as it did. -/
def planPlaysSpec : ChangeSpec := { name := "planPlays", fn := fun _ => fun
  | [d1, d2] => { results := [.lit (.bool true)], args := [d1, d2] }
  | _ => none }
def planPlaysRow : OpenClaim := { program := "ytpkcccphoolapaa", sum := "fc73b650fd7e3d034311d04f990cd6eb3fd3d7d63465e9dafe1a237f6a400b80", func := "shard/shardlaw15.PlanPlays", spec := "planPlays", unfollowed := true, recurses := true, apart := false }
def PlanPlaysSaid : Prop := planPlaysRow.holds Try.pinned (OpenSpec.ofChange planPlaysSpec)

/-- ITS FALSE NEIGHBOUR: 'it returns false'. Refute it at one input. -/
def planPlaysWrong : ChangeSpec := { name := "planPlays", fn := fun _ => fun
  | [d1, d2] => { results := [.lit (.bool false)], args := [d1, d2] }
  | _ => none }
def PlanPlaysWrongFalsely : Prop := planPlaysRow.holds Try.pinned (OpenSpec.ofChange planPlaysWrong)

/-- 'shardlaw15.PlanTargets': WHATEVER THE INPUT: true; the input reads as it did. -/
def planTargetsSpec : ChangeSpec := { name := "planTargets", fn := fun _ => fun
  | [d] => { results := [.lit (.bool true)], args := [d] }
  | _ => none }
def planTargetsRow : OpenClaim := { program := "ytpkcccphoolapaa", sum := "fc73b650fd7e3d034311d04f990cd6eb3fd3d7d63465e9dafe1a237f6a400b80", func := "shard/shardlaw15.PlanTargets", spec := "planTargets", inPlace := ["internal/reflectlite.ValueOf", "internal/reflectlite.Swapper", "(internal/reflectlite.Value).Len"], unfollowed := true, recurses := true, apart := false }
def PlanTargetsSaid : Prop := planTargetsRow.holds Try.pinned (OpenSpec.ofChange planTargetsSpec)

/-- ITS FALSE NEIGHBOUR: 'it returns false'. Refute it at one input. -/
def planTargetsWrong : ChangeSpec := { name := "planTargets", fn := fun _ => fun
  | [d] => { results := [.lit (.bool false)], args := [d] }
  | _ => none }
def PlanTargetsWrongFalsely : Prop := planTargetsRow.holds Try.pinned (OpenSpec.ofChange planTargetsWrong)

/-- 'shardlaw15.PlanMoves': WHATEVER THE INPUT: true; the input reads as it did. -/
def planMovesSpec : ChangeSpec := { name := "planMoves", fn := fun _ => fun
  | [d1, d2, d3, d4] => { results := [.lit (.bool true)], args := [d1, d2, d3, d4] }
  | _ => none }
def planMovesRow : OpenClaim := { program := "ytpkcccphoolapaa", sum := "fc73b650fd7e3d034311d04f990cd6eb3fd3d7d63465e9dafe1a237f6a400b80", func := "shard/shardlaw15.PlanMoves", spec := "planMoves", inPlace := ["internal/reflectlite.ValueOf", "internal/reflectlite.Swapper", "(internal/reflectlite.Value).Len"], unfollowed := true, recurses := true, apart := false }
def PlanMovesSaid : Prop := planMovesRow.holds Try.pinned (OpenSpec.ofChange planMovesSpec)

/-- ITS FALSE NEIGHBOUR: 'it returns false'. Refute it at one input. -/
def planMovesWrong : ChangeSpec := { name := "planMoves", fn := fun _ => fun
  | [d1, d2, d3, d4] => { results := [.lit (.bool false)], args := [d1, d2, d3, d4] }
  | _ => none }
def PlanMovesWrongFalsely : Prop := planMovesRow.holds Try.pinned (OpenSpec.ofChange planMovesWrong)

/-- 'shardlaw15.PlanFewest': WHATEVER THE INPUT: true; the input reads as it did. -/
def planFewestSpec : ChangeSpec := { name := "planFewest", fn := fun _ => fun
  | [d1, d2, d3, d4] => { results := [.lit (.bool true)], args := [d1, d2, d3, d4] }
  | _ => none }
def planFewestRow : OpenClaim := { program := "ytpkcccphoolapaa", sum := "fc73b650fd7e3d034311d04f990cd6eb3fd3d7d63465e9dafe1a237f6a400b80", func := "shard/shardlaw15.PlanFewest", spec := "planFewest", inPlace := ["internal/reflectlite.ValueOf", "internal/reflectlite.Swapper", "(internal/reflectlite.Value).Len"], unfollowed := true, recurses := true, apart := false }
def PlanFewestSaid : Prop := planFewestRow.holds Try.pinned (OpenSpec.ofChange planFewestSpec)

/-- ITS FALSE NEIGHBOUR: 'it returns false'. Refute it at one input. -/
def planFewestWrong : ChangeSpec := { name := "planFewest", fn := fun _ => fun
  | [d1, d2, d3, d4] => { results := [.lit (.bool false)], args := [d1, d2, d3, d4] }
  | _ => none }
def PlanFewestWrongFalsely : Prop := planFewestRow.holds Try.pinned (OpenSpec.ofChange planFewestWrong)

/-- 'shardlaw15.PlanSteps': WHATEVER THE INPUT: true; the input reads as it did. -/
def planStepsSpec : ChangeSpec := { name := "planSteps", fn := fun _ => fun
  | [d1, d2, d3, d4, d5] => { results := [.lit (.bool true)], args := [d1, d2, d3, d4, d5] }
  | _ => none }
def planStepsRow : OpenClaim := { program := "ytpkcccphoolapaa", sum := "fc73b650fd7e3d034311d04f990cd6eb3fd3d7d63465e9dafe1a237f6a400b80", func := "shard/shardlaw15.PlanSteps", spec := "planSteps", inPlace := ["internal/reflectlite.ValueOf", "internal/reflectlite.Swapper", "(internal/reflectlite.Value).Len"], unfollowed := true, recurses := true, apart := false }
def PlanStepsSaid : Prop := planStepsRow.holds Try.pinned (OpenSpec.ofChange planStepsSpec)

/-- ITS FALSE NEIGHBOUR: 'it returns false'. Refute it at one input. -/
def planStepsWrong : ChangeSpec := { name := "planSteps", fn := fun _ => fun
  | [d1, d2, d3, d4, d5] => { results := [.lit (.bool false)], args := [d1, d2, d3, d4, d5] }
  | _ => none }
def PlanStepsWrongFalsely : Prop := planStepsRow.holds Try.pinned (OpenSpec.ofChange planStepsWrong)

/-- 'shardlaw15.PlanEvens': WHATEVER THE INPUT: true; the input reads as it did. -/
def planEvensSpec : ChangeSpec := { name := "planEvens", fn := fun _ => fun
  | [d1, d2, d3, d4] => { results := [.lit (.bool true)], args := [d1, d2, d3, d4] }
  | _ => none }
def planEvensRow : OpenClaim := { program := "ytpkcccphoolapaa", sum := "fc73b650fd7e3d034311d04f990cd6eb3fd3d7d63465e9dafe1a237f6a400b80", func := "shard/shardlaw15.PlanEvens", spec := "planEvens", inPlace := ["internal/reflectlite.ValueOf", "internal/reflectlite.Swapper", "(internal/reflectlite.Value).Len"], unfollowed := true, recurses := true, apart := false }
def PlanEvensSaid : Prop := planEvensRow.holds Try.pinned (OpenSpec.ofChange planEvensSpec)

/-- ITS FALSE NEIGHBOUR: 'it returns false'. Refute it at one input. -/
def planEvensWrong : ChangeSpec := { name := "planEvens", fn := fun _ => fun
  | [d1, d2, d3, d4] => { results := [.lit (.bool false)], args := [d1, d2, d3, d4] }
  | _ => none }
def PlanEvensWrongFalsely : Prop := planEvensRow.holds Try.pinned (OpenSpec.ofChange planEvensWrong)

/-- 'shardlaw15.PlanOwn': WHATEVER THE INPUT: true; the input reads as it did. -/
def planOwnSpec : ChangeSpec := { name := "planOwn", fn := fun _ => fun
  | [d1, d2, d3, d4] => { results := [.lit (.bool true)], args := [d1, d2, d3, d4] }
  | _ => none }
def planOwnRow : OpenClaim := { program := "ytpkcccphoolapaa", sum := "fc73b650fd7e3d034311d04f990cd6eb3fd3d7d63465e9dafe1a237f6a400b80", func := "shard/shardlaw15.PlanOwn", spec := "planOwn", inPlace := ["internal/reflectlite.ValueOf", "internal/reflectlite.Swapper", "(internal/reflectlite.Value).Len"], unfollowed := true, recurses := true, apart := false }
def PlanOwnSaid : Prop := planOwnRow.holds Try.pinned (OpenSpec.ofChange planOwnSpec)

/-- ITS FALSE NEIGHBOUR: 'it returns false'. Refute it at one input. -/
def planOwnWrong : ChangeSpec := { name := "planOwn", fn := fun _ => fun
  | [d1, d2, d3, d4] => { results := [.lit (.bool false)], args := [d1, d2, d3, d4] }
  | _ => none }
def PlanOwnWrongFalsely : Prop := planOwnRow.holds Try.pinned (OpenSpec.ofChange planOwnWrong)

/-- 'shardlaw15.PlanStill': WHATEVER THE INPUT: true; the input reads as it did. -/
def planStillSpec : ChangeSpec := { name := "planStill", fn := fun _ => fun
  | [d1, d2, d3, d4] => { results := [.lit (.bool true)], args := [d1, d2, d3, d4] }
  | _ => none }
def planStillRow : OpenClaim := { program := "ytpkcccphoolapaa", sum := "fc73b650fd7e3d034311d04f990cd6eb3fd3d7d63465e9dafe1a237f6a400b80", func := "shard/shardlaw15.PlanStill", spec := "planStill", inPlace := ["internal/reflectlite.ValueOf", "internal/reflectlite.Swapper", "(internal/reflectlite.Value).Len"], unfollowed := true, recurses := true, apart := false }
def PlanStillSaid : Prop := planStillRow.holds Try.pinned (OpenSpec.ofChange planStillSpec)

/-- ITS FALSE NEIGHBOUR: 'it returns false'. Refute it at one input. -/
def planStillWrong : ChangeSpec := { name := "planStill", fn := fun _ => fun
  | [d1, d2, d3, d4] => { results := [.lit (.bool false)], args := [d1, d2, d3, d4] }
  | _ => none }
def PlanStillWrongFalsely : Prop := planStillRow.holds Try.pinned (OpenSpec.ofChange planStillWrong)

/- THE SECOND FORM. 'bulk': how many values and letters a reading holds, each counted each time it is reached (what is shared counts as often as it is met; a slice's spare places count too). A statement '..UptoSaid' is the law's where the arguments, and the package variables that the reading takes, are together of bulk at most 1048576: NARROWER than '..Said'. Prove '..Said' where nothing that the law and all that it calls make is longer than what came in: it says more and counts as full. Else prove '..UptoSaid'. A law counts once. -/
mutual
def uptoBulk {H : Type} : DataW H → Nat
  | .lit (.string bytes) => bytes.length + 1
  | .lit _ => 1
  | .nil => 1
  | .ptr d => uptoBulk d + 1
  | .slice elems spare => uptoBulkAll elems + uptoBulkAll spare + 1
  | .agg parts => uptoBulkAll parts + 1
  | .iface _ d => uptoBulk d + 1
  | .map entries => uptoBulkEntries entries + 1
  | .held _ => 1
def uptoBulkAll {H : Type} : List (DataW H) → Nat
  | [] => 0
  | d :: r => uptoBulk d + uptoBulkAll r
def uptoBulkEntries {H : Type} : List (Lit × DataW H) → Nat
  | [] => 0
  | x :: r => uptoBulkEntry x + uptoBulkEntries r
def uptoBulkEntry {H : Type} : Lit × DataW H → Nat
  | (.string bytes, d) => bytes.length + uptoBulk d + 1
  | (_, d) => uptoBulk d + 1
 end
def uptoSmall : (H : Type) → List (DataW H) → Bool := fun _ ds => decide (uptoBulkAll ds ≤ 1048576)
def OpenSpec.upto (s : _root_.Go.ChangeSpec) : _root_.Go.OpenSpec := { _root_.Go.OpenSpec.ofChange s with cond := some uptoSmall }

/-- 'shardlaw15.PlanSkews', WHERE WHAT IT READS IS OF BULK AT MOST 1048576: true; the input reads as it did. -/
def planSkewsUptoRow : OpenClaim := { program := "ytpkcccphoolapaa", sum := "fc73b650fd7e3d034311d04f990cd6eb3fd3d7d63465e9dafe1a237f6a400b80", func := "shard/shardlaw15.PlanSkews", spec := "planSkews", apart := false, narrowed := true }
def PlanSkewsUptoSaid : Prop := planSkewsUptoRow.holds Try.pinned (OpenSpec.upto planSkewsSpec)

/-- 'shardlaw15.PlanLoads', WHERE WHAT IT READS IS OF BULK AT MOST 1048576: true; the input reads as it did. -/
def planLoadsUptoRow : OpenClaim := { program := "ytpkcccphoolapaa", sum := "fc73b650fd7e3d034311d04f990cd6eb3fd3d7d63465e9dafe1a237f6a400b80", func := "shard/shardlaw15.PlanLoads", spec := "planLoads", unfollowed := true, recurses := true, apart := false, narrowed := true }
def PlanLoadsUptoSaid : Prop := planLoadsUptoRow.holds Try.pinned (OpenSpec.upto planLoadsSpec)

/-- 'shardlaw15.PlanPlays', WHERE WHAT IT READS IS OF BULK AT MOST 1048576: true; the input reads as it did. -/
def planPlaysUptoRow : OpenClaim := { program := "ytpkcccphoolapaa", sum := "fc73b650fd7e3d034311d04f990cd6eb3fd3d7d63465e9dafe1a237f6a400b80", func := "shard/shardlaw15.PlanPlays", spec := "planPlays", unfollowed := true, recurses := true, apart := false, narrowed := true }
def PlanPlaysUptoSaid : Prop := planPlaysUptoRow.holds Try.pinned (OpenSpec.upto planPlaysSpec)

/-- 'shardlaw15.PlanTargets', WHERE WHAT IT READS IS OF BULK AT MOST 1048576: true; the input reads as it did. -/
def planTargetsUptoRow : OpenClaim := { program := "ytpkcccphoolapaa", sum := "fc73b650fd7e3d034311d04f990cd6eb3fd3d7d63465e9dafe1a237f6a400b80", func := "shard/shardlaw15.PlanTargets", spec := "planTargets", inPlace := ["internal/reflectlite.ValueOf", "internal/reflectlite.Swapper", "(internal/reflectlite.Value).Len"], unfollowed := true, recurses := true, apart := false, narrowed := true }
def PlanTargetsUptoSaid : Prop := planTargetsUptoRow.holds Try.pinned (OpenSpec.upto planTargetsSpec)

/-- 'shardlaw15.PlanMoves', WHERE WHAT IT READS IS OF BULK AT MOST 1048576: true; the input reads as it did. -/
def planMovesUptoRow : OpenClaim := { program := "ytpkcccphoolapaa", sum := "fc73b650fd7e3d034311d04f990cd6eb3fd3d7d63465e9dafe1a237f6a400b80", func := "shard/shardlaw15.PlanMoves", spec := "planMoves", inPlace := ["internal/reflectlite.ValueOf", "internal/reflectlite.Swapper", "(internal/reflectlite.Value).Len"], unfollowed := true, recurses := true, apart := false, narrowed := true }
def PlanMovesUptoSaid : Prop := planMovesUptoRow.holds Try.pinned (OpenSpec.upto planMovesSpec)

/-- 'shardlaw15.PlanFewest', WHERE WHAT IT READS IS OF BULK AT MOST 1048576: true; the input reads as it did. -/
def planFewestUptoRow : OpenClaim := { program := "ytpkcccphoolapaa", sum := "fc73b650fd7e3d034311d04f990cd6eb3fd3d7d63465e9dafe1a237f6a400b80", func := "shard/shardlaw15.PlanFewest", spec := "planFewest", inPlace := ["internal/reflectlite.ValueOf", "internal/reflectlite.Swapper", "(internal/reflectlite.Value).Len"], unfollowed := true, recurses := true, apart := false, narrowed := true }
def PlanFewestUptoSaid : Prop := planFewestUptoRow.holds Try.pinned (OpenSpec.upto planFewestSpec)

/-- 'shardlaw15.PlanSteps', WHERE WHAT IT READS IS OF BULK AT MOST 1048576: true; the input reads as it did. -/
def planStepsUptoRow : OpenClaim := { program := "ytpkcccphoolapaa", sum := "fc73b650fd7e3d034311d04f990cd6eb3fd3d7d63465e9dafe1a237f6a400b80", func := "shard/shardlaw15.PlanSteps", spec := "planSteps", inPlace := ["internal/reflectlite.ValueOf", "internal/reflectlite.Swapper", "(internal/reflectlite.Value).Len"], unfollowed := true, recurses := true, apart := false, narrowed := true }
def PlanStepsUptoSaid : Prop := planStepsUptoRow.holds Try.pinned (OpenSpec.upto planStepsSpec)

/-- 'shardlaw15.PlanEvens', WHERE WHAT IT READS IS OF BULK AT MOST 1048576: true; the input reads as it did. -/
def planEvensUptoRow : OpenClaim := { program := "ytpkcccphoolapaa", sum := "fc73b650fd7e3d034311d04f990cd6eb3fd3d7d63465e9dafe1a237f6a400b80", func := "shard/shardlaw15.PlanEvens", spec := "planEvens", inPlace := ["internal/reflectlite.ValueOf", "internal/reflectlite.Swapper", "(internal/reflectlite.Value).Len"], unfollowed := true, recurses := true, apart := false, narrowed := true }
def PlanEvensUptoSaid : Prop := planEvensUptoRow.holds Try.pinned (OpenSpec.upto planEvensSpec)

/-- 'shardlaw15.PlanOwn', WHERE WHAT IT READS IS OF BULK AT MOST 1048576: true; the input reads as it did. -/
def planOwnUptoRow : OpenClaim := { program := "ytpkcccphoolapaa", sum := "fc73b650fd7e3d034311d04f990cd6eb3fd3d7d63465e9dafe1a237f6a400b80", func := "shard/shardlaw15.PlanOwn", spec := "planOwn", inPlace := ["internal/reflectlite.ValueOf", "internal/reflectlite.Swapper", "(internal/reflectlite.Value).Len"], unfollowed := true, recurses := true, apart := false, narrowed := true }
def PlanOwnUptoSaid : Prop := planOwnUptoRow.holds Try.pinned (OpenSpec.upto planOwnSpec)

/-- 'shardlaw15.PlanStill', WHERE WHAT IT READS IS OF BULK AT MOST 1048576: true; the input reads as it did. -/
def planStillUptoRow : OpenClaim := { program := "ytpkcccphoolapaa", sum := "fc73b650fd7e3d034311d04f990cd6eb3fd3d7d63465e9dafe1a237f6a400b80", func := "shard/shardlaw15.PlanStill", spec := "planStill", inPlace := ["internal/reflectlite.ValueOf", "internal/reflectlite.Swapper", "(internal/reflectlite.Value).Len"], unfollowed := true, recurses := true, apart := false, narrowed := true }
def PlanStillUptoSaid : Prop := planStillUptoRow.holds Try.pinned (OpenSpec.upto planStillSpec)

end Rows
end Go.Proofs.Ytpkcccphoolapaa
