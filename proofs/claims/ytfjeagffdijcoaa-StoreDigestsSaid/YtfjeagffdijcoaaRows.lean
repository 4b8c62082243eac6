/-
  No cell of these rows narrows 'for every input' (looked for: loops, veiled, ifaces, maps, wideKeys, modest, calm, conditions, laid).
  DERIVED. THE GIVEN ROWS OF THIS SEAT. 13 by the template 'for every input the law returns true; each argument reads behind the call as it read before'; 0 by the template 'total and deterministic' (their statements: YtfjeagffdijcoaaTotals.lean).
  GIVEN WITH THE SEED: the statements are not yours to turn. If you find one false, say at which input.
  Laid BY PROGRAM, IN A SANDBOX (cutbox-rows.mjs): the forced cells as the released guide's own fill.sh prints them over the translation d872bee5f0be8b5b… (all of the seat's roots in one cut). By AI agents, Wed Nov 11 2026. No macro, syntax, notation, axiom, sorry.
-/
import Derived.Test.YtfjeagffdijcoaaChecked
import GoSem.Claim
import GoSem.ClaimJoined
import GoSem.ClaimMapViews
import Derived.JoinedTies
import Derived.KernelRfl
namespace Go.Proofs.Ytfjeagffdijcoaa
/- THE CELL 'sum', in the pinned program and in every row, IS THE sha256 OF THE DUMP (.gsa) THAT YtfjeagffdijcoaaProg.lean LOADS. Nothing in Lean hashes anything: it is a label: what it is worth is what the hold of that sum in a sandbox is worth. -/
noncomputable def Try.pinned : Pinned := { name := "ytfjeagffdijcoaa", sum := "d872bee5f0be8b5b1173c938b0c60b6321fe3688a67086fb0f14f672d1806f20", checked := Try.checked }
namespace Rows
def none {H : Type} : Left H := { results := [], args := [] }

/-- 'shardlaw7.StoreNoWalk': WHATEVER THE INPUT: true; the input reads as it did. -/
def storeNoWalkSpec : ChangeSpec := { name := "storeNoWalk", fn := fun _ => fun
  | [d1, d2, d3] => { results := [.lit (.bool true)], args := [d1, d2, d3] }
  | _ => none }
def storeNoWalkRow : OpenClaim := { program := "ytfjeagffdijcoaa", sum := "d872bee5f0be8b5b1173c938b0c60b6321fe3688a67086fb0f14f672d1806f20", func := "shard/shardlaw7.StoreNoWalk", spec := "storeNoWalk", unfollowed := true, recurses := true, apart := false }
def StoreNoWalkSaid : Prop := storeNoWalkRow.holds Try.pinned (OpenSpec.ofChange storeNoWalkSpec)

/-- ITS FALSE NEIGHBOUR: 'it returns false'. Refute it at one input. -/
def storeNoWalkWrong : ChangeSpec := { name := "storeNoWalk", fn := fun _ => fun
  | [d1, d2, d3] => { results := [.lit (.bool false)], args := [d1, d2, d3] }
  | _ => none }
def StoreNoWalkWrongFalsely : Prop := storeNoWalkRow.holds Try.pinned (OpenSpec.ofChange storeNoWalkWrong)

/-- 'shardlaw7.StoreAll': WHATEVER THE INPUT: true; the input reads as it did. -/
def storeAllSpec : ChangeSpec := { name := "storeAll", fn := fun _ => fun
  | [d1, d2, d3, d4] => { results := [.lit (.bool true)], args := [d1, d2, d3, d4] }
  | _ => none }
def storeAllRow : OpenClaim := { program := "ytfjeagffdijcoaa", sum := "d872bee5f0be8b5b1173c938b0c60b6321fe3688a67086fb0f14f672d1806f20", func := "shard/shardlaw7.StoreAll", spec := "storeAll", unfollowed := true, recurses := true, apart := false }
def StoreAllSaid : Prop := storeAllRow.holds Try.pinned (OpenSpec.ofChange storeAllSpec)

/-- ITS FALSE NEIGHBOUR: 'it returns false'. Refute it at one input. -/
def storeAllWrong : ChangeSpec := { name := "storeAll", fn := fun _ => fun
  | [d1, d2, d3, d4] => { results := [.lit (.bool false)], args := [d1, d2, d3, d4] }
  | _ => none }
def StoreAllWrongFalsely : Prop := storeAllRow.holds Try.pinned (OpenSpec.ofChange storeAllWrong)

/-- 'shardlaw7.StoreFloats': WHATEVER THE INPUT: true; the input reads as it did. -/
def storeFloatsSpec : ChangeSpec := { name := "storeFloats", fn := fun _ => fun
  | [d1, d2] => { results := [.lit (.bool true)], args := [d1, d2] }
  | _ => none }
def storeFloatsRow : OpenClaim := { program := "ytfjeagffdijcoaa", sum := "d872bee5f0be8b5b1173c938b0c60b6321fe3688a67086fb0f14f672d1806f20", func := "shard/shardlaw7.StoreFloats", spec := "storeFloats", unfollowed := true, recurses := true, apart := false }
def StoreFloatsSaid : Prop := storeFloatsRow.holds Try.pinned (OpenSpec.ofChange storeFloatsSpec)

/-- ITS FALSE NEIGHBOUR: 'it returns false'. Refute it at one input. -/
def storeFloatsWrong : ChangeSpec := { name := "storeFloats", fn := fun _ => fun
  | [d1, d2] => { results := [.lit (.bool false)], args := [d1, d2] }
  | _ => none }
def StoreFloatsWrongFalsely : Prop := storeFloatsRow.holds Try.pinned (OpenSpec.ofChange storeFloatsWrong)

/-- 'shardlaw7.StoreBetween': WHATEVER THE INPUT: true; the input reads as it did. -/
def storeBetweenSpec : ChangeSpec := { name := "storeBetween", fn := fun _ => fun
  | [d1, d2, d3, d4, d5] => { results := [.lit (.bool true)], args := [d1, d2, d3, d4, d5] }
  | _ => none }
def storeBetweenRow : OpenClaim := { program := "ytfjeagffdijcoaa", sum := "d872bee5f0be8b5b1173c938b0c60b6321fe3688a67086fb0f14f672d1806f20", func := "shard/shardlaw7.StoreBetween", spec := "storeBetween", unfollowed := true, recurses := true, apart := false }
def StoreBetweenSaid : Prop := storeBetweenRow.holds Try.pinned (OpenSpec.ofChange storeBetweenSpec)

/-- ITS FALSE NEIGHBOUR: 'it returns false'. Refute it at one input. -/
def storeBetweenWrong : ChangeSpec := { name := "storeBetween", fn := fun _ => fun
  | [d1, d2, d3, d4, d5] => { results := [.lit (.bool false)], args := [d1, d2, d3, d4, d5] }
  | _ => none }
def StoreBetweenWrongFalsely : Prop := storeBetweenRow.holds Try.pinned (OpenSpec.ofChange storeBetweenWrong)

/-- 'shardlaw7.StoreHeight': WHATEVER THE INPUT: true; the input reads as it did. -/
def storeHeightSpec : ChangeSpec := { name := "storeHeight", fn := fun _ => fun
  | [d1, d2, d3] => { results := [.lit (.bool true)], args := [d1, d2, d3] }
  | _ => none }
def storeHeightRow : OpenClaim := { program := "ytfjeagffdijcoaa", sum := "d872bee5f0be8b5b1173c938b0c60b6321fe3688a67086fb0f14f672d1806f20", func := "shard/shardlaw7.StoreHeight", spec := "storeHeight", unfollowed := true, recurses := true, apart := false }
def StoreHeightSaid : Prop := storeHeightRow.holds Try.pinned (OpenSpec.ofChange storeHeightSpec)

/-- ITS FALSE NEIGHBOUR: 'it returns false'. Refute it at one input. -/
def storeHeightWrong : ChangeSpec := { name := "storeHeight", fn := fun _ => fun
  | [d1, d2, d3] => { results := [.lit (.bool false)], args := [d1, d2, d3] }
  | _ => none }
def StoreHeightWrongFalsely : Prop := storeHeightRow.holds Try.pinned (OpenSpec.ofChange storeHeightWrong)

/-- 'shardlaw7.StoreLate': WHATEVER THE INPUT: true; the input reads as it did. -/
def storeLateSpec : ChangeSpec := { name := "storeLate", fn := fun _ => fun
  | [d1, d2, d3, d4, d5, d6] => { results := [.lit (.bool true)], args := [d1, d2, d3, d4, d5, d6] }
  | _ => none }
def storeLateRow : OpenClaim := { program := "ytfjeagffdijcoaa", sum := "d872bee5f0be8b5b1173c938b0c60b6321fe3688a67086fb0f14f672d1806f20", func := "shard/shardlaw7.StoreLate", spec := "storeLate", unfollowed := true, recurses := true, apart := false }
def StoreLateSaid : Prop := storeLateRow.holds Try.pinned (OpenSpec.ofChange storeLateSpec)

/-- ITS FALSE NEIGHBOUR: 'it returns false'. Refute it at one input. -/
def storeLateWrong : ChangeSpec := { name := "storeLate", fn := fun _ => fun
  | [d1, d2, d3, d4, d5, d6] => { results := [.lit (.bool false)], args := [d1, d2, d3, d4, d5, d6] }
  | _ => none }
def StoreLateWrongFalsely : Prop := storeLateRow.holds Try.pinned (OpenSpec.ofChange storeLateWrong)

/-- 'shardlaw7.StoreDigests': WHATEVER THE INPUT: true; the input reads as it did. -/
def storeDigestsSpec : ChangeSpec := { name := "storeDigests", fn := fun _ => fun
  | [d1, d2, d3] => { results := [.lit (.bool true)], args := [d1, d2, d3] }
  | _ => none }
def storeDigestsRow : OpenClaim := { program := "ytfjeagffdijcoaa", sum := "d872bee5f0be8b5b1173c938b0c60b6321fe3688a67086fb0f14f672d1806f20", func := "shard/shardlaw7.StoreDigests", spec := "storeDigests", unfollowed := true, recurses := true, apart := false }
def StoreDigestsSaid : Prop := storeDigestsRow.holds Try.pinned (OpenSpec.ofChange storeDigestsSpec)

/-- ITS FALSE NEIGHBOUR: 'it returns false'. Refute it at one input. -/
def storeDigestsWrong : ChangeSpec := { name := "storeDigests", fn := fun _ => fun
  | [d1, d2, d3] => { results := [.lit (.bool false)], args := [d1, d2, d3] }
  | _ => none }
def StoreDigestsWrongFalsely : Prop := storeDigestsRow.holds Try.pinned (OpenSpec.ofChange storeDigestsWrong)

/-- 'shardlaw7.StorePlaces': WHATEVER THE INPUT: true; the input reads as it did. -/
def storePlacesSpec : ChangeSpec := { name := "storePlaces", fn := fun _ => fun
  | [d1, d2] => { results := [.lit (.bool true)], args := [d1, d2] }
  | _ => none }
def storePlacesRow : OpenClaim := { program := "ytfjeagffdijcoaa", sum := "d872bee5f0be8b5b1173c938b0c60b6321fe3688a67086fb0f14f672d1806f20", func := "shard/shardlaw7.StorePlaces", spec := "storePlaces", unfollowed := true, recurses := true, apart := false }
def StorePlacesSaid : Prop := storePlacesRow.holds Try.pinned (OpenSpec.ofChange storePlacesSpec)

/-- ITS FALSE NEIGHBOUR: 'it returns false'. Refute it at one input. -/
def storePlacesWrong : ChangeSpec := { name := "storePlaces", fn := fun _ => fun
  | [d1, d2] => { results := [.lit (.bool false)], args := [d1, d2] }
  | _ => none }
def StorePlacesWrongFalsely : Prop := storePlacesRow.holds Try.pinned (OpenSpec.ofChange storePlacesWrong)

/-- 'shardlaw7.StoreMaps': WHATEVER THE INPUT: true; the input reads as it did. -/
def storeMapsSpec : ChangeSpec := { name := "storeMaps", fn := fun _ => fun
  | [d1, d2] => { results := [.lit (.bool true)], args := [d1, d2] }
  | _ => none }
def storeMapsRow : OpenClaim := { program := "ytfjeagffdijcoaa", sum := "d872bee5f0be8b5b1173c938b0c60b6321fe3688a67086fb0f14f672d1806f20", func := "shard/shardlaw7.StoreMaps", spec := "storeMaps", unfollowed := true, recurses := true, apart := false }
def StoreMapsSaid : Prop := storeMapsRow.holds Try.pinned (OpenSpec.ofChange storeMapsSpec)

/-- ITS FALSE NEIGHBOUR: 'it returns false'. Refute it at one input. -/
def storeMapsWrong : ChangeSpec := { name := "storeMaps", fn := fun _ => fun
  | [d1, d2] => { results := [.lit (.bool false)], args := [d1, d2] }
  | _ => none }
def StoreMapsWrongFalsely : Prop := storeMapsRow.holds Try.pinned (OpenSpec.ofChange storeMapsWrong)

/-- 'shardlaw7.StoreScans': WHATEVER THE INPUT: true; the input reads as it did. -/
def storeScansSpec : ChangeSpec := { name := "storeScans", fn := fun _ => fun
  | [d1, d2, d3, d4] => { results := [.lit (.bool true)], args := [d1, d2, d3, d4] }
  | _ => none }
def storeScansRow : OpenClaim := { program := "ytfjeagffdijcoaa", sum := "d872bee5f0be8b5b1173c938b0c60b6321fe3688a67086fb0f14f672d1806f20", func := "shard/shardlaw7.StoreScans", spec := "storeScans", unfollowed := true, recurses := true, apart := false }
def StoreScansSaid : Prop := storeScansRow.holds Try.pinned (OpenSpec.ofChange storeScansSpec)

/-- ITS FALSE NEIGHBOUR: 'it returns false'. Refute it at one input. -/
def storeScansWrong : ChangeSpec := { name := "storeScans", fn := fun _ => fun
  | [d1, d2, d3, d4] => { results := [.lit (.bool false)], args := [d1, d2, d3, d4] }
  | _ => none }
def StoreScansWrongFalsely : Prop := storeScansRow.holds Try.pinned (OpenSpec.ofChange storeScansWrong)

/-- 'shardlaw7.StoreNil': WHATEVER THE INPUT: true; the input reads as it did. -/
def storeNilSpec : ChangeSpec := { name := "storeNil", fn := fun _ => fun
  | [d1, d2] => { results := [.lit (.bool true)], args := [d1, d2] }
  | _ => none }
def storeNilRow : OpenClaim := { program := "ytfjeagffdijcoaa", sum := "d872bee5f0be8b5b1173c938b0c60b6321fe3688a67086fb0f14f672d1806f20", func := "shard/shardlaw7.StoreNil", spec := "storeNil", unfollowed := true, recurses := true, apart := false }
def StoreNilSaid : Prop := storeNilRow.holds Try.pinned (OpenSpec.ofChange storeNilSpec)

/-- ITS FALSE NEIGHBOUR: 'it returns false'. Refute it at one input. -/
def storeNilWrong : ChangeSpec := { name := "storeNil", fn := fun _ => fun
  | [d1, d2] => { results := [.lit (.bool false)], args := [d1, d2] }
  | _ => none }
def StoreNilWrongFalsely : Prop := storeNilRow.holds Try.pinned (OpenSpec.ofChange storeNilWrong)

/-- 'shardlaw7.StoreMoves': WHATEVER THE INPUT: true; the input reads as it did. -/
def storeMovesSpec : ChangeSpec := { name := "storeMoves", fn := fun _ => fun
  | [d1, d2] => { results := [.lit (.bool true)], args := [d1, d2] }
  | _ => none }
def storeMovesRow : OpenClaim := { program := "ytfjeagffdijcoaa", sum := "d872bee5f0be8b5b1173c938b0c60b6321fe3688a67086fb0f14f672d1806f20", func := "shard/shardlaw7.StoreMoves", spec := "storeMoves", unfollowed := true, recurses := true, apart := false }
def StoreMovesSaid : Prop := storeMovesRow.holds Try.pinned (OpenSpec.ofChange storeMovesSpec)

/-- ITS FALSE NEIGHBOUR: 'it returns false'. Refute it at one input. -/
def storeMovesWrong : ChangeSpec := { name := "storeMoves", fn := fun _ => fun
  | [d1, d2] => { results := [.lit (.bool false)], args := [d1, d2] }
  | _ => none }
def StoreMovesWrongFalsely : Prop := storeMovesRow.holds Try.pinned (OpenSpec.ofChange storeMovesWrong)

/-- 'shardlaw7.StoreShelves': WHATEVER THE INPUT: true; the input reads as it did. -/
def storeShelvesSpec : ChangeSpec := { name := "storeShelves", fn := fun _ => fun
  | [d1, d2, d3] => { results := [.lit (.bool true)], args := [d1, d2, d3] }
  | _ => none }
def storeShelvesRow : OpenClaim := { program := "ytfjeagffdijcoaa", sum := "d872bee5f0be8b5b1173c938b0c60b6321fe3688a67086fb0f14f672d1806f20", func := "shard/shardlaw7.StoreShelves", spec := "storeShelves", unfollowed := true, recurses := true, apart := false }
def StoreShelvesSaid : Prop := storeShelvesRow.holds Try.pinned (OpenSpec.ofChange storeShelvesSpec)

/-- ITS FALSE NEIGHBOUR: 'it returns false'. Refute it at one input. -/
def storeShelvesWrong : ChangeSpec := { name := "storeShelves", fn := fun _ => fun
  | [d1, d2, d3] => { results := [.lit (.bool false)], args := [d1, d2, d3] }
  | _ => none }
def StoreShelvesWrongFalsely : Prop := storeShelvesRow.holds Try.pinned (OpenSpec.ofChange storeShelvesWrong)

/- THE SECOND FORM. 'bulk': how many values and letters a reading holds, each counted each time it is reached (what is shared counts as often as it is met; a slice's spare places count too). A statement '..UptoSaid' is the law's where the arguments, and the package variables that the reading takes, are together of bulk at most 1048576: NARROWER than '..Said'. Prove '..Said' where nothing that the law and all that it calls make is longer than what came in: it says more and counts as full. Else prove '..UptoSaid'. A law counts once. -/
mutual
def uptoBulk {H : Type} : DataW H → Nat
  | .lit (.string bytes) => bytes.length + 1
  | .lit _ => 1
  | .nil => 1
  | .ptr d => uptoBulk d + 1
  | .slice elems spare => uptoBulkAll elems + uptoBulkAll spare + 1
  | .agg parts => uptoBulkAll parts + 1
  | .iface _ d => uptoBulk d + 1
  | .map entries => uptoBulkEntries entries + 1
  | .held _ => 1
def uptoBulkAll {H : Type} : List (DataW H) → Nat
  | [] => 0
  | d :: r => uptoBulk d + uptoBulkAll r
def uptoBulkEntries {H : Type} : List (Lit × DataW H) → Nat
  | [] => 0
  | x :: r => uptoBulkEntry x + uptoBulkEntries r
def uptoBulkEntry {H : Type} : Lit × DataW H → Nat
  | (.string bytes, d) => bytes.length + uptoBulk d + 1
  | (_, d) => uptoBulk d + 1
 end
def uptoSmall : (H : Type) → List (DataW H) → Bool := fun _ ds => decide (uptoBulkAll ds ≤ 1048576)
def OpenSpec.upto (s : _root_.Go.ChangeSpec) : _root_.Go.OpenSpec := { _root_.Go.OpenSpec.ofChange s with cond := some uptoSmall }

/-- 'shardlaw7.StoreNoWalk', WHERE WHAT IT READS IS OF BULK AT MOST 1048576: true; the input reads as it did. -/
def storeNoWalkUptoRow : OpenClaim := { program := "ytfjeagffdijcoaa", sum := "d872bee5f0be8b5b1173c938b0c60b6321fe3688a67086fb0f14f672d1806f20", func := "shard/shardlaw7.StoreNoWalk", spec := "storeNoWalk", unfollowed := true, recurses := true, apart := false, narrowed := true }
def StoreNoWalkUptoSaid : Prop := storeNoWalkUptoRow.holds Try.pinned (OpenSpec.upto storeNoWalkSpec)

/-- 'shardlaw7.StoreAll', WHERE WHAT IT READS IS OF BULK AT MOST 1048576: true; the input reads as it did. -/
def storeAllUptoRow : OpenClaim := { program := "ytfjeagffdijcoaa", sum := "d872bee5f0be8b5b1173c938b0c60b6321fe3688a67086fb0f14f672d1806f20", func := "shard/shardlaw7.StoreAll", spec := "storeAll", unfollowed := true, recurses := true, apart := false, narrowed := true }
def StoreAllUptoSaid : Prop := storeAllUptoRow.holds Try.pinned (OpenSpec.upto storeAllSpec)

/-- 'shardlaw7.StoreFloats', WHERE WHAT IT READS IS OF BULK AT MOST 1048576: true; the input reads as it did. -/
def storeFloatsUptoRow : OpenClaim := { program := "ytfjeagffdijcoaa", sum := "d872bee5f0be8b5b1173c938b0c60b6321fe3688a67086fb0f14f672d1806f20", func := "shard/shardlaw7.StoreFloats", spec := "storeFloats", unfollowed := true, recurses := true, apart := false, narrowed := true }
def StoreFloatsUptoSaid : Prop := storeFloatsUptoRow.holds Try.pinned (OpenSpec.upto storeFloatsSpec)

/-- 'shardlaw7.StoreBetween', WHERE WHAT IT READS IS OF BULK AT MOST 1048576: true; the input reads as it did. -/
def storeBetweenUptoRow : OpenClaim := { program := "ytfjeagffdijcoaa", sum := "d872bee5f0be8b5b1173c938b0c60b6321fe3688a67086fb0f14f672d1806f20", func := "shard/shardlaw7.StoreBetween", spec := "storeBetween", unfollowed := true, recurses := true, apart := false, narrowed := true }
def StoreBetweenUptoSaid : Prop := storeBetweenUptoRow.holds Try.pinned (OpenSpec.upto storeBetweenSpec)

/-- 'shardlaw7.StoreHeight', WHERE WHAT IT READS IS OF BULK AT MOST 1048576: true; the input reads as it did. -/
def storeHeightUptoRow : OpenClaim := { program := "ytfjeagffdijcoaa", sum := "d872bee5f0be8b5b1173c938b0c60b6321fe3688a67086fb0f14f672d1806f20", func := "shard/shardlaw7.StoreHeight", spec := "storeHeight", unfollowed := true, recurses := true, apart := false, narrowed := true }
def StoreHeightUptoSaid : Prop := storeHeightUptoRow.holds Try.pinned (OpenSpec.upto storeHeightSpec)

/-- 'shardlaw7.StoreLate', WHERE WHAT IT READS IS OF BULK AT MOST 1048576: true; the input reads as it did. -/
def storeLateUptoRow : OpenClaim := { program := "ytfjeagffdijcoaa", sum := "d872bee5f0be8b5b1173c938b0c60b6321fe3688a67086fb0f14f672d1806f20", func := "shard/shardlaw7.StoreLate", spec := "storeLate", unfollowed := true, recurses := true, apart := false, narrowed := true }
def StoreLateUptoSaid : Prop := storeLateUptoRow.holds Try.pinned (OpenSpec.upto storeLateSpec)

/-- 'shardlaw7.StoreDigests', WHERE WHAT IT READS IS OF BULK AT MOST 1048576: true; the input reads as it did. -/
def storeDigestsUptoRow : OpenClaim := { program := "ytfjeagffdijcoaa", sum := "d872bee5f0be8b5b1173c938b0c60b6321fe3688a67086fb0f14f672d1806f20", func := "shard/shardlaw7.StoreDigests", spec := "storeDigests", unfollowed := true, recurses := true, apart := false, narrowed := true }
def StoreDigestsUptoSaid : Prop := storeDigestsUptoRow.holds Try.pinned (OpenSpec.upto storeDigestsSpec)

/-- 'shardlaw7.StorePlaces', WHERE WHAT IT READS IS OF BULK AT MOST 1048576: true; the input reads as it did. -/
def storePlacesUptoRow : OpenClaim := { program := "ytfjeagffdijcoaa", sum := "d872bee5f0be8b5b1173c938b0c60b6321fe3688a67086fb0f14f672d1806f20", func := "shard/shardlaw7.StorePlaces", spec := "storePlaces", unfollowed := true, recurses := true, apart := false, narrowed := true }
def StorePlacesUptoSaid : Prop := storePlacesUptoRow.holds Try.pinned (OpenSpec.upto storePlacesSpec)

/-- 'shardlaw7.StoreMaps', WHERE WHAT IT READS IS OF BULK AT MOST 1048576: true; the input reads as it did. -/
def storeMapsUptoRow : OpenClaim := { program := "ytfjeagffdijcoaa", sum := "d872bee5f0be8b5b1173c938b0c60b6321fe3688a67086fb0f14f672d1806f20", func := "shard/shardlaw7.StoreMaps", spec := "storeMaps", unfollowed := true, recurses := true, apart := false, narrowed := true }
def StoreMapsUptoSaid : Prop := storeMapsUptoRow.holds Try.pinned (OpenSpec.upto storeMapsSpec)

/-- 'shardlaw7.StoreScans', WHERE WHAT IT READS IS OF BULK AT MOST 1048576: true; the input reads as it did. -/
def storeScansUptoRow : OpenClaim := { program := "ytfjeagffdijcoaa", sum := "d872bee5f0be8b5b1173c938b0c60b6321fe3688a67086fb0f14f672d1806f20", func := "shard/shardlaw7.StoreScans", spec := "storeScans", unfollowed := true, recurses := true, apart := false, narrowed := true }
def StoreScansUptoSaid : Prop := storeScansUptoRow.holds Try.pinned (OpenSpec.upto storeScansSpec)

/-- 'shardlaw7.StoreNil', WHERE WHAT IT READS IS OF BULK AT MOST 1048576: true; the input reads as it did. -/
def storeNilUptoRow : OpenClaim := { program := "ytfjeagffdijcoaa", sum := "d872bee5f0be8b5b1173c938b0c60b6321fe3688a67086fb0f14f672d1806f20", func := "shard/shardlaw7.StoreNil", spec := "storeNil", unfollowed := true, recurses := true, apart := false, narrowed := true }
def StoreNilUptoSaid : Prop := storeNilUptoRow.holds Try.pinned (OpenSpec.upto storeNilSpec)

/-- 'shardlaw7.StoreMoves', WHERE WHAT IT READS IS OF BULK AT MOST 1048576: true; the input reads as it did. -/
def storeMovesUptoRow : OpenClaim := { program := "ytfjeagffdijcoaa", sum := "d872bee5f0be8b5b1173c938b0c60b6321fe3688a67086fb0f14f672d1806f20", func := "shard/shardlaw7.StoreMoves", spec := "storeMoves", unfollowed := true, recurses := true, apart := false, narrowed := true }
def StoreMovesUptoSaid : Prop := storeMovesUptoRow.holds Try.pinned (OpenSpec.upto storeMovesSpec)

/-- 'shardlaw7.StoreShelves', WHERE WHAT IT READS IS OF BULK AT MOST 1048576: true; the input reads as it did. -/
def storeShelvesUptoRow : OpenClaim := { program := "ytfjeagffdijcoaa", sum := "d872bee5f0be8b5b1173c938b0c60b6321fe3688a67086fb0f14f672d1806f20", func := "shard/shardlaw7.StoreShelves", spec := "storeShelves", unfollowed := true, recurses := true, apart := false, narrowed := true }
def StoreShelvesUptoSaid : Prop := storeShelvesUptoRow.holds Try.pinned (OpenSpec.upto storeShelvesSpec)

end Rows
end Go.Proofs.Ytfjeagffdijcoaa
