/-
  No cell of these rows narrows 'for every input' (looked for: loops, veiled, ifaces, maps, wideKeys, modest, calm, conditions, laid).
  DERIVED. THE GIVEN ROWS OF THIS SEAT. 5 by the template 'for every input the law returns true; each argument reads behind the call as it read before'; 0 by the template 'total and deterministic' (their statements: YtefdbhmjbfpeoaaTotals.lean).
  GIVEN WITH THE SEED: the statements are not yours to turn. If you find one false, say at which input.
  Laid BY PROGRAM, IN A SANDBOX (cutbox-rows.mjs): the forced cells as the released guide's own fill.sh prints them over the translation 40697c2b23b2c380… (all of the seat's roots in one cut). By AI agents, Wed Nov 11 2026. No macro, syntax, notation, axiom, sorry.
-/
import Derived.Test.YtefdbhmjbfpeoaaChecked
import GoSem.Claim
import GoSem.ClaimJoined
import GoSem.ClaimMapViews
import Derived.JoinedTies
import Derived.KernelRfl
namespace Go.Proofs.Ytefdbhmjbfpeoaa
/- THE CELL 'sum', in the pinned program and in every row, IS THE sha256 OF THE DUMP (.gsa) THAT YtefdbhmjbfpeoaaProg.lean LOADS. Nothing in Lean hashes anything: it is a label: what it is worth is what the hold of that sum in a sandbox is worth. -/
noncomputable def Try.pinned : Pinned := { name := "ytefdbhmjbfpeoaa", sum := "40697c2b23b2c3808c7bdcb62a0013ec80b43cfe9cba8b364fff53ea4ec8cb45", checked := Try.checked }
namespace Rows
def none {H : Type} : Left H := { results := [], args := [] }

/-- 'shardlaw6.RangePrice': WHATEVER THE INPUT: true; the input reads as it did. -/
def rangePriceSpec : ChangeSpec := { name := "rangePrice", fn := fun _ => fun
  | [d1, d2, d3] => { results := [.lit (.bool true)], args := [d1, d2, d3] }
  | _ => none }
def rangePriceRow : OpenClaim := { program := "ytefdbhmjbfpeoaa", sum := "40697c2b23b2c3808c7bdcb62a0013ec80b43cfe9cba8b364fff53ea4ec8cb45", func := "shard/shardlaw6.RangePrice", spec := "rangePrice", unfollowed := true, recurses := true, apart := false }
def RangePriceSaid : Prop := rangePriceRow.holds Try.pinned (OpenSpec.ofChange rangePriceSpec)

/-- ITS FALSE NEIGHBOUR: 'it returns false'. Refute it at one input. -/
def rangePriceWrong : ChangeSpec := { name := "rangePrice", fn := fun _ => fun
  | [d1, d2, d3] => { results := [.lit (.bool false)], args := [d1, d2, d3] }
  | _ => none }
def RangePriceWrongFalsely : Prop := rangePriceRow.holds Try.pinned (OpenSpec.ofChange rangePriceWrong)

/-- 'shardlaw6.RangePoint': WHATEVER THE INPUT: true; the input reads as it did. -/
def rangePointSpec : ChangeSpec := { name := "rangePoint", fn := fun _ => fun
  | [d1, d2, d3] => { results := [.lit (.bool true)], args := [d1, d2, d3] }
  | _ => none }
def rangePointRow : OpenClaim := { program := "ytefdbhmjbfpeoaa", sum := "40697c2b23b2c3808c7bdcb62a0013ec80b43cfe9cba8b364fff53ea4ec8cb45", func := "shard/shardlaw6.RangePoint", spec := "rangePoint", unfollowed := true, recurses := true, apart := false }
def RangePointSaid : Prop := rangePointRow.holds Try.pinned (OpenSpec.ofChange rangePointSpec)

/-- ITS FALSE NEIGHBOUR: 'it returns false'. Refute it at one input. -/
def rangePointWrong : ChangeSpec := { name := "rangePoint", fn := fun _ => fun
  | [d1, d2, d3] => { results := [.lit (.bool false)], args := [d1, d2, d3] }
  | _ => none }
def RangePointWrongFalsely : Prop := rangePointRow.holds Try.pinned (OpenSpec.ofChange rangePointWrong)

/-- 'shardlaw6.RangeBack': WHATEVER THE INPUT: true; the input reads as it did. -/
def rangeBackSpec : ChangeSpec := { name := "rangeBack", fn := fun _ => fun
  | [d1, d2] => { results := [.lit (.bool true)], args := [d1, d2] }
  | _ => none }
def rangeBackRow : OpenClaim := { program := "ytefdbhmjbfpeoaa", sum := "40697c2b23b2c3808c7bdcb62a0013ec80b43cfe9cba8b364fff53ea4ec8cb45", func := "shard/shardlaw6.RangeBack", spec := "rangeBack", unfollowed := true, recurses := true, apart := false }
def RangeBackSaid : Prop := rangeBackRow.holds Try.pinned (OpenSpec.ofChange rangeBackSpec)

/-- ITS FALSE NEIGHBOUR: 'it returns false'. Refute it at one input. -/
def rangeBackWrong : ChangeSpec := { name := "rangeBack", fn := fun _ => fun
  | [d1, d2] => { results := [.lit (.bool false)], args := [d1, d2] }
  | _ => none }
def RangeBackWrongFalsely : Prop := rangeBackRow.holds Try.pinned (OpenSpec.ofChange rangeBackWrong)

/-- 'shardlaw6.RangeLead': WHATEVER THE INPUT: true; the input reads as it did. -/
def rangeLeadSpec : ChangeSpec := { name := "rangeLead", fn := fun _ => fun
  | [d1, d2] => { results := [.lit (.bool true)], args := [d1, d2] }
  | _ => none }
def rangeLeadRow : OpenClaim := { program := "ytefdbhmjbfpeoaa", sum := "40697c2b23b2c3808c7bdcb62a0013ec80b43cfe9cba8b364fff53ea4ec8cb45", func := "shard/shardlaw6.RangeLead", spec := "rangeLead", unfollowed := true, recurses := true, apart := false }
def RangeLeadSaid : Prop := rangeLeadRow.holds Try.pinned (OpenSpec.ofChange rangeLeadSpec)

/-- ITS FALSE NEIGHBOUR: 'it returns false'. Refute it at one input. -/
def rangeLeadWrong : ChangeSpec := { name := "rangeLead", fn := fun _ => fun
  | [d1, d2] => { results := [.lit (.bool false)], args := [d1, d2] }
  | _ => none }
def RangeLeadWrongFalsely : Prop := rangeLeadRow.holds Try.pinned (OpenSpec.ofChange rangeLeadWrong)

/-- 'shardlaw6.RangeTight': WHATEVER THE INPUT: true; the input reads as it did. -/
def rangeTightSpec : ChangeSpec := { name := "rangeTight", fn := fun _ => fun
  | [d1, d2, d3] => { results := [.lit (.bool true)], args := [d1, d2, d3] }
  | _ => none }
def rangeTightRow : OpenClaim := { program := "ytefdbhmjbfpeoaa", sum := "40697c2b23b2c3808c7bdcb62a0013ec80b43cfe9cba8b364fff53ea4ec8cb45", func := "shard/shardlaw6.RangeTight", spec := "rangeTight", inPlace := ["internal/reflectlite.ValueOf", "internal/reflectlite.Swapper", "(internal/reflectlite.Value).Len"], unfollowed := true, recurses := true, apart := false }
def RangeTightSaid : Prop := rangeTightRow.holds Try.pinned (OpenSpec.ofChange rangeTightSpec)

/-- ITS FALSE NEIGHBOUR: 'it returns false'. Refute it at one input. -/
def rangeTightWrong : ChangeSpec := { name := "rangeTight", fn := fun _ => fun
  | [d1, d2, d3] => { results := [.lit (.bool false)], args := [d1, d2, d3] }
  | _ => none }
def RangeTightWrongFalsely : Prop := rangeTightRow.holds Try.pinned (OpenSpec.ofChange rangeTightWrong)

/- THE SECOND FORM. 'bulk': how many values and letters a reading holds, each counted each time it is reached (what is shared counts as often as it is met; a slice's spare places count too). A statement '..UptoSaid' is the law's where the arguments, and the package variables that the reading takes, are together of bulk at most 1048576: NARROWER than '..Said'. Prove '..Said' where nothing that the law and all that it calls make is longer than what came in: it says more and counts as full. Else prove '..UptoSaid'. A law counts once. -/
mutual
def uptoBulk {H : Type} : DataW H → Nat
  | .lit (.string bytes) => bytes.length + 1
  | .lit _ => 1
  | .nil => 1
  | .ptr d => uptoBulk d + 1
  | .slice elems spare => uptoBulkAll elems + uptoBulkAll spare + 1
  | .agg parts => uptoBulkAll parts + 1
  | .iface _ d => uptoBulk d + 1
  | .map entries => uptoBulkEntries entries + 1
  | .held _ => 1
def uptoBulkAll {H : Type} : List (DataW H) → Nat
  | [] => 0
  | d :: r => uptoBulk d + uptoBulkAll r
def uptoBulkEntries {H : Type} : List (Lit × DataW H) → Nat
  | [] => 0
  | x :: r => uptoBulkEntry x + uptoBulkEntries r
def uptoBulkEntry {H : Type} : Lit × DataW H → Nat
  | (.string bytes, d) => bytes.length + uptoBulk d + 1
  | (_, d) => uptoBulk d + 1
 end
def uptoSmall : (H : Type) → List (DataW H) → Bool := fun _ ds => decide (uptoBulkAll ds ≤ 1048576)
def OpenSpec.upto (s : _root_.Go.ChangeSpec) : _root_.Go.OpenSpec := { _root_.Go.OpenSpec.ofChange s with cond := some uptoSmall }

/-- 'shardlaw6.RangePrice', WHERE WHAT IT READS IS OF BULK AT MOST 1048576: true; the input reads as it did. -/
def rangePriceUptoRow : OpenClaim := { program := "ytefdbhmjbfpeoaa", sum := "40697c2b23b2c3808c7bdcb62a0013ec80b43cfe9cba8b364fff53ea4ec8cb45", func := "shard/shardlaw6.RangePrice", spec := "rangePrice", unfollowed := true, recurses := true, apart := false, narrowed := true }
def RangePriceUptoSaid : Prop := rangePriceUptoRow.holds Try.pinned (OpenSpec.upto rangePriceSpec)

/-- 'shardlaw6.RangePoint', WHERE WHAT IT READS IS OF BULK AT MOST 1048576: true; the input reads as it did. -/
def rangePointUptoRow : OpenClaim := { program := "ytefdbhmjbfpeoaa", sum := "40697c2b23b2c3808c7bdcb62a0013ec80b43cfe9cba8b364fff53ea4ec8cb45", func := "shard/shardlaw6.RangePoint", spec := "rangePoint", unfollowed := true, recurses := true, apart := false, narrowed := true }
def RangePointUptoSaid : Prop := rangePointUptoRow.holds Try.pinned (OpenSpec.upto rangePointSpec)

/-- 'shardlaw6.RangeBack', WHERE WHAT IT READS IS OF BULK AT MOST 1048576: true; the input reads as it did. -/
def rangeBackUptoRow : OpenClaim := { program := "ytefdbhmjbfpeoaa", sum := "40697c2b23b2c3808c7bdcb62a0013ec80b43cfe9cba8b364fff53ea4ec8cb45", func := "shard/shardlaw6.RangeBack", spec := "rangeBack", unfollowed := true, recurses := true, apart := false, narrowed := true }
def RangeBackUptoSaid : Prop := rangeBackUptoRow.holds Try.pinned (OpenSpec.upto rangeBackSpec)

/-- 'shardlaw6.RangeLead', WHERE WHAT IT READS IS OF BULK AT MOST 1048576: true; the input reads as it did. -/
def rangeLeadUptoRow : OpenClaim := { program := "ytefdbhmjbfpeoaa", sum := "40697c2b23b2c3808c7bdcb62a0013ec80b43cfe9cba8b364fff53ea4ec8cb45", func := "shard/shardlaw6.RangeLead", spec := "rangeLead", unfollowed := true, recurses := true, apart := false, narrowed := true }
def RangeLeadUptoSaid : Prop := rangeLeadUptoRow.holds Try.pinned (OpenSpec.upto rangeLeadSpec)

/-- 'shardlaw6.RangeTight', WHERE WHAT IT READS IS OF BULK AT MOST 1048576: true; the input reads as it did. -/
def rangeTightUptoRow : OpenClaim := { program := "ytefdbhmjbfpeoaa", sum := "40697c2b23b2c3808c7bdcb62a0013ec80b43cfe9cba8b364fff53ea4ec8cb45", func := "shard/shardlaw6.RangeTight", spec := "rangeTight", inPlace := ["internal/reflectlite.ValueOf", "internal/reflectlite.Swapper", "(internal/reflectlite.Value).Len"], unfollowed := true, recurses := true, apart := false, narrowed := true }
def RangeTightUptoSaid : Prop := rangeTightUptoRow.holds Try.pinned (OpenSpec.upto rangeTightSpec)

end Rows
end Go.Proofs.Ytefdbhmjbfpeoaa
