/-
  No cell of these rows narrows 'for every input' (looked for: loops, veiled, ifaces, maps, wideKeys, modest, calm, conditions, laid).
  DERIVED. THE GIVEN ROWS OF THIS SEAT. 10 by the template 'for every input the law returns true; each argument reads behind the call as it read before'; 0 by the template 'total and deterministic' (their statements: YthglnmhcgagkdaaTotals.lean).
  GIVEN WITH THE SEED: the statements are not yours to turn. If you find one false, say at which input.
  Laid BY PROGRAM, IN A SANDBOX (cutbox-rows.mjs): the forced cells as the released guide's own fill.sh prints them over the translation d97c5d19964ec9c2… (all of the seat's roots in one cut). By AI agents, Wed Nov 11 2026. No macro, syntax, notation, axiom, sorry.
-/
import Derived.Test.YthglnmhcgagkdaaChecked
import GoSem.Claim
import GoSem.ClaimJoined
import GoSem.ClaimMapViews
import Derived.JoinedTies
import Derived.KernelRfl
namespace Go.Proofs.Ythglnmhcgagkdaa
/- THE CELL 'sum', in the pinned program and in every row, IS THE sha256 OF THE DUMP (.gsa) THAT YthglnmhcgagkdaaProg.lean LOADS. Nothing in Lean hashes anything: it is a label: what it is worth is what the hold of that sum in a sandbox is worth. -/
noncomputable def Try.pinned : Pinned := { name := "ythglnmhcgagkdaa", sum := "d97c5d19964ec9c27d76217e6ff9125d204b93536cf80cd602c15877d2225f15", checked := Try.checked }
namespace Rows
def none {H : Type} : Left H := { results := [], args := [] }

/-- 'laws.FnFareWeek': WHATEVER THE INPUT: true; the input reads as it did. -/
def fnFareWeekSpec : ChangeSpec := { name := "fnFareWeek", fn := fun _ => fun
  | [d] => { results := [.lit (.bool true)], args := [d] }
  | _ => none }
def fnFareWeekRow : OpenClaim := { program := "ythglnmhcgagkdaa", sum := "d97c5d19964ec9c27d76217e6ff9125d204b93536cf80cd602c15877d2225f15", func := "loop.example/waymark/laws.FnFareWeek", spec := "fnFareWeek", unfollowed := true, recurses := true, apart := false }
def FnFareWeekSaid : Prop := fnFareWeekRow.holds Try.pinned (OpenSpec.ofChange fnFareWeekSpec)

/-- ITS FALSE NEIGHBOUR: 'it returns false'. Refute it at one input. -/
def fnFareWeekWrong : ChangeSpec := { name := "fnFareWeek", fn := fun _ => fun
  | [d] => { results := [.lit (.bool false)], args := [d] }
  | _ => none }
def FnFareWeekWrongFalsely : Prop := fnFareWeekRow.holds Try.pinned (OpenSpec.ofChange fnFareWeekWrong)

/-- 'laws.FnFlowValue': WHATEVER THE INPUT: true; the input reads as it did. -/
def fnFlowValueSpec : ChangeSpec := { name := "fnFlowValue", fn := fun _ => fun
  | [d] => { results := [.lit (.bool true)], args := [d] }
  | _ => none }
def fnFlowValueRow : OpenClaim := { program := "ythglnmhcgagkdaa", sum := "d97c5d19964ec9c27d76217e6ff9125d204b93536cf80cd602c15877d2225f15", func := "loop.example/waymark/laws.FnFlowValue", spec := "fnFlowValue", unfollowed := true, recurses := true, apart := false }
def FnFlowValueSaid : Prop := fnFlowValueRow.holds Try.pinned (OpenSpec.ofChange fnFlowValueSpec)

/-- ITS FALSE NEIGHBOUR: 'it returns false'. Refute it at one input. -/
def fnFlowValueWrong : ChangeSpec := { name := "fnFlowValue", fn := fun _ => fun
  | [d] => { results := [.lit (.bool false)], args := [d] }
  | _ => none }
def FnFlowValueWrongFalsely : Prop := fnFlowValueRow.holds Try.pinned (OpenSpec.ofChange fnFlowValueWrong)

/-- 'laws.FnFareRide': WHATEVER THE INPUT: true; the input reads as it did. -/
def fnFareRideSpec : ChangeSpec := { name := "fnFareRide", fn := fun _ => fun
  | [d1, d2] => { results := [.lit (.bool true)], args := [d1, d2] }
  | _ => none }
def fnFareRideRow : OpenClaim := { program := "ythglnmhcgagkdaa", sum := "d97c5d19964ec9c27d76217e6ff9125d204b93536cf80cd602c15877d2225f15", func := "loop.example/waymark/laws.FnFareRide", spec := "fnFareRide", unfollowed := true, recurses := true, apart := false }
def FnFareRideSaid : Prop := fnFareRideRow.holds Try.pinned (OpenSpec.ofChange fnFareRideSpec)

/-- ITS FALSE NEIGHBOUR: 'it returns false'. Refute it at one input. -/
def fnFareRideWrong : ChangeSpec := { name := "fnFareRide", fn := fun _ => fun
  | [d1, d2] => { results := [.lit (.bool false)], args := [d1, d2] }
  | _ => none }
def FnFareRideWrongFalsely : Prop := fnFareRideRow.holds Try.pinned (OpenSpec.ofChange fnFareRideWrong)

/-- 'laws.FnFlowOf': WHATEVER THE INPUT: true; the input reads as it did. -/
def fnFlowOfSpec : ChangeSpec := { name := "fnFlowOf", fn := fun _ => fun
  | [d] => { results := [.lit (.bool true)], args := [d] }
  | _ => none }
def fnFlowOfRow : OpenClaim := { program := "ythglnmhcgagkdaa", sum := "d97c5d19964ec9c27d76217e6ff9125d204b93536cf80cd602c15877d2225f15", func := "loop.example/waymark/laws.FnFlowOf", spec := "fnFlowOf", unfollowed := true, recurses := true, apart := false }
def FnFlowOfSaid : Prop := fnFlowOfRow.holds Try.pinned (OpenSpec.ofChange fnFlowOfSpec)

/-- ITS FALSE NEIGHBOUR: 'it returns false'. Refute it at one input. -/
def fnFlowOfWrong : ChangeSpec := { name := "fnFlowOf", fn := fun _ => fun
  | [d] => { results := [.lit (.bool false)], args := [d] }
  | _ => none }
def FnFlowOfWrongFalsely : Prop := fnFlowOfRow.holds Try.pinned (OpenSpec.ofChange fnFlowOfWrong)

/-- 'laws.FnExactFlowOf': WHATEVER THE INPUT: true; the input reads as it did. -/
def fnExactFlowOfSpec : ChangeSpec := { name := "fnExactFlowOf", fn := fun _ => fun
  | [d1, d2, d3] => { results := [.lit (.bool true)], args := [d1, d2, d3] }
  | _ => none }
def fnExactFlowOfRow : OpenClaim := { program := "ythglnmhcgagkdaa", sum := "d97c5d19964ec9c27d76217e6ff9125d204b93536cf80cd602c15877d2225f15", func := "loop.example/waymark/laws.FnExactFlowOf", spec := "fnExactFlowOf", unfollowed := true, recurses := true, apart := false }
def FnExactFlowOfSaid : Prop := fnExactFlowOfRow.holds Try.pinned (OpenSpec.ofChange fnExactFlowOfSpec)

/-- ITS FALSE NEIGHBOUR: 'it returns false'. Refute it at one input. -/
def fnExactFlowOfWrong : ChangeSpec := { name := "fnExactFlowOf", fn := fun _ => fun
  | [d1, d2, d3] => { results := [.lit (.bool false)], args := [d1, d2, d3] }
  | _ => none }
def FnExactFlowOfWrongFalsely : Prop := fnExactFlowOfRow.holds Try.pinned (OpenSpec.ofChange fnExactFlowOfWrong)

/-- 'laws.FnExactFareRide': WHATEVER THE INPUT: true; the input reads as it did. -/
def fnExactFareRideSpec : ChangeSpec := { name := "fnExactFareRide", fn := fun _ => fun
  | [d1, d2, d3, d4] => { results := [.lit (.bool true)], args := [d1, d2, d3, d4] }
  | _ => none }
def fnExactFareRideRow : OpenClaim := { program := "ythglnmhcgagkdaa", sum := "d97c5d19964ec9c27d76217e6ff9125d204b93536cf80cd602c15877d2225f15", func := "loop.example/waymark/laws.FnExactFareRide", spec := "fnExactFareRide", unfollowed := true, recurses := true, apart := false }
def FnExactFareRideSaid : Prop := fnExactFareRideRow.holds Try.pinned (OpenSpec.ofChange fnExactFareRideSpec)

/-- ITS FALSE NEIGHBOUR: 'it returns false'. Refute it at one input. -/
def fnExactFareRideWrong : ChangeSpec := { name := "fnExactFareRide", fn := fun _ => fun
  | [d1, d2, d3, d4] => { results := [.lit (.bool false)], args := [d1, d2, d3, d4] }
  | _ => none }
def FnExactFareRideWrongFalsely : Prop := fnExactFareRideRow.holds Try.pinned (OpenSpec.ofChange fnExactFareRideWrong)

/-- 'laws.FnExactBothNear': WHATEVER THE INPUT: true; the input reads as it did. -/
def fnExactBothNearSpec : ChangeSpec := { name := "fnExactBothNear", fn := fun _ => fun
  | [d1, d2, d3] => { results := [.lit (.bool true)], args := [d1, d2, d3] }
  | _ => none }
def fnExactBothNearRow : OpenClaim := { program := "ythglnmhcgagkdaa", sum := "d97c5d19964ec9c27d76217e6ff9125d204b93536cf80cd602c15877d2225f15", func := "loop.example/waymark/laws.FnExactBothNear", spec := "fnExactBothNear", unfollowed := true, recurses := true, apart := false }
def FnExactBothNearSaid : Prop := fnExactBothNearRow.holds Try.pinned (OpenSpec.ofChange fnExactBothNearSpec)

/-- ITS FALSE NEIGHBOUR: 'it returns false'. Refute it at one input. -/
def fnExactBothNearWrong : ChangeSpec := { name := "fnExactBothNear", fn := fun _ => fun
  | [d1, d2, d3] => { results := [.lit (.bool false)], args := [d1, d2, d3] }
  | _ => none }
def FnExactBothNearWrongFalsely : Prop := fnExactBothNearRow.holds Try.pinned (OpenSpec.ofChange fnExactBothNearWrong)

/-- 'laws.FnHubCount': WHATEVER THE INPUT: true; the input reads as it did. -/
def fnHubCountSpec : ChangeSpec := { name := "fnHubCount", fn := fun _ => fun
  | [d] => { results := [.lit (.bool true)], args := [d] }
  | _ => none }
def fnHubCountRow : OpenClaim := { program := "ythglnmhcgagkdaa", sum := "d97c5d19964ec9c27d76217e6ff9125d204b93536cf80cd602c15877d2225f15", func := "loop.example/waymark/laws.FnHubCount", spec := "fnHubCount", unfollowed := true, recurses := true, apart := false }
def FnHubCountSaid : Prop := fnHubCountRow.holds Try.pinned (OpenSpec.ofChange fnHubCountSpec)

/-- ITS FALSE NEIGHBOUR: 'it returns false'. Refute it at one input. -/
def fnHubCountWrong : ChangeSpec := { name := "fnHubCount", fn := fun _ => fun
  | [d] => { results := [.lit (.bool false)], args := [d] }
  | _ => none }
def FnHubCountWrongFalsely : Prop := fnHubCountRow.holds Try.pinned (OpenSpec.ofChange fnHubCountWrong)

/-- 'laws.FnHubArcs': WHATEVER THE INPUT: true; the input reads as it did. -/
def fnHubArcsSpec : ChangeSpec := { name := "fnHubArcs", fn := fun _ => fun
  | [d] => { results := [.lit (.bool true)], args := [d] }
  | _ => none }
def fnHubArcsRow : OpenClaim := { program := "ythglnmhcgagkdaa", sum := "d97c5d19964ec9c27d76217e6ff9125d204b93536cf80cd602c15877d2225f15", func := "loop.example/waymark/laws.FnHubArcs", spec := "fnHubArcs", unfollowed := true, recurses := true, apart := false }
def FnHubArcsSaid : Prop := fnHubArcsRow.holds Try.pinned (OpenSpec.ofChange fnHubArcsSpec)

/-- ITS FALSE NEIGHBOUR: 'it returns false'. Refute it at one input. -/
def fnHubArcsWrong : ChangeSpec := { name := "fnHubArcs", fn := fun _ => fun
  | [d] => { results := [.lit (.bool false)], args := [d] }
  | _ => none }
def FnHubArcsWrongFalsely : Prop := fnHubArcsRow.holds Try.pinned (OpenSpec.ofChange fnHubArcsWrong)

/-- 'laws.FnBothNear': WHATEVER THE INPUT: true; the input reads as it did. -/
def fnBothNearSpec : ChangeSpec := { name := "fnBothNear", fn := fun _ => fun
  | [d] => { results := [.lit (.bool true)], args := [d] }
  | _ => none }
def fnBothNearRow : OpenClaim := { program := "ythglnmhcgagkdaa", sum := "d97c5d19964ec9c27d76217e6ff9125d204b93536cf80cd602c15877d2225f15", func := "loop.example/waymark/laws.FnBothNear", spec := "fnBothNear", unfollowed := true, recurses := true, apart := false }
def FnBothNearSaid : Prop := fnBothNearRow.holds Try.pinned (OpenSpec.ofChange fnBothNearSpec)

/-- ITS FALSE NEIGHBOUR: 'it returns false'. Refute it at one input. -/
def fnBothNearWrong : ChangeSpec := { name := "fnBothNear", fn := fun _ => fun
  | [d] => { results := [.lit (.bool false)], args := [d] }
  | _ => none }
def FnBothNearWrongFalsely : Prop := fnBothNearRow.holds Try.pinned (OpenSpec.ofChange fnBothNearWrong)

/- THE SECOND FORM. 'bulk': how many values and letters a reading holds, each counted each time it is reached (what is shared counts as often as it is met; a slice's spare places count too). A statement '..UptoSaid' is the law's where the arguments, and the package variables that the reading takes, are together of bulk at most 1048576: NARROWER than '..Said'. Prove '..Said' where nothing that the law and all that it calls make is longer than what came in: it says more and counts as full. Else prove '..UptoSaid'. A law counts once. -/
mutual
def uptoBulk {H : Type} : DataW H → Nat
  | .lit (.string bytes) => bytes.length + 1
  | .lit _ => 1
  | .nil => 1
  | .ptr d => uptoBulk d + 1
  | .slice elems spare => uptoBulkAll elems + uptoBulkAll spare + 1
  | .agg parts => uptoBulkAll parts + 1
  | .iface _ d => uptoBulk d + 1
  | .map entries => uptoBulkEntries entries + 1
  | .held _ => 1
def uptoBulkAll {H : Type} : List (DataW H) → Nat
  | [] => 0
  | d :: r => uptoBulk d + uptoBulkAll r
def uptoBulkEntries {H : Type} : List (Lit × DataW H) → Nat
  | [] => 0
  | x :: r => uptoBulkEntry x + uptoBulkEntries r
def uptoBulkEntry {H : Type} : Lit × DataW H → Nat
  | (.string bytes, d) => bytes.length + uptoBulk d + 1
  | (_, d) => uptoBulk d + 1
 end
def uptoSmall : (H : Type) → List (DataW H) → Bool := fun _ ds => decide (uptoBulkAll ds ≤ 1048576)
def OpenSpec.upto (s : _root_.Go.ChangeSpec) : _root_.Go.OpenSpec := { _root_.Go.OpenSpec.ofChange s with cond := some uptoSmall }

/-- 'laws.FnFareWeek', WHERE WHAT IT READS IS OF BULK AT MOST 1048576: true; the input reads as it did. -/
def fnFareWeekUptoRow : OpenClaim := { program := "ythglnmhcgagkdaa", sum := "d97c5d19964ec9c27d76217e6ff9125d204b93536cf80cd602c15877d2225f15", func := "loop.example/waymark/laws.FnFareWeek", spec := "fnFareWeek", unfollowed := true, recurses := true, apart := false, narrowed := true }
def FnFareWeekUptoSaid : Prop := fnFareWeekUptoRow.holds Try.pinned (OpenSpec.upto fnFareWeekSpec)

/-- 'laws.FnFlowValue', WHERE WHAT IT READS IS OF BULK AT MOST 1048576: true; the input reads as it did. -/
def fnFlowValueUptoRow : OpenClaim := { program := "ythglnmhcgagkdaa", sum := "d97c5d19964ec9c27d76217e6ff9125d204b93536cf80cd602c15877d2225f15", func := "loop.example/waymark/laws.FnFlowValue", spec := "fnFlowValue", unfollowed := true, recurses := true, apart := false, narrowed := true }
def FnFlowValueUptoSaid : Prop := fnFlowValueUptoRow.holds Try.pinned (OpenSpec.upto fnFlowValueSpec)

/-- 'laws.FnFareRide', WHERE WHAT IT READS IS OF BULK AT MOST 1048576: true; the input reads as it did. -/
def fnFareRideUptoRow : OpenClaim := { program := "ythglnmhcgagkdaa", sum := "d97c5d19964ec9c27d76217e6ff9125d204b93536cf80cd602c15877d2225f15", func := "loop.example/waymark/laws.FnFareRide", spec := "fnFareRide", unfollowed := true, recurses := true, apart := false, narrowed := true }
def FnFareRideUptoSaid : Prop := fnFareRideUptoRow.holds Try.pinned (OpenSpec.upto fnFareRideSpec)

/-- 'laws.FnFlowOf', WHERE WHAT IT READS IS OF BULK AT MOST 1048576: true; the input reads as it did. -/
def fnFlowOfUptoRow : OpenClaim := { program := "ythglnmhcgagkdaa", sum := "d97c5d19964ec9c27d76217e6ff9125d204b93536cf80cd602c15877d2225f15", func := "loop.example/waymark/laws.FnFlowOf", spec := "fnFlowOf", unfollowed := true, recurses := true, apart := false, narrowed := true }
def FnFlowOfUptoSaid : Prop := fnFlowOfUptoRow.holds Try.pinned (OpenSpec.upto fnFlowOfSpec)

/-- 'laws.FnExactFlowOf', WHERE WHAT IT READS IS OF BULK AT MOST 1048576: true; the input reads as it did. -/
def fnExactFlowOfUptoRow : OpenClaim := { program := "ythglnmhcgagkdaa", sum := "d97c5d19964ec9c27d76217e6ff9125d204b93536cf80cd602c15877d2225f15", func := "loop.example/waymark/laws.FnExactFlowOf", spec := "fnExactFlowOf", unfollowed := true, recurses := true, apart := false, narrowed := true }
def FnExactFlowOfUptoSaid : Prop := fnExactFlowOfUptoRow.holds Try.pinned (OpenSpec.upto fnExactFlowOfSpec)

/-- 'laws.FnExactFareRide', WHERE WHAT IT READS IS OF BULK AT MOST 1048576: true; the input reads as it did. -/
def fnExactFareRideUptoRow : OpenClaim := { program := "ythglnmhcgagkdaa", sum := "d97c5d19964ec9c27d76217e6ff9125d204b93536cf80cd602c15877d2225f15", func := "loop.example/waymark/laws.FnExactFareRide", spec := "fnExactFareRide", unfollowed := true, recurses := true, apart := false, narrowed := true }
def FnExactFareRideUptoSaid : Prop := fnExactFareRideUptoRow.holds Try.pinned (OpenSpec.upto fnExactFareRideSpec)

/-- 'laws.FnExactBothNear', WHERE WHAT IT READS IS OF BULK AT MOST 1048576: true; the input reads as it did. -/
def fnExactBothNearUptoRow : OpenClaim := { program := "ythglnmhcgagkdaa", sum := "d97c5d19964ec9c27d76217e6ff9125d204b93536cf80cd602c15877d2225f15", func := "loop.example/waymark/laws.FnExactBothNear", spec := "fnExactBothNear", unfollowed := true, recurses := true, apart := false, narrowed := true }
def FnExactBothNearUptoSaid : Prop := fnExactBothNearUptoRow.holds Try.pinned (OpenSpec.upto fnExactBothNearSpec)

/-- 'laws.FnHubCount', WHERE WHAT IT READS IS OF BULK AT MOST 1048576: true; the input reads as it did. -/
def fnHubCountUptoRow : OpenClaim := { program := "ythglnmhcgagkdaa", sum := "d97c5d19964ec9c27d76217e6ff9125d204b93536cf80cd602c15877d2225f15", func := "loop.example/waymark/laws.FnHubCount", spec := "fnHubCount", unfollowed := true, recurses := true, apart := false, narrowed := true }
def FnHubCountUptoSaid : Prop := fnHubCountUptoRow.holds Try.pinned (OpenSpec.upto fnHubCountSpec)

/-- 'laws.FnHubArcs', WHERE WHAT IT READS IS OF BULK AT MOST 1048576: true; the input reads as it did. -/
def fnHubArcsUptoRow : OpenClaim := { program := "ythglnmhcgagkdaa", sum := "d97c5d19964ec9c27d76217e6ff9125d204b93536cf80cd602c15877d2225f15", func := "loop.example/waymark/laws.FnHubArcs", spec := "fnHubArcs", unfollowed := true, recurses := true, apart := false, narrowed := true }
def FnHubArcsUptoSaid : Prop := fnHubArcsUptoRow.holds Try.pinned (OpenSpec.upto fnHubArcsSpec)

/-- 'laws.FnBothNear', WHERE WHAT IT READS IS OF BULK AT MOST 1048576: true; the input reads as it did. -/
def fnBothNearUptoRow : OpenClaim := { program := "ythglnmhcgagkdaa", sum := "d97c5d19964ec9c27d76217e6ff9125d204b93536cf80cd602c15877d2225f15", func := "loop.example/waymark/laws.FnBothNear", spec := "fnBothNear", unfollowed := true, recurses := true, apart := false, narrowed := true }
def FnBothNearUptoSaid : Prop := fnBothNearUptoRow.holds Try.pinned (OpenSpec.upto fnBothNearSpec)

end Rows
end Go.Proofs.Ythglnmhcgagkdaa
