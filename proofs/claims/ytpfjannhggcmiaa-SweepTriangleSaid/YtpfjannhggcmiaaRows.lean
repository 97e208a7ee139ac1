/-
  No cell of these rows narrows 'for every input' (looked for: loops, veiled, ifaces, maps, wideKeys, modest, calm, conditions, laid).
  DERIVED. THE GIVEN ROWS OF THIS SEAT. 9 by the template 'for every input the law returns true; each argument reads behind the call as it read before'; 0 by the template 'total and deterministic' (their statements: YtpfjannhggcmiaaTotals.lean).
  GIVEN WITH THE SEED: the statements are not yours to turn. If you find one false, say at which input.
  Laid BY PROGRAM, IN A SANDBOX (cutbox-rows.mjs): the forced cells as the released guide's own fill.sh prints them over the translation a67b14f2b308726d… (all of the seat's roots in one cut). By AI agents, Wed Nov 11 2026. No macro, syntax, notation, axiom, sorry.
-/
import Derived.Test.YtpfjannhggcmiaaChecked
import GoSem.Claim
import GoSem.ClaimJoined
import GoSem.ClaimMapViews
import Derived.JoinedTies
import Derived.KernelRfl
namespace Go.Proofs.Ytpfjannhggcmiaa
/- THE CELL 'sum', in the pinned program and in every row, IS THE sha256 OF THE DUMP (.gsa) THAT YtpfjannhggcmiaaProg.lean LOADS. Nothing in Lean hashes anything: it is a label: what it is worth is what the hold of that sum in a sandbox is worth. -/
noncomputable def Try.pinned : Pinned := { name := "ytpfjannhggcmiaa", sum := "a67b14f2b308726df0b2229071f6c52f4ebd2d858e2fc90792b23514993532d3", checked := Try.checked }
namespace Rows
def none {H : Type} : Left H := { results := [], args := [] }

/-- 'mapmakerlaw43.SweepFrom': WHATEVER THE INPUT: true; the input reads as it did. -/
def sweepFromSpec : ChangeSpec := { name := "sweepFrom", fn := fun _ => fun
  | [d1, d2, d3, d4] => { results := [.lit (.bool true)], args := [d1, d2, d3, d4] }
  | _ => none }
def sweepFromRow : OpenClaim := { program := "ytpfjannhggcmiaa", sum := "a67b14f2b308726df0b2229071f6c52f4ebd2d858e2fc90792b23514993532d3", func := "mapmaker/mapmakerlaw43.SweepFrom", spec := "sweepFrom", unfollowed := true, recurses := true, plainKeys := false, apart := false }
def SweepFromSaid : Prop := sweepFromRow.holds Try.pinned (OpenSpec.ofChange sweepFromSpec)

/-- ITS FALSE NEIGHBOUR: 'it returns false'. Refute it at one input. -/
def sweepFromWrong : ChangeSpec := { name := "sweepFrom", fn := fun _ => fun
  | [d1, d2, d3, d4] => { results := [.lit (.bool false)], args := [d1, d2, d3, d4] }
  | _ => none }
def SweepFromWrongFalsely : Prop := sweepFromRow.holds Try.pinned (OpenSpec.ofChange sweepFromWrong)

/-- 'mapmakerlaw43.SweepWithin': WHATEVER THE INPUT: true; the input reads as it did. -/
def sweepWithinSpec : ChangeSpec := { name := "sweepWithin", fn := fun _ => fun
  | [d1, d2, d3, d4, d5] => { results := [.lit (.bool true)], args := [d1, d2, d3, d4, d5] }
  | _ => none }
def sweepWithinRow : OpenClaim := { program := "ytpfjannhggcmiaa", sum := "a67b14f2b308726df0b2229071f6c52f4ebd2d858e2fc90792b23514993532d3", func := "mapmaker/mapmakerlaw43.SweepWithin", spec := "sweepWithin", unfollowed := true, recurses := true, plainKeys := false, apart := false }
def SweepWithinSaid : Prop := sweepWithinRow.holds Try.pinned (OpenSpec.ofChange sweepWithinSpec)

/-- ITS FALSE NEIGHBOUR: 'it returns false'. Refute it at one input. -/
def sweepWithinWrong : ChangeSpec := { name := "sweepWithin", fn := fun _ => fun
  | [d1, d2, d3, d4, d5] => { results := [.lit (.bool false)], args := [d1, d2, d3, d4, d5] }
  | _ => none }
def SweepWithinWrongFalsely : Prop := sweepWithinRow.holds Try.pinned (OpenSpec.ofChange sweepWithinWrong)

/-- 'mapmakerlaw43.SweepTriangle': WHATEVER THE INPUT: true; the input reads as it did. -/
def sweepTriangleSpec : ChangeSpec := { name := "sweepTriangle", fn := fun _ => fun
  | [d1, d2, d3, d4] => { results := [.lit (.bool true)], args := [d1, d2, d3, d4] }
  | _ => none }
def sweepTriangleRow : OpenClaim := { program := "ytpfjannhggcmiaa", sum := "a67b14f2b308726df0b2229071f6c52f4ebd2d858e2fc90792b23514993532d3", func := "mapmaker/mapmakerlaw43.SweepTriangle", spec := "sweepTriangle", unfollowed := true, recurses := true, plainKeys := false, apart := false }
def SweepTriangleSaid : Prop := sweepTriangleRow.holds Try.pinned (OpenSpec.ofChange sweepTriangleSpec)

/-- ITS FALSE NEIGHBOUR: 'it returns false'. Refute it at one input. -/
def sweepTriangleWrong : ChangeSpec := { name := "sweepTriangle", fn := fun _ => fun
  | [d1, d2, d3, d4] => { results := [.lit (.bool false)], args := [d1, d2, d3, d4] }
  | _ => none }
def SweepTriangleWrongFalsely : Prop := sweepTriangleRow.holds Try.pinned (OpenSpec.ofChange sweepTriangleWrong)

/-- 'mapmakerlaw43.SweepAgrees': WHATEVER THE INPUT: true; the input reads as it did. -/
def sweepAgreesSpec : ChangeSpec := { name := "sweepAgrees", fn := fun _ => fun
  | [d1, d2, d3, d4, d5] => { results := [.lit (.bool true)], args := [d1, d2, d3, d4, d5] }
  | _ => none }
def sweepAgreesRow : OpenClaim := { program := "ytpfjannhggcmiaa", sum := "a67b14f2b308726df0b2229071f6c52f4ebd2d858e2fc90792b23514993532d3", func := "mapmaker/mapmakerlaw43.SweepAgrees", spec := "sweepAgrees", unfollowed := true, recurses := true, plainKeys := false, apart := false }
def SweepAgreesSaid : Prop := sweepAgreesRow.holds Try.pinned (OpenSpec.ofChange sweepAgreesSpec)

/-- ITS FALSE NEIGHBOUR: 'it returns false'. Refute it at one input. -/
def sweepAgreesWrong : ChangeSpec := { name := "sweepAgrees", fn := fun _ => fun
  | [d1, d2, d3, d4, d5] => { results := [.lit (.bool false)], args := [d1, d2, d3, d4, d5] }
  | _ => none }
def SweepAgreesWrongFalsely : Prop := sweepAgreesRow.holds Try.pinned (OpenSpec.ofChange sweepAgreesWrong)

/-- 'mapmakerlaw44.AlterRoutes': WHATEVER THE INPUT: true; the input reads as it did. -/
def alterRoutesSpec : ChangeSpec := { name := "alterRoutes", fn := fun _ => fun
  | [d1, d2, d3, d4, d5, d6] => { results := [.lit (.bool true)], args := [d1, d2, d3, d4, d5, d6] }
  | _ => none }
def alterRoutesRow : OpenClaim := { program := "ytpfjannhggcmiaa", sum := "a67b14f2b308726df0b2229071f6c52f4ebd2d858e2fc90792b23514993532d3", func := "mapmaker/mapmakerlaw44.AlterRoutes", spec := "alterRoutes", unfollowed := true, recurses := true, plainKeys := false, apart := false }
def AlterRoutesSaid : Prop := alterRoutesRow.holds Try.pinned (OpenSpec.ofChange alterRoutesSpec)

/-- ITS FALSE NEIGHBOUR: 'it returns false'. Refute it at one input. -/
def alterRoutesWrong : ChangeSpec := { name := "alterRoutes", fn := fun _ => fun
  | [d1, d2, d3, d4, d5, d6] => { results := [.lit (.bool false)], args := [d1, d2, d3, d4, d5, d6] }
  | _ => none }
def AlterRoutesWrongFalsely : Prop := alterRoutesRow.holds Try.pinned (OpenSpec.ofChange alterRoutesWrong)

/-- 'mapmakerlaw44.AlterShort': WHATEVER THE INPUT: true; the input reads as it did. -/
def alterShortSpec : ChangeSpec := { name := "alterShort", fn := fun _ => fun
  | [d1, d2, d3, d4, d5, d6] => { results := [.lit (.bool true)], args := [d1, d2, d3, d4, d5, d6] }
  | _ => none }
def alterShortRow : OpenClaim := { program := "ytpfjannhggcmiaa", sum := "a67b14f2b308726df0b2229071f6c52f4ebd2d858e2fc90792b23514993532d3", func := "mapmaker/mapmakerlaw44.AlterShort", spec := "alterShort", unfollowed := true, recurses := true, plainKeys := false, apart := false }
def AlterShortSaid : Prop := alterShortRow.holds Try.pinned (OpenSpec.ofChange alterShortSpec)

/-- ITS FALSE NEIGHBOUR: 'it returns false'. Refute it at one input. -/
def alterShortWrong : ChangeSpec := { name := "alterShort", fn := fun _ => fun
  | [d1, d2, d3, d4, d5, d6] => { results := [.lit (.bool false)], args := [d1, d2, d3, d4, d5, d6] }
  | _ => none }
def AlterShortWrongFalsely : Prop := alterShortRow.holds Try.pinned (OpenSpec.ofChange alterShortWrong)

/-- 'mapmakerlaw44.AlterGrows': WHATEVER THE INPUT: true; the input reads as it did. -/
def alterGrowsSpec : ChangeSpec := { name := "alterGrows", fn := fun _ => fun
  | [d1, d2, d3, d4, d5, d6, d7] => { results := [.lit (.bool true)], args := [d1, d2, d3, d4, d5, d6, d7] }
  | _ => none }
def alterGrowsRow : OpenClaim := { program := "ytpfjannhggcmiaa", sum := "a67b14f2b308726df0b2229071f6c52f4ebd2d858e2fc90792b23514993532d3", func := "mapmaker/mapmakerlaw44.AlterGrows", spec := "alterGrows", unfollowed := true, recurses := true, plainKeys := false, apart := false }
def AlterGrowsSaid : Prop := alterGrowsRow.holds Try.pinned (OpenSpec.ofChange alterGrowsSpec)

/-- ITS FALSE NEIGHBOUR: 'it returns false'. Refute it at one input. -/
def alterGrowsWrong : ChangeSpec := { name := "alterGrows", fn := fun _ => fun
  | [d1, d2, d3, d4, d5, d6, d7] => { results := [.lit (.bool false)], args := [d1, d2, d3, d4, d5, d6, d7] }
  | _ => none }
def AlterGrowsWrongFalsely : Prop := alterGrowsRow.holds Try.pinned (OpenSpec.ofChange alterGrowsWrong)

/-- 'mapmakerlaw44.AlterTrees': WHATEVER THE INPUT: true; the input reads as it did. -/
def alterTreesSpec : ChangeSpec := { name := "alterTrees", fn := fun _ => fun
  | [d1, d2, d3, d4, d5, d6, d7] => { results := [.lit (.bool true)], args := [d1, d2, d3, d4, d5, d6, d7] }
  | _ => none }
def alterTreesRow : OpenClaim := { program := "ytpfjannhggcmiaa", sum := "a67b14f2b308726df0b2229071f6c52f4ebd2d858e2fc90792b23514993532d3", func := "mapmaker/mapmakerlaw44.AlterTrees", spec := "alterTrees", unfollowed := true, recurses := true, plainKeys := false, apart := false }
def AlterTreesSaid : Prop := alterTreesRow.holds Try.pinned (OpenSpec.ofChange alterTreesSpec)

/-- ITS FALSE NEIGHBOUR: 'it returns false'. Refute it at one input. -/
def alterTreesWrong : ChangeSpec := { name := "alterTrees", fn := fun _ => fun
  | [d1, d2, d3, d4, d5, d6, d7] => { results := [.lit (.bool false)], args := [d1, d2, d3, d4, d5, d6, d7] }
  | _ => none }
def AlterTreesWrongFalsely : Prop := alterTreesRow.holds Try.pinned (OpenSpec.ofChange alterTreesWrong)

/-- 'mapmakerlaw44.AlterNil': WHATEVER THE INPUT: true; the input reads as it did. -/
def alterNilSpec : ChangeSpec := { name := "alterNil", fn := fun _ => fun
  | [d1, d2, d3] => { results := [.lit (.bool true)], args := [d1, d2, d3] }
  | _ => none }
def alterNilRow : OpenClaim := { program := "ytpfjannhggcmiaa", sum := "a67b14f2b308726df0b2229071f6c52f4ebd2d858e2fc90792b23514993532d3", func := "mapmaker/mapmakerlaw44.AlterNil", spec := "alterNil", unfollowed := true, recurses := true, plainKeys := false, apart := false }
def AlterNilSaid : Prop := alterNilRow.holds Try.pinned (OpenSpec.ofChange alterNilSpec)

/-- ITS FALSE NEIGHBOUR: 'it returns false'. Refute it at one input. -/
def alterNilWrong : ChangeSpec := { name := "alterNil", fn := fun _ => fun
  | [d1, d2, d3] => { results := [.lit (.bool false)], args := [d1, d2, d3] }
  | _ => none }
def AlterNilWrongFalsely : Prop := alterNilRow.holds Try.pinned (OpenSpec.ofChange alterNilWrong)

/- THE SECOND FORM. 'bulk': how many values and letters a reading holds, each counted each time it is reached (what is shared counts as often as it is met; a slice's spare places count too). A statement '..UptoSaid' is the law's where the arguments, and the package variables that the reading takes, are together of bulk at most 1048576: NARROWER than '..Said'. Prove '..Said' where nothing that the law and all that it calls make is longer than what came in: it says more and counts as full. Else prove '..UptoSaid'. A law counts once. -/
mutual
def uptoBulk {H : Type} : DataW H → Nat
  | .lit (.string bytes) => bytes.length + 1
  | .lit _ => 1
  | .nil => 1
  | .ptr d => uptoBulk d + 1
  | .slice elems spare => uptoBulkAll elems + uptoBulkAll spare + 1
  | .agg parts => uptoBulkAll parts + 1
  | .iface _ d => uptoBulk d + 1
  | .map entries => uptoBulkEntries entries + 1
  | .held _ => 1
def uptoBulkAll {H : Type} : List (DataW H) → Nat
  | [] => 0
  | d :: r => uptoBulk d + uptoBulkAll r
def uptoBulkEntries {H : Type} : List (Lit × DataW H) → Nat
  | [] => 0
  | x :: r => uptoBulkEntry x + uptoBulkEntries r
def uptoBulkEntry {H : Type} : Lit × DataW H → Nat
  | (.string bytes, d) => bytes.length + uptoBulk d + 1
  | (_, d) => uptoBulk d + 1
 end
def uptoSmall : (H : Type) → List (DataW H) → Bool := fun _ ds => decide (uptoBulkAll ds ≤ 1048576)
def OpenSpec.upto (s : _root_.Go.ChangeSpec) : _root_.Go.OpenSpec := { _root_.Go.OpenSpec.ofChange s with cond := some uptoSmall }

/-- 'mapmakerlaw43.SweepFrom', WHERE WHAT IT READS IS OF BULK AT MOST 1048576: true; the input reads as it did. -/
def sweepFromUptoRow : OpenClaim := { program := "ytpfjannhggcmiaa", sum := "a67b14f2b308726df0b2229071f6c52f4ebd2d858e2fc90792b23514993532d3", func := "mapmaker/mapmakerlaw43.SweepFrom", spec := "sweepFrom", unfollowed := true, recurses := true, plainKeys := false, apart := false, narrowed := true }
def SweepFromUptoSaid : Prop := sweepFromUptoRow.holds Try.pinned (OpenSpec.upto sweepFromSpec)

/-- 'mapmakerlaw43.SweepWithin', WHERE WHAT IT READS IS OF BULK AT MOST 1048576: true; the input reads as it did. -/
def sweepWithinUptoRow : OpenClaim := { program := "ytpfjannhggcmiaa", sum := "a67b14f2b308726df0b2229071f6c52f4ebd2d858e2fc90792b23514993532d3", func := "mapmaker/mapmakerlaw43.SweepWithin", spec := "sweepWithin", unfollowed := true, recurses := true, plainKeys := false, apart := false, narrowed := true }
def SweepWithinUptoSaid : Prop := sweepWithinUptoRow.holds Try.pinned (OpenSpec.upto sweepWithinSpec)

/-- 'mapmakerlaw43.SweepTriangle', WHERE WHAT IT READS IS OF BULK AT MOST 1048576: true; the input reads as it did. -/
def sweepTriangleUptoRow : OpenClaim := { program := "ytpfjannhggcmiaa", sum := "a67b14f2b308726df0b2229071f6c52f4ebd2d858e2fc90792b23514993532d3", func := "mapmaker/mapmakerlaw43.SweepTriangle", spec := "sweepTriangle", unfollowed := true, recurses := true, plainKeys := false, apart := false, narrowed := true }
def SweepTriangleUptoSaid : Prop := sweepTriangleUptoRow.holds Try.pinned (OpenSpec.upto sweepTriangleSpec)

/-- 'mapmakerlaw43.SweepAgrees', WHERE WHAT IT READS IS OF BULK AT MOST 1048576: true; the input reads as it did. -/
def sweepAgreesUptoRow : OpenClaim := { program := "ytpfjannhggcmiaa", sum := "a67b14f2b308726df0b2229071f6c52f4ebd2d858e2fc90792b23514993532d3", func := "mapmaker/mapmakerlaw43.SweepAgrees", spec := "sweepAgrees", unfollowed := true, recurses := true, plainKeys := false, apart := false, narrowed := true }
def SweepAgreesUptoSaid : Prop := sweepAgreesUptoRow.holds Try.pinned (OpenSpec.upto sweepAgreesSpec)

/-- 'mapmakerlaw44.AlterRoutes', WHERE WHAT IT READS IS OF BULK AT MOST 1048576: true; the input reads as it did. -/
def alterRoutesUptoRow : OpenClaim := { program := "ytpfjannhggcmiaa", sum := "a67b14f2b308726df0b2229071f6c52f4ebd2d858e2fc90792b23514993532d3", func := "mapmaker/mapmakerlaw44.AlterRoutes", spec := "alterRoutes", unfollowed := true, recurses := true, plainKeys := false, apart := false, narrowed := true }
def AlterRoutesUptoSaid : Prop := alterRoutesUptoRow.holds Try.pinned (OpenSpec.upto alterRoutesSpec)

/-- 'mapmakerlaw44.AlterShort', WHERE WHAT IT READS IS OF BULK AT MOST 1048576: true; the input reads as it did. -/
def alterShortUptoRow : OpenClaim := { program := "ytpfjannhggcmiaa", sum := "a67b14f2b308726df0b2229071f6c52f4ebd2d858e2fc90792b23514993532d3", func := "mapmaker/mapmakerlaw44.AlterShort", spec := "alterShort", unfollowed := true, recurses := true, plainKeys := false, apart := false, narrowed := true }
def AlterShortUptoSaid : Prop := alterShortUptoRow.holds Try.pinned (OpenSpec.upto alterShortSpec)

/-- 'mapmakerlaw44.AlterGrows', WHERE WHAT IT READS IS OF BULK AT MOST 1048576: true; the input reads as it did. -/
def alterGrowsUptoRow : OpenClaim := { program := "ytpfjannhggcmiaa", sum := "a67b14f2b308726df0b2229071f6c52f4ebd2d858e2fc90792b23514993532d3", func := "mapmaker/mapmakerlaw44.AlterGrows", spec := "alterGrows", unfollowed := true, recurses := true, plainKeys := false, apart := false, narrowed := true }
def AlterGrowsUptoSaid : Prop := alterGrowsUptoRow.holds Try.pinned (OpenSpec.upto alterGrowsSpec)

/-- 'mapmakerlaw44.AlterTrees', WHERE WHAT IT READS IS OF BULK AT MOST 1048576: true; the input reads as it did. -/
def alterTreesUptoRow : OpenClaim := { program := "ytpfjannhggcmiaa", sum := "a67b14f2b308726df0b2229071f6c52f4ebd2d858e2fc90792b23514993532d3", func := "mapmaker/mapmakerlaw44.AlterTrees", spec := "alterTrees", unfollowed := true, recurses := true, plainKeys := false, apart := false, narrowed := true }
def AlterTreesUptoSaid : Prop := alterTreesUptoRow.holds Try.pinned (OpenSpec.upto alterTreesSpec)

/-- 'mapmakerlaw44.AlterNil', WHERE WHAT IT READS IS OF BULK AT MOST 1048576: true; the input reads as it did. -/
def alterNilUptoRow : OpenClaim := { program := "ytpfjannhggcmiaa", sum := "a67b14f2b308726df0b2229071f6c52f4ebd2d858e2fc90792b23514993532d3", func := "mapmaker/mapmakerlaw44.AlterNil", spec := "alterNil", unfollowed := true, recurses := true, plainKeys := false, apart := false, narrowed := true }
def AlterNilUptoSaid : Prop := alterNilUptoRow.holds Try.pinned (OpenSpec.upto alterNilSpec)

end Rows
end Go.Proofs.Ytpfjannhggcmiaa
