/-
  No cell of these rows narrows 'for every input' (looked for: loops, veiled, ifaces, maps, wideKeys, modest, calm, conditions, laid).
  DERIVED. THE GIVEN ROWS OF THIS SEAT. 12 by the template 'for every input the law returns true; each argument reads behind the call as it read before'; 0 by the template 'total and deterministic' (their statements: YtnbimnnocnhggaaTotals.lean).
  GIVEN WITH THE SEED: the statements are not yours to turn. If you find one false, say at which input.
  Laid BY PROGRAM, IN A SANDBOX (cutbox-rows.mjs): the forced cells as the released guide's own fill.sh prints them over the translation d5f7d614e277a7be… (all of the seat's roots in one cut). By AI agents, Wed Nov 11 2026. No macro, syntax, notation, axiom, sorry.
-/
import Derived.Test.YtnbimnnocnhggaaChecked
import GoSem.Claim
import GoSem.ClaimJoined
import GoSem.ClaimMapViews
import Derived.JoinedTies
import Derived.KernelRfl
namespace Go.Proofs.Ytnbimnnocnhggaa
/- THE CELL 'sum', in the pinned program and in every row, IS THE sha256 OF THE DUMP (.gsa) THAT YtnbimnnocnhggaaProg.lean LOADS. Nothing in Lean hashes anything: it is a label: what it is worth is what the hold of that sum in a sandbox is worth. -/
noncomputable def Try.pinned : Pinned := { name := "ytnbimnnocnhggaa", sum := "d5f7d614e277a7be0d61e90d671b748ebf6b6e2a0ac8b1fbc3a47d9fed4ae7fb", checked := Try.checked }
namespace Rows
def none {H : Type} : Left H := { results := [], args := [] }

/-- 'laws.FnExactReachOf': WHATEVER THE INPUT: true; the input reads as it did. -/
def fnExactReachOfSpec : ChangeSpec := { name := "fnExactReachOf", fn := fun _ => fun
  | [d1, d2] => { results := [.lit (.bool true)], args := [d1, d2] }
  | _ => none }
def fnExactReachOfRow : OpenClaim := { program := "ytnbimnnocnhggaa", sum := "d5f7d614e277a7be0d61e90d671b748ebf6b6e2a0ac8b1fbc3a47d9fed4ae7fb", func := "loop.example/g01325/laws.FnExactReachOf", spec := "fnExactReachOf", apart := false }
def FnExactReachOfSaid : Prop := fnExactReachOfRow.holds Try.pinned (OpenSpec.ofChange fnExactReachOfSpec)

/-- ITS FALSE NEIGHBOUR: 'it returns false'. Refute it at one input. -/
def fnExactReachOfWrong : ChangeSpec := { name := "fnExactReachOf", fn := fun _ => fun
  | [d1, d2] => { results := [.lit (.bool false)], args := [d1, d2] }
  | _ => none }
def FnExactReachOfWrongFalsely : Prop := fnExactReachOfRow.holds Try.pinned (OpenSpec.ofChange fnExactReachOfWrong)

/-- 'laws.FnExactFewestEggs': WHATEVER THE INPUT: true; the input reads as it did. -/
def fnExactFewestEggsSpec : ChangeSpec := { name := "fnExactFewestEggs", fn := fun _ => fun
  | [d1, d2] => { results := [.lit (.bool true)], args := [d1, d2] }
  | _ => none }
def fnExactFewestEggsRow : OpenClaim := { program := "ytnbimnnocnhggaa", sum := "d5f7d614e277a7be0d61e90d671b748ebf6b6e2a0ac8b1fbc3a47d9fed4ae7fb", func := "loop.example/g01325/laws.FnExactFewestEggs", spec := "fnExactFewestEggs", apart := false }
def FnExactFewestEggsSaid : Prop := fnExactFewestEggsRow.holds Try.pinned (OpenSpec.ofChange fnExactFewestEggsSpec)

/-- ITS FALSE NEIGHBOUR: 'it returns false'. Refute it at one input. -/
def fnExactFewestEggsWrong : ChangeSpec := { name := "fnExactFewestEggs", fn := fun _ => fun
  | [d1, d2] => { results := [.lit (.bool false)], args := [d1, d2] }
  | _ => none }
def FnExactFewestEggsWrongFalsely : Prop := fnExactFewestEggsRow.holds Try.pinned (OpenSpec.ofChange fnExactFewestEggsWrong)

/-- 'laws.FnExactLeastWorst': WHATEVER THE INPUT: true; the input reads as it did. -/
def fnExactLeastWorstSpec : ChangeSpec := { name := "fnExactLeastWorst", fn := fun _ => fun
  | [d] => { results := [.lit (.bool true)], args := [d] }
  | _ => none }
def fnExactLeastWorstRow : OpenClaim := { program := "ytnbimnnocnhggaa", sum := "d5f7d614e277a7be0d61e90d671b748ebf6b6e2a0ac8b1fbc3a47d9fed4ae7fb", func := "loop.example/g01325/laws.FnExactLeastWorst", spec := "fnExactLeastWorst", apart := false }
def FnExactLeastWorstSaid : Prop := fnExactLeastWorstRow.holds Try.pinned (OpenSpec.ofChange fnExactLeastWorstSpec)

/-- ITS FALSE NEIGHBOUR: 'it returns false'. Refute it at one input. -/
def fnExactLeastWorstWrong : ChangeSpec := { name := "fnExactLeastWorst", fn := fun _ => fun
  | [d] => { results := [.lit (.bool false)], args := [d] }
  | _ => none }
def FnExactLeastWorstWrongFalsely : Prop := fnExactLeastWorstRow.holds Try.pinned (OpenSpec.ofChange fnExactLeastWorstWrong)

/-- 'laws.FnExactFewestTests': WHATEVER THE INPUT: true; the input reads as it did. -/
def fnExactFewestTestsSpec : ChangeSpec := { name := "fnExactFewestTests", fn := fun _ => fun
  | [d1, d2] => { results := [.lit (.bool true)], args := [d1, d2] }
  | _ => none }
def fnExactFewestTestsRow : OpenClaim := { program := "ytnbimnnocnhggaa", sum := "d5f7d614e277a7be0d61e90d671b748ebf6b6e2a0ac8b1fbc3a47d9fed4ae7fb", func := "loop.example/g01325/laws.FnExactFewestTests", spec := "fnExactFewestTests", apart := false }
def FnExactFewestTestsSaid : Prop := fnExactFewestTestsRow.holds Try.pinned (OpenSpec.ofChange fnExactFewestTestsSpec)

/-- ITS FALSE NEIGHBOUR: 'it returns false'. Refute it at one input. -/
def fnExactFewestTestsWrong : ChangeSpec := { name := "fnExactFewestTests", fn := fun _ => fun
  | [d1, d2] => { results := [.lit (.bool false)], args := [d1, d2] }
  | _ => none }
def FnExactFewestTestsWrongFalsely : Prop := fnExactFewestTestsRow.holds Try.pinned (OpenSpec.ofChange fnExactFewestTestsWrong)

/-- 'laws.FnExactBestFloor': WHATEVER THE INPUT: true; the input reads as it did. -/
def fnExactBestFloorSpec : ChangeSpec := { name := "fnExactBestFloor", fn := fun _ => fun
  | [d1, d2] => { results := [.lit (.bool true)], args := [d1, d2] }
  | _ => none }
def fnExactBestFloorRow : OpenClaim := { program := "ytnbimnnocnhggaa", sum := "d5f7d614e277a7be0d61e90d671b748ebf6b6e2a0ac8b1fbc3a47d9fed4ae7fb", func := "loop.example/g01325/laws.FnExactBestFloor", spec := "fnExactBestFloor", apart := false }
def FnExactBestFloorSaid : Prop := fnExactBestFloorRow.holds Try.pinned (OpenSpec.ofChange fnExactBestFloorSpec)

/-- ITS FALSE NEIGHBOUR: 'it returns false'. Refute it at one input. -/
def fnExactBestFloorWrong : ChangeSpec := { name := "fnExactBestFloor", fn := fun _ => fun
  | [d1, d2] => { results := [.lit (.bool false)], args := [d1, d2] }
  | _ => none }
def FnExactBestFloorWrongFalsely : Prop := fnExactBestFloorRow.holds Try.pinned (OpenSpec.ofChange fnExactBestFloorWrong)

/-- 'laws.FnExactShrinkingMarks': WHATEVER THE INPUT: true; the input reads as it did. -/
def fnExactShrinkingMarksSpec : ChangeSpec := { name := "fnExactShrinkingMarks", fn := fun _ => fun
  | [d] => { results := [.lit (.bool true)], args := [d] }
  | _ => none }
def fnExactShrinkingMarksRow : OpenClaim := { program := "ytnbimnnocnhggaa", sum := "d5f7d614e277a7be0d61e90d671b748ebf6b6e2a0ac8b1fbc3a47d9fed4ae7fb", func := "loop.example/g01325/laws.FnExactShrinkingMarks", spec := "fnExactShrinkingMarks", apart := false }
def FnExactShrinkingMarksSaid : Prop := fnExactShrinkingMarksRow.holds Try.pinned (OpenSpec.ofChange fnExactShrinkingMarksSpec)

/-- ITS FALSE NEIGHBOUR: 'it returns false'. Refute it at one input. -/
def fnExactShrinkingMarksWrong : ChangeSpec := { name := "fnExactShrinkingMarks", fn := fun _ => fun
  | [d] => { results := [.lit (.bool false)], args := [d] }
  | _ => none }
def FnExactShrinkingMarksWrongFalsely : Prop := fnExactShrinkingMarksRow.holds Try.pinned (OpenSpec.ofChange fnExactShrinkingMarksWrong)

/-- 'laws.FnExactFirstBestMarks': WHATEVER THE INPUT: true; the input reads as it did. -/
def fnExactFirstBestMarksSpec : ChangeSpec := { name := "fnExactFirstBestMarks", fn := fun _ => fun
  | [d] => { results := [.lit (.bool true)], args := [d] }
  | _ => none }
def fnExactFirstBestMarksRow : OpenClaim := { program := "ytnbimnnocnhggaa", sum := "d5f7d614e277a7be0d61e90d671b748ebf6b6e2a0ac8b1fbc3a47d9fed4ae7fb", func := "loop.example/g01325/laws.FnExactFirstBestMarks", spec := "fnExactFirstBestMarks", recurses := true, apart := false }
def FnExactFirstBestMarksSaid : Prop := fnExactFirstBestMarksRow.holds Try.pinned (OpenSpec.ofChange fnExactFirstBestMarksSpec)

/-- ITS FALSE NEIGHBOUR: 'it returns false'. Refute it at one input. -/
def fnExactFirstBestMarksWrong : ChangeSpec := { name := "fnExactFirstBestMarks", fn := fun _ => fun
  | [d] => { results := [.lit (.bool false)], args := [d] }
  | _ => none }
def FnExactFirstBestMarksWrongFalsely : Prop := fnExactFirstBestMarksRow.holds Try.pinned (OpenSpec.ofChange fnExactFirstBestMarksWrong)

/-- 'laws.FnExactGoodFloors': WHATEVER THE INPUT: true; the input reads as it did. -/
def fnExactGoodFloorsSpec : ChangeSpec := { name := "fnExactGoodFloors", fn := fun _ => fun
  | [d1, d2] => { results := [.lit (.bool true)], args := [d1, d2] }
  | _ => none }
def fnExactGoodFloorsRow : OpenClaim := { program := "ytnbimnnocnhggaa", sum := "d5f7d614e277a7be0d61e90d671b748ebf6b6e2a0ac8b1fbc3a47d9fed4ae7fb", func := "loop.example/g01325/laws.FnExactGoodFloors", spec := "fnExactGoodFloors", apart := false }
def FnExactGoodFloorsSaid : Prop := fnExactGoodFloorsRow.holds Try.pinned (OpenSpec.ofChange fnExactGoodFloorsSpec)

/-- ITS FALSE NEIGHBOUR: 'it returns false'. Refute it at one input. -/
def fnExactGoodFloorsWrong : ChangeSpec := { name := "fnExactGoodFloors", fn := fun _ => fun
  | [d1, d2] => { results := [.lit (.bool false)], args := [d1, d2] }
  | _ => none }
def FnExactGoodFloorsWrongFalsely : Prop := fnExactGoodFloorsRow.holds Try.pinned (OpenSpec.ofChange fnExactGoodFloorsWrong)

/-- 'laws.FnExactBestTree': WHATEVER THE INPUT: true; the input reads as it did. -/
def fnExactBestTreeSpec : ChangeSpec := { name := "fnExactBestTree", fn := fun _ => fun
  | [d1, d2] => { results := [.lit (.bool true)], args := [d1, d2] }
  | _ => none }
def fnExactBestTreeRow : OpenClaim := { program := "ytnbimnnocnhggaa", sum := "d5f7d614e277a7be0d61e90d671b748ebf6b6e2a0ac8b1fbc3a47d9fed4ae7fb", func := "loop.example/g01325/laws.FnExactBestTree", spec := "fnExactBestTree", recurses := true, apart := false }
def FnExactBestTreeSaid : Prop := fnExactBestTreeRow.holds Try.pinned (OpenSpec.ofChange fnExactBestTreeSpec)

/-- ITS FALSE NEIGHBOUR: 'it returns false'. Refute it at one input. -/
def fnExactBestTreeWrong : ChangeSpec := { name := "fnExactBestTree", fn := fun _ => fun
  | [d1, d2] => { results := [.lit (.bool false)], args := [d1, d2] }
  | _ => none }
def FnExactBestTreeWrongFalsely : Prop := fnExactBestTreeRow.holds Try.pinned (OpenSpec.ofChange fnExactBestTreeWrong)

/-- 'laws.FnExactCountTrees': WHATEVER THE INPUT: true; the input reads as it did. -/
def fnExactCountTreesSpec : ChangeSpec := { name := "fnExactCountTrees", fn := fun _ => fun
  | [d1, d2, d3] => { results := [.lit (.bool true)], args := [d1, d2, d3] }
  | _ => none }
def fnExactCountTreesRow : OpenClaim := { program := "ytnbimnnocnhggaa", sum := "d5f7d614e277a7be0d61e90d671b748ebf6b6e2a0ac8b1fbc3a47d9fed4ae7fb", func := "loop.example/g01325/laws.FnExactCountTrees", spec := "fnExactCountTrees", recurses := true, apart := false }
def FnExactCountTreesSaid : Prop := fnExactCountTreesRow.holds Try.pinned (OpenSpec.ofChange fnExactCountTreesSpec)

/-- ITS FALSE NEIGHBOUR: 'it returns false'. Refute it at one input. -/
def fnExactCountTreesWrong : ChangeSpec := { name := "fnExactCountTrees", fn := fun _ => fun
  | [d1, d2, d3] => { results := [.lit (.bool false)], args := [d1, d2, d3] }
  | _ => none }
def FnExactCountTreesWrongFalsely : Prop := fnExactCountTreesRow.holds Try.pinned (OpenSpec.ofChange fnExactCountTreesWrong)

/-- 'laws.FnExactCountBestTrees': WHATEVER THE INPUT: true; the input reads as it did. -/
def fnExactCountBestTreesSpec : ChangeSpec := { name := "fnExactCountBestTrees", fn := fun _ => fun
  | [d1, d2] => { results := [.lit (.bool true)], args := [d1, d2] }
  | _ => none }
def fnExactCountBestTreesRow : OpenClaim := { program := "ytnbimnnocnhggaa", sum := "d5f7d614e277a7be0d61e90d671b748ebf6b6e2a0ac8b1fbc3a47d9fed4ae7fb", func := "loop.example/g01325/laws.FnExactCountBestTrees", spec := "fnExactCountBestTrees", recurses := true, apart := false }
def FnExactCountBestTreesSaid : Prop := fnExactCountBestTreesRow.holds Try.pinned (OpenSpec.ofChange fnExactCountBestTreesSpec)

/-- ITS FALSE NEIGHBOUR: 'it returns false'. Refute it at one input. -/
def fnExactCountBestTreesWrong : ChangeSpec := { name := "fnExactCountBestTrees", fn := fun _ => fun
  | [d1, d2] => { results := [.lit (.bool false)], args := [d1, d2] }
  | _ => none }
def FnExactCountBestTreesWrongFalsely : Prop := fnExactCountBestTreesRow.holds Try.pinned (OpenSpec.ofChange fnExactCountBestTreesWrong)

/-- 'laws.FnExactFewestLeft': WHATEVER THE INPUT: true; the input reads as it did. -/
def fnExactFewestLeftSpec : ChangeSpec := { name := "fnExactFewestLeft", fn := fun _ => fun
  | [d1, d2, d3] => { results := [.lit (.bool true)], args := [d1, d2, d3] }
  | _ => none }
def fnExactFewestLeftRow : OpenClaim := { program := "ytnbimnnocnhggaa", sum := "d5f7d614e277a7be0d61e90d671b748ebf6b6e2a0ac8b1fbc3a47d9fed4ae7fb", func := "loop.example/g01325/laws.FnExactFewestLeft", spec := "fnExactFewestLeft", unfollowed := true, recurses := true, apart := false }
def FnExactFewestLeftSaid : Prop := fnExactFewestLeftRow.holds Try.pinned (OpenSpec.ofChange fnExactFewestLeftSpec)

/-- ITS FALSE NEIGHBOUR: 'it returns false'. Refute it at one input. -/
def fnExactFewestLeftWrong : ChangeSpec := { name := "fnExactFewestLeft", fn := fun _ => fun
  | [d1, d2, d3] => { results := [.lit (.bool false)], args := [d1, d2, d3] }
  | _ => none }
def FnExactFewestLeftWrongFalsely : Prop := fnExactFewestLeftRow.holds Try.pinned (OpenSpec.ofChange fnExactFewestLeftWrong)

/- THE SECOND FORM. 'bulk': how many values and letters a reading holds, each counted each time it is reached (what is shared counts as often as it is met; a slice's spare places count too). A statement '..UptoSaid' is the law's where the arguments, and the package variables that the reading takes, are together of bulk at most 1048576: NARROWER than '..Said'. Prove '..Said' where nothing that the law and all that it calls make is longer than what came in: it says more and counts as full. Else prove '..UptoSaid'. A law counts once. -/
mutual
def uptoBulk {H : Type} : DataW H → Nat
  | .lit (.string bytes) => bytes.length + 1
  | .lit _ => 1
  | .nil => 1
  | .ptr d => uptoBulk d + 1
  | .slice elems spare => uptoBulkAll elems + uptoBulkAll spare + 1
  | .agg parts => uptoBulkAll parts + 1
  | .iface _ d => uptoBulk d + 1
  | .map entries => uptoBulkEntries entries + 1
  | .held _ => 1
def uptoBulkAll {H : Type} : List (DataW H) → Nat
  | [] => 0
  | d :: r => uptoBulk d + uptoBulkAll r
def uptoBulkEntries {H : Type} : List (Lit × DataW H) → Nat
  | [] => 0
  | x :: r => uptoBulkEntry x + uptoBulkEntries r
def uptoBulkEntry {H : Type} : Lit × DataW H → Nat
  | (.string bytes, d) => bytes.length + uptoBulk d + 1
  | (_, d) => uptoBulk d + 1
 end
def uptoSmall : (H : Type) → List (DataW H) → Bool := fun _ ds => decide (uptoBulkAll ds ≤ 1048576)
def OpenSpec.upto (s : _root_.Go.ChangeSpec) : _root_.Go.OpenSpec := { _root_.Go.OpenSpec.ofChange s with cond := some uptoSmall }

/-- 'laws.FnExactReachOf', WHERE WHAT IT READS IS OF BULK AT MOST 1048576: true; the input reads as it did. -/
def fnExactReachOfUptoRow : OpenClaim := { program := "ytnbimnnocnhggaa", sum := "d5f7d614e277a7be0d61e90d671b748ebf6b6e2a0ac8b1fbc3a47d9fed4ae7fb", func := "loop.example/g01325/laws.FnExactReachOf", spec := "fnExactReachOf", apart := false, narrowed := true }
def FnExactReachOfUptoSaid : Prop := fnExactReachOfUptoRow.holds Try.pinned (OpenSpec.upto fnExactReachOfSpec)

/-- 'laws.FnExactFewestEggs', WHERE WHAT IT READS IS OF BULK AT MOST 1048576: true; the input reads as it did. -/
def fnExactFewestEggsUptoRow : OpenClaim := { program := "ytnbimnnocnhggaa", sum := "d5f7d614e277a7be0d61e90d671b748ebf6b6e2a0ac8b1fbc3a47d9fed4ae7fb", func := "loop.example/g01325/laws.FnExactFewestEggs", spec := "fnExactFewestEggs", apart := false, narrowed := true }
def FnExactFewestEggsUptoSaid : Prop := fnExactFewestEggsUptoRow.holds Try.pinned (OpenSpec.upto fnExactFewestEggsSpec)

/-- 'laws.FnExactLeastWorst', WHERE WHAT IT READS IS OF BULK AT MOST 1048576: true; the input reads as it did. -/
def fnExactLeastWorstUptoRow : OpenClaim := { program := "ytnbimnnocnhggaa", sum := "d5f7d614e277a7be0d61e90d671b748ebf6b6e2a0ac8b1fbc3a47d9fed4ae7fb", func := "loop.example/g01325/laws.FnExactLeastWorst", spec := "fnExactLeastWorst", apart := false, narrowed := true }
def FnExactLeastWorstUptoSaid : Prop := fnExactLeastWorstUptoRow.holds Try.pinned (OpenSpec.upto fnExactLeastWorstSpec)

/-- 'laws.FnExactFewestTests', WHERE WHAT IT READS IS OF BULK AT MOST 1048576: true; the input reads as it did. -/
def fnExactFewestTestsUptoRow : OpenClaim := { program := "ytnbimnnocnhggaa", sum := "d5f7d614e277a7be0d61e90d671b748ebf6b6e2a0ac8b1fbc3a47d9fed4ae7fb", func := "loop.example/g01325/laws.FnExactFewestTests", spec := "fnExactFewestTests", apart := false, narrowed := true }
def FnExactFewestTestsUptoSaid : Prop := fnExactFewestTestsUptoRow.holds Try.pinned (OpenSpec.upto fnExactFewestTestsSpec)

/-- 'laws.FnExactBestFloor', WHERE WHAT IT READS IS OF BULK AT MOST 1048576: true; the input reads as it did. -/
def fnExactBestFloorUptoRow : OpenClaim := { program := "ytnbimnnocnhggaa", sum := "d5f7d614e277a7be0d61e90d671b748ebf6b6e2a0ac8b1fbc3a47d9fed4ae7fb", func := "loop.example/g01325/laws.FnExactBestFloor", spec := "fnExactBestFloor", apart := false, narrowed := true }
def FnExactBestFloorUptoSaid : Prop := fnExactBestFloorUptoRow.holds Try.pinned (OpenSpec.upto fnExactBestFloorSpec)

/-- 'laws.FnExactShrinkingMarks', WHERE WHAT IT READS IS OF BULK AT MOST 1048576: true; the input reads as it did. -/
def fnExactShrinkingMarksUptoRow : OpenClaim := { program := "ytnbimnnocnhggaa", sum := "d5f7d614e277a7be0d61e90d671b748ebf6b6e2a0ac8b1fbc3a47d9fed4ae7fb", func := "loop.example/g01325/laws.FnExactShrinkingMarks", spec := "fnExactShrinkingMarks", apart := false, narrowed := true }
def FnExactShrinkingMarksUptoSaid : Prop := fnExactShrinkingMarksUptoRow.holds Try.pinned (OpenSpec.upto fnExactShrinkingMarksSpec)

/-- 'laws.FnExactFirstBestMarks', WHERE WHAT IT READS IS OF BULK AT MOST 1048576: true; the input reads as it did. -/
def fnExactFirstBestMarksUptoRow : OpenClaim := { program := "ytnbimnnocnhggaa", sum := "d5f7d614e277a7be0d61e90d671b748ebf6b6e2a0ac8b1fbc3a47d9fed4ae7fb", func := "loop.example/g01325/laws.FnExactFirstBestMarks", spec := "fnExactFirstBestMarks", recurses := true, apart := false, narrowed := true }
def FnExactFirstBestMarksUptoSaid : Prop := fnExactFirstBestMarksUptoRow.holds Try.pinned (OpenSpec.upto fnExactFirstBestMarksSpec)

/-- 'laws.FnExactGoodFloors', WHERE WHAT IT READS IS OF BULK AT MOST 1048576: true; the input reads as it did. -/
def fnExactGoodFloorsUptoRow : OpenClaim := { program := "ytnbimnnocnhggaa", sum := "d5f7d614e277a7be0d61e90d671b748ebf6b6e2a0ac8b1fbc3a47d9fed4ae7fb", func := "loop.example/g01325/laws.FnExactGoodFloors", spec := "fnExactGoodFloors", apart := false, narrowed := true }
def FnExactGoodFloorsUptoSaid : Prop := fnExactGoodFloorsUptoRow.holds Try.pinned (OpenSpec.upto fnExactGoodFloorsSpec)

/-- 'laws.FnExactBestTree', WHERE WHAT IT READS IS OF BULK AT MOST 1048576: true; the input reads as it did. -/
def fnExactBestTreeUptoRow : OpenClaim := { program := "ytnbimnnocnhggaa", sum := "d5f7d614e277a7be0d61e90d671b748ebf6b6e2a0ac8b1fbc3a47d9fed4ae7fb", func := "loop.example/g01325/laws.FnExactBestTree", spec := "fnExactBestTree", recurses := true, apart := false, narrowed := true }
def FnExactBestTreeUptoSaid : Prop := fnExactBestTreeUptoRow.holds Try.pinned (OpenSpec.upto fnExactBestTreeSpec)

/-- 'laws.FnExactCountTrees', WHERE WHAT IT READS IS OF BULK AT MOST 1048576: true; the input reads as it did. -/
def fnExactCountTreesUptoRow : OpenClaim := { program := "ytnbimnnocnhggaa", sum := "d5f7d614e277a7be0d61e90d671b748ebf6b6e2a0ac8b1fbc3a47d9fed4ae7fb", func := "loop.example/g01325/laws.FnExactCountTrees", spec := "fnExactCountTrees", recurses := true, apart := false, narrowed := true }
def FnExactCountTreesUptoSaid : Prop := fnExactCountTreesUptoRow.holds Try.pinned (OpenSpec.upto fnExactCountTreesSpec)

/-- 'laws.FnExactCountBestTrees', WHERE WHAT IT READS IS OF BULK AT MOST 1048576: true; the input reads as it did. -/
def fnExactCountBestTreesUptoRow : OpenClaim := { program := "ytnbimnnocnhggaa", sum := "d5f7d614e277a7be0d61e90d671b748ebf6b6e2a0ac8b1fbc3a47d9fed4ae7fb", func := "loop.example/g01325/laws.FnExactCountBestTrees", spec := "fnExactCountBestTrees", recurses := true, apart := false, narrowed := true }
def FnExactCountBestTreesUptoSaid : Prop := fnExactCountBestTreesUptoRow.holds Try.pinned (OpenSpec.upto fnExactCountBestTreesSpec)

/-- 'laws.FnExactFewestLeft', WHERE WHAT IT READS IS OF BULK AT MOST 1048576: true; the input reads as it did. -/
def fnExactFewestLeftUptoRow : OpenClaim := { program := "ytnbimnnocnhggaa", sum := "d5f7d614e277a7be0d61e90d671b748ebf6b6e2a0ac8b1fbc3a47d9fed4ae7fb", func := "loop.example/g01325/laws.FnExactFewestLeft", spec := "fnExactFewestLeft", unfollowed := true, recurses := true, apart := false, narrowed := true }
def FnExactFewestLeftUptoSaid : Prop := fnExactFewestLeftUptoRow.holds Try.pinned (OpenSpec.upto fnExactFewestLeftSpec)

end Rows
end Go.Proofs.Ytnbimnnocnhggaa
