/-
  No cell of these rows narrows 'for every input' (looked for: loops, veiled, ifaces, maps, wideKeys, modest, calm, conditions, laid).
  DERIVED. THE GIVEN ROWS OF THIS SEAT. 12 by the template 'for every input the law returns true; each argument reads behind the call as it read before'; 0 by the template 'total and deterministic' (their statements: YtlngkkdoikekbaaTotals.lean).
  GIVEN WITH THE SEED: the statements are not yours to turn. If you find one false, say at which input.
  Laid BY PROGRAM, IN A SANDBOX (cutbox-rows.mjs): the forced cells as the released guide's own fill.sh prints them over the translation 4efeb958d295a2e3… (all of the seat's roots in one cut). By AI agents, Wed Nov 11 2026. No macro, syntax, notation, axiom, sorry.
-/
import Derived.Test.YtlngkkdoikekbaaChecked
import GoSem.Claim
import GoSem.ClaimJoined
import GoSem.ClaimMapViews
import Derived.JoinedTies
import Derived.KernelRfl
namespace Go.Proofs.Ytlngkkdoikekbaa
/- THE CELL 'sum', in the pinned program and in every row, IS THE sha256 OF THE DUMP (.gsa) THAT YtlngkkdoikekbaaProg.lean LOADS. Nothing in Lean hashes anything: it is a label: what it is worth is what the hold of that sum in a sandbox is worth. -/
noncomputable def Try.pinned : Pinned := { name := "ytlngkkdoikekbaa", sum := "4efeb958d295a2e3e743e2127bc9e83d73bbebc52fa5993a3afd1a4d96c0a542", checked := Try.checked }
namespace Rows
def none {H : Type} : Left H := { results := [], args := [] }

/-- 'laws.FnExactAreWeights': WHATEVER THE INPUT: true; the input reads as it did. -/
def fnExactAreWeightsSpec : ChangeSpec := { name := "fnExactAreWeights", fn := fun _ => fun
  | [d] => { results := [.lit (.bool true)], args := [d] }
  | _ => none }
def fnExactAreWeightsRow : OpenClaim := { program := "ytlngkkdoikekbaa", sum := "4efeb958d295a2e3e743e2127bc9e83d73bbebc52fa5993a3afd1a4d96c0a542", func := "loop.example/g01325/laws.FnExactAreWeights", spec := "fnExactAreWeights", unfollowed := true, recurses := true, apart := false }
def FnExactAreWeightsSaid : Prop := fnExactAreWeightsRow.holds Try.pinned (OpenSpec.ofChange fnExactAreWeightsSpec)

/-- ITS FALSE NEIGHBOUR: 'it returns false'. Refute it at one input. -/
def fnExactAreWeightsWrong : ChangeSpec := { name := "fnExactAreWeights", fn := fun _ => fun
  | [d] => { results := [.lit (.bool false)], args := [d] }
  | _ => none }
def FnExactAreWeightsWrongFalsely : Prop := fnExactAreWeightsRow.holds Try.pinned (OpenSpec.ofChange fnExactAreWeightsWrong)

/-- 'laws.FnExactAreDrops': WHATEVER THE INPUT: true; the input reads as it did. -/
def fnExactAreDropsSpec : ChangeSpec := { name := "fnExactAreDrops", fn := fun _ => fun
  | [d1, d2] => { results := [.lit (.bool true)], args := [d1, d2] }
  | _ => none }
def fnExactAreDropsRow : OpenClaim := { program := "ytlngkkdoikekbaa", sum := "4efeb958d295a2e3e743e2127bc9e83d73bbebc52fa5993a3afd1a4d96c0a542", func := "loop.example/g01325/laws.FnExactAreDrops", spec := "fnExactAreDrops", unfollowed := true, recurses := true, apart := false }
def FnExactAreDropsSaid : Prop := fnExactAreDropsRow.holds Try.pinned (OpenSpec.ofChange fnExactAreDropsSpec)

/-- ITS FALSE NEIGHBOUR: 'it returns false'. Refute it at one input. -/
def fnExactAreDropsWrong : ChangeSpec := { name := "fnExactAreDrops", fn := fun _ => fun
  | [d1, d2] => { results := [.lit (.bool false)], args := [d1, d2] }
  | _ => none }
def FnExactAreDropsWrongFalsely : Prop := fnExactAreDropsRow.holds Try.pinned (OpenSpec.ofChange fnExactAreDropsWrong)

/-- 'laws.FnExactAreKindTests': WHATEVER THE INPUT: true; the input reads as it did. -/
def fnExactAreKindTestsSpec : ChangeSpec := { name := "fnExactAreKindTests", fn := fun _ => fun
  | [d1, d2] => { results := [.lit (.bool true)], args := [d1, d2] }
  | _ => none }
def fnExactAreKindTestsRow : OpenClaim := { program := "ytlngkkdoikekbaa", sum := "4efeb958d295a2e3e743e2127bc9e83d73bbebc52fa5993a3afd1a4d96c0a542", func := "loop.example/g01325/laws.FnExactAreKindTests", spec := "fnExactAreKindTests", unfollowed := true, recurses := true, apart := false }
def FnExactAreKindTestsSaid : Prop := fnExactAreKindTestsRow.holds Try.pinned (OpenSpec.ofChange fnExactAreKindTestsSpec)

/-- ITS FALSE NEIGHBOUR: 'it returns false'. Refute it at one input. -/
def fnExactAreKindTestsWrong : ChangeSpec := { name := "fnExactAreKindTests", fn := fun _ => fun
  | [d1, d2] => { results := [.lit (.bool false)], args := [d1, d2] }
  | _ => none }
def FnExactAreKindTestsWrongFalsely : Prop := fnExactAreKindTestsRow.holds Try.pinned (OpenSpec.ofChange fnExactAreKindTestsWrong)

/-- 'laws.FnExactClimbsOf': WHATEVER THE INPUT: true; the input reads as it did. -/
def fnExactClimbsOfSpec : ChangeSpec := { name := "fnExactClimbsOf", fn := fun _ => fun
  | [d] => { results := [.lit (.bool true)], args := [d] }
  | _ => none }
def fnExactClimbsOfRow : OpenClaim := { program := "ytlngkkdoikekbaa", sum := "4efeb958d295a2e3e743e2127bc9e83d73bbebc52fa5993a3afd1a4d96c0a542", func := "loop.example/g01325/laws.FnExactClimbsOf", spec := "fnExactClimbsOf", unfollowed := true, recurses := true, apart := false }
def FnExactClimbsOfSaid : Prop := fnExactClimbsOfRow.holds Try.pinned (OpenSpec.ofChange fnExactClimbsOfSpec)

/-- ITS FALSE NEIGHBOUR: 'it returns false'. Refute it at one input. -/
def fnExactClimbsOfWrong : ChangeSpec := { name := "fnExactClimbsOf", fn := fun _ => fun
  | [d] => { results := [.lit (.bool false)], args := [d] }
  | _ => none }
def FnExactClimbsOfWrongFalsely : Prop := fnExactClimbsOfRow.holds Try.pinned (OpenSpec.ofChange fnExactClimbsOfWrong)

/-- 'laws.FnExactIsSettled': WHATEVER THE INPUT: true; the input reads as it did. -/
def fnExactIsSettledSpec : ChangeSpec := { name := "fnExactIsSettled", fn := fun _ => fun
  | [d1, d2] => { results := [.lit (.bool true)], args := [d1, d2] }
  | _ => none }
def fnExactIsSettledRow : OpenClaim := { program := "ytlngkkdoikekbaa", sum := "4efeb958d295a2e3e743e2127bc9e83d73bbebc52fa5993a3afd1a4d96c0a542", func := "loop.example/g01325/laws.FnExactIsSettled", spec := "fnExactIsSettled", unfollowed := true, recurses := true, apart := false }
def FnExactIsSettledSaid : Prop := fnExactIsSettledRow.holds Try.pinned (OpenSpec.ofChange fnExactIsSettledSpec)

/-- ITS FALSE NEIGHBOUR: 'it returns false'. Refute it at one input. -/
def fnExactIsSettledWrong : ChangeSpec := { name := "fnExactIsSettled", fn := fun _ => fun
  | [d1, d2] => { results := [.lit (.bool false)], args := [d1, d2] }
  | _ => none }
def FnExactIsSettledWrongFalsely : Prop := fnExactIsSettledRow.holds Try.pinned (OpenSpec.ofChange fnExactIsSettledWrong)

/-- 'laws.FnExactLeftOpen': WHATEVER THE INPUT: true; the input reads as it did. -/
def fnExactLeftOpenSpec : ChangeSpec := { name := "fnExactLeftOpen", fn := fun _ => fun
  | [d1, d2] => { results := [.lit (.bool true)], args := [d1, d2] }
  | _ => none }
def fnExactLeftOpenRow : OpenClaim := { program := "ytlngkkdoikekbaa", sum := "4efeb958d295a2e3e743e2127bc9e83d73bbebc52fa5993a3afd1a4d96c0a542", func := "loop.example/g01325/laws.FnExactLeftOpen", spec := "fnExactLeftOpen", unfollowed := true, recurses := true, apart := false }
def FnExactLeftOpenSaid : Prop := fnExactLeftOpenRow.holds Try.pinned (OpenSpec.ofChange fnExactLeftOpenSpec)

/-- ITS FALSE NEIGHBOUR: 'it returns false'. Refute it at one input. -/
def fnExactLeftOpenWrong : ChangeSpec := { name := "fnExactLeftOpen", fn := fun _ => fun
  | [d1, d2] => { results := [.lit (.bool false)], args := [d1, d2] }
  | _ => none }
def FnExactLeftOpenWrongFalsely : Prop := fnExactLeftOpenRow.holds Try.pinned (OpenSpec.ofChange fnExactLeftOpenWrong)

/-- 'laws.FnExactCostOf': WHATEVER THE INPUT: true; the input reads as it did. -/
def fnExactCostOfSpec : ChangeSpec := { name := "fnExactCostOf", fn := fun _ => fun
  | [d1, d2] => { results := [.lit (.bool true)], args := [d1, d2] }
  | _ => none }
def fnExactCostOfRow : OpenClaim := { program := "ytlngkkdoikekbaa", sum := "4efeb958d295a2e3e743e2127bc9e83d73bbebc52fa5993a3afd1a4d96c0a542", func := "loop.example/g01325/laws.FnExactCostOf", spec := "fnExactCostOf", unfollowed := true, recurses := true, apart := false }
def FnExactCostOfSaid : Prop := fnExactCostOfRow.holds Try.pinned (OpenSpec.ofChange fnExactCostOfSpec)

/-- ITS FALSE NEIGHBOUR: 'it returns false'. Refute it at one input. -/
def fnExactCostOfWrong : ChangeSpec := { name := "fnExactCostOf", fn := fun _ => fun
  | [d1, d2] => { results := [.lit (.bool false)], args := [d1, d2] }
  | _ => none }
def FnExactCostOfWrongFalsely : Prop := fnExactCostOfRow.holds Try.pinned (OpenSpec.ofChange fnExactCostOfWrong)

/-- 'laws.FnExactIdleDrops': WHATEVER THE INPUT: true; the input reads as it did. -/
def fnExactIdleDropsSpec : ChangeSpec := { name := "fnExactIdleDrops", fn := fun _ => fun
  | [d1, d2] => { results := [.lit (.bool true)], args := [d1, d2] }
  | _ => none }
def fnExactIdleDropsRow : OpenClaim := { program := "ytlngkkdoikekbaa", sum := "4efeb958d295a2e3e743e2127bc9e83d73bbebc52fa5993a3afd1a4d96c0a542", func := "loop.example/g01325/laws.FnExactIdleDrops", spec := "fnExactIdleDrops", unfollowed := true, recurses := true, apart := false }
def FnExactIdleDropsSaid : Prop := fnExactIdleDropsRow.holds Try.pinned (OpenSpec.ofChange fnExactIdleDropsSpec)

/-- ITS FALSE NEIGHBOUR: 'it returns false'. Refute it at one input. -/
def fnExactIdleDropsWrong : ChangeSpec := { name := "fnExactIdleDrops", fn := fun _ => fun
  | [d1, d2] => { results := [.lit (.bool false)], args := [d1, d2] }
  | _ => none }
def FnExactIdleDropsWrongFalsely : Prop := fnExactIdleDropsRow.holds Try.pinned (OpenSpec.ofChange fnExactIdleDropsWrong)

/-- 'laws.FnExactLineTree': WHATEVER THE INPUT: true; the input reads as it did. -/
def fnExactLineTreeSpec : ChangeSpec := { name := "fnExactLineTree", fn := fun _ => fun
  | [d] => { results := [.lit (.bool true)], args := [d] }
  | _ => none }
def fnExactLineTreeRow : OpenClaim := { program := "ytlngkkdoikekbaa", sum := "4efeb958d295a2e3e743e2127bc9e83d73bbebc52fa5993a3afd1a4d96c0a542", func := "loop.example/g01325/laws.FnExactLineTree", spec := "fnExactLineTree", unfollowed := true, recurses := true, apart := false }
def FnExactLineTreeSaid : Prop := fnExactLineTreeRow.holds Try.pinned (OpenSpec.ofChange fnExactLineTreeSpec)

/-- ITS FALSE NEIGHBOUR: 'it returns false'. Refute it at one input. -/
def fnExactLineTreeWrong : ChangeSpec := { name := "fnExactLineTree", fn := fun _ => fun
  | [d] => { results := [.lit (.bool false)], args := [d] }
  | _ => none }
def FnExactLineTreeWrongFalsely : Prop := fnExactLineTreeRow.holds Try.pinned (OpenSpec.ofChange fnExactLineTreeWrong)

/-- 'laws.FnExactHalvesTree': WHATEVER THE INPUT: true; the input reads as it did. -/
def fnExactHalvesTreeSpec : ChangeSpec := { name := "fnExactHalvesTree", fn := fun _ => fun
  | [d] => { results := [.lit (.bool true)], args := [d] }
  | _ => none }
def fnExactHalvesTreeRow : OpenClaim := { program := "ytlngkkdoikekbaa", sum := "4efeb958d295a2e3e743e2127bc9e83d73bbebc52fa5993a3afd1a4d96c0a542", func := "loop.example/g01325/laws.FnExactHalvesTree", spec := "fnExactHalvesTree", unfollowed := true, recurses := true, apart := false }
def FnExactHalvesTreeSaid : Prop := fnExactHalvesTreeRow.holds Try.pinned (OpenSpec.ofChange fnExactHalvesTreeSpec)

/-- ITS FALSE NEIGHBOUR: 'it returns false'. Refute it at one input. -/
def fnExactHalvesTreeWrong : ChangeSpec := { name := "fnExactHalvesTree", fn := fun _ => fun
  | [d] => { results := [.lit (.bool false)], args := [d] }
  | _ => none }
def FnExactHalvesTreeWrongFalsely : Prop := fnExactHalvesTreeRow.holds Try.pinned (OpenSpec.ofChange fnExactHalvesTreeWrong)

/-- 'laws.FnExactLeastSumMarks': WHATEVER THE INPUT: true; the input reads as it did. -/
def fnExactLeastSumMarksSpec : ChangeSpec := { name := "fnExactLeastSumMarks", fn := fun _ => fun
  | [d] => { results := [.lit (.bool true)], args := [d] }
  | _ => none }
def fnExactLeastSumMarksRow : OpenClaim := { program := "ytlngkkdoikekbaa", sum := "4efeb958d295a2e3e743e2127bc9e83d73bbebc52fa5993a3afd1a4d96c0a542", func := "loop.example/g01325/laws.FnExactLeastSumMarks", spec := "fnExactLeastSumMarks", unfollowed := true, recurses := true, apart := false }
def FnExactLeastSumMarksSaid : Prop := fnExactLeastSumMarksRow.holds Try.pinned (OpenSpec.ofChange fnExactLeastSumMarksSpec)

/-- ITS FALSE NEIGHBOUR: 'it returns false'. Refute it at one input. -/
def fnExactLeastSumMarksWrong : ChangeSpec := { name := "fnExactLeastSumMarks", fn := fun _ => fun
  | [d] => { results := [.lit (.bool false)], args := [d] }
  | _ => none }
def FnExactLeastSumMarksWrongFalsely : Prop := fnExactLeastSumMarksRow.holds Try.pinned (OpenSpec.ofChange fnExactLeastSumMarksWrong)

/-- 'laws.FnExactJoinTrees': WHATEVER THE INPUT: true; the input reads as it did. -/
def fnExactJoinTreesSpec : ChangeSpec := { name := "fnExactJoinTrees", fn := fun _ => fun
  | [d1, d2] => { results := [.lit (.bool true)], args := [d1, d2] }
  | _ => none }
def fnExactJoinTreesRow : OpenClaim := { program := "ytlngkkdoikekbaa", sum := "4efeb958d295a2e3e743e2127bc9e83d73bbebc52fa5993a3afd1a4d96c0a542", func := "loop.example/g01325/laws.FnExactJoinTrees", spec := "fnExactJoinTrees", recurses := true, apart := false }
def FnExactJoinTreesSaid : Prop := fnExactJoinTreesRow.holds Try.pinned (OpenSpec.ofChange fnExactJoinTreesSpec)

/-- ITS FALSE NEIGHBOUR: 'it returns false'. Refute it at one input. -/
def fnExactJoinTreesWrong : ChangeSpec := { name := "fnExactJoinTrees", fn := fun _ => fun
  | [d1, d2] => { results := [.lit (.bool false)], args := [d1, d2] }
  | _ => none }
def FnExactJoinTreesWrongFalsely : Prop := fnExactJoinTreesRow.holds Try.pinned (OpenSpec.ofChange fnExactJoinTreesWrong)

/- THE SECOND FORM. 'bulk': how many values and letters a reading holds, each counted each time it is reached (what is shared counts as often as it is met; a slice's spare places count too). A statement '..UptoSaid' is the law's where the arguments, and the package variables that the reading takes, are together of bulk at most 1048576: NARROWER than '..Said'. Prove '..Said' where nothing that the law and all that it calls make is longer than what came in: it says more and counts as full. Else prove '..UptoSaid'. A law counts once. -/
mutual
def uptoBulk {H : Type} : DataW H → Nat
  | .lit (.string bytes) => bytes.length + 1
  | .lit _ => 1
  | .nil => 1
  | .ptr d => uptoBulk d + 1
  | .slice elems spare => uptoBulkAll elems + uptoBulkAll spare + 1
  | .agg parts => uptoBulkAll parts + 1
  | .iface _ d => uptoBulk d + 1
  | .map entries => uptoBulkEntries entries + 1
  | .held _ => 1
def uptoBulkAll {H : Type} : List (DataW H) → Nat
  | [] => 0
  | d :: r => uptoBulk d + uptoBulkAll r
def uptoBulkEntries {H : Type} : List (Lit × DataW H) → Nat
  | [] => 0
  | x :: r => uptoBulkEntry x + uptoBulkEntries r
def uptoBulkEntry {H : Type} : Lit × DataW H → Nat
  | (.string bytes, d) => bytes.length + uptoBulk d + 1
  | (_, d) => uptoBulk d + 1
 end
def uptoSmall : (H : Type) → List (DataW H) → Bool := fun _ ds => decide (uptoBulkAll ds ≤ 1048576)
def OpenSpec.upto (s : _root_.Go.ChangeSpec) : _root_.Go.OpenSpec := { _root_.Go.OpenSpec.ofChange s with cond := some uptoSmall }

/-- 'laws.FnExactAreWeights', WHERE WHAT IT READS IS OF BULK AT MOST 1048576: true; the input reads as it did. -/
def fnExactAreWeightsUptoRow : OpenClaim := { program := "ytlngkkdoikekbaa", sum := "4efeb958d295a2e3e743e2127bc9e83d73bbebc52fa5993a3afd1a4d96c0a542", func := "loop.example/g01325/laws.FnExactAreWeights", spec := "fnExactAreWeights", unfollowed := true, recurses := true, apart := false, narrowed := true }
def FnExactAreWeightsUptoSaid : Prop := fnExactAreWeightsUptoRow.holds Try.pinned (OpenSpec.upto fnExactAreWeightsSpec)

/-- 'laws.FnExactAreDrops', WHERE WHAT IT READS IS OF BULK AT MOST 1048576: true; the input reads as it did. -/
def fnExactAreDropsUptoRow : OpenClaim := { program := "ytlngkkdoikekbaa", sum := "4efeb958d295a2e3e743e2127bc9e83d73bbebc52fa5993a3afd1a4d96c0a542", func := "loop.example/g01325/laws.FnExactAreDrops", spec := "fnExactAreDrops", unfollowed := true, recurses := true, apart := false, narrowed := true }
def FnExactAreDropsUptoSaid : Prop := fnExactAreDropsUptoRow.holds Try.pinned (OpenSpec.upto fnExactAreDropsSpec)

/-- 'laws.FnExactAreKindTests', WHERE WHAT IT READS IS OF BULK AT MOST 1048576: true; the input reads as it did. -/
def fnExactAreKindTestsUptoRow : OpenClaim := { program := "ytlngkkdoikekbaa", sum := "4efeb958d295a2e3e743e2127bc9e83d73bbebc52fa5993a3afd1a4d96c0a542", func := "loop.example/g01325/laws.FnExactAreKindTests", spec := "fnExactAreKindTests", unfollowed := true, recurses := true, apart := false, narrowed := true }
def FnExactAreKindTestsUptoSaid : Prop := fnExactAreKindTestsUptoRow.holds Try.pinned (OpenSpec.upto fnExactAreKindTestsSpec)

/-- 'laws.FnExactClimbsOf', WHERE WHAT IT READS IS OF BULK AT MOST 1048576: true; the input reads as it did. -/
def fnExactClimbsOfUptoRow : OpenClaim := { program := "ytlngkkdoikekbaa", sum := "4efeb958d295a2e3e743e2127bc9e83d73bbebc52fa5993a3afd1a4d96c0a542", func := "loop.example/g01325/laws.FnExactClimbsOf", spec := "fnExactClimbsOf", unfollowed := true, recurses := true, apart := false, narrowed := true }
def FnExactClimbsOfUptoSaid : Prop := fnExactClimbsOfUptoRow.holds Try.pinned (OpenSpec.upto fnExactClimbsOfSpec)

/-- 'laws.FnExactIsSettled', WHERE WHAT IT READS IS OF BULK AT MOST 1048576: true; the input reads as it did. -/
def fnExactIsSettledUptoRow : OpenClaim := { program := "ytlngkkdoikekbaa", sum := "4efeb958d295a2e3e743e2127bc9e83d73bbebc52fa5993a3afd1a4d96c0a542", func := "loop.example/g01325/laws.FnExactIsSettled", spec := "fnExactIsSettled", unfollowed := true, recurses := true, apart := false, narrowed := true }
def FnExactIsSettledUptoSaid : Prop := fnExactIsSettledUptoRow.holds Try.pinned (OpenSpec.upto fnExactIsSettledSpec)

/-- 'laws.FnExactLeftOpen', WHERE WHAT IT READS IS OF BULK AT MOST 1048576: true; the input reads as it did. -/
def fnExactLeftOpenUptoRow : OpenClaim := { program := "ytlngkkdoikekbaa", sum := "4efeb958d295a2e3e743e2127bc9e83d73bbebc52fa5993a3afd1a4d96c0a542", func := "loop.example/g01325/laws.FnExactLeftOpen", spec := "fnExactLeftOpen", unfollowed := true, recurses := true, apart := false, narrowed := true }
def FnExactLeftOpenUptoSaid : Prop := fnExactLeftOpenUptoRow.holds Try.pinned (OpenSpec.upto fnExactLeftOpenSpec)

/-- 'laws.FnExactCostOf', WHERE WHAT IT READS IS OF BULK AT MOST 1048576: true; the input reads as it did. -/
def fnExactCostOfUptoRow : OpenClaim := { program := "ytlngkkdoikekbaa", sum := "4efeb958d295a2e3e743e2127bc9e83d73bbebc52fa5993a3afd1a4d96c0a542", func := "loop.example/g01325/laws.FnExactCostOf", spec := "fnExactCostOf", unfollowed := true, recurses := true, apart := false, narrowed := true }
def FnExactCostOfUptoSaid : Prop := fnExactCostOfUptoRow.holds Try.pinned (OpenSpec.upto fnExactCostOfSpec)

/-- 'laws.FnExactIdleDrops', WHERE WHAT IT READS IS OF BULK AT MOST 1048576: true; the input reads as it did. -/
def fnExactIdleDropsUptoRow : OpenClaim := { program := "ytlngkkdoikekbaa", sum := "4efeb958d295a2e3e743e2127bc9e83d73bbebc52fa5993a3afd1a4d96c0a542", func := "loop.example/g01325/laws.FnExactIdleDrops", spec := "fnExactIdleDrops", unfollowed := true, recurses := true, apart := false, narrowed := true }
def FnExactIdleDropsUptoSaid : Prop := fnExactIdleDropsUptoRow.holds Try.pinned (OpenSpec.upto fnExactIdleDropsSpec)

/-- 'laws.FnExactLineTree', WHERE WHAT IT READS IS OF BULK AT MOST 1048576: true; the input reads as it did. -/
def fnExactLineTreeUptoRow : OpenClaim := { program := "ytlngkkdoikekbaa", sum := "4efeb958d295a2e3e743e2127bc9e83d73bbebc52fa5993a3afd1a4d96c0a542", func := "loop.example/g01325/laws.FnExactLineTree", spec := "fnExactLineTree", unfollowed := true, recurses := true, apart := false, narrowed := true }
def FnExactLineTreeUptoSaid : Prop := fnExactLineTreeUptoRow.holds Try.pinned (OpenSpec.upto fnExactLineTreeSpec)

/-- 'laws.FnExactHalvesTree', WHERE WHAT IT READS IS OF BULK AT MOST 1048576: true; the input reads as it did. -/
def fnExactHalvesTreeUptoRow : OpenClaim := { program := "ytlngkkdoikekbaa", sum := "4efeb958d295a2e3e743e2127bc9e83d73bbebc52fa5993a3afd1a4d96c0a542", func := "loop.example/g01325/laws.FnExactHalvesTree", spec := "fnExactHalvesTree", unfollowed := true, recurses := true, apart := false, narrowed := true }
def FnExactHalvesTreeUptoSaid : Prop := fnExactHalvesTreeUptoRow.holds Try.pinned (OpenSpec.upto fnExactHalvesTreeSpec)

/-- 'laws.FnExactLeastSumMarks', WHERE WHAT IT READS IS OF BULK AT MOST 1048576: true; the input reads as it did. -/
def fnExactLeastSumMarksUptoRow : OpenClaim := { program := "ytlngkkdoikekbaa", sum := "4efeb958d295a2e3e743e2127bc9e83d73bbebc52fa5993a3afd1a4d96c0a542", func := "loop.example/g01325/laws.FnExactLeastSumMarks", spec := "fnExactLeastSumMarks", unfollowed := true, recurses := true, apart := false, narrowed := true }
def FnExactLeastSumMarksUptoSaid : Prop := fnExactLeastSumMarksUptoRow.holds Try.pinned (OpenSpec.upto fnExactLeastSumMarksSpec)

/-- 'laws.FnExactJoinTrees', WHERE WHAT IT READS IS OF BULK AT MOST 1048576: true; the input reads as it did. -/
def fnExactJoinTreesUptoRow : OpenClaim := { program := "ytlngkkdoikekbaa", sum := "4efeb958d295a2e3e743e2127bc9e83d73bbebc52fa5993a3afd1a4d96c0a542", func := "loop.example/g01325/laws.FnExactJoinTrees", spec := "fnExactJoinTrees", recurses := true, apart := false, narrowed := true }
def FnExactJoinTreesUptoSaid : Prop := fnExactJoinTreesUptoRow.holds Try.pinned (OpenSpec.upto fnExactJoinTreesSpec)

end Rows
end Go.Proofs.Ytlngkkdoikekbaa
