/-
  No cell of these rows narrows 'for every input' (looked for: loops, veiled, ifaces, maps, wideKeys, modest, calm, conditions, laid).
  DERIVED. THE GIVEN ROWS OF THIS SEAT. 12 by the template 'for every input the law returns true; each argument reads behind the call as it read before'; 0 by the template 'total and deterministic' (their statements: YthmmjbhilnldeaaTotals.lean).
  GIVEN WITH THE SEED: the statements are not yours to turn. If you find one false, say at which input.
  Laid BY PROGRAM, IN A SANDBOX (cutbox-rows.mjs): the forced cells as the released guide's own fill.sh prints them over the translation da28ad23a81f73ab… (all of the seat's roots in one cut). By AI agents, Wed Nov 11 2026. No macro, syntax, notation, axiom, sorry.
-/
import Derived.Test.YthmmjbhilnldeaaChecked
import GoSem.Claim
import GoSem.ClaimJoined
import GoSem.ClaimMapViews
import Derived.JoinedTies
import Derived.KernelRfl
namespace Go.Proofs.Ythmmjbhilnldeaa
/- THE CELL 'sum', in the pinned program and in every row, IS THE sha256 OF THE DUMP (.gsa) THAT YthmmjbhilnldeaaProg.lean LOADS. Nothing in Lean hashes anything: it is a label: what it is worth is what the hold of that sum in a sandbox is worth. -/
noncomputable def Try.pinned : Pinned := { name := "ythmmjbhilnldeaa", sum := "da28ad23a81f73abca14865a273551aaffca0dd8d3e218e7d414d3ddb9ec3ee7", checked := Try.checked }
namespace Rows
def none {H : Type} : Left H := { results := [], args := [] }

/-- 'laws.FnExactConstants': WHATEVER THE INPUT: true; the input reads as it did. -/
def fnExactConstantsSpec : ChangeSpec := { name := "fnExactConstants", fn := fun _ => fun
  | [] => { results := [.lit (.bool true)], args := [] }
  | _ => none }
def fnExactConstantsRow : OpenClaim := { program := "ythmmjbhilnldeaa", sum := "da28ad23a81f73abca14865a273551aaffca0dd8d3e218e7d414d3ddb9ec3ee7", func := "loop.example/g01325/laws.FnExactConstants", spec := "fnExactConstants", apart := false }
def FnExactConstantsSaid : Prop := fnExactConstantsRow.holds Try.pinned (OpenSpec.ofChange fnExactConstantsSpec)

/-- ITS FALSE NEIGHBOUR: 'it returns false'. Refute it at one input. -/
def fnExactConstantsWrong : ChangeSpec := { name := "fnExactConstants", fn := fun _ => fun
  | [] => { results := [.lit (.bool false)], args := [] }
  | _ => none }
def FnExactConstantsWrongFalsely : Prop := fnExactConstantsRow.holds Try.pinned (OpenSpec.ofChange fnExactConstantsWrong)

/-- 'laws.FnExactCountPairs': WHATEVER THE INPUT: true; the input reads as it did. -/
def fnExactCountPairsSpec : ChangeSpec := { name := "fnExactCountPairs", fn := fun _ => fun
  | [d] => { results := [.lit (.bool true)], args := [d] }
  | _ => none }
def fnExactCountPairsRow : OpenClaim := { program := "ythmmjbhilnldeaa", sum := "da28ad23a81f73abca14865a273551aaffca0dd8d3e218e7d414d3ddb9ec3ee7", func := "loop.example/g01325/laws.FnExactCountPairs", spec := "fnExactCountPairs", apart := false }
def FnExactCountPairsSaid : Prop := fnExactCountPairsRow.holds Try.pinned (OpenSpec.ofChange fnExactCountPairsSpec)

/-- ITS FALSE NEIGHBOUR: 'it returns false'. Refute it at one input. -/
def fnExactCountPairsWrong : ChangeSpec := { name := "fnExactCountPairs", fn := fun _ => fun
  | [d] => { results := [.lit (.bool false)], args := [d] }
  | _ => none }
def FnExactCountPairsWrongFalsely : Prop := fnExactCountPairsRow.holds Try.pinned (OpenSpec.ofChange fnExactCountPairsWrong)

/-- 'laws.FnExactDoesBreak': WHATEVER THE INPUT: true; the input reads as it did. -/
def fnExactDoesBreakSpec : ChangeSpec := { name := "fnExactDoesBreak", fn := fun _ => fun
  | [d1, d2, d3] => { results := [.lit (.bool true)], args := [d1, d2, d3] }
  | _ => none }
def fnExactDoesBreakRow : OpenClaim := { program := "ythmmjbhilnldeaa", sum := "da28ad23a81f73abca14865a273551aaffca0dd8d3e218e7d414d3ddb9ec3ee7", func := "loop.example/g01325/laws.FnExactDoesBreak", spec := "fnExactDoesBreak", apart := false }
def FnExactDoesBreakSaid : Prop := fnExactDoesBreakRow.holds Try.pinned (OpenSpec.ofChange fnExactDoesBreakSpec)

/-- ITS FALSE NEIGHBOUR: 'it returns false'. Refute it at one input. -/
def fnExactDoesBreakWrong : ChangeSpec := { name := "fnExactDoesBreak", fn := fun _ => fun
  | [d1, d2, d3] => { results := [.lit (.bool false)], args := [d1, d2, d3] }
  | _ => none }
def FnExactDoesBreakWrongFalsely : Prop := fnExactDoesBreakRow.holds Try.pinned (OpenSpec.ofChange fnExactDoesBreakWrong)

/-- 'laws.FnExactArePrices': WHATEVER THE INPUT: true; the input reads as it did. -/
def fnExactArePricesSpec : ChangeSpec := { name := "fnExactArePrices", fn := fun _ => fun
  | [d] => { results := [.lit (.bool true)], args := [d] }
  | _ => none }
def fnExactArePricesRow : OpenClaim := { program := "ythmmjbhilnldeaa", sum := "da28ad23a81f73abca14865a273551aaffca0dd8d3e218e7d414d3ddb9ec3ee7", func := "loop.example/g01325/laws.FnExactArePrices", spec := "fnExactArePrices", apart := false }
def FnExactArePricesSaid : Prop := fnExactArePricesRow.holds Try.pinned (OpenSpec.ofChange fnExactArePricesSpec)

/-- ITS FALSE NEIGHBOUR: 'it returns false'. Refute it at one input. -/
def fnExactArePricesWrong : ChangeSpec := { name := "fnExactArePrices", fn := fun _ => fun
  | [d] => { results := [.lit (.bool false)], args := [d] }
  | _ => none }
def FnExactArePricesWrongFalsely : Prop := fnExactArePricesRow.holds Try.pinned (OpenSpec.ofChange fnExactArePricesWrong)

/-- 'laws.FnExactEvenMarks': WHATEVER THE INPUT: true; the input reads as it did. -/
def fnExactEvenMarksSpec : ChangeSpec := { name := "fnExactEvenMarks", fn := fun _ => fun
  | [d1, d2] => { results := [.lit (.bool true)], args := [d1, d2] }
  | _ => none }
def fnExactEvenMarksRow : OpenClaim := { program := "ythmmjbhilnldeaa", sum := "da28ad23a81f73abca14865a273551aaffca0dd8d3e218e7d414d3ddb9ec3ee7", func := "loop.example/g01325/laws.FnExactEvenMarks", spec := "fnExactEvenMarks", apart := false }
def FnExactEvenMarksSaid : Prop := fnExactEvenMarksRow.holds Try.pinned (OpenSpec.ofChange fnExactEvenMarksSpec)

/-- ITS FALSE NEIGHBOUR: 'it returns false'. Refute it at one input. -/
def fnExactEvenMarksWrong : ChangeSpec := { name := "fnExactEvenMarks", fn := fun _ => fun
  | [d1, d2] => { results := [.lit (.bool false)], args := [d1, d2] }
  | _ => none }
def FnExactEvenMarksWrongFalsely : Prop := fnExactEvenMarksRow.holds Try.pinned (OpenSpec.ofChange fnExactEvenMarksWrong)

/-- 'laws.FnExactAreMarks': WHATEVER THE INPUT: true; the input reads as it did. -/
def fnExactAreMarksSpec : ChangeSpec := { name := "fnExactAreMarks", fn := fun _ => fun
  | [d1, d2] => { results := [.lit (.bool true)], args := [d1, d2] }
  | _ => none }
def fnExactAreMarksRow : OpenClaim := { program := "ythmmjbhilnldeaa", sum := "da28ad23a81f73abca14865a273551aaffca0dd8d3e218e7d414d3ddb9ec3ee7", func := "loop.example/g01325/laws.FnExactAreMarks", spec := "fnExactAreMarks", apart := false }
def FnExactAreMarksSaid : Prop := fnExactAreMarksRow.holds Try.pinned (OpenSpec.ofChange fnExactAreMarksSpec)

/-- ITS FALSE NEIGHBOUR: 'it returns false'. Refute it at one input. -/
def fnExactAreMarksWrong : ChangeSpec := { name := "fnExactAreMarks", fn := fun _ => fun
  | [d1, d2] => { results := [.lit (.bool false)], args := [d1, d2] }
  | _ => none }
def FnExactAreMarksWrongFalsely : Prop := fnExactAreMarksRow.holds Try.pinned (OpenSpec.ofChange fnExactAreMarksWrong)

/-- 'laws.FnExactIsTree': WHATEVER THE INPUT: true; the input reads as it did. -/
def fnExactIsTreeSpec : ChangeSpec := { name := "fnExactIsTree", fn := fun _ => fun
  | [d] => { results := [.lit (.bool true)], args := [d] }
  | _ => none }
def fnExactIsTreeRow : OpenClaim := { program := "ythmmjbhilnldeaa", sum := "da28ad23a81f73abca14865a273551aaffca0dd8d3e218e7d414d3ddb9ec3ee7", func := "loop.example/g01325/laws.FnExactIsTree", spec := "fnExactIsTree", recurses := true, apart := false }
def FnExactIsTreeSaid : Prop := fnExactIsTreeRow.holds Try.pinned (OpenSpec.ofChange fnExactIsTreeSpec)

/-- ITS FALSE NEIGHBOUR: 'it returns false'. Refute it at one input. -/
def fnExactIsTreeWrong : ChangeSpec := { name := "fnExactIsTree", fn := fun _ => fun
  | [d] => { results := [.lit (.bool false)], args := [d] }
  | _ => none }
def FnExactIsTreeWrongFalsely : Prop := fnExactIsTreeRow.holds Try.pinned (OpenSpec.ofChange fnExactIsTreeWrong)

/-- 'laws.FnExactBestGap': WHATEVER THE INPUT: true; the input reads as it did. -/
def fnExactBestGapSpec : ChangeSpec := { name := "fnExactBestGap", fn := fun _ => fun
  | [d] => { results := [.lit (.bool true)], args := [d] }
  | _ => none }
def fnExactBestGapRow : OpenClaim := { program := "ythmmjbhilnldeaa", sum := "da28ad23a81f73abca14865a273551aaffca0dd8d3e218e7d414d3ddb9ec3ee7", func := "loop.example/g01325/laws.FnExactBestGap", spec := "fnExactBestGap", apart := false }
def FnExactBestGapSaid : Prop := fnExactBestGapRow.holds Try.pinned (OpenSpec.ofChange fnExactBestGapSpec)

/-- ITS FALSE NEIGHBOUR: 'it returns false'. Refute it at one input. -/
def fnExactBestGapWrong : ChangeSpec := { name := "fnExactBestGap", fn := fun _ => fun
  | [d] => { results := [.lit (.bool false)], args := [d] }
  | _ => none }
def FnExactBestGapWrongFalsely : Prop := fnExactBestGapRow.holds Try.pinned (OpenSpec.ofChange fnExactBestGapWrong)

/-- 'laws.FnExactMarkTests': WHATEVER THE INPUT: true; the input reads as it did. -/
def fnExactMarkTestsSpec : ChangeSpec := { name := "fnExactMarkTests", fn := fun _ => fun
  | [d1, d2, d3] => { results := [.lit (.bool true)], args := [d1, d2, d3] }
  | _ => none }
def fnExactMarkTestsRow : OpenClaim := { program := "ythmmjbhilnldeaa", sum := "da28ad23a81f73abca14865a273551aaffca0dd8d3e218e7d414d3ddb9ec3ee7", func := "loop.example/g01325/laws.FnExactMarkTests", spec := "fnExactMarkTests", apart := false }
def FnExactMarkTestsSaid : Prop := fnExactMarkTestsRow.holds Try.pinned (OpenSpec.ofChange fnExactMarkTestsSpec)

/-- ITS FALSE NEIGHBOUR: 'it returns false'. Refute it at one input. -/
def fnExactMarkTestsWrong : ChangeSpec := { name := "fnExactMarkTests", fn := fun _ => fun
  | [d1, d2, d3] => { results := [.lit (.bool false)], args := [d1, d2, d3] }
  | _ => none }
def FnExactMarkTestsWrongFalsely : Prop := fnExactMarkTestsRow.holds Try.pinned (OpenSpec.ofChange fnExactMarkTestsWrong)

/-- 'laws.FnExactSumOfMarks': WHATEVER THE INPUT: true; the input reads as it did. -/
def fnExactSumOfMarksSpec : ChangeSpec := { name := "fnExactSumOfMarks", fn := fun _ => fun
  | [d1, d2] => { results := [.lit (.bool true)], args := [d1, d2] }
  | _ => none }
def fnExactSumOfMarksRow : OpenClaim := { program := "ythmmjbhilnldeaa", sum := "da28ad23a81f73abca14865a273551aaffca0dd8d3e218e7d414d3ddb9ec3ee7", func := "loop.example/g01325/laws.FnExactSumOfMarks", spec := "fnExactSumOfMarks", apart := false }
def FnExactSumOfMarksSaid : Prop := fnExactSumOfMarksRow.holds Try.pinned (OpenSpec.ofChange fnExactSumOfMarksSpec)

/-- ITS FALSE NEIGHBOUR: 'it returns false'. Refute it at one input. -/
def fnExactSumOfMarksWrong : ChangeSpec := { name := "fnExactSumOfMarks", fn := fun _ => fun
  | [d1, d2] => { results := [.lit (.bool false)], args := [d1, d2] }
  | _ => none }
def FnExactSumOfMarksWrongFalsely : Prop := fnExactSumOfMarksRow.holds Try.pinned (OpenSpec.ofChange fnExactSumOfMarksWrong)

/-- 'laws.FnExactWorstOfMarks': WHATEVER THE INPUT: true; the input reads as it did. -/
def fnExactWorstOfMarksSpec : ChangeSpec := { name := "fnExactWorstOfMarks", fn := fun _ => fun
  | [d1, d2] => { results := [.lit (.bool true)], args := [d1, d2] }
  | _ => none }
def fnExactWorstOfMarksRow : OpenClaim := { program := "ythmmjbhilnldeaa", sum := "da28ad23a81f73abca14865a273551aaffca0dd8d3e218e7d414d3ddb9ec3ee7", func := "loop.example/g01325/laws.FnExactWorstOfMarks", spec := "fnExactWorstOfMarks", apart := false }
def FnExactWorstOfMarksSaid : Prop := fnExactWorstOfMarksRow.holds Try.pinned (OpenSpec.ofChange fnExactWorstOfMarksSpec)

/-- ITS FALSE NEIGHBOUR: 'it returns false'. Refute it at one input. -/
def fnExactWorstOfMarksWrong : ChangeSpec := { name := "fnExactWorstOfMarks", fn := fun _ => fun
  | [d1, d2] => { results := [.lit (.bool false)], args := [d1, d2] }
  | _ => none }
def FnExactWorstOfMarksWrongFalsely : Prop := fnExactWorstOfMarksRow.holds Try.pinned (OpenSpec.ofChange fnExactWorstOfMarksWrong)

/-- 'laws.FnExactDropMark': WHATEVER THE INPUT: true; the input reads as it did. -/
def fnExactDropMarkSpec : ChangeSpec := { name := "fnExactDropMark", fn := fun _ => fun
  | [d1, d2, d3] => { results := [.lit (.bool true)], args := [d1, d2, d3] }
  | _ => none }
def fnExactDropMarkRow : OpenClaim := { program := "ythmmjbhilnldeaa", sum := "da28ad23a81f73abca14865a273551aaffca0dd8d3e218e7d414d3ddb9ec3ee7", func := "loop.example/g01325/laws.FnExactDropMark", spec := "fnExactDropMark", apart := false }
def FnExactDropMarkSaid : Prop := fnExactDropMarkRow.holds Try.pinned (OpenSpec.ofChange fnExactDropMarkSpec)

/-- ITS FALSE NEIGHBOUR: 'it returns false'. Refute it at one input. -/
def fnExactDropMarkWrong : ChangeSpec := { name := "fnExactDropMark", fn := fun _ => fun
  | [d1, d2, d3] => { results := [.lit (.bool false)], args := [d1, d2, d3] }
  | _ => none }
def FnExactDropMarkWrongFalsely : Prop := fnExactDropMarkRow.holds Try.pinned (OpenSpec.ofChange fnExactDropMarkWrong)

/- THE SECOND FORM. 'bulk': how many values and letters a reading holds, each counted each time it is reached (what is shared counts as often as it is met; a slice's spare places count too). A statement '..UptoSaid' is the law's where the arguments, and the package variables that the reading takes, are together of bulk at most 1048576: NARROWER than '..Said'. Prove '..Said' where nothing that the law and all that it calls make is longer than what came in: it says more and counts as full. Else prove '..UptoSaid'. A law counts once. -/
mutual
def uptoBulk {H : Type} : DataW H → Nat
  | .lit (.string bytes) => bytes.length + 1
  | .lit _ => 1
  | .nil => 1
  | .ptr d => uptoBulk d + 1
  | .slice elems spare => uptoBulkAll elems + uptoBulkAll spare + 1
  | .agg parts => uptoBulkAll parts + 1
  | .iface _ d => uptoBulk d + 1
  | .map entries => uptoBulkEntries entries + 1
  | .held _ => 1
def uptoBulkAll {H : Type} : List (DataW H) → Nat
  | [] => 0
  | d :: r => uptoBulk d + uptoBulkAll r
def uptoBulkEntries {H : Type} : List (Lit × DataW H) → Nat
  | [] => 0
  | x :: r => uptoBulkEntry x + uptoBulkEntries r
def uptoBulkEntry {H : Type} : Lit × DataW H → Nat
  | (.string bytes, d) => bytes.length + uptoBulk d + 1
  | (_, d) => uptoBulk d + 1
 end
def uptoSmall : (H : Type) → List (DataW H) → Bool := fun _ ds => decide (uptoBulkAll ds ≤ 1048576)
def OpenSpec.upto (s : _root_.Go.ChangeSpec) : _root_.Go.OpenSpec := { _root_.Go.OpenSpec.ofChange s with cond := some uptoSmall }

/-- 'laws.FnExactConstants', WHERE WHAT IT READS IS OF BULK AT MOST 1048576: true; the input reads as it did. -/
def fnExactConstantsUptoRow : OpenClaim := { program := "ythmmjbhilnldeaa", sum := "da28ad23a81f73abca14865a273551aaffca0dd8d3e218e7d414d3ddb9ec3ee7", func := "loop.example/g01325/laws.FnExactConstants", spec := "fnExactConstants", apart := false, narrowed := true }
def FnExactConstantsUptoSaid : Prop := fnExactConstantsUptoRow.holds Try.pinned (OpenSpec.upto fnExactConstantsSpec)

/-- 'laws.FnExactCountPairs', WHERE WHAT IT READS IS OF BULK AT MOST 1048576: true; the input reads as it did. -/
def fnExactCountPairsUptoRow : OpenClaim := { program := "ythmmjbhilnldeaa", sum := "da28ad23a81f73abca14865a273551aaffca0dd8d3e218e7d414d3ddb9ec3ee7", func := "loop.example/g01325/laws.FnExactCountPairs", spec := "fnExactCountPairs", apart := false, narrowed := true }
def FnExactCountPairsUptoSaid : Prop := fnExactCountPairsUptoRow.holds Try.pinned (OpenSpec.upto fnExactCountPairsSpec)

/-- 'laws.FnExactDoesBreak', WHERE WHAT IT READS IS OF BULK AT MOST 1048576: true; the input reads as it did. -/
def fnExactDoesBreakUptoRow : OpenClaim := { program := "ythmmjbhilnldeaa", sum := "da28ad23a81f73abca14865a273551aaffca0dd8d3e218e7d414d3ddb9ec3ee7", func := "loop.example/g01325/laws.FnExactDoesBreak", spec := "fnExactDoesBreak", apart := false, narrowed := true }
def FnExactDoesBreakUptoSaid : Prop := fnExactDoesBreakUptoRow.holds Try.pinned (OpenSpec.upto fnExactDoesBreakSpec)

/-- 'laws.FnExactArePrices', WHERE WHAT IT READS IS OF BULK AT MOST 1048576: true; the input reads as it did. -/
def fnExactArePricesUptoRow : OpenClaim := { program := "ythmmjbhilnldeaa", sum := "da28ad23a81f73abca14865a273551aaffca0dd8d3e218e7d414d3ddb9ec3ee7", func := "loop.example/g01325/laws.FnExactArePrices", spec := "fnExactArePrices", apart := false, narrowed := true }
def FnExactArePricesUptoSaid : Prop := fnExactArePricesUptoRow.holds Try.pinned (OpenSpec.upto fnExactArePricesSpec)

/-- 'laws.FnExactEvenMarks', WHERE WHAT IT READS IS OF BULK AT MOST 1048576: true; the input reads as it did. -/
def fnExactEvenMarksUptoRow : OpenClaim := { program := "ythmmjbhilnldeaa", sum := "da28ad23a81f73abca14865a273551aaffca0dd8d3e218e7d414d3ddb9ec3ee7", func := "loop.example/g01325/laws.FnExactEvenMarks", spec := "fnExactEvenMarks", apart := false, narrowed := true }
def FnExactEvenMarksUptoSaid : Prop := fnExactEvenMarksUptoRow.holds Try.pinned (OpenSpec.upto fnExactEvenMarksSpec)

/-- 'laws.FnExactAreMarks', WHERE WHAT IT READS IS OF BULK AT MOST 1048576: true; the input reads as it did. -/
def fnExactAreMarksUptoRow : OpenClaim := { program := "ythmmjbhilnldeaa", sum := "da28ad23a81f73abca14865a273551aaffca0dd8d3e218e7d414d3ddb9ec3ee7", func := "loop.example/g01325/laws.FnExactAreMarks", spec := "fnExactAreMarks", apart := false, narrowed := true }
def FnExactAreMarksUptoSaid : Prop := fnExactAreMarksUptoRow.holds Try.pinned (OpenSpec.upto fnExactAreMarksSpec)

/-- 'laws.FnExactIsTree', WHERE WHAT IT READS IS OF BULK AT MOST 1048576: true; the input reads as it did. -/
def fnExactIsTreeUptoRow : OpenClaim := { program := "ythmmjbhilnldeaa", sum := "da28ad23a81f73abca14865a273551aaffca0dd8d3e218e7d414d3ddb9ec3ee7", func := "loop.example/g01325/laws.FnExactIsTree", spec := "fnExactIsTree", recurses := true, apart := false, narrowed := true }
def FnExactIsTreeUptoSaid : Prop := fnExactIsTreeUptoRow.holds Try.pinned (OpenSpec.upto fnExactIsTreeSpec)

/-- 'laws.FnExactBestGap', WHERE WHAT IT READS IS OF BULK AT MOST 1048576: true; the input reads as it did. -/
def fnExactBestGapUptoRow : OpenClaim := { program := "ythmmjbhilnldeaa", sum := "da28ad23a81f73abca14865a273551aaffca0dd8d3e218e7d414d3ddb9ec3ee7", func := "loop.example/g01325/laws.FnExactBestGap", spec := "fnExactBestGap", apart := false, narrowed := true }
def FnExactBestGapUptoSaid : Prop := fnExactBestGapUptoRow.holds Try.pinned (OpenSpec.upto fnExactBestGapSpec)

/-- 'laws.FnExactMarkTests', WHERE WHAT IT READS IS OF BULK AT MOST 1048576: true; the input reads as it did. -/
def fnExactMarkTestsUptoRow : OpenClaim := { program := "ythmmjbhilnldeaa", sum := "da28ad23a81f73abca14865a273551aaffca0dd8d3e218e7d414d3ddb9ec3ee7", func := "loop.example/g01325/laws.FnExactMarkTests", spec := "fnExactMarkTests", apart := false, narrowed := true }
def FnExactMarkTestsUptoSaid : Prop := fnExactMarkTestsUptoRow.holds Try.pinned (OpenSpec.upto fnExactMarkTestsSpec)

/-- 'laws.FnExactSumOfMarks', WHERE WHAT IT READS IS OF BULK AT MOST 1048576: true; the input reads as it did. -/
def fnExactSumOfMarksUptoRow : OpenClaim := { program := "ythmmjbhilnldeaa", sum := "da28ad23a81f73abca14865a273551aaffca0dd8d3e218e7d414d3ddb9ec3ee7", func := "loop.example/g01325/laws.FnExactSumOfMarks", spec := "fnExactSumOfMarks", apart := false, narrowed := true }
def FnExactSumOfMarksUptoSaid : Prop := fnExactSumOfMarksUptoRow.holds Try.pinned (OpenSpec.upto fnExactSumOfMarksSpec)

/-- 'laws.FnExactWorstOfMarks', WHERE WHAT IT READS IS OF BULK AT MOST 1048576: true; the input reads as it did. -/
def fnExactWorstOfMarksUptoRow : OpenClaim := { program := "ythmmjbhilnldeaa", sum := "da28ad23a81f73abca14865a273551aaffca0dd8d3e218e7d414d3ddb9ec3ee7", func := "loop.example/g01325/laws.FnExactWorstOfMarks", spec := "fnExactWorstOfMarks", apart := false, narrowed := true }
def FnExactWorstOfMarksUptoSaid : Prop := fnExactWorstOfMarksUptoRow.holds Try.pinned (OpenSpec.upto fnExactWorstOfMarksSpec)

/-- 'laws.FnExactDropMark', WHERE WHAT IT READS IS OF BULK AT MOST 1048576: true; the input reads as it did. -/
def fnExactDropMarkUptoRow : OpenClaim := { program := "ythmmjbhilnldeaa", sum := "da28ad23a81f73abca14865a273551aaffca0dd8d3e218e7d414d3ddb9ec3ee7", func := "loop.example/g01325/laws.FnExactDropMark", spec := "fnExactDropMark", apart := false, narrowed := true }
def FnExactDropMarkUptoSaid : Prop := fnExactDropMarkUptoRow.holds Try.pinned (OpenSpec.upto fnExactDropMarkSpec)

end Rows
end Go.Proofs.Ythmmjbhilnldeaa
