/-
  No cell of these rows narrows 'for every input' (looked for: loops, veiled, ifaces, maps, wideKeys, modest, calm, conditions, laid).
  DERIVED. THE GIVEN ROWS OF THIS SEAT. 9 by the template 'for every input the law returns true; each argument reads behind the call as it read before'; 0 by the template 'total and deterministic' (their statements: YtnolocmcjcjjcaaTotals.lean).
  GIVEN WITH THE SEED: the statements are not yours to turn. If you find one false, say at which input.
  Laid BY PROGRAM, IN A SANDBOX (cutbox-rows.mjs): the forced cells as the released guide's own fill.sh prints them over the translation 1870391a5243761c… (all of the seat's roots in one cut). By AI agents, Wed Nov 11 2026. No macro, syntax, notation, axiom, sorry.
-/
import Derived.Test.YtnolocmcjcjjcaaChecked
import GoSem.Claim
import GoSem.ClaimJoined
import GoSem.ClaimMapViews
import Derived.JoinedTies
import Derived.KernelRfl
namespace Go.Proofs.Ytnolocmcjcjjcaa
/- THE CELL 'sum', in the pinned program and in every row, IS THE sha256 OF THE DUMP (.gsa) THAT YtnolocmcjcjjcaaProg.lean LOADS. Nothing in Lean hashes anything: it is a label: what it is worth is what the hold of that sum in a sandbox is worth. -/
noncomputable def Try.pinned : Pinned := { name := "ytnolocmcjcjjcaa", sum := "1870391a5243761c5a03ab8e68ecba22402cfcccd5ed4a2aa43acab0242ee031", checked := Try.checked }
namespace Rows
def none {H : Type} : Left H := { results := [], args := [] }

/-- 'laws.FnExactRoundReach': WHATEVER THE INPUT: true; the input reads as it did. -/
def fnExactRoundReachSpec : ChangeSpec := { name := "fnExactRoundReach", fn := fun _ => fun
  | [d1, d2, d3] => { results := [.lit (.bool true)], args := [d1, d2, d3] }
  | _ => none }
def fnExactRoundReachRow : OpenClaim := { program := "ytnolocmcjcjjcaa", sum := "1870391a5243761c5a03ab8e68ecba22402cfcccd5ed4a2aa43acab0242ee031", func := "loop.example/g01325/laws.FnExactRoundReach", spec := "fnExactRoundReach", apart := false }
def FnExactRoundReachSaid : Prop := fnExactRoundReachRow.holds Try.pinned (OpenSpec.ofChange fnExactRoundReachSpec)

/-- ITS FALSE NEIGHBOUR: 'it returns false'. Refute it at one input. -/
def fnExactRoundReachWrong : ChangeSpec := { name := "fnExactRoundReach", fn := fun _ => fun
  | [d1, d2, d3] => { results := [.lit (.bool false)], args := [d1, d2, d3] }
  | _ => none }
def FnExactRoundReachWrongFalsely : Prop := fnExactRoundReachRow.holds Try.pinned (OpenSpec.ofChange fnExactRoundReachWrong)

/-- 'laws.FnExactHandsFor': WHATEVER THE INPUT: true; the input reads as it did. -/
def fnExactHandsForSpec : ChangeSpec := { name := "fnExactHandsFor", fn := fun _ => fun
  | [d1, d2, d3] => { results := [.lit (.bool true)], args := [d1, d2, d3] }
  | _ => none }
def fnExactHandsForRow : OpenClaim := { program := "ytnolocmcjcjjcaa", sum := "1870391a5243761c5a03ab8e68ecba22402cfcccd5ed4a2aa43acab0242ee031", func := "loop.example/g01325/laws.FnExactHandsFor", spec := "fnExactHandsFor", apart := false }
def FnExactHandsForSaid : Prop := fnExactHandsForRow.holds Try.pinned (OpenSpec.ofChange fnExactHandsForSpec)

/-- ITS FALSE NEIGHBOUR: 'it returns false'. Refute it at one input. -/
def fnExactHandsForWrong : ChangeSpec := { name := "fnExactHandsFor", fn := fun _ => fun
  | [d1, d2, d3] => { results := [.lit (.bool false)], args := [d1, d2, d3] }
  | _ => none }
def FnExactHandsForWrongFalsely : Prop := fnExactHandsForRow.holds Try.pinned (OpenSpec.ofChange fnExactHandsForWrong)

/-- 'laws.FnExactFewestRounds': WHATEVER THE INPUT: true; the input reads as it did. -/
def fnExactFewestRoundsSpec : ChangeSpec := { name := "fnExactFewestRounds", fn := fun _ => fun
  | [d1, d2, d3] => { results := [.lit (.bool true)], args := [d1, d2, d3] }
  | _ => none }
def fnExactFewestRoundsRow : OpenClaim := { program := "ytnolocmcjcjjcaa", sum := "1870391a5243761c5a03ab8e68ecba22402cfcccd5ed4a2aa43acab0242ee031", func := "loop.example/g01325/laws.FnExactFewestRounds", spec := "fnExactFewestRounds", apart := false }
def FnExactFewestRoundsSaid : Prop := fnExactFewestRoundsRow.holds Try.pinned (OpenSpec.ofChange fnExactFewestRoundsSpec)

/-- ITS FALSE NEIGHBOUR: 'it returns false'. Refute it at one input. -/
def fnExactFewestRoundsWrong : ChangeSpec := { name := "fnExactFewestRounds", fn := fun _ => fun
  | [d1, d2, d3] => { results := [.lit (.bool false)], args := [d1, d2, d3] }
  | _ => none }
def FnExactFewestRoundsWrongFalsely : Prop := fnExactFewestRoundsRow.holds Try.pinned (OpenSpec.ofChange fnExactFewestRoundsWrong)

/-- 'laws.FnExactRoundTable': WHATEVER THE INPUT: true; the input reads as it did. -/
def fnExactRoundTableSpec : ChangeSpec := { name := "fnExactRoundTable", fn := fun _ => fun
  | [d1, d2, d3] => { results := [.lit (.bool true)], args := [d1, d2, d3] }
  | _ => none }
def fnExactRoundTableRow : OpenClaim := { program := "ytnolocmcjcjjcaa", sum := "1870391a5243761c5a03ab8e68ecba22402cfcccd5ed4a2aa43acab0242ee031", func := "loop.example/g01325/laws.FnExactRoundTable", spec := "fnExactRoundTable", apart := false }
def FnExactRoundTableSaid : Prop := fnExactRoundTableRow.holds Try.pinned (OpenSpec.ofChange fnExactRoundTableSpec)

/-- ITS FALSE NEIGHBOUR: 'it returns false'. Refute it at one input. -/
def fnExactRoundTableWrong : ChangeSpec := { name := "fnExactRoundTable", fn := fun _ => fun
  | [d1, d2, d3] => { results := [.lit (.bool false)], args := [d1, d2, d3] }
  | _ => none }
def FnExactRoundTableWrongFalsely : Prop := fnExactRoundTableRow.holds Try.pinned (OpenSpec.ofChange fnExactRoundTableWrong)

/-- 'laws.FnExactFirstRound': WHATEVER THE INPUT: true; the input reads as it did. -/
def fnExactFirstRoundSpec : ChangeSpec := { name := "fnExactFirstRound", fn := fun _ => fun
  | [d1, d2, d3] => { results := [.lit (.bool true)], args := [d1, d2, d3] }
  | _ => none }
def fnExactFirstRoundRow : OpenClaim := { program := "ytnolocmcjcjjcaa", sum := "1870391a5243761c5a03ab8e68ecba22402cfcccd5ed4a2aa43acab0242ee031", func := "loop.example/g01325/laws.FnExactFirstRound", spec := "fnExactFirstRound", apart := false }
def FnExactFirstRoundSaid : Prop := fnExactFirstRoundRow.holds Try.pinned (OpenSpec.ofChange fnExactFirstRoundSpec)

/-- ITS FALSE NEIGHBOUR: 'it returns false'. Refute it at one input. -/
def fnExactFirstRoundWrong : ChangeSpec := { name := "fnExactFirstRound", fn := fun _ => fun
  | [d1, d2, d3] => { results := [.lit (.bool false)], args := [d1, d2, d3] }
  | _ => none }
def FnExactFirstRoundWrongFalsely : Prop := fnExactFirstRoundRow.holds Try.pinned (OpenSpec.ofChange fnExactFirstRoundWrong)

/-- 'laws.FnExactAreRounds': WHATEVER THE INPUT: true; the input reads as it did. -/
def fnExactAreRoundsSpec : ChangeSpec := { name := "fnExactAreRounds", fn := fun _ => fun
  | [d1, d2, d3] => { results := [.lit (.bool true)], args := [d1, d2, d3] }
  | _ => none }
def fnExactAreRoundsRow : OpenClaim := { program := "ytnolocmcjcjjcaa", sum := "1870391a5243761c5a03ab8e68ecba22402cfcccd5ed4a2aa43acab0242ee031", func := "loop.example/g01325/laws.FnExactAreRounds", spec := "fnExactAreRounds", unfollowed := true, recurses := true, apart := false }
def FnExactAreRoundsSaid : Prop := fnExactAreRoundsRow.holds Try.pinned (OpenSpec.ofChange fnExactAreRoundsSpec)

/-- ITS FALSE NEIGHBOUR: 'it returns false'. Refute it at one input. -/
def fnExactAreRoundsWrong : ChangeSpec := { name := "fnExactAreRounds", fn := fun _ => fun
  | [d1, d2, d3] => { results := [.lit (.bool false)], args := [d1, d2, d3] }
  | _ => none }
def FnExactAreRoundsWrongFalsely : Prop := fnExactAreRoundsRow.holds Try.pinned (OpenSpec.ofChange fnExactAreRoundsWrong)

/-- 'laws.FnExactBrokenByRounds': WHATEVER THE INPUT: true; the input reads as it did. -/
def fnExactBrokenByRoundsSpec : ChangeSpec := { name := "fnExactBrokenByRounds", fn := fun _ => fun
  | [d1, d2, d3, d4] => { results := [.lit (.bool true)], args := [d1, d2, d3, d4] }
  | _ => none }
def fnExactBrokenByRoundsRow : OpenClaim := { program := "ytnolocmcjcjjcaa", sum := "1870391a5243761c5a03ab8e68ecba22402cfcccd5ed4a2aa43acab0242ee031", func := "loop.example/g01325/laws.FnExactBrokenByRounds", spec := "fnExactBrokenByRounds", unfollowed := true, recurses := true, apart := false }
def FnExactBrokenByRoundsSaid : Prop := fnExactBrokenByRoundsRow.holds Try.pinned (OpenSpec.ofChange fnExactBrokenByRoundsSpec)

/-- ITS FALSE NEIGHBOUR: 'it returns false'. Refute it at one input. -/
def fnExactBrokenByRoundsWrong : ChangeSpec := { name := "fnExactBrokenByRounds", fn := fun _ => fun
  | [d1, d2, d3, d4] => { results := [.lit (.bool false)], args := [d1, d2, d3, d4] }
  | _ => none }
def FnExactBrokenByRoundsWrongFalsely : Prop := fnExactBrokenByRoundsRow.holds Try.pinned (OpenSpec.ofChange fnExactBrokenByRoundsWrong)

/-- 'laws.FnExactOpenAfterRounds': WHATEVER THE INPUT: true; the input reads as it did. -/
def fnExactOpenAfterRoundsSpec : ChangeSpec := { name := "fnExactOpenAfterRounds", fn := fun _ => fun
  | [d1, d2, d3, d4] => { results := [.lit (.bool true)], args := [d1, d2, d3, d4] }
  | _ => none }
def fnExactOpenAfterRoundsRow : OpenClaim := { program := "ytnolocmcjcjjcaa", sum := "1870391a5243761c5a03ab8e68ecba22402cfcccd5ed4a2aa43acab0242ee031", func := "loop.example/g01325/laws.FnExactOpenAfterRounds", spec := "fnExactOpenAfterRounds", unfollowed := true, recurses := true, apart := false }
def FnExactOpenAfterRoundsSaid : Prop := fnExactOpenAfterRoundsRow.holds Try.pinned (OpenSpec.ofChange fnExactOpenAfterRoundsSpec)

/-- ITS FALSE NEIGHBOUR: 'it returns false'. Refute it at one input. -/
def fnExactOpenAfterRoundsWrong : ChangeSpec := { name := "fnExactOpenAfterRounds", fn := fun _ => fun
  | [d1, d2, d3, d4] => { results := [.lit (.bool false)], args := [d1, d2, d3, d4] }
  | _ => none }
def FnExactOpenAfterRoundsWrongFalsely : Prop := fnExactOpenAfterRoundsRow.holds Try.pinned (OpenSpec.ofChange fnExactOpenAfterRoundsWrong)

/-- 'laws.FnExactDoRoundsSettle': WHATEVER THE INPUT: true; the input reads as it did. -/
def fnExactDoRoundsSettleSpec : ChangeSpec := { name := "fnExactDoRoundsSettle", fn := fun _ => fun
  | [d1, d2, d3] => { results := [.lit (.bool true)], args := [d1, d2, d3] }
  | _ => none }
def fnExactDoRoundsSettleRow : OpenClaim := { program := "ytnolocmcjcjjcaa", sum := "1870391a5243761c5a03ab8e68ecba22402cfcccd5ed4a2aa43acab0242ee031", func := "loop.example/g01325/laws.FnExactDoRoundsSettle", spec := "fnExactDoRoundsSettle", unfollowed := true, recurses := true, apart := false }
def FnExactDoRoundsSettleSaid : Prop := fnExactDoRoundsSettleRow.holds Try.pinned (OpenSpec.ofChange fnExactDoRoundsSettleSpec)

/-- ITS FALSE NEIGHBOUR: 'it returns false'. Refute it at one input. -/
def fnExactDoRoundsSettleWrong : ChangeSpec := { name := "fnExactDoRoundsSettle", fn := fun _ => fun
  | [d1, d2, d3] => { results := [.lit (.bool false)], args := [d1, d2, d3] }
  | _ => none }
def FnExactDoRoundsSettleWrongFalsely : Prop := fnExactDoRoundsSettleRow.holds Try.pinned (OpenSpec.ofChange fnExactDoRoundsSettleWrong)

/- THE SECOND FORM. 'bulk': how many values and letters a reading holds, each counted each time it is reached (what is shared counts as often as it is met; a slice's spare places count too). A statement '..UptoSaid' is the law's where the arguments, and the package variables that the reading takes, are together of bulk at most 1048576: NARROWER than '..Said'. Prove '..Said' where nothing that the law and all that it calls make is longer than what came in: it says more and counts as full. Else prove '..UptoSaid'. A law counts once. -/
mutual
def uptoBulk {H : Type} : DataW H → Nat
  | .lit (.string bytes) => bytes.length + 1
  | .lit _ => 1
  | .nil => 1
  | .ptr d => uptoBulk d + 1
  | .slice elems spare => uptoBulkAll elems + uptoBulkAll spare + 1
  | .agg parts => uptoBulkAll parts + 1
  | .iface _ d => uptoBulk d + 1
  | .map entries => uptoBulkEntries entries + 1
  | .held _ => 1
def uptoBulkAll {H : Type} : List (DataW H) → Nat
  | [] => 0
  | d :: r => uptoBulk d + uptoBulkAll r
def uptoBulkEntries {H : Type} : List (Lit × DataW H) → Nat
  | [] => 0
  | x :: r => uptoBulkEntry x + uptoBulkEntries r
def uptoBulkEntry {H : Type} : Lit × DataW H → Nat
  | (.string bytes, d) => bytes.length + uptoBulk d + 1
  | (_, d) => uptoBulk d + 1
 end
def uptoSmall : (H : Type) → List (DataW H) → Bool := fun _ ds => decide (uptoBulkAll ds ≤ 1048576)
def OpenSpec.upto (s : _root_.Go.ChangeSpec) : _root_.Go.OpenSpec := { _root_.Go.OpenSpec.ofChange s with cond := some uptoSmall }

/-- 'laws.FnExactRoundReach', WHERE WHAT IT READS IS OF BULK AT MOST 1048576: true; the input reads as it did. -/
def fnExactRoundReachUptoRow : OpenClaim := { program := "ytnolocmcjcjjcaa", sum := "1870391a5243761c5a03ab8e68ecba22402cfcccd5ed4a2aa43acab0242ee031", func := "loop.example/g01325/laws.FnExactRoundReach", spec := "fnExactRoundReach", apart := false, narrowed := true }
def FnExactRoundReachUptoSaid : Prop := fnExactRoundReachUptoRow.holds Try.pinned (OpenSpec.upto fnExactRoundReachSpec)

/-- 'laws.FnExactHandsFor', WHERE WHAT IT READS IS OF BULK AT MOST 1048576: true; the input reads as it did. -/
def fnExactHandsForUptoRow : OpenClaim := { program := "ytnolocmcjcjjcaa", sum := "1870391a5243761c5a03ab8e68ecba22402cfcccd5ed4a2aa43acab0242ee031", func := "loop.example/g01325/laws.FnExactHandsFor", spec := "fnExactHandsFor", apart := false, narrowed := true }
def FnExactHandsForUptoSaid : Prop := fnExactHandsForUptoRow.holds Try.pinned (OpenSpec.upto fnExactHandsForSpec)

/-- 'laws.FnExactFewestRounds', WHERE WHAT IT READS IS OF BULK AT MOST 1048576: true; the input reads as it did. -/
def fnExactFewestRoundsUptoRow : OpenClaim := { program := "ytnolocmcjcjjcaa", sum := "1870391a5243761c5a03ab8e68ecba22402cfcccd5ed4a2aa43acab0242ee031", func := "loop.example/g01325/laws.FnExactFewestRounds", spec := "fnExactFewestRounds", apart := false, narrowed := true }
def FnExactFewestRoundsUptoSaid : Prop := fnExactFewestRoundsUptoRow.holds Try.pinned (OpenSpec.upto fnExactFewestRoundsSpec)

/-- 'laws.FnExactRoundTable', WHERE WHAT IT READS IS OF BULK AT MOST 1048576: true; the input reads as it did. -/
def fnExactRoundTableUptoRow : OpenClaim := { program := "ytnolocmcjcjjcaa", sum := "1870391a5243761c5a03ab8e68ecba22402cfcccd5ed4a2aa43acab0242ee031", func := "loop.example/g01325/laws.FnExactRoundTable", spec := "fnExactRoundTable", apart := false, narrowed := true }
def FnExactRoundTableUptoSaid : Prop := fnExactRoundTableUptoRow.holds Try.pinned (OpenSpec.upto fnExactRoundTableSpec)

/-- 'laws.FnExactFirstRound', WHERE WHAT IT READS IS OF BULK AT MOST 1048576: true; the input reads as it did. -/
def fnExactFirstRoundUptoRow : OpenClaim := { program := "ytnolocmcjcjjcaa", sum := "1870391a5243761c5a03ab8e68ecba22402cfcccd5ed4a2aa43acab0242ee031", func := "loop.example/g01325/laws.FnExactFirstRound", spec := "fnExactFirstRound", apart := false, narrowed := true }
def FnExactFirstRoundUptoSaid : Prop := fnExactFirstRoundUptoRow.holds Try.pinned (OpenSpec.upto fnExactFirstRoundSpec)

/-- 'laws.FnExactAreRounds', WHERE WHAT IT READS IS OF BULK AT MOST 1048576: true; the input reads as it did. -/
def fnExactAreRoundsUptoRow : OpenClaim := { program := "ytnolocmcjcjjcaa", sum := "1870391a5243761c5a03ab8e68ecba22402cfcccd5ed4a2aa43acab0242ee031", func := "loop.example/g01325/laws.FnExactAreRounds", spec := "fnExactAreRounds", unfollowed := true, recurses := true, apart := false, narrowed := true }
def FnExactAreRoundsUptoSaid : Prop := fnExactAreRoundsUptoRow.holds Try.pinned (OpenSpec.upto fnExactAreRoundsSpec)

/-- 'laws.FnExactBrokenByRounds', WHERE WHAT IT READS IS OF BULK AT MOST 1048576: true; the input reads as it did. -/
def fnExactBrokenByRoundsUptoRow : OpenClaim := { program := "ytnolocmcjcjjcaa", sum := "1870391a5243761c5a03ab8e68ecba22402cfcccd5ed4a2aa43acab0242ee031", func := "loop.example/g01325/laws.FnExactBrokenByRounds", spec := "fnExactBrokenByRounds", unfollowed := true, recurses := true, apart := false, narrowed := true }
def FnExactBrokenByRoundsUptoSaid : Prop := fnExactBrokenByRoundsUptoRow.holds Try.pinned (OpenSpec.upto fnExactBrokenByRoundsSpec)

/-- 'laws.FnExactOpenAfterRounds', WHERE WHAT IT READS IS OF BULK AT MOST 1048576: true; the input reads as it did. -/
def fnExactOpenAfterRoundsUptoRow : OpenClaim := { program := "ytnolocmcjcjjcaa", sum := "1870391a5243761c5a03ab8e68ecba22402cfcccd5ed4a2aa43acab0242ee031", func := "loop.example/g01325/laws.FnExactOpenAfterRounds", spec := "fnExactOpenAfterRounds", unfollowed := true, recurses := true, apart := false, narrowed := true }
def FnExactOpenAfterRoundsUptoSaid : Prop := fnExactOpenAfterRoundsUptoRow.holds Try.pinned (OpenSpec.upto fnExactOpenAfterRoundsSpec)

/-- 'laws.FnExactDoRoundsSettle', WHERE WHAT IT READS IS OF BULK AT MOST 1048576: true; the input reads as it did. -/
def fnExactDoRoundsSettleUptoRow : OpenClaim := { program := "ytnolocmcjcjjcaa", sum := "1870391a5243761c5a03ab8e68ecba22402cfcccd5ed4a2aa43acab0242ee031", func := "loop.example/g01325/laws.FnExactDoRoundsSettle", spec := "fnExactDoRoundsSettle", unfollowed := true, recurses := true, apart := false, narrowed := true }
def FnExactDoRoundsSettleUptoSaid : Prop := fnExactDoRoundsSettleUptoRow.holds Try.pinned (OpenSpec.upto fnExactDoRoundsSettleSpec)

end Rows
end Go.Proofs.Ytnolocmcjcjjcaa
