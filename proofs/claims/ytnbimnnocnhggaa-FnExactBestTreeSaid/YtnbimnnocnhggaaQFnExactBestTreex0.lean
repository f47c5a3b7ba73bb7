/- A text written by a program of this session for the law FnExactBestTree: what each Go function that it reaches computes, and the proof that it does; no conditions beyond those stated. -/
import Derived.Test.YtnbimnnocnhggaaProg
import Derived.Below
import Derived.Deep.Draws
import Derived.Deep.AppendLies
import Derived.Maps.AppendAt
import Derived.OwnWalk
import Derived.Laws.BytesArg
import Derived.Laws.MakeOwn
import Derived.Laws.OwnMore
import Derived.Deep.OwnRows
import Derived.Tactics
import Derived.Lib.ConvBytes
import Derived.Laws.Slices
import Derived.WalkKit
import Derived.KernelRfl
import Derived.RowKit3
import Derived.Deep.LoopGhost
import Derived.Deep.QuietTactic
import Derived.BigQuiet
import Derived.WideLaws
import Derived.Deep.DeepCutAuto
import Derived.Deep.CutBlock
import Derived.Deep.RegionHeld3
import Derived.Laws.Rows
import Derived.Lib.AppendStr
import Derived.ArgAppend
import Derived.Laws.IdiomCopy
import Derived.OrdersHeld
import Derived.Laws.BitsLemmas
import Derived.RowKit
import Derived.Test.YtnbimnnocnhggaaHFirst
import Derived.Test.YtnbimnnocnhggaaHGood
import Derived.Test.YtnbimnnocnhggaaWWords
import Derived.Test.YtnbimnnocnhggaaWLast
import Derived.Test.YtnbimnnocnhggaaWTab
import Derived.Test.YtnbimnnocnhggaaWFour
import Derived.Test.YtnbimnnocnhggaaWQPut
import Derived.Test.YtnbimnnocnhggaaWApart
import Derived.Test.YtnbimnnocnhggaaWArr
import Derived.Test.YtnbimnnocnhggaaWZeros
import Derived.Test.YtnbimnnocnhggaaWFoot
import Derived.Test.YtnbimnnocnhggaaWKept
import Derived.Test.YtnbimnnocnhggaaWShare
import Derived.Test.YtnbimnnocnhggaaWN
import Derived.Test.YtnbimnnocnhggaaWFootNe
import Derived.Test.YtnbimnnocnhggaaWAt
import Derived.Test.YtnbimnnocnhggaaWEqStruct
import Derived.Test.YtnbimnnocnhggaaWRepsOne
import Derived.Test.YtnbimnnocnhggaaWInv
import Derived.Test.YtnbimnnocnhggaaWInvWords
import Derived.Test.YtnbimnnocnhggaaWGuard
import Derived.Test.YtnbimnnocnhggaaWNEv
import Derived.Test.YtnbimnnocnhggaaWMore
namespace Go.Proofs.Ytnbimnnocnhggaa.QFnExactBestTree
open Go.RowKit Go.Proofs.YtnbimnnocnhggaaW.PrintWords Go.Proofs.YtnbimnnocnhggaaW.PrintLast Go.Proofs.YtnbimnnocnhggaaW.PrintMore
attribute [local go_sem] max2_int min2_int max_two min_two max_three min_three max_four min_four   -- for this text's walks alone
set_option linter.unusedVariables false
set_option linter.unusedSimpArgs false



def errW : Option Int → Value
  | none => .nilIface
  | some c => .iface 0 (.int .i64 c)
theorem errW_none : errW none = .nilIface := rfl
theorem errW_some (c : Int) : errW (some c) = .iface 0 (.int .i64 c) := rfl

theorem info3 : (Try.prog.info? 3).map (fun i => (i.zero, i.size, i.bytes)) = some (some (.int .i64 0), 1, 8) := by kernel_rfl
-- the values' own types

end Go.Proofs.Ytnbimnnocnhggaa.QFnExactBestTree
