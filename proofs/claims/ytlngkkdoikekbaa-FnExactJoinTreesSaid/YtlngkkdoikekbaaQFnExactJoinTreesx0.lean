/- A text written by a program of this session for the law FnExactJoinTrees: what each Go function that it reaches computes, and the proof that it does; no conditions beyond those stated. -/
import Derived.Test.YtlngkkdoikekbaaProg
import Derived.Below
import Derived.Deep.Draws
import Derived.Deep.AppendLies
import Derived.Maps.AppendAt
import Derived.OwnWalk
import Derived.Laws.BytesArg
import Derived.Laws.MakeOwn
import Derived.Laws.OwnMore
import Derived.Deep.OwnRows
import Derived.Tactics
import Derived.Lib.ConvBytes
import Derived.Laws.Slices
import Derived.WalkKit
import Derived.KernelRfl
import Derived.RowKit3
import Derived.Deep.LoopGhost
import Derived.Deep.QuietTactic
import Derived.BigQuiet
import Derived.WideLaws
import Derived.Deep.DeepCutAuto
import Derived.Deep.CutBlock
import Derived.Deep.RegionHeld3
import Derived.Laws.Rows
import Derived.Lib.AppendStr
import Derived.ArgAppend
import Derived.Laws.IdiomCopy
import Derived.OrdersHeld
import Derived.Laws.BitsLemmas
import Derived.RowKit
import Derived.Test.YtlngkkdoikekbaaHSp
import Derived.Test.YtlngkkdoikekbaaHTree
import Derived.Test.YtlngkkdoikekbaaWWords
import Derived.Test.YtlngkkdoikekbaaWLast
import Derived.Test.YtlngkkdoikekbaaWTab
import Derived.Test.YtlngkkdoikekbaaWFour
import Derived.Test.YtlngkkdoikekbaaWQPut
import Derived.Test.YtlngkkdoikekbaaWApart
import Derived.Test.YtlngkkdoikekbaaWArr
import Derived.Test.YtlngkkdoikekbaaWZeros
import Derived.Test.YtlngkkdoikekbaaWFoot
import Derived.Test.YtlngkkdoikekbaaWKept
import Derived.Test.YtlngkkdoikekbaaWShare
import Derived.Test.YtlngkkdoikekbaaWN
import Derived.Test.YtlngkkdoikekbaaWFootNe
import Derived.Test.YtlngkkdoikekbaaWAt
import Derived.Test.YtlngkkdoikekbaaWEqStruct
import Derived.Test.YtlngkkdoikekbaaWRepsOne
import Derived.Test.YtlngkkdoikekbaaWInv
import Derived.Test.YtlngkkdoikekbaaWInvWords
import Derived.Test.YtlngkkdoikekbaaWGuard
import Derived.Test.YtlngkkdoikekbaaWNEv
import Derived.Test.YtlngkkdoikekbaaWMore
namespace Go.Proofs.Ytlngkkdoikekbaa.QFnExactJoinTrees
open Go.RowKit Go.Proofs.YtlngkkdoikekbaaW.PrintWords Go.Proofs.YtlngkkdoikekbaaW.PrintLast Go.Proofs.YtlngkkdoikekbaaW.PrintMore
attribute [local go_sem] max2_int min2_int max_two min_two max_three min_three max_four min_four   -- for this text's walks alone
set_option linter.unusedVariables false
set_option linter.unusedSimpArgs false



def errW : Option Int → Value
  | none => .nilIface
  | some c => .iface 0 (.int .i64 c)
theorem errW_none : errW none = .nilIface := rfl
theorem errW_some (c : Int) : errW (some c) = .iface 0 (.int .i64 c) := rfl

theorem info3 : (Try.prog.info? 3).map (fun i => (i.zero, i.size, i.bytes)) = some (some (.int .i64 0), 1, 8) := by kernel_rfl
-- the values' own types

end Go.Proofs.Ytlngkkdoikekbaa.QFnExactJoinTrees
