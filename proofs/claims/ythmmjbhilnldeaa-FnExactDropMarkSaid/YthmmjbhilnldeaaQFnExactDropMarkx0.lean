/- A text written by a program of this session for the law FnExactDropMark: what each Go function that it reaches computes, and the proof that it does; no conditions beyond those stated. -/
import Derived.Test.YthmmjbhilnldeaaProg
import Derived.Below
import Derived.Deep.Draws
import Derived.Deep.AppendLies
import Derived.Maps.AppendAt
import Derived.OwnWalk
import Derived.Laws.BytesArg
import Derived.Laws.MakeOwn
import Derived.Laws.OwnMore
import Derived.Deep.OwnRows
import Derived.Tactics
import Derived.Lib.ConvBytes
import Derived.Laws.Slices
import Derived.WalkKit
import Derived.KernelRfl
import Derived.RowKit3
import Derived.Deep.LoopGhost
import Derived.Deep.QuietTactic
import Derived.BigQuiet
import Derived.WideLaws
import Derived.Deep.DeepCutAuto
import Derived.Deep.CutBlock
import Derived.Deep.RegionHeld3
import Derived.Laws.Rows
import Derived.Lib.AppendStr
import Derived.ArgAppend
import Derived.Laws.IdiomCopy
import Derived.OrdersHeld
import Derived.Laws.BitsLemmas
import Derived.RowKit
import Derived.Test.YthmmjbhilnldeaaHSp
import Derived.Test.YthmmjbhilnldeaaHDrop
import Derived.Test.YthmmjbhilnldeaaWWords
import Derived.Test.YthmmjbhilnldeaaWLast
import Derived.Test.YthmmjbhilnldeaaWTab
import Derived.Test.YthmmjbhilnldeaaWFour
import Derived.Test.YthmmjbhilnldeaaWQPut
import Derived.Test.YthmmjbhilnldeaaWApart
import Derived.Test.YthmmjbhilnldeaaWArr
import Derived.Test.YthmmjbhilnldeaaWZeros
import Derived.Test.YthmmjbhilnldeaaWFoot
import Derived.Test.YthmmjbhilnldeaaWKept
import Derived.Test.YthmmjbhilnldeaaWShare
import Derived.Test.YthmmjbhilnldeaaWN
import Derived.Test.YthmmjbhilnldeaaWFootNe
import Derived.Test.YthmmjbhilnldeaaWAt
import Derived.Test.YthmmjbhilnldeaaWEqStruct
import Derived.Test.YthmmjbhilnldeaaWRepsOne
import Derived.Test.YthmmjbhilnldeaaWInv
import Derived.Test.YthmmjbhilnldeaaWInvWords
import Derived.Test.YthmmjbhilnldeaaWGuard
import Derived.Test.YthmmjbhilnldeaaWNEv
import Derived.Test.YthmmjbhilnldeaaWMore
namespace Go.Proofs.Ythmmjbhilnldeaa.QFnExactDropMark
open Go.RowKit Go.Proofs.YthmmjbhilnldeaaW.PrintWords Go.Proofs.YthmmjbhilnldeaaW.PrintLast Go.Proofs.YthmmjbhilnldeaaW.PrintMore
attribute [local go_sem] max2_int min2_int max_two min_two max_three min_three max_four min_four   -- for this text's walks alone
set_option linter.unusedVariables false
set_option linter.unusedSimpArgs false



def errW : Option Int → Value
  | none => .nilIface
  | some c => .iface 0 (.int .i64 c)
theorem errW_none : errW none = .nilIface := rfl
theorem errW_some (c : Int) : errW (some c) = .iface 0 (.int .i64 c) := rfl

theorem info3 : (Try.prog.info? 3).map (fun i => (i.zero, i.size, i.bytes)) = some (some (.int .i64 0), 1, 8) := by kernel_rfl
-- the values' own types

end Go.Proofs.Ythmmjbhilnldeaa.QFnExactDropMark
