/- A text written by a program of this session for the law FnExactRoundsText: what each Go function that it reaches computes, and the proof that it does; no conditions beyond those stated. -/
import Derived.Test.YtnolocmcjcjjcaaDoorQFnExactRoundsTextx0
import Derived.Test.YtnolocmcjcjjcaaDoorQFnExactRoundsTextx1
import Derived.Test.YtnolocmcjcjjcaaDoorQFnExactRoundsTextx2
import Derived.Test.YtnolocmcjcjjcaaDoorQFnExactRoundsTextx3
namespace Go.Proofs.YtnolocmcjcjjcaaDoor.QFnExactRoundsText
open Go.RowKit Go.Proofs.YtnolocmcjcjjcaaDoorW.PrintWords Go.Proofs.YtnolocmcjcjjcaaDoorW.PrintLast Go.Proofs.YtnolocmcjcjjcaaDoorW.PrintMore
attribute [local go_sem] max2_int min2_int max_two min_two max_three min_three max_four min_four   -- for this text's walks alone
set_option linter.unusedVariables false
set_option linter.unusedSimpArgs false

end Go.Proofs.YtnolocmcjcjjcaaDoor.QFnExactRoundsText
