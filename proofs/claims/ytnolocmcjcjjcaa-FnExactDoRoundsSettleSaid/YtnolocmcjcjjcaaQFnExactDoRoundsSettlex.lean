/- A text written by a program of this session for the law FnExactDoRoundsSettle: what each Go function that it reaches computes, and the proof that it does; no conditions beyond those stated. -/
import Derived.Test.YtnolocmcjcjjcaaQFnExactDoRoundsSettlex0
import Derived.Test.YtnolocmcjcjjcaaQFnExactDoRoundsSettlex1
import Derived.Test.YtnolocmcjcjjcaaQFnExactDoRoundsSettlex2
namespace Go.Proofs.Ytnolocmcjcjjcaa.QFnExactDoRoundsSettle
open Go.RowKit Go.Proofs.YtnolocmcjcjjcaaW.PrintWords Go.Proofs.YtnolocmcjcjjcaaW.PrintLast Go.Proofs.YtnolocmcjcjjcaaW.PrintMore
attribute [local go_sem] max2_int min2_int max_two min_two max_three min_three max_four min_four   -- for this text's walks alone
set_option linter.unusedVariables false
set_option linter.unusedSimpArgs false

end Go.Proofs.Ytnolocmcjcjjcaa.QFnExactDoRoundsSettle
