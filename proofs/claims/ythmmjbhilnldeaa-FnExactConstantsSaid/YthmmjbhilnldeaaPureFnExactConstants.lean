/- Every named limit of the program has the value that the document tells, so the law FnExactConstants answers true; no conditions. -/
import Derived.Test.YthmmjbhilnldeaaPFnExactConstantsx1
namespace Go.Proofs.Ythmmjbhilnldeaa.Pure
open Go.RowKit Go.Proofs.Ythmmjbhilnldeaa.PFnExactConstants Go.Proofs.YthmmjbhilnldeaaW.PrintWords Go.Proofs.YthmmjbhilnldeaaW.PrintLast
set_option linter.unusedVariables false

theorem FnExactConstants : laws_FnExactConstants.Pure := rfl

end Go.Proofs.Ythmmjbhilnldeaa.Pure
