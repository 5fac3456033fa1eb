/- WHAT THIS TEXT PROVES: the pure statement of the law FnExactConstants, over plain functions on numbers and lists. No condition beyond the statement's own. -/
import Derived.Test.YtbnbbcmjgeaidaaPFnExactConstantsx1
import Derived.Laws.BitsLemmas
import Derived.IntWalk
namespace Go.Proofs.Ytbnbbcmjgeaidaa.Pure
open Go.RowKit Go.Proofs.Ytbnbbcmjgeaidaa.PFnExactConstants Go.Proofs.YtbnbbcmjgeaidaaW.PrintWords Go.Proofs.YtbnbbcmjgeaidaaW.PrintLast
set_option linter.unusedVariables false
set_option linter.unusedSimpArgs false
theorem FnExactConstants : laws_FnExactConstants.Pure := rfl
end Go.Proofs.Ytbnbbcmjgeaidaa.Pure
