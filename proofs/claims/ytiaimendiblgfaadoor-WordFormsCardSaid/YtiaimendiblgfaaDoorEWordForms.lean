/- The call of WordForms, carried out over memory that is known. -/
import Derived.Test.YtiaimendiblgfaaDoorHWordForms0
namespace Go.Proofs.YtiaimendiblgfaaDoor.E
open Go Go.EV Go.RowKit Go.Proofs
set_option linter.unusedVariables false
set_option maxRecDepth 100000
theorem wordForms : Contract Tryd.prog (4, [(.any .i64)], List.replicate 9 (.lit (.bool true))) := flat_eq mmWordForms_ok hmWordForms199_ok folWordForms (lf := 100000) (k := 1000) (by kernel_rfl) (by kernel_rfl)
end Go.Proofs.YtiaimendiblgfaaDoor.E
