/- The call of ReachForms, carried out over memory that is known. -/
import Derived.Test.YtcilipbgkpejeaaDoorHReachForms0
namespace Go.Proofs.YtcilipbgkpejeaaDoor.E
open Go Go.EV Go.RowKit Go.Proofs
set_option linter.unusedVariables false
set_option maxRecDepth 100000
theorem reachForms : Contract Tryd.prog (4, [(.any .i64)], List.replicate 8 (.lit (.bool true))) := flat_eq mmReachForms_ok hmReachForms194_ok folReachForms (lf := 100000) (k := 1000) (by kernel_rfl) (by kernel_rfl)
end Go.Proofs.YtcilipbgkpejeaaDoor.E
