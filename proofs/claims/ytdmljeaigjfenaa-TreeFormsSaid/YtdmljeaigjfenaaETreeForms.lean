/- The call of TreeForms, carried out over memory that is known. -/
import Derived.Test.YtdmljeaigjfenaaHTreeForms0
namespace Go.Proofs.Ytdmljeaigjfenaa.E
open Go Go.EV Go.RowKit Go.Proofs
set_option linter.unusedVariables false
set_option maxRecDepth 100000
theorem treeForms : Contract Try.prog (4, [(.any .i64)], List.replicate 20 (.lit (.bool true))) := flat_eq mmTreeForms_ok hmTreeForms167_ok folTreeForms (lf := 100000) (k := 1000) (by kernel_rfl) (by kernel_rfl)
end Go.Proofs.Ytdmljeaigjfenaa.E
