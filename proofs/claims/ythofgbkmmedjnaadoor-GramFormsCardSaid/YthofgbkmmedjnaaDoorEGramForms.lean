/- The call of GramForms, carried out over memory that is known. -/
import Derived.Test.YthofgbkmmedjnaaDoorHGramForms0
namespace Go.Proofs.YthofgbkmmedjnaaDoor.E
open Go Go.EV Go.RowKit Go.Proofs
set_option linter.unusedVariables false
set_option maxRecDepth 100000
theorem gramFormsP0 : partOk Tryd.prog (callA Tryd.prog (knownB mmGramForms hmGramForms139) 100000 1000) 100000 6 [(.any .i64)] 1 0 1 = true := by kernel_rfl
theorem gramFormsP1 : partOk Tryd.prog (callA Tryd.prog (knownB mmGramForms hmGramForms139) 100000 1000) 100000 6 [(.any .i64)] 1 1 1 = true := by kernel_rfl
theorem gramFormsP2 : partOk Tryd.prog (callA Tryd.prog (knownB mmGramForms hmGramForms139) 100000 1000) 100000 6 [(.any .i64)] 1 2 1 = true := by kernel_rfl
theorem gramFormsPE : noMore Tryd.prog (callA Tryd.prog (knownB mmGramForms hmGramForms139) 100000 1000) 100000 6 [(.any .i64)] 1 3 = true := by kernel_rfl
theorem gramForms : Contract Tryd.prog (6, [(.any .i64)], List.replicate 1 (.lit (.bool true))) := split_eq mmGramForms_ok hmGramForms139_ok folGramForms (lf := 100000) (k := 1000) (j := 1) (by kernel_rfl) (from_part gramFormsP0 (from_part gramFormsP1 (from_part gramFormsP2 (from_end gramFormsPE))))
end Go.Proofs.YthofgbkmmedjnaaDoor.E
