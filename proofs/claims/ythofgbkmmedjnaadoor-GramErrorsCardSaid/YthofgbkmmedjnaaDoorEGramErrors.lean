/- The call of GramErrors, carried out over memory that is known. -/
import Derived.Test.YthofgbkmmedjnaaDoorHGramErrors1
namespace Go.Proofs.YthofgbkmmedjnaaDoor.E
open Go Go.EV Go.RowKit Go.Proofs
set_option linter.unusedVariables false
set_option maxRecDepth 100000
theorem gramErrorsP0 : partOk Tryd.prog (callA Tryd.prog (knownB mmGramErrors hmGramErrors621) 100000 1000) 100000 4 [(.any .i64)] 1 0 1 = true := by kernel_rfl
theorem gramErrorsP1 : partOk Tryd.prog (callA Tryd.prog (knownB mmGramErrors hmGramErrors621) 100000 1000) 100000 4 [(.any .i64)] 1 1 1 = true := by kernel_rfl
theorem gramErrorsP2 : partOk Tryd.prog (callA Tryd.prog (knownB mmGramErrors hmGramErrors621) 100000 1000) 100000 4 [(.any .i64)] 1 2 1 = true := by kernel_rfl
theorem gramErrorsP3 : partOk Tryd.prog (callA Tryd.prog (knownB mmGramErrors hmGramErrors621) 100000 1000) 100000 4 [(.any .i64)] 1 3 1 = true := by kernel_rfl
theorem gramErrorsPE : noMore Tryd.prog (callA Tryd.prog (knownB mmGramErrors hmGramErrors621) 100000 1000) 100000 4 [(.any .i64)] 1 4 = true := by kernel_rfl
theorem gramErrors : Contract Tryd.prog (4, [(.any .i64)], List.replicate 1 (.lit (.bool true))) := split_eq mmGramErrors_ok hmGramErrors621_ok folGramErrors (lf := 100000) (k := 1000) (j := 1) (by kernel_rfl) (from_part gramErrorsP0 (from_part gramErrorsP1 (from_part gramErrorsP2 (from_part gramErrorsP3 (from_end gramErrorsPE)))))
end Go.Proofs.YthofgbkmmedjnaaDoor.E
