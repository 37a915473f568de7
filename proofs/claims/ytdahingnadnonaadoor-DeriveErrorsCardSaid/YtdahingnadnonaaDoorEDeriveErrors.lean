/- The call of DeriveErrors, carried out over memory that is known. -/
import Derived.Test.YtdahingnadnonaaDoorHDeriveErrors0
namespace Go.Proofs.YtdahingnadnonaaDoor.E
open Go Go.EV Go.RowKit Go.Proofs
set_option linter.unusedVariables false
set_option maxRecDepth 100000
theorem deriveErrorsP0 : partOk Tryd.prog (callA Tryd.prog (knownB mmDeriveErrors hmDeriveErrors34) 100000 1000) 100000 4 [(.any .i64)] 2 0 5 = true := by kernel_rfl
theorem deriveErrorsP1 : partOk Tryd.prog (callA Tryd.prog (knownB mmDeriveErrors hmDeriveErrors34) 100000 1000) 100000 4 [(.any .i64)] 2 5 5 = true := by kernel_rfl
theorem deriveErrorsP2 : partOk Tryd.prog (callA Tryd.prog (knownB mmDeriveErrors hmDeriveErrors34) 100000 1000) 100000 4 [(.any .i64)] 2 10 5 = true := by kernel_rfl
theorem deriveErrorsP3 : partOk Tryd.prog (callA Tryd.prog (knownB mmDeriveErrors hmDeriveErrors34) 100000 1000) 100000 4 [(.any .i64)] 2 15 5 = true := by kernel_rfl
theorem deriveErrorsP4 : partOk Tryd.prog (callA Tryd.prog (knownB mmDeriveErrors hmDeriveErrors34) 100000 1000) 100000 4 [(.any .i64)] 2 20 5 = true := by kernel_rfl
theorem deriveErrorsP5 : partOk Tryd.prog (callA Tryd.prog (knownB mmDeriveErrors hmDeriveErrors34) 100000 1000) 100000 4 [(.any .i64)] 2 25 5 = true := by kernel_rfl
theorem deriveErrorsP6 : partOk Tryd.prog (callA Tryd.prog (knownB mmDeriveErrors hmDeriveErrors34) 100000 1000) 100000 4 [(.any .i64)] 2 30 5 = true := by kernel_rfl
theorem deriveErrorsP7 : partOk Tryd.prog (callA Tryd.prog (knownB mmDeriveErrors hmDeriveErrors34) 100000 1000) 100000 4 [(.any .i64)] 2 35 5 = true := by kernel_rfl
theorem deriveErrorsP8 : partOk Tryd.prog (callA Tryd.prog (knownB mmDeriveErrors hmDeriveErrors34) 100000 1000) 100000 4 [(.any .i64)] 2 40 5 = true := by kernel_rfl
theorem deriveErrorsP9 : partOk Tryd.prog (callA Tryd.prog (knownB mmDeriveErrors hmDeriveErrors34) 100000 1000) 100000 4 [(.any .i64)] 2 45 5 = true := by kernel_rfl
theorem deriveErrorsPE : noMore Tryd.prog (callA Tryd.prog (knownB mmDeriveErrors hmDeriveErrors34) 100000 1000) 100000 4 [(.any .i64)] 2 50 = true := by kernel_rfl
theorem deriveErrors : Contract Tryd.prog (4, [(.any .i64)], List.replicate 1 (.lit (.bool true))) := split_eq mmDeriveErrors_ok hmDeriveErrors34_ok folDeriveErrors (lf := 100000) (k := 1000) (j := 2) (by kernel_rfl) (from_part deriveErrorsP0 (from_part deriveErrorsP1 (from_part deriveErrorsP2 (from_part deriveErrorsP3 (from_part deriveErrorsP4 (from_part deriveErrorsP5 (from_part deriveErrorsP6 (from_part deriveErrorsP7 (from_part deriveErrorsP8 (from_part deriveErrorsP9 (from_end deriveErrorsPE)))))))))))
end Go.Proofs.YtdahingnadnonaaDoor.E
