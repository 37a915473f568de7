/- The call of GramChecks, carried out over memory that is known. -/
import Derived.Test.YthofgbkmmedjnaaGreatDoorHGramChecks0
namespace Go.Proofs.YthofgbkmmedjnaaGreatDoor.E
open Go Go.EV Go.RowKit Go.Proofs
set_option linter.unusedVariables false
set_option maxRecDepth 100000
theorem gramChecksP0 : partOk Tryz.prog (callA Tryz.prog (knownB mmGramChecks hmGramChecks252) 100000 1000) 100000 3 [(.any .i64)] 1 0 1 = true := by kernel_rfl
theorem gramChecksP1 : partOk Tryz.prog (callA Tryz.prog (knownB mmGramChecks hmGramChecks252) 100000 1000) 100000 3 [(.any .i64)] 1 1 1 = true := by kernel_rfl
theorem gramChecksP2 : partOk Tryz.prog (callA Tryz.prog (knownB mmGramChecks hmGramChecks252) 100000 1000) 100000 3 [(.any .i64)] 1 2 1 = true := by kernel_rfl
theorem gramChecksP3 : partOk Tryz.prog (callA Tryz.prog (knownB mmGramChecks hmGramChecks252) 100000 1000) 100000 3 [(.any .i64)] 1 3 1 = true := by kernel_rfl
theorem gramChecksP4 : partOk Tryz.prog (callA Tryz.prog (knownB mmGramChecks hmGramChecks252) 100000 1000) 100000 3 [(.any .i64)] 1 4 1 = true := by kernel_rfl
theorem gramChecksP5 : partOk Tryz.prog (callA Tryz.prog (knownB mmGramChecks hmGramChecks252) 100000 1000) 100000 3 [(.any .i64)] 1 5 1 = true := by kernel_rfl
theorem gramChecksP6 : partOk Tryz.prog (callA Tryz.prog (knownB mmGramChecks hmGramChecks252) 100000 1000) 100000 3 [(.any .i64)] 1 6 1 = true := by kernel_rfl
theorem gramChecksP7 : partOk Tryz.prog (callA Tryz.prog (knownB mmGramChecks hmGramChecks252) 100000 1000) 100000 3 [(.any .i64)] 1 7 1 = true := by kernel_rfl
theorem gramChecksP8 : partOk Tryz.prog (callA Tryz.prog (knownB mmGramChecks hmGramChecks252) 100000 1000) 100000 3 [(.any .i64)] 1 8 1 = true := by kernel_rfl
theorem gramChecksP9 : partOk Tryz.prog (callA Tryz.prog (knownB mmGramChecks hmGramChecks252) 100000 1000) 100000 3 [(.any .i64)] 1 9 1 = true := by kernel_rfl
theorem gramChecksP10 : partOk Tryz.prog (callA Tryz.prog (knownB mmGramChecks hmGramChecks252) 100000 1000) 100000 3 [(.any .i64)] 1 10 1 = true := by kernel_rfl
theorem gramChecksP11 : partOk Tryz.prog (callA Tryz.prog (knownB mmGramChecks hmGramChecks252) 100000 1000) 100000 3 [(.any .i64)] 1 11 1 = true := by kernel_rfl
theorem gramChecksP12 : partOk Tryz.prog (callA Tryz.prog (knownB mmGramChecks hmGramChecks252) 100000 1000) 100000 3 [(.any .i64)] 1 12 1 = true := by kernel_rfl
theorem gramChecksP13 : partOk Tryz.prog (callA Tryz.prog (knownB mmGramChecks hmGramChecks252) 100000 1000) 100000 3 [(.any .i64)] 1 13 1 = true := by kernel_rfl
theorem gramChecksP14 : partOk Tryz.prog (callA Tryz.prog (knownB mmGramChecks hmGramChecks252) 100000 1000) 100000 3 [(.any .i64)] 1 14 1 = true := by kernel_rfl
theorem gramChecksP15 : partOk Tryz.prog (callA Tryz.prog (knownB mmGramChecks hmGramChecks252) 100000 1000) 100000 3 [(.any .i64)] 1 15 1 = true := by kernel_rfl
theorem gramChecksP16 : partOk Tryz.prog (callA Tryz.prog (knownB mmGramChecks hmGramChecks252) 100000 1000) 100000 3 [(.any .i64)] 1 16 1 = true := by kernel_rfl
theorem gramChecksPE : noMore Tryz.prog (callA Tryz.prog (knownB mmGramChecks hmGramChecks252) 100000 1000) 100000 3 [(.any .i64)] 1 17 = true := by kernel_rfl
theorem gramChecks : Contract Tryz.prog (3, [(.any .i64)], List.replicate 1 (.lit (.bool true))) := split_eq mmGramChecks_ok hmGramChecks252_ok folGramChecks (lf := 100000) (k := 1000) (j := 1) (by kernel_rfl) (from_part gramChecksP0 (from_part gramChecksP1 (from_part gramChecksP2 (from_part gramChecksP3 (from_part gramChecksP4 (from_part gramChecksP5 (from_part gramChecksP6 (from_part gramChecksP7 (from_part gramChecksP8 (from_part gramChecksP9 (from_part gramChecksP10 (from_part gramChecksP11 (from_part gramChecksP12 (from_part gramChecksP13 (from_part gramChecksP14 (from_part gramChecksP15 (from_part gramChecksP16 (from_end gramChecksPE))))))))))))))))))
end Go.Proofs.YthofgbkmmedjnaaGreatDoor.E
