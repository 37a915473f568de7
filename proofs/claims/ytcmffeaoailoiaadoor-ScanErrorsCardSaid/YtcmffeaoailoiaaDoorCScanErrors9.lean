/- What the call of ScanErrors yields at some bytes. -/
import Derived.Test.YtcmffeaoailoiaaDoorEScanErrors
namespace Go.Proofs.YtcmffeaoailoiaaDoor.E
open Go Go.EV Go.RowKit Go.Proofs
set_option linter.unusedVariables false
set_option maxRecDepth 100000
theorem scanErrors_144 : Contract Tryd.prog (4, [.lit (.int .u8 (Int.ofNat 144)), .any .i64], List.replicate 9 (.lit (.bool true))) := flat_eq mmScanErrors_ok hmScanErrors94_ok folScanErrors (lf := 100000) (k := 1000) (by kernel_rfl) (by kernel_rfl)
theorem scanErrors_145 : Contract Tryd.prog (4, [.lit (.int .u8 (Int.ofNat 145)), .any .i64], List.replicate 9 (.lit (.bool true))) := flat_eq mmScanErrors_ok hmScanErrors94_ok folScanErrors (lf := 100000) (k := 1000) (by kernel_rfl) (by kernel_rfl)
theorem scanErrors_146 : Contract Tryd.prog (4, [.lit (.int .u8 (Int.ofNat 146)), .any .i64], List.replicate 9 (.lit (.bool true))) := flat_eq mmScanErrors_ok hmScanErrors94_ok folScanErrors (lf := 100000) (k := 1000) (by kernel_rfl) (by kernel_rfl)
theorem scanErrors_147 : Contract Tryd.prog (4, [.lit (.int .u8 (Int.ofNat 147)), .any .i64], List.replicate 9 (.lit (.bool true))) := flat_eq mmScanErrors_ok hmScanErrors94_ok folScanErrors (lf := 100000) (k := 1000) (by kernel_rfl) (by kernel_rfl)
theorem scanErrors_148 : Contract Tryd.prog (4, [.lit (.int .u8 (Int.ofNat 148)), .any .i64], List.replicate 9 (.lit (.bool true))) := flat_eq mmScanErrors_ok hmScanErrors94_ok folScanErrors (lf := 100000) (k := 1000) (by kernel_rfl) (by kernel_rfl)
theorem scanErrors_149 : Contract Tryd.prog (4, [.lit (.int .u8 (Int.ofNat 149)), .any .i64], List.replicate 9 (.lit (.bool true))) := flat_eq mmScanErrors_ok hmScanErrors94_ok folScanErrors (lf := 100000) (k := 1000) (by kernel_rfl) (by kernel_rfl)
theorem scanErrors_150 : Contract Tryd.prog (4, [.lit (.int .u8 (Int.ofNat 150)), .any .i64], List.replicate 9 (.lit (.bool true))) := flat_eq mmScanErrors_ok hmScanErrors94_ok folScanErrors (lf := 100000) (k := 1000) (by kernel_rfl) (by kernel_rfl)
theorem scanErrors_151 : Contract Tryd.prog (4, [.lit (.int .u8 (Int.ofNat 151)), .any .i64], List.replicate 9 (.lit (.bool true))) := flat_eq mmScanErrors_ok hmScanErrors94_ok folScanErrors (lf := 100000) (k := 1000) (by kernel_rfl) (by kernel_rfl)
theorem scanErrors_152 : Contract Tryd.prog (4, [.lit (.int .u8 (Int.ofNat 152)), .any .i64], List.replicate 9 (.lit (.bool true))) := flat_eq mmScanErrors_ok hmScanErrors94_ok folScanErrors (lf := 100000) (k := 1000) (by kernel_rfl) (by kernel_rfl)
theorem scanErrors_153 : Contract Tryd.prog (4, [.lit (.int .u8 (Int.ofNat 153)), .any .i64], List.replicate 9 (.lit (.bool true))) := flat_eq mmScanErrors_ok hmScanErrors94_ok folScanErrors (lf := 100000) (k := 1000) (by kernel_rfl) (by kernel_rfl)
theorem scanErrors_154 : Contract Tryd.prog (4, [.lit (.int .u8 (Int.ofNat 154)), .any .i64], List.replicate 9 (.lit (.bool true))) := flat_eq mmScanErrors_ok hmScanErrors94_ok folScanErrors (lf := 100000) (k := 1000) (by kernel_rfl) (by kernel_rfl)
theorem scanErrors_155 : Contract Tryd.prog (4, [.lit (.int .u8 (Int.ofNat 155)), .any .i64], List.replicate 9 (.lit (.bool true))) := flat_eq mmScanErrors_ok hmScanErrors94_ok folScanErrors (lf := 100000) (k := 1000) (by kernel_rfl) (by kernel_rfl)
theorem scanErrors_156 : Contract Tryd.prog (4, [.lit (.int .u8 (Int.ofNat 156)), .any .i64], List.replicate 9 (.lit (.bool true))) := flat_eq mmScanErrors_ok hmScanErrors94_ok folScanErrors (lf := 100000) (k := 1000) (by kernel_rfl) (by kernel_rfl)
theorem scanErrors_157 : Contract Tryd.prog (4, [.lit (.int .u8 (Int.ofNat 157)), .any .i64], List.replicate 9 (.lit (.bool true))) := flat_eq mmScanErrors_ok hmScanErrors94_ok folScanErrors (lf := 100000) (k := 1000) (by kernel_rfl) (by kernel_rfl)
theorem scanErrors_158 : Contract Tryd.prog (4, [.lit (.int .u8 (Int.ofNat 158)), .any .i64], List.replicate 9 (.lit (.bool true))) := flat_eq mmScanErrors_ok hmScanErrors94_ok folScanErrors (lf := 100000) (k := 1000) (by kernel_rfl) (by kernel_rfl)
theorem scanErrors_159 : Contract Tryd.prog (4, [.lit (.int .u8 (Int.ofNat 159)), .any .i64], List.replicate 9 (.lit (.bool true))) := flat_eq mmScanErrors_ok hmScanErrors94_ok folScanErrors (lf := 100000) (k := 1000) (by kernel_rfl) (by kernel_rfl)
end Go.Proofs.YtcmffeaoailoiaaDoor.E
