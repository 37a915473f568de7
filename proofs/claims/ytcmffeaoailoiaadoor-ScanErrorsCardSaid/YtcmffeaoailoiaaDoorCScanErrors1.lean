/- What the call of ScanErrors yields at some bytes. -/
import Derived.Test.YtcmffeaoailoiaaDoorEScanErrors
namespace Go.Proofs.YtcmffeaoailoiaaDoor.E
open Go Go.EV Go.RowKit Go.Proofs
set_option linter.unusedVariables false
set_option maxRecDepth 100000
theorem scanErrors_16 : Contract Tryd.prog (4, [.lit (.int .u8 (Int.ofNat 16)), .any .i64], List.replicate 9 (.lit (.bool true))) := flat_eq mmScanErrors_ok hmScanErrors94_ok folScanErrors (lf := 100000) (k := 1000) (by kernel_rfl) (by kernel_rfl)
theorem scanErrors_17 : Contract Tryd.prog (4, [.lit (.int .u8 (Int.ofNat 17)), .any .i64], List.replicate 9 (.lit (.bool true))) := flat_eq mmScanErrors_ok hmScanErrors94_ok folScanErrors (lf := 100000) (k := 1000) (by kernel_rfl) (by kernel_rfl)
theorem scanErrors_18 : Contract Tryd.prog (4, [.lit (.int .u8 (Int.ofNat 18)), .any .i64], List.replicate 9 (.lit (.bool true))) := flat_eq mmScanErrors_ok hmScanErrors94_ok folScanErrors (lf := 100000) (k := 1000) (by kernel_rfl) (by kernel_rfl)
theorem scanErrors_19 : Contract Tryd.prog (4, [.lit (.int .u8 (Int.ofNat 19)), .any .i64], List.replicate 9 (.lit (.bool true))) := flat_eq mmScanErrors_ok hmScanErrors94_ok folScanErrors (lf := 100000) (k := 1000) (by kernel_rfl) (by kernel_rfl)
theorem scanErrors_20 : Contract Tryd.prog (4, [.lit (.int .u8 (Int.ofNat 20)), .any .i64], List.replicate 9 (.lit (.bool true))) := flat_eq mmScanErrors_ok hmScanErrors94_ok folScanErrors (lf := 100000) (k := 1000) (by kernel_rfl) (by kernel_rfl)
theorem scanErrors_21 : Contract Tryd.prog (4, [.lit (.int .u8 (Int.ofNat 21)), .any .i64], List.replicate 9 (.lit (.bool true))) := flat_eq mmScanErrors_ok hmScanErrors94_ok folScanErrors (lf := 100000) (k := 1000) (by kernel_rfl) (by kernel_rfl)
theorem scanErrors_22 : Contract Tryd.prog (4, [.lit (.int .u8 (Int.ofNat 22)), .any .i64], List.replicate 9 (.lit (.bool true))) := flat_eq mmScanErrors_ok hmScanErrors94_ok folScanErrors (lf := 100000) (k := 1000) (by kernel_rfl) (by kernel_rfl)
theorem scanErrors_23 : Contract Tryd.prog (4, [.lit (.int .u8 (Int.ofNat 23)), .any .i64], List.replicate 9 (.lit (.bool true))) := flat_eq mmScanErrors_ok hmScanErrors94_ok folScanErrors (lf := 100000) (k := 1000) (by kernel_rfl) (by kernel_rfl)
theorem scanErrors_24 : Contract Tryd.prog (4, [.lit (.int .u8 (Int.ofNat 24)), .any .i64], List.replicate 9 (.lit (.bool true))) := flat_eq mmScanErrors_ok hmScanErrors94_ok folScanErrors (lf := 100000) (k := 1000) (by kernel_rfl) (by kernel_rfl)
theorem scanErrors_25 : Contract Tryd.prog (4, [.lit (.int .u8 (Int.ofNat 25)), .any .i64], List.replicate 9 (.lit (.bool true))) := flat_eq mmScanErrors_ok hmScanErrors94_ok folScanErrors (lf := 100000) (k := 1000) (by kernel_rfl) (by kernel_rfl)
theorem scanErrors_26 : Contract Tryd.prog (4, [.lit (.int .u8 (Int.ofNat 26)), .any .i64], List.replicate 9 (.lit (.bool true))) := flat_eq mmScanErrors_ok hmScanErrors94_ok folScanErrors (lf := 100000) (k := 1000) (by kernel_rfl) (by kernel_rfl)
theorem scanErrors_27 : Contract Tryd.prog (4, [.lit (.int .u8 (Int.ofNat 27)), .any .i64], List.replicate 9 (.lit (.bool true))) := flat_eq mmScanErrors_ok hmScanErrors94_ok folScanErrors (lf := 100000) (k := 1000) (by kernel_rfl) (by kernel_rfl)
theorem scanErrors_28 : Contract Tryd.prog (4, [.lit (.int .u8 (Int.ofNat 28)), .any .i64], List.replicate 9 (.lit (.bool true))) := flat_eq mmScanErrors_ok hmScanErrors94_ok folScanErrors (lf := 100000) (k := 1000) (by kernel_rfl) (by kernel_rfl)
theorem scanErrors_29 : Contract Tryd.prog (4, [.lit (.int .u8 (Int.ofNat 29)), .any .i64], List.replicate 9 (.lit (.bool true))) := flat_eq mmScanErrors_ok hmScanErrors94_ok folScanErrors (lf := 100000) (k := 1000) (by kernel_rfl) (by kernel_rfl)
theorem scanErrors_30 : Contract Tryd.prog (4, [.lit (.int .u8 (Int.ofNat 30)), .any .i64], List.replicate 9 (.lit (.bool true))) := flat_eq mmScanErrors_ok hmScanErrors94_ok folScanErrors (lf := 100000) (k := 1000) (by kernel_rfl) (by kernel_rfl)
theorem scanErrors_31 : Contract Tryd.prog (4, [.lit (.int .u8 (Int.ofNat 31)), .any .i64], List.replicate 9 (.lit (.bool true))) := flat_eq mmScanErrors_ok hmScanErrors94_ok folScanErrors (lf := 100000) (k := 1000) (by kernel_rfl) (by kernel_rfl)
end Go.Proofs.YtcmffeaoailoiaaDoor.E
