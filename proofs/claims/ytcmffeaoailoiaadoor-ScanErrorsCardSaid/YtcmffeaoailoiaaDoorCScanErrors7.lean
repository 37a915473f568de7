/- What the call of ScanErrors yields at some bytes. -/
import Derived.Test.YtcmffeaoailoiaaDoorEScanErrors
namespace Go.Proofs.YtcmffeaoailoiaaDoor.E
open Go Go.EV Go.RowKit Go.Proofs
set_option linter.unusedVariables false
set_option maxRecDepth 100000
theorem scanErrors_112 : Contract Tryd.prog (4, [.lit (.int .u8 (Int.ofNat 112)), .any .i64], List.replicate 9 (.lit (.bool true))) := flat_eq mmScanErrors_ok hmScanErrors94_ok folScanErrors (lf := 100000) (k := 1000) (by kernel_rfl) (by kernel_rfl)
theorem scanErrors_113 : Contract Tryd.prog (4, [.lit (.int .u8 (Int.ofNat 113)), .any .i64], List.replicate 9 (.lit (.bool true))) := flat_eq mmScanErrors_ok hmScanErrors94_ok folScanErrors (lf := 100000) (k := 1000) (by kernel_rfl) (by kernel_rfl)
theorem scanErrors_114 : Contract Tryd.prog (4, [.lit (.int .u8 (Int.ofNat 114)), .any .i64], List.replicate 9 (.lit (.bool true))) := flat_eq mmScanErrors_ok hmScanErrors94_ok folScanErrors (lf := 100000) (k := 1000) (by kernel_rfl) (by kernel_rfl)
theorem scanErrors_115 : Contract Tryd.prog (4, [.lit (.int .u8 (Int.ofNat 115)), .any .i64], List.replicate 9 (.lit (.bool true))) := flat_eq mmScanErrors_ok hmScanErrors94_ok folScanErrors (lf := 100000) (k := 1000) (by kernel_rfl) (by kernel_rfl)
theorem scanErrors_116 : Contract Tryd.prog (4, [.lit (.int .u8 (Int.ofNat 116)), .any .i64], List.replicate 9 (.lit (.bool true))) := flat_eq mmScanErrors_ok hmScanErrors94_ok folScanErrors (lf := 100000) (k := 1000) (by kernel_rfl) (by kernel_rfl)
theorem scanErrors_117 : Contract Tryd.prog (4, [.lit (.int .u8 (Int.ofNat 117)), .any .i64], List.replicate 9 (.lit (.bool true))) := flat_eq mmScanErrors_ok hmScanErrors94_ok folScanErrors (lf := 100000) (k := 1000) (by kernel_rfl) (by kernel_rfl)
theorem scanErrors_118 : Contract Tryd.prog (4, [.lit (.int .u8 (Int.ofNat 118)), .any .i64], List.replicate 9 (.lit (.bool true))) := flat_eq mmScanErrors_ok hmScanErrors94_ok folScanErrors (lf := 100000) (k := 1000) (by kernel_rfl) (by kernel_rfl)
theorem scanErrors_119 : Contract Tryd.prog (4, [.lit (.int .u8 (Int.ofNat 119)), .any .i64], List.replicate 9 (.lit (.bool true))) := flat_eq mmScanErrors_ok hmScanErrors94_ok folScanErrors (lf := 100000) (k := 1000) (by kernel_rfl) (by kernel_rfl)
theorem scanErrors_120 : Contract Tryd.prog (4, [.lit (.int .u8 (Int.ofNat 120)), .any .i64], List.replicate 9 (.lit (.bool true))) := flat_eq mmScanErrors_ok hmScanErrors94_ok folScanErrors (lf := 100000) (k := 1000) (by kernel_rfl) (by kernel_rfl)
theorem scanErrors_121 : Contract Tryd.prog (4, [.lit (.int .u8 (Int.ofNat 121)), .any .i64], List.replicate 9 (.lit (.bool true))) := flat_eq mmScanErrors_ok hmScanErrors94_ok folScanErrors (lf := 100000) (k := 1000) (by kernel_rfl) (by kernel_rfl)
theorem scanErrors_122 : Contract Tryd.prog (4, [.lit (.int .u8 (Int.ofNat 122)), .any .i64], List.replicate 9 (.lit (.bool true))) := flat_eq mmScanErrors_ok hmScanErrors94_ok folScanErrors (lf := 100000) (k := 1000) (by kernel_rfl) (by kernel_rfl)
theorem scanErrors_123 : Contract Tryd.prog (4, [.lit (.int .u8 (Int.ofNat 123)), .any .i64], List.replicate 9 (.lit (.bool true))) := flat_eq mmScanErrors_ok hmScanErrors94_ok folScanErrors (lf := 100000) (k := 1000) (by kernel_rfl) (by kernel_rfl)
theorem scanErrors_124 : Contract Tryd.prog (4, [.lit (.int .u8 (Int.ofNat 124)), .any .i64], List.replicate 9 (.lit (.bool true))) := flat_eq mmScanErrors_ok hmScanErrors94_ok folScanErrors (lf := 100000) (k := 1000) (by kernel_rfl) (by kernel_rfl)
theorem scanErrors_125 : Contract Tryd.prog (4, [.lit (.int .u8 (Int.ofNat 125)), .any .i64], List.replicate 9 (.lit (.bool true))) := flat_eq mmScanErrors_ok hmScanErrors94_ok folScanErrors (lf := 100000) (k := 1000) (by kernel_rfl) (by kernel_rfl)
theorem scanErrors_126 : Contract Tryd.prog (4, [.lit (.int .u8 (Int.ofNat 126)), .any .i64], List.replicate 9 (.lit (.bool true))) := flat_eq mmScanErrors_ok hmScanErrors94_ok folScanErrors (lf := 100000) (k := 1000) (by kernel_rfl) (by kernel_rfl)
theorem scanErrors_127 : Contract Tryd.prog (4, [.lit (.int .u8 (Int.ofNat 127)), .any .i64], List.replicate 9 (.lit (.bool true))) := flat_eq mmScanErrors_ok hmScanErrors94_ok folScanErrors (lf := 100000) (k := 1000) (by kernel_rfl) (by kernel_rfl)
end Go.Proofs.YtcmffeaoailoiaaDoor.E
