/- What the call of ScanErrors yields at some bytes. -/
import Derived.Test.YtcmffeaoailoiaaDoorEScanErrors
namespace Go.Proofs.YtcmffeaoailoiaaDoor.E
open Go Go.EV Go.RowKit Go.Proofs
set_option linter.unusedVariables false
set_option maxRecDepth 100000
theorem scanErrors_80 : Contract Tryd.prog (4, [.lit (.int .u8 (Int.ofNat 80)), .any .i64], List.replicate 9 (.lit (.bool true))) := flat_eq mmScanErrors_ok hmScanErrors94_ok folScanErrors (lf := 100000) (k := 1000) (by kernel_rfl) (by kernel_rfl)
theorem scanErrors_81 : Contract Tryd.prog (4, [.lit (.int .u8 (Int.ofNat 81)), .any .i64], List.replicate 9 (.lit (.bool true))) := flat_eq mmScanErrors_ok hmScanErrors94_ok folScanErrors (lf := 100000) (k := 1000) (by kernel_rfl) (by kernel_rfl)
theorem scanErrors_82 : Contract Tryd.prog (4, [.lit (.int .u8 (Int.ofNat 82)), .any .i64], List.replicate 9 (.lit (.bool true))) := flat_eq mmScanErrors_ok hmScanErrors94_ok folScanErrors (lf := 100000) (k := 1000) (by kernel_rfl) (by kernel_rfl)
theorem scanErrors_83 : Contract Tryd.prog (4, [.lit (.int .u8 (Int.ofNat 83)), .any .i64], List.replicate 9 (.lit (.bool true))) := flat_eq mmScanErrors_ok hmScanErrors94_ok folScanErrors (lf := 100000) (k := 1000) (by kernel_rfl) (by kernel_rfl)
theorem scanErrors_84 : Contract Tryd.prog (4, [.lit (.int .u8 (Int.ofNat 84)), .any .i64], List.replicate 9 (.lit (.bool true))) := flat_eq mmScanErrors_ok hmScanErrors94_ok folScanErrors (lf := 100000) (k := 1000) (by kernel_rfl) (by kernel_rfl)
theorem scanErrors_85 : Contract Tryd.prog (4, [.lit (.int .u8 (Int.ofNat 85)), .any .i64], List.replicate 9 (.lit (.bool true))) := flat_eq mmScanErrors_ok hmScanErrors94_ok folScanErrors (lf := 100000) (k := 1000) (by kernel_rfl) (by kernel_rfl)
theorem scanErrors_86 : Contract Tryd.prog (4, [.lit (.int .u8 (Int.ofNat 86)), .any .i64], List.replicate 9 (.lit (.bool true))) := flat_eq mmScanErrors_ok hmScanErrors94_ok folScanErrors (lf := 100000) (k := 1000) (by kernel_rfl) (by kernel_rfl)
theorem scanErrors_87 : Contract Tryd.prog (4, [.lit (.int .u8 (Int.ofNat 87)), .any .i64], List.replicate 9 (.lit (.bool true))) := flat_eq mmScanErrors_ok hmScanErrors94_ok folScanErrors (lf := 100000) (k := 1000) (by kernel_rfl) (by kernel_rfl)
theorem scanErrors_88 : Contract Tryd.prog (4, [.lit (.int .u8 (Int.ofNat 88)), .any .i64], List.replicate 9 (.lit (.bool true))) := flat_eq mmScanErrors_ok hmScanErrors94_ok folScanErrors (lf := 100000) (k := 1000) (by kernel_rfl) (by kernel_rfl)
theorem scanErrors_89 : Contract Tryd.prog (4, [.lit (.int .u8 (Int.ofNat 89)), .any .i64], List.replicate 9 (.lit (.bool true))) := flat_eq mmScanErrors_ok hmScanErrors94_ok folScanErrors (lf := 100000) (k := 1000) (by kernel_rfl) (by kernel_rfl)
theorem scanErrors_90 : Contract Tryd.prog (4, [.lit (.int .u8 (Int.ofNat 90)), .any .i64], List.replicate 9 (.lit (.bool true))) := flat_eq mmScanErrors_ok hmScanErrors94_ok folScanErrors (lf := 100000) (k := 1000) (by kernel_rfl) (by kernel_rfl)
theorem scanErrors_91 : Contract Tryd.prog (4, [.lit (.int .u8 (Int.ofNat 91)), .any .i64], List.replicate 9 (.lit (.bool true))) := flat_eq mmScanErrors_ok hmScanErrors94_ok folScanErrors (lf := 100000) (k := 1000) (by kernel_rfl) (by kernel_rfl)
theorem scanErrors_92 : Contract Tryd.prog (4, [.lit (.int .u8 (Int.ofNat 92)), .any .i64], List.replicate 9 (.lit (.bool true))) := flat_eq mmScanErrors_ok hmScanErrors94_ok folScanErrors (lf := 100000) (k := 1000) (by kernel_rfl) (by kernel_rfl)
theorem scanErrors_93 : Contract Tryd.prog (4, [.lit (.int .u8 (Int.ofNat 93)), .any .i64], List.replicate 9 (.lit (.bool true))) := flat_eq mmScanErrors_ok hmScanErrors94_ok folScanErrors (lf := 100000) (k := 1000) (by kernel_rfl) (by kernel_rfl)
theorem scanErrors_94 : Contract Tryd.prog (4, [.lit (.int .u8 (Int.ofNat 94)), .any .i64], List.replicate 9 (.lit (.bool true))) := flat_eq mmScanErrors_ok hmScanErrors94_ok folScanErrors (lf := 100000) (k := 1000) (by kernel_rfl) (by kernel_rfl)
theorem scanErrors_95 : Contract Tryd.prog (4, [.lit (.int .u8 (Int.ofNat 95)), .any .i64], List.replicate 9 (.lit (.bool true))) := flat_eq mmScanErrors_ok hmScanErrors94_ok folScanErrors (lf := 100000) (k := 1000) (by kernel_rfl) (by kernel_rfl)
end Go.Proofs.YtcmffeaoailoiaaDoor.E
