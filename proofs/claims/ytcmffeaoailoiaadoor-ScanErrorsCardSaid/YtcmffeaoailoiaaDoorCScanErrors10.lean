/- What the call of ScanErrors yields at some bytes. -/
import Derived.Test.YtcmffeaoailoiaaDoorEScanErrors
namespace Go.Proofs.YtcmffeaoailoiaaDoor.E
open Go Go.EV Go.RowKit Go.Proofs
set_option linter.unusedVariables false
set_option maxRecDepth 100000
theorem scanErrors_160 : Contract Tryd.prog (4, [.lit (.int .u8 (Int.ofNat 160)), .any .i64], List.replicate 9 (.lit (.bool true))) := flat_eq mmScanErrors_ok hmScanErrors94_ok folScanErrors (lf := 100000) (k := 1000) (by kernel_rfl) (by kernel_rfl)
theorem scanErrors_161 : Contract Tryd.prog (4, [.lit (.int .u8 (Int.ofNat 161)), .any .i64], List.replicate 9 (.lit (.bool true))) := flat_eq mmScanErrors_ok hmScanErrors94_ok folScanErrors (lf := 100000) (k := 1000) (by kernel_rfl) (by kernel_rfl)
theorem scanErrors_162 : Contract Tryd.prog (4, [.lit (.int .u8 (Int.ofNat 162)), .any .i64], List.replicate 9 (.lit (.bool true))) := flat_eq mmScanErrors_ok hmScanErrors94_ok folScanErrors (lf := 100000) (k := 1000) (by kernel_rfl) (by kernel_rfl)
theorem scanErrors_163 : Contract Tryd.prog (4, [.lit (.int .u8 (Int.ofNat 163)), .any .i64], List.replicate 9 (.lit (.bool true))) := flat_eq mmScanErrors_ok hmScanErrors94_ok folScanErrors (lf := 100000) (k := 1000) (by kernel_rfl) (by kernel_rfl)
theorem scanErrors_164 : Contract Tryd.prog (4, [.lit (.int .u8 (Int.ofNat 164)), .any .i64], List.replicate 9 (.lit (.bool true))) := flat_eq mmScanErrors_ok hmScanErrors94_ok folScanErrors (lf := 100000) (k := 1000) (by kernel_rfl) (by kernel_rfl)
theorem scanErrors_165 : Contract Tryd.prog (4, [.lit (.int .u8 (Int.ofNat 165)), .any .i64], List.replicate 9 (.lit (.bool true))) := flat_eq mmScanErrors_ok hmScanErrors94_ok folScanErrors (lf := 100000) (k := 1000) (by kernel_rfl) (by kernel_rfl)
theorem scanErrors_166 : Contract Tryd.prog (4, [.lit (.int .u8 (Int.ofNat 166)), .any .i64], List.replicate 9 (.lit (.bool true))) := flat_eq mmScanErrors_ok hmScanErrors94_ok folScanErrors (lf := 100000) (k := 1000) (by kernel_rfl) (by kernel_rfl)
theorem scanErrors_167 : Contract Tryd.prog (4, [.lit (.int .u8 (Int.ofNat 167)), .any .i64], List.replicate 9 (.lit (.bool true))) := flat_eq mmScanErrors_ok hmScanErrors94_ok folScanErrors (lf := 100000) (k := 1000) (by kernel_rfl) (by kernel_rfl)
theorem scanErrors_168 : Contract Tryd.prog (4, [.lit (.int .u8 (Int.ofNat 168)), .any .i64], List.replicate 9 (.lit (.bool true))) := flat_eq mmScanErrors_ok hmScanErrors94_ok folScanErrors (lf := 100000) (k := 1000) (by kernel_rfl) (by kernel_rfl)
theorem scanErrors_169 : Contract Tryd.prog (4, [.lit (.int .u8 (Int.ofNat 169)), .any .i64], List.replicate 9 (.lit (.bool true))) := flat_eq mmScanErrors_ok hmScanErrors94_ok folScanErrors (lf := 100000) (k := 1000) (by kernel_rfl) (by kernel_rfl)
theorem scanErrors_170 : Contract Tryd.prog (4, [.lit (.int .u8 (Int.ofNat 170)), .any .i64], List.replicate 9 (.lit (.bool true))) := flat_eq mmScanErrors_ok hmScanErrors94_ok folScanErrors (lf := 100000) (k := 1000) (by kernel_rfl) (by kernel_rfl)
theorem scanErrors_171 : Contract Tryd.prog (4, [.lit (.int .u8 (Int.ofNat 171)), .any .i64], List.replicate 9 (.lit (.bool true))) := flat_eq mmScanErrors_ok hmScanErrors94_ok folScanErrors (lf := 100000) (k := 1000) (by kernel_rfl) (by kernel_rfl)
theorem scanErrors_172 : Contract Tryd.prog (4, [.lit (.int .u8 (Int.ofNat 172)), .any .i64], List.replicate 9 (.lit (.bool true))) := flat_eq mmScanErrors_ok hmScanErrors94_ok folScanErrors (lf := 100000) (k := 1000) (by kernel_rfl) (by kernel_rfl)
theorem scanErrors_173 : Contract Tryd.prog (4, [.lit (.int .u8 (Int.ofNat 173)), .any .i64], List.replicate 9 (.lit (.bool true))) := flat_eq mmScanErrors_ok hmScanErrors94_ok folScanErrors (lf := 100000) (k := 1000) (by kernel_rfl) (by kernel_rfl)
theorem scanErrors_174 : Contract Tryd.prog (4, [.lit (.int .u8 (Int.ofNat 174)), .any .i64], List.replicate 9 (.lit (.bool true))) := flat_eq mmScanErrors_ok hmScanErrors94_ok folScanErrors (lf := 100000) (k := 1000) (by kernel_rfl) (by kernel_rfl)
theorem scanErrors_175 : Contract Tryd.prog (4, [.lit (.int .u8 (Int.ofNat 175)), .any .i64], List.replicate 9 (.lit (.bool true))) := flat_eq mmScanErrors_ok hmScanErrors94_ok folScanErrors (lf := 100000) (k := 1000) (by kernel_rfl) (by kernel_rfl)
end Go.Proofs.YtcmffeaoailoiaaDoor.E
