/- The call of TreePlaces, carried out over memory that is known. -/
import Derived.Test.YtdmljeaigjfenaaHTreePlaces2
namespace Go.Proofs.Ytdmljeaigjfenaa.E
open Go Go.EV Go.RowKit Go.Proofs
set_option linter.unusedVariables false
set_option maxRecDepth 100000
theorem treePlacesP0 : partOk Try.prog (callA Try.prog (knownB mmTreePlaces hmTreePlaces1088) 100000 1000) 100000 8 [(.any .i64),(.any .i64),(.any .i64)] 4 0 24 = true := by kernel_rfl
theorem treePlacesP1 : partOk Try.prog (callA Try.prog (knownB mmTreePlaces hmTreePlaces1088) 100000 1000) 100000 8 [(.any .i64),(.any .i64),(.any .i64)] 4 24 24 = true := by kernel_rfl
theorem treePlacesP2 : partOk Try.prog (callA Try.prog (knownB mmTreePlaces hmTreePlaces1088) 100000 1000) 100000 8 [(.any .i64),(.any .i64),(.any .i64)] 4 48 24 = true := by kernel_rfl
theorem treePlacesP3 : partOk Try.prog (callA Try.prog (knownB mmTreePlaces hmTreePlaces1088) 100000 1000) 100000 8 [(.any .i64),(.any .i64),(.any .i64)] 4 72 24 = true := by kernel_rfl
theorem treePlacesP4 : partOk Try.prog (callA Try.prog (knownB mmTreePlaces hmTreePlaces1088) 100000 1000) 100000 8 [(.any .i64),(.any .i64),(.any .i64)] 4 96 24 = true := by kernel_rfl
theorem treePlacesP5 : partOk Try.prog (callA Try.prog (knownB mmTreePlaces hmTreePlaces1088) 100000 1000) 100000 8 [(.any .i64),(.any .i64),(.any .i64)] 4 120 24 = true := by kernel_rfl
theorem treePlacesP6 : partOk Try.prog (callA Try.prog (knownB mmTreePlaces hmTreePlaces1088) 100000 1000) 100000 8 [(.any .i64),(.any .i64),(.any .i64)] 4 144 24 = true := by kernel_rfl
theorem treePlacesP7 : partOk Try.prog (callA Try.prog (knownB mmTreePlaces hmTreePlaces1088) 100000 1000) 100000 8 [(.any .i64),(.any .i64),(.any .i64)] 4 168 24 = true := by kernel_rfl
theorem treePlacesP8 : partOk Try.prog (callA Try.prog (knownB mmTreePlaces hmTreePlaces1088) 100000 1000) 100000 8 [(.any .i64),(.any .i64),(.any .i64)] 4 192 24 = true := by kernel_rfl
theorem treePlacesPE : noMore Try.prog (callA Try.prog (knownB mmTreePlaces hmTreePlaces1088) 100000 1000) 100000 8 [(.any .i64),(.any .i64),(.any .i64)] 4 216 = true := by kernel_rfl
theorem treePlaces : Contract Try.prog (8, [(.any .i64),(.any .i64),(.any .i64)], List.replicate 1 (.lit (.bool true))) := split_eq mmTreePlaces_ok hmTreePlaces1088_ok folTreePlaces (lf := 100000) (k := 1000) (j := 4) (by kernel_rfl) (from_part treePlacesP0 (from_part treePlacesP1 (from_part treePlacesP2 (from_part treePlacesP3 (from_part treePlacesP4 (from_part treePlacesP5 (from_part treePlacesP6 (from_part treePlacesP7 (from_part treePlacesP8 (from_end treePlacesPE))))))))))
end Go.Proofs.Ytdmljeaigjfenaa.E
