/- Texts that the proof of a law rests on, put together: part 49. -/
import Derived.Test.YtajnboigikdefaaDoorRm48
import Derived.KernelRfl
import Derived.Test.YtajnboigikdefaaDoorProg
namespace Go.Proofs.YtajnboigikdefaaDoor.E
open Go Go.EV Go.RowKit Go.Proofs
set_option linter.unusedVariables false
set_option maxRecDepth 100000
abbrev eB1 : AV := .lit (.bool true)
def mmWakes05 : Memo := []
theorem mmWakes05_ok : ∀ x ∈ mmWakes05, Contract Tryd.prog x := memo_nil _
theorem folWakes05 : Tryd.prog.follows .mixedOrders = true := by kernel_rfl
def hmWakes050 : List HE := []
theorem hmWakes050_ok : ∀ x ∈ hmWakes050, HOk Tryd.prog x := hmemo_nil _
def hWakes050 : HE := ⟨21, [], [], [((.val eB1), [], [])]⟩
theorem hWakes050_ok : HOk Tryd.prog hWakes050 := hok_eq mmWakes05_ok hmWakes050_ok folWakes05 (lf := 100000) (k := 1000) (by kernel_rfl)
end Go.Proofs.YtajnboigikdefaaDoor.E
