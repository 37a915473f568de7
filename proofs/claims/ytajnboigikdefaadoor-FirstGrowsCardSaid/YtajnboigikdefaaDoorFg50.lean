/- Texts that the proof of a law rests on, put together: part 50. -/
import Derived.Test.YtajnboigikdefaaDoorFg49
import Derived.KernelRfl
import Derived.Test.YtajnboigikdefaaDoorProg
namespace Go.Proofs.YtajnboigikdefaaDoor.E
open Go Go.EV Go.RowKit Go.Proofs
set_option linter.unusedVariables false
set_option maxRecDepth 100000
abbrev eB1 : AV := .lit (.bool true)
def mmWakes06 : Memo := []
theorem mmWakes06_ok : ∀ x ∈ mmWakes06, Contract Tryd.prog x := memo_nil _
theorem folWakes06 : Tryd.prog.follows .mixedOrders = true := by kernel_rfl
def hmWakes060 : List HE := []
theorem hmWakes060_ok : ∀ x ∈ hmWakes060, HOk Tryd.prog x := hmemo_nil _
def hWakes060 : HE := ⟨37, [], [], [((.val eB1), [], [])]⟩
theorem hWakes060_ok : HOk Tryd.prog hWakes060 := hok_eq mmWakes06_ok hmWakes060_ok folWakes06 (lf := 100000) (k := 1000) (by kernel_rfl)
end Go.Proofs.YtajnboigikdefaaDoor.E
