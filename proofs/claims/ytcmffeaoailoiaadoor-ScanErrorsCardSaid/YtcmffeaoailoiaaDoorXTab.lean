/- The tables that the rows list, as what is told of memory. -/
import Derived.Test.YtcmffeaoailoiaaDoorProg
import Derived.Test.YtcmffeaoailoiaaDoorXBox
namespace Go.Proofs.YtcmffeaoailoiaaDoor.X
open Go Go.XW Go.RowKit
set_option linter.unusedVariables false

def TabOK (I : Imm) : Prop := I = I
theorem TabOK.mono {I J : Imm} (h : TabOK I) (hx : Ext I J) : TabOK J := rfl
end Go.Proofs.YtcmffeaoailoiaaDoor.X
