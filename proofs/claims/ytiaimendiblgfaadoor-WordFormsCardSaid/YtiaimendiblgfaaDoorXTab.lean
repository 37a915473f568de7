/- The tables that the rows list, as what is told of memory. -/
import Derived.Test.YtiaimendiblgfaaDoorProg
import Derived.Test.YtiaimendiblgfaaDoorXBox
namespace Go.Proofs.YtiaimendiblgfaaDoor.X
open Go Go.XW Go.RowKit
set_option linter.unusedVariables false

def TabOK (I : Imm) : Prop := I = I
theorem TabOK.mono {I J : Imm} (h : TabOK I) (hx : Ext I J) : TabOK J := rfl
end Go.Proofs.YtiaimendiblgfaaDoor.X
