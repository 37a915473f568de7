/-
  DERIVED. GIVEN WITH THE SEED: THE CARDS: each row of YtdahingnadnonaaDoorRows.lean that lists a variable, with what it lists TIED to the program's text (the seventh form; the later family's looks); each row that meets fmt, with fmt's text TOLD by the authors' own Lean function (tested against real Go, not proved from fmt's source: count such statements apart). THE CARD IS WHAT COUNTS. Prove the row's statement (the work); the ties are given (YtdahingnadnonaaDoorTie.lean); close each card by the builder's one call (the guide's Derived/Test/ToyasCard.lean, 'card_holds'). Laid BY PROGRAM, IN A SANDBOX (cutbox-door.mjs). By AI agents, Wed Nov 11 2026. No macro, syntax, notation, axiom, sorry.
-/
import Derived.Test.YtdahingnadnonaaDoorRows
import GoSem.ClaimSeven
namespace Go.Proofs.YtdahingnadnonaaDoor
namespace Rows

/-- THE TIED CARD OF 'exegetelaw09.DeriveForms'. -/
def deriveFormsCard : Claim7 := { stood := { row := deriveFormsRow, standIns := [], harness := (true, "d34776b9dde64f9e531c3373b4df97bf42597d19dec28fadee0e44a7216ce4ce"), looks := false }, kinds := [], alts := [], laidByText := true, laidKinds := [.data, .pinned], laidTests := true, laidLooks := .later }
def DeriveFormsCardSaid : Prop := Claim7.holds Tryd.pinned (.plain (OpenSpec.ofChange deriveFormsSpec)) deriveFormsCard

/-- THE TIED CARD OF 'exegetelaw09.DeriveErrors'. -/
def deriveErrorsCard : Claim7 := { stood := { row := deriveErrorsRow, standIns := [], harness := (true, "d34776b9dde64f9e531c3373b4df97bf42597d19dec28fadee0e44a7216ce4ce"), looks := false }, kinds := [], alts := [], laidByText := true, laidKinds := [.data, .pinned], laidTests := true, laidLooks := .later }
def DeriveErrorsCardSaid : Prop := Claim7.holds Tryd.pinned (.plain (OpenSpec.ofChange deriveErrorsSpec)) deriveErrorsCard

/-- THE TIED CARD OF 'exegetelaw09.DeriveTells'. -/
def deriveTellsCard : Claim7 := { stood := { row := deriveTellsRow, standIns := [], harness := (true, "d34776b9dde64f9e531c3373b4df97bf42597d19dec28fadee0e44a7216ce4ce"), looks := false }, kinds := [], alts := [], laidByText := true, laidKinds := [.data, .pinned], laidTests := true, laidLooks := .later }
def DeriveTellsCardSaid : Prop := Claim7.holds Tryd.pinned (.plain (OpenSpec.ofChange deriveTellsSpec)) deriveTellsCard

/-- THE TIED CARD OF 'exegetelaw09.DeriveTrees'. -/
def deriveTreesCard : Claim7 := { stood := { row := deriveTreesRow, standIns := [], harness := (true, "d34776b9dde64f9e531c3373b4df97bf42597d19dec28fadee0e44a7216ce4ce"), looks := false }, kinds := [], alts := [], laidByText := true, laidKinds := [.data, .pinned], laidTests := true, laidLooks := .later }
def DeriveTreesCardSaid : Prop := Claim7.holds Tryd.pinned (.plain (OpenSpec.ofChange deriveTreesSpec)) deriveTreesCard

/-- THE TIED CARD OF 'exegetelaw09.DeriveGrown'. -/
def deriveGrownCard : Claim7 := { stood := { row := deriveGrownRow, standIns := [], harness := (true, "d34776b9dde64f9e531c3373b4df97bf42597d19dec28fadee0e44a7216ce4ce"), looks := false }, kinds := [], alts := [], laidByText := true, laidKinds := [.data, .pinned], laidTests := true, laidLooks := .later }
def DeriveGrownCardSaid : Prop := Claim7.holds Tryd.pinned (.plain (OpenSpec.ofChange deriveGrownSpec)) deriveGrownCard

/-- THE TIED CARD OF 'exegetelaw09.DeriveParts'. -/
def derivePartsCard : Claim7 := { stood := { row := derivePartsRow, standIns := [], harness := (true, "d34776b9dde64f9e531c3373b4df97bf42597d19dec28fadee0e44a7216ce4ce"), looks := false }, kinds := [], alts := [], laidByText := true, laidKinds := [.data, .pinned], laidTests := true, laidLooks := .later }
def DerivePartsCardSaid : Prop := Claim7.holds Tryd.pinned (.plain (OpenSpec.ofChange derivePartsSpec)) derivePartsCard

/-- THE SECOND FORM's CARD OF 'exegetelaw09.DeriveForms'. -/
def deriveFormsUptoCard : Claim7 := { stood := { row := deriveFormsUptoRow, standIns := [], harness := (true, "d34776b9dde64f9e531c3373b4df97bf42597d19dec28fadee0e44a7216ce4ce"), looks := false }, kinds := [], alts := [], laidByText := true, laidKinds := [.data, .pinned], laidTests := true, laidLooks := .later }
def DeriveFormsUptoCardSaid : Prop := Claim7.holds Tryd.pinned (.plain (OpenSpec.upto deriveFormsSpec)) deriveFormsUptoCard

/-- THE SECOND FORM's CARD OF 'exegetelaw09.DeriveErrors'. -/
def deriveErrorsUptoCard : Claim7 := { stood := { row := deriveErrorsUptoRow, standIns := [], harness := (true, "d34776b9dde64f9e531c3373b4df97bf42597d19dec28fadee0e44a7216ce4ce"), looks := false }, kinds := [], alts := [], laidByText := true, laidKinds := [.data, .pinned], laidTests := true, laidLooks := .later }
def DeriveErrorsUptoCardSaid : Prop := Claim7.holds Tryd.pinned (.plain (OpenSpec.upto deriveErrorsSpec)) deriveErrorsUptoCard

/-- THE SECOND FORM's CARD OF 'exegetelaw09.DeriveTells'. -/
def deriveTellsUptoCard : Claim7 := { stood := { row := deriveTellsUptoRow, standIns := [], harness := (true, "d34776b9dde64f9e531c3373b4df97bf42597d19dec28fadee0e44a7216ce4ce"), looks := false }, kinds := [], alts := [], laidByText := true, laidKinds := [.data, .pinned], laidTests := true, laidLooks := .later }
def DeriveTellsUptoCardSaid : Prop := Claim7.holds Tryd.pinned (.plain (OpenSpec.upto deriveTellsSpec)) deriveTellsUptoCard

/-- THE SECOND FORM's CARD OF 'exegetelaw09.DeriveTrees'. -/
def deriveTreesUptoCard : Claim7 := { stood := { row := deriveTreesUptoRow, standIns := [], harness := (true, "d34776b9dde64f9e531c3373b4df97bf42597d19dec28fadee0e44a7216ce4ce"), looks := false }, kinds := [], alts := [], laidByText := true, laidKinds := [.data, .pinned], laidTests := true, laidLooks := .later }
def DeriveTreesUptoCardSaid : Prop := Claim7.holds Tryd.pinned (.plain (OpenSpec.upto deriveTreesSpec)) deriveTreesUptoCard

/-- THE SECOND FORM's CARD OF 'exegetelaw09.DeriveGrown'. -/
def deriveGrownUptoCard : Claim7 := { stood := { row := deriveGrownUptoRow, standIns := [], harness := (true, "d34776b9dde64f9e531c3373b4df97bf42597d19dec28fadee0e44a7216ce4ce"), looks := false }, kinds := [], alts := [], laidByText := true, laidKinds := [.data, .pinned], laidTests := true, laidLooks := .later }
def DeriveGrownUptoCardSaid : Prop := Claim7.holds Tryd.pinned (.plain (OpenSpec.upto deriveGrownSpec)) deriveGrownUptoCard

/-- THE SECOND FORM's CARD OF 'exegetelaw09.DeriveParts'. -/
def derivePartsUptoCard : Claim7 := { stood := { row := derivePartsUptoRow, standIns := [], harness := (true, "d34776b9dde64f9e531c3373b4df97bf42597d19dec28fadee0e44a7216ce4ce"), looks := false }, kinds := [], alts := [], laidByText := true, laidKinds := [.data, .pinned], laidTests := true, laidLooks := .later }
def DerivePartsUptoCardSaid : Prop := Claim7.holds Tryd.pinned (.plain (OpenSpec.upto derivePartsSpec)) derivePartsUptoCard
end Rows
end Go.Proofs.YtdahingnadnonaaDoor
