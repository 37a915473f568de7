/-
  DERIVED. GIVEN WITH THE SEED: THE CARDS: each row of YthofgbkmmedjnaaDoorRows.lean that lists a variable, with what it lists TIED to the program's text (the seventh form; the later family's looks); each row that meets fmt, with fmt's text TOLD by the authors' own Lean function (tested against real Go, not proved from fmt's source: count such statements apart). THE CARD IS WHAT COUNTS. Prove the row's statement (the work); the ties are given (YthofgbkmmedjnaaDoorTie.lean); close each card by the builder's one call (the guide's Derived/Test/ToyasCard.lean, 'card_holds'). Laid BY PROGRAM, IN A SANDBOX (cutbox-door.mjs). By AI agents, Wed Nov 11 2026. No macro, syntax, notation, axiom, sorry.
-/
import Derived.Test.YthofgbkmmedjnaaDoorRows
import GoSem.ClaimSeven
namespace Go.Proofs.YthofgbkmmedjnaaDoor
namespace Rows

/-- THE TIED CARD OF 'exegetelaw04.GramParses'. -/
def gramParsesCard : Claim7 := { stood := { row := gramParsesRow, standIns := [], harness := (true, "925ad60cf18809a5a5d9fdff27022ab2c7bf4db5dce8f338158dd9810a6873c1"), looks := true }, kinds := [], alts := [], laidByText := true, laidKinds := [.data, .pinned], laidTests := true, laidLooks := .later }
def GramParsesCardSaid : Prop := Claim7.holds Tryd.pinned (.plain (OpenSpec.ofChange gramParsesSpec)) gramParsesCard

/-- THE TIED CARD OF 'exegetelaw04.GramErrors'. -/
def gramErrorsCard : Claim7 := { stood := { row := gramErrorsRow, standIns := [], harness := (true, "925ad60cf18809a5a5d9fdff27022ab2c7bf4db5dce8f338158dd9810a6873c1"), looks := true }, kinds := [], alts := [], laidByText := true, laidKinds := [.data, .pinned], laidTests := true, laidLooks := .later }
def GramErrorsCardSaid : Prop := Claim7.holds Tryd.pinned (.plain (OpenSpec.ofChange gramErrorsSpec)) gramErrorsCard

/-- THE TIED CARD OF 'exegetelaw04.GramLimits'. -/
def gramLimitsCard : Claim7 := { stood := { row := gramLimitsRow, standIns := [], harness := (true, "925ad60cf18809a5a5d9fdff27022ab2c7bf4db5dce8f338158dd9810a6873c1"), looks := true }, kinds := [], alts := [], laidByText := true, laidKinds := [.data, .pinned], laidTests := true, laidLooks := .later }
def GramLimitsCardSaid : Prop := Claim7.holds Tryd.pinned (.plain (OpenSpec.ofChange gramLimitsSpec)) gramLimitsCard

/-- THE TIED CARD OF 'exegetelaw04.GramForms'. -/
def gramFormsCard : Claim7 := { stood := { row := gramFormsRow, standIns := [], harness := (true, "925ad60cf18809a5a5d9fdff27022ab2c7bf4db5dce8f338158dd9810a6873c1"), looks := true }, kinds := [], alts := [], laidByText := true, laidKinds := [.data, .pinned], laidTests := true, laidLooks := .later }
def GramFormsCardSaid : Prop := Claim7.holds Tryd.pinned (.plain (OpenSpec.ofChange gramFormsSpec)) gramFormsCard

/-- THE SECOND FORM's CARD OF 'exegetelaw04.GramParses'. -/
def gramParsesUptoCard : Claim7 := { stood := { row := gramParsesUptoRow, standIns := [], harness := (true, "925ad60cf18809a5a5d9fdff27022ab2c7bf4db5dce8f338158dd9810a6873c1"), looks := true }, kinds := [], alts := [], laidByText := true, laidKinds := [.data, .pinned], laidTests := true, laidLooks := .later }
def GramParsesUptoCardSaid : Prop := Claim7.holds Tryd.pinned (.plain (OpenSpec.upto gramParsesSpec)) gramParsesUptoCard

/-- THE SECOND FORM's CARD OF 'exegetelaw04.GramErrors'. -/
def gramErrorsUptoCard : Claim7 := { stood := { row := gramErrorsUptoRow, standIns := [], harness := (true, "925ad60cf18809a5a5d9fdff27022ab2c7bf4db5dce8f338158dd9810a6873c1"), looks := true }, kinds := [], alts := [], laidByText := true, laidKinds := [.data, .pinned], laidTests := true, laidLooks := .later }
def GramErrorsUptoCardSaid : Prop := Claim7.holds Tryd.pinned (.plain (OpenSpec.upto gramErrorsSpec)) gramErrorsUptoCard

/-- THE SECOND FORM's CARD OF 'exegetelaw04.GramLimits'. -/
def gramLimitsUptoCard : Claim7 := { stood := { row := gramLimitsUptoRow, standIns := [], harness := (true, "925ad60cf18809a5a5d9fdff27022ab2c7bf4db5dce8f338158dd9810a6873c1"), looks := true }, kinds := [], alts := [], laidByText := true, laidKinds := [.data, .pinned], laidTests := true, laidLooks := .later }
def GramLimitsUptoCardSaid : Prop := Claim7.holds Tryd.pinned (.plain (OpenSpec.upto gramLimitsSpec)) gramLimitsUptoCard

/-- THE SECOND FORM's CARD OF 'exegetelaw04.GramForms'. -/
def gramFormsUptoCard : Claim7 := { stood := { row := gramFormsUptoRow, standIns := [], harness := (true, "925ad60cf18809a5a5d9fdff27022ab2c7bf4db5dce8f338158dd9810a6873c1"), looks := true }, kinds := [], alts := [], laidByText := true, laidKinds := [.data, .pinned], laidTests := true, laidLooks := .later }
def GramFormsUptoCardSaid : Prop := Claim7.holds Tryd.pinned (.plain (OpenSpec.upto gramFormsSpec)) gramFormsUptoCard
end Rows
end Go.Proofs.YthofgbkmmedjnaaDoor
