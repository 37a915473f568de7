/-
  DERIVED. GIVEN WITH THE SEED: THE CARDS: each row of YtiaimendiblgfaaDoorRows.lean that lists a variable, with what it lists TIED to the program's text (the seventh form; the later family's looks); each row that meets fmt, with fmt's text TOLD by the authors' own Lean function (tested against real Go, not proved from fmt's source: count such statements apart). THE CARD IS WHAT COUNTS. Prove the row's statement (the work); the ties are given (YtiaimendiblgfaaDoorTie.lean); close each card by the builder's one call (the guide's Derived/Test/ToyasCard.lean, 'card_holds'). Laid BY PROGRAM, IN A SANDBOX (cutbox-door.mjs). By AI agents, Wed Nov 11 2026. No macro, syntax, notation, axiom, sorry.
-/
import Derived.Test.YtiaimendiblgfaaDoorRows
import GoSem.ClaimSeven
namespace Go.Proofs.YtiaimendiblgfaaDoor
namespace Rows

/-- THE TIED CARD OF 'exegetelaw07.WordOrder'. -/
def wordOrderCard : Claim7 := { stood := { row := wordOrderRow, standIns := [], harness := (true, "c1c81136b48fcebe421a88268b05112b632a7b0c0071306bacc62c5dc4e3f09f"), looks := false }, kinds := [], alts := [], laidByText := true, laidKinds := [.data, .pinned], laidTests := true, laidLooks := .later }
def WordOrderCardSaid : Prop := Claim7.holds Tryd.pinned (.plain (OpenSpec.ofChange wordOrderSpec)) wordOrderCard

/-- THE TIED CARD OF 'exegetelaw07.WordForms'. -/
def wordFormsCard : Claim7 := { stood := { row := wordFormsRow, standIns := [], harness := (true, "c1c81136b48fcebe421a88268b05112b632a7b0c0071306bacc62c5dc4e3f09f"), looks := false }, kinds := [], alts := [], laidByText := true, laidKinds := [.data, .pinned], laidTests := true, laidLooks := .later }
def WordFormsCardSaid : Prop := Claim7.holds Tryd.pinned (.plain (OpenSpec.ofChange wordFormsSpec)) wordFormsCard

/-- THE TIED CARD OF 'exegetelaw07.WordDeep'. -/
def wordDeepCard : Claim7 := { stood := { row := wordDeepRow, standIns := [], harness := (true, "c1c81136b48fcebe421a88268b05112b632a7b0c0071306bacc62c5dc4e3f09f"), looks := false }, kinds := [], alts := [], laidByText := true, laidKinds := [.data, .pinned], laidTests := true, laidLooks := .later }
def WordDeepCardSaid : Prop := Claim7.holds Tryd.pinned (.plain (OpenSpec.ofChange wordDeepSpec)) wordDeepCard

/-- THE TIED CARD OF 'exegetelaw07.WordTells'. -/
def wordTellsCard : Claim7 := { stood := { row := wordTellsRow, standIns := [], harness := (true, "c1c81136b48fcebe421a88268b05112b632a7b0c0071306bacc62c5dc4e3f09f"), looks := false }, kinds := [], alts := [], laidByText := true, laidKinds := [.data, .pinned], laidTests := true, laidLooks := .later }
def WordTellsCardSaid : Prop := Claim7.holds Tryd.pinned (.plain (OpenSpec.ofChange wordTellsSpec)) wordTellsCard

/-- THE TIED CARD OF 'exegetelaw07.WordLeast'. -/
def wordLeastCard : Claim7 := { stood := { row := wordLeastRow, standIns := [], harness := (true, "c1c81136b48fcebe421a88268b05112b632a7b0c0071306bacc62c5dc4e3f09f"), looks := false }, kinds := [], alts := [], laidByText := true, laidKinds := [.data, .pinned], laidTests := true, laidLooks := .later }
def WordLeastCardSaid : Prop := Claim7.holds Tryd.pinned (.plain (OpenSpec.ofChange wordLeastSpec)) wordLeastCard

/-- THE TIED CARD OF 'exegetelaw07.WordParts'. -/
def wordPartsCard : Claim7 := { stood := { row := wordPartsRow, standIns := [], harness := (true, "c1c81136b48fcebe421a88268b05112b632a7b0c0071306bacc62c5dc4e3f09f"), looks := false }, kinds := [], alts := [], laidByText := true, laidKinds := [.data, .pinned], laidTests := true, laidLooks := .later }
def WordPartsCardSaid : Prop := Claim7.holds Tryd.pinned (.plain (OpenSpec.ofChange wordPartsSpec)) wordPartsCard

/-- THE SECOND FORM's CARD OF 'exegetelaw07.WordOrder'. -/
def wordOrderUptoCard : Claim7 := { stood := { row := wordOrderUptoRow, standIns := [], harness := (true, "c1c81136b48fcebe421a88268b05112b632a7b0c0071306bacc62c5dc4e3f09f"), looks := false }, kinds := [], alts := [], laidByText := true, laidKinds := [.data, .pinned], laidTests := true, laidLooks := .later }
def WordOrderUptoCardSaid : Prop := Claim7.holds Tryd.pinned (.plain (OpenSpec.upto wordOrderSpec)) wordOrderUptoCard

/-- THE SECOND FORM's CARD OF 'exegetelaw07.WordForms'. -/
def wordFormsUptoCard : Claim7 := { stood := { row := wordFormsUptoRow, standIns := [], harness := (true, "c1c81136b48fcebe421a88268b05112b632a7b0c0071306bacc62c5dc4e3f09f"), looks := false }, kinds := [], alts := [], laidByText := true, laidKinds := [.data, .pinned], laidTests := true, laidLooks := .later }
def WordFormsUptoCardSaid : Prop := Claim7.holds Tryd.pinned (.plain (OpenSpec.upto wordFormsSpec)) wordFormsUptoCard

/-- THE SECOND FORM's CARD OF 'exegetelaw07.WordDeep'. -/
def wordDeepUptoCard : Claim7 := { stood := { row := wordDeepUptoRow, standIns := [], harness := (true, "c1c81136b48fcebe421a88268b05112b632a7b0c0071306bacc62c5dc4e3f09f"), looks := false }, kinds := [], alts := [], laidByText := true, laidKinds := [.data, .pinned], laidTests := true, laidLooks := .later }
def WordDeepUptoCardSaid : Prop := Claim7.holds Tryd.pinned (.plain (OpenSpec.upto wordDeepSpec)) wordDeepUptoCard

/-- THE SECOND FORM's CARD OF 'exegetelaw07.WordTells'. -/
def wordTellsUptoCard : Claim7 := { stood := { row := wordTellsUptoRow, standIns := [], harness := (true, "c1c81136b48fcebe421a88268b05112b632a7b0c0071306bacc62c5dc4e3f09f"), looks := false }, kinds := [], alts := [], laidByText := true, laidKinds := [.data, .pinned], laidTests := true, laidLooks := .later }
def WordTellsUptoCardSaid : Prop := Claim7.holds Tryd.pinned (.plain (OpenSpec.upto wordTellsSpec)) wordTellsUptoCard

/-- THE SECOND FORM's CARD OF 'exegetelaw07.WordLeast'. -/
def wordLeastUptoCard : Claim7 := { stood := { row := wordLeastUptoRow, standIns := [], harness := (true, "c1c81136b48fcebe421a88268b05112b632a7b0c0071306bacc62c5dc4e3f09f"), looks := false }, kinds := [], alts := [], laidByText := true, laidKinds := [.data, .pinned], laidTests := true, laidLooks := .later }
def WordLeastUptoCardSaid : Prop := Claim7.holds Tryd.pinned (.plain (OpenSpec.upto wordLeastSpec)) wordLeastUptoCard

/-- THE SECOND FORM's CARD OF 'exegetelaw07.WordParts'. -/
def wordPartsUptoCard : Claim7 := { stood := { row := wordPartsUptoRow, standIns := [], harness := (true, "c1c81136b48fcebe421a88268b05112b632a7b0c0071306bacc62c5dc4e3f09f"), looks := false }, kinds := [], alts := [], laidByText := true, laidKinds := [.data, .pinned], laidTests := true, laidLooks := .later }
def WordPartsUptoCardSaid : Prop := Claim7.holds Tryd.pinned (.plain (OpenSpec.upto wordPartsSpec)) wordPartsUptoCard
end Rows
end Go.Proofs.YtiaimendiblgfaaDoor
