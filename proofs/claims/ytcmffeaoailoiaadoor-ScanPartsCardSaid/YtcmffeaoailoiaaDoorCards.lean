/-
  DERIVED. GIVEN WITH THE SEED: THE CARDS: each row of YtcmffeaoailoiaaDoorRows.lean that lists a variable, with what it lists TIED to the program's text (the seventh form; the later family's looks); each row that meets fmt, with fmt's text TOLD by the authors' own Lean function (tested against real Go, not proved from fmt's source: count such statements apart). THE CARD IS WHAT COUNTS. Prove the row's statement (the work); the ties are given (YtcmffeaoailoiaaDoorTie.lean); close each card by the builder's one call (the guide's Derived/Test/ToyasCard.lean, 'card_holds'). Laid BY PROGRAM, IN A SANDBOX (cutbox-door.mjs). By AI agents, Wed Nov 11 2026. No macro, syntax, notation, axiom, sorry.
-/
import Derived.Test.YtcmffeaoailoiaaDoorRows
import GoSem.ClaimSeven
namespace Go.Proofs.YtcmffeaoailoiaaDoor
namespace Rows

/-- THE TIED CARD OF 'exegetelaw03.ScanForms'. -/
def scanFormsCard : Claim7 := { stood := { row := scanFormsRow, standIns := [], harness := (true, "8120986591a741832fab80dc9bb77c9ae86c0d9fd968ca87ac16b69523a2de31"), looks := false }, kinds := [], alts := [], laidByText := true, laidKinds := [.data, .pinned], laidTests := true, laidLooks := .later }
def ScanFormsCardSaid : Prop := Claim7.holds Tryd.pinned (.plain (OpenSpec.ofChange scanFormsSpec)) scanFormsCard

/-- THE TIED CARD OF 'exegetelaw03.ScanErrors'. -/
def scanErrorsCard : Claim7 := { stood := { row := scanErrorsRow, standIns := [], harness := (true, "8120986591a741832fab80dc9bb77c9ae86c0d9fd968ca87ac16b69523a2de31"), looks := false }, kinds := [], alts := [], laidByText := true, laidKinds := [.data, .pinned], laidTests := true, laidLooks := .later }
def ScanErrorsCardSaid : Prop := Claim7.holds Tryd.pinned (.plain (OpenSpec.ofChange scanErrorsSpec)) scanErrorsCard

/-- THE TIED CARD OF 'exegetelaw03.ScanTells'. -/
def scanTellsCard : Claim7 := { stood := { row := scanTellsRow, standIns := [], harness := (true, "8120986591a741832fab80dc9bb77c9ae86c0d9fd968ca87ac16b69523a2de31"), looks := false }, kinds := [], alts := [], laidByText := true, laidKinds := [.data, .pinned], laidTests := true, laidLooks := .later }
def ScanTellsCardSaid : Prop := Claim7.holds Tryd.pinned (.plain (OpenSpec.ofChange scanTellsSpec)) scanTellsCard

/-- THE TIED CARD OF 'exegetelaw03.ScanParts'. -/
def scanPartsCard : Claim7 := { stood := { row := scanPartsRow, standIns := [], harness := (true, "8120986591a741832fab80dc9bb77c9ae86c0d9fd968ca87ac16b69523a2de31"), looks := false }, kinds := [], alts := [], laidByText := true, laidKinds := [.data, .pinned], laidTests := true, laidLooks := .later }
def ScanPartsCardSaid : Prop := Claim7.holds Tryd.pinned (.plain (OpenSpec.ofChange scanPartsSpec)) scanPartsCard

/-- THE SECOND FORM's CARD OF 'exegetelaw03.ScanForms'. -/
def scanFormsUptoCard : Claim7 := { stood := { row := scanFormsUptoRow, standIns := [], harness := (true, "8120986591a741832fab80dc9bb77c9ae86c0d9fd968ca87ac16b69523a2de31"), looks := false }, kinds := [], alts := [], laidByText := true, laidKinds := [.data, .pinned], laidTests := true, laidLooks := .later }
def ScanFormsUptoCardSaid : Prop := Claim7.holds Tryd.pinned (.plain (OpenSpec.upto scanFormsSpec)) scanFormsUptoCard

/-- THE SECOND FORM's CARD OF 'exegetelaw03.ScanErrors'. -/
def scanErrorsUptoCard : Claim7 := { stood := { row := scanErrorsUptoRow, standIns := [], harness := (true, "8120986591a741832fab80dc9bb77c9ae86c0d9fd968ca87ac16b69523a2de31"), looks := false }, kinds := [], alts := [], laidByText := true, laidKinds := [.data, .pinned], laidTests := true, laidLooks := .later }
def ScanErrorsUptoCardSaid : Prop := Claim7.holds Tryd.pinned (.plain (OpenSpec.upto scanErrorsSpec)) scanErrorsUptoCard

/-- THE SECOND FORM's CARD OF 'exegetelaw03.ScanTells'. -/
def scanTellsUptoCard : Claim7 := { stood := { row := scanTellsUptoRow, standIns := [], harness := (true, "8120986591a741832fab80dc9bb77c9ae86c0d9fd968ca87ac16b69523a2de31"), looks := false }, kinds := [], alts := [], laidByText := true, laidKinds := [.data, .pinned], laidTests := true, laidLooks := .later }
def ScanTellsUptoCardSaid : Prop := Claim7.holds Tryd.pinned (.plain (OpenSpec.upto scanTellsSpec)) scanTellsUptoCard

/-- THE SECOND FORM's CARD OF 'exegetelaw03.ScanParts'. -/
def scanPartsUptoCard : Claim7 := { stood := { row := scanPartsUptoRow, standIns := [], harness := (true, "8120986591a741832fab80dc9bb77c9ae86c0d9fd968ca87ac16b69523a2de31"), looks := false }, kinds := [], alts := [], laidByText := true, laidKinds := [.data, .pinned], laidTests := true, laidLooks := .later }
def ScanPartsUptoCardSaid : Prop := Claim7.holds Tryd.pinned (.plain (OpenSpec.upto scanPartsSpec)) scanPartsUptoCard
end Rows
end Go.Proofs.YtcmffeaoailoiaaDoor
