/-
  DERIVED. GIVEN WITH THE SEED: THE CARDS: each row of YthcikoecegiifaaDoorRows.lean that lists a variable, with what it lists TIED to the program's text (the seventh form; the later family's looks); each row that meets fmt, with fmt's text TOLD by the authors' own Lean function (tested against real Go, not proved from fmt's source: count such statements apart). THE CARD IS WHAT COUNTS. Prove the row's statement (the work); the ties are given (YthcikoecegiifaaDoorTie.lean); close each card by the builder's one call (the guide's Derived/Test/ToyasCard.lean, 'card_holds'). Laid BY PROGRAM, IN A SANDBOX (cutbox-door.mjs). By AI agents, Wed Nov 11 2026. No macro, syntax, notation, axiom, sorry.
-/
import Derived.Test.YthcikoecegiifaaDoorRows
import GoSem.ClaimSeven
namespace Go.Proofs.YthcikoecegiifaaDoor
namespace Rows

/-- THE TIED CARD OF 'exegetelaw02.SetLists'. -/
def setListsCard : Claim7 := { stood := { row := setListsRow, standIns := [], harness := (true, "2546ecc30f1c445ced551c7baa905d977051834299a09f21252d86631338ac94"), looks := false }, kinds := [], alts := [], laidByText := true, laidKinds := [.data], laidTests := true, laidLooks := .later }
def SetListsCardSaid : Prop := Claim7.holds Tryd.pinned (.plain (OpenSpec.ofChange setListsSpec)) setListsCard

/-- THE TIED CARD OF 'exegetelaw02.SetSplits'. -/
def setSplitsCard : Claim7 := { stood := { row := setSplitsRow, standIns := [], harness := (true, "2546ecc30f1c445ced551c7baa905d977051834299a09f21252d86631338ac94"), looks := false }, kinds := [], alts := [], laidByText := true, laidKinds := [.data], laidTests := true, laidLooks := .later }
def SetSplitsCardSaid : Prop := Claim7.holds Tryd.pinned (.plain (OpenSpec.ofChange setSplitsSpec)) setSplitsCard

/-- THE TIED CARD OF 'exegetelaw02.SetTells'. -/
def setTellsCard : Claim7 := { stood := { row := setTellsRow, standIns := [], harness := (true, "2546ecc30f1c445ced551c7baa905d977051834299a09f21252d86631338ac94"), looks := false }, kinds := [], alts := [], laidByText := true, laidKinds := [.data], laidTests := true, laidLooks := .later }
def SetTellsCardSaid : Prop := Claim7.holds Tryd.pinned (.plain (OpenSpec.ofChange setTellsSpec)) setTellsCard

/-- THE TIED CARD OF 'exegetelaw02.SetLaws'. -/
def setLawsCard : Claim7 := { stood := { row := setLawsRow, standIns := [], harness := (true, "2546ecc30f1c445ced551c7baa905d977051834299a09f21252d86631338ac94"), looks := false }, kinds := [], alts := [], laidByText := true, laidKinds := [.data], laidTests := true, laidLooks := .later }
def SetLawsCardSaid : Prop := Claim7.holds Tryd.pinned (.plain (OpenSpec.ofChange setLawsSpec)) setLawsCard

/-- THE SECOND FORM's CARD OF 'exegetelaw02.SetLists'. -/
def setListsUptoCard : Claim7 := { stood := { row := setListsUptoRow, standIns := [], harness := (true, "2546ecc30f1c445ced551c7baa905d977051834299a09f21252d86631338ac94"), looks := false }, kinds := [], alts := [], laidByText := true, laidKinds := [.data], laidTests := true, laidLooks := .later }
def SetListsUptoCardSaid : Prop := Claim7.holds Tryd.pinned (.plain (OpenSpec.upto setListsSpec)) setListsUptoCard

/-- THE SECOND FORM's CARD OF 'exegetelaw02.SetSplits'. -/
def setSplitsUptoCard : Claim7 := { stood := { row := setSplitsUptoRow, standIns := [], harness := (true, "2546ecc30f1c445ced551c7baa905d977051834299a09f21252d86631338ac94"), looks := false }, kinds := [], alts := [], laidByText := true, laidKinds := [.data], laidTests := true, laidLooks := .later }
def SetSplitsUptoCardSaid : Prop := Claim7.holds Tryd.pinned (.plain (OpenSpec.upto setSplitsSpec)) setSplitsUptoCard

/-- THE SECOND FORM's CARD OF 'exegetelaw02.SetTells'. -/
def setTellsUptoCard : Claim7 := { stood := { row := setTellsUptoRow, standIns := [], harness := (true, "2546ecc30f1c445ced551c7baa905d977051834299a09f21252d86631338ac94"), looks := false }, kinds := [], alts := [], laidByText := true, laidKinds := [.data], laidTests := true, laidLooks := .later }
def SetTellsUptoCardSaid : Prop := Claim7.holds Tryd.pinned (.plain (OpenSpec.upto setTellsSpec)) setTellsUptoCard

/-- THE SECOND FORM's CARD OF 'exegetelaw02.SetLaws'. -/
def setLawsUptoCard : Claim7 := { stood := { row := setLawsUptoRow, standIns := [], harness := (true, "2546ecc30f1c445ced551c7baa905d977051834299a09f21252d86631338ac94"), looks := false }, kinds := [], alts := [], laidByText := true, laidKinds := [.data], laidTests := true, laidLooks := .later }
def SetLawsUptoCardSaid : Prop := Claim7.holds Tryd.pinned (.plain (OpenSpec.upto setLawsSpec)) setLawsUptoCard
end Rows
end Go.Proofs.YthcikoecegiifaaDoor
