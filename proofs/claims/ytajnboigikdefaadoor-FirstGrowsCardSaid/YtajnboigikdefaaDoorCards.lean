/-
  DERIVED. GIVEN WITH THE SEED: THE CARDS: each row of YtajnboigikdefaaDoorRows.lean that lists a variable, with what it lists TIED to the program's text (the seventh form; the later family's looks); each row that meets fmt, with fmt's text TOLD by the authors' own Lean function (tested against real Go, not proved from fmt's source: count such statements apart). THE CARD IS WHAT COUNTS. Prove the row's statement (the work); the ties are given (YtajnboigikdefaaDoorTie.lean); close each card by the builder's one call (the guide's Derived/Test/ToyasCard.lean, 'card_holds'). Laid BY PROGRAM, IN A SANDBOX (cutbox-door.mjs). By AI agents, Wed Nov 11 2026. No macro, syntax, notation, axiom, sorry.
-/
import Derived.Test.YtajnboigikdefaaDoorRows
import GoSem.ClaimSeven
namespace Go.Proofs.YtajnboigikdefaaDoor
namespace Rows

/-- THE TIED CARD OF 'exegetelaw05.ReachWords'. -/
def reachWordsCard : Claim7 := { stood := { row := reachWordsRow, standIns := [], harness := (true, "30a16bf2f69a729a61f31ad759a18cfc5a8c3c19156a10b6dc16e0f4b39ca561"), looks := false }, kinds := [], alts := [], laidByText := true, laidKinds := [.data, .pinned], laidTests := true, laidLooks := .later }
def ReachWordsCardSaid : Prop := Claim7.holds Tryd.pinned (.plain (OpenSpec.ofChange reachWordsSpec)) reachWordsCard

/-- THE TIED CARD OF 'exegetelaw05.ReachTells'. -/
def reachTellsCard : Claim7 := { stood := { row := reachTellsRow, standIns := [], harness := (true, "30a16bf2f69a729a61f31ad759a18cfc5a8c3c19156a10b6dc16e0f4b39ca561"), looks := false }, kinds := [], alts := [], laidByText := true, laidKinds := [.data, .pinned], laidTests := true, laidLooks := .later }
def ReachTellsCardSaid : Prop := Claim7.holds Tryd.pinned (.plain (OpenSpec.ofChange reachTellsSpec)) reachTellsCard

/-- THE TIED CARD OF 'exegetelaw05.ReachMore'. -/
def reachMoreCard : Claim7 := { stood := { row := reachMoreRow, standIns := [], harness := (true, "30a16bf2f69a729a61f31ad759a18cfc5a8c3c19156a10b6dc16e0f4b39ca561"), looks := false }, kinds := [], alts := [], laidByText := true, laidKinds := [.data, .pinned], laidTests := true, laidLooks := .later }
def ReachMoreCardSaid : Prop := Claim7.holds Tryd.pinned (.plain (OpenSpec.ofChange reachMoreSpec)) reachMoreCard

/-- THE TIED CARD OF 'exegetelaw05.ReachHolds'. -/
def reachHoldsCard : Claim7 := { stood := { row := reachHoldsRow, standIns := [], harness := (true, "30a16bf2f69a729a61f31ad759a18cfc5a8c3c19156a10b6dc16e0f4b39ca561"), looks := false }, kinds := [], alts := [], laidByText := true, laidKinds := [.data, .pinned], laidTests := true, laidLooks := .later }
def ReachHoldsCardSaid : Prop := Claim7.holds Tryd.pinned (.plain (OpenSpec.ofChange reachHoldsSpec)) reachHoldsCard

/-- THE TIED CARD OF 'exegetelaw06.FirstWords'. -/
def firstWordsCard : Claim7 := { stood := { row := firstWordsRow, standIns := [], harness := (true, "30a16bf2f69a729a61f31ad759a18cfc5a8c3c19156a10b6dc16e0f4b39ca561"), looks := false }, kinds := [], alts := [], laidByText := true, laidKinds := [.data, .pinned], laidTests := true, laidLooks := .later }
def FirstWordsCardSaid : Prop := Claim7.holds Tryd.pinned (.plain (OpenSpec.ofChange firstWordsSpec)) firstWordsCard

/-- THE TIED CARD OF 'exegetelaw06.FirstGrows'. -/
def firstGrowsCard : Claim7 := { stood := { row := firstGrowsRow, standIns := [], harness := (true, "30a16bf2f69a729a61f31ad759a18cfc5a8c3c19156a10b6dc16e0f4b39ca561"), looks := false }, kinds := [], alts := [], laidByText := true, laidKinds := [.data, .pinned], laidTests := true, laidLooks := .later }
def FirstGrowsCardSaid : Prop := Claim7.holds Tryd.pinned (.plain (OpenSpec.ofChange firstGrowsSpec)) firstGrowsCard

/-- THE TIED CARD OF 'exegetelaw06.FirstRows'. -/
def firstRowsCard : Claim7 := { stood := { row := firstRowsRow, standIns := [], harness := (true, "30a16bf2f69a729a61f31ad759a18cfc5a8c3c19156a10b6dc16e0f4b39ca561"), looks := false }, kinds := [], alts := [], laidByText := true, laidKinds := [.data, .pinned], laidTests := true, laidLooks := .later }
def FirstRowsCardSaid : Prop := Claim7.holds Tryd.pinned (.plain (OpenSpec.ofChange firstRowsSpec)) firstRowsCard

/-- THE TIED CARD OF 'exegetelaw06.FirstTells'. -/
def firstTellsCard : Claim7 := { stood := { row := firstTellsRow, standIns := [], harness := (true, "30a16bf2f69a729a61f31ad759a18cfc5a8c3c19156a10b6dc16e0f4b39ca561"), looks := false }, kinds := [], alts := [], laidByText := true, laidKinds := [.data, .pinned], laidTests := true, laidLooks := .later }
def FirstTellsCardSaid : Prop := Claim7.holds Tryd.pinned (.plain (OpenSpec.ofChange firstTellsSpec)) firstTellsCard

/-- THE TIED CARD OF 'exegetelaw07.WordTells'. -/
def wordTellsCard : Claim7 := { stood := { row := wordTellsRow, standIns := [], harness := (true, "30a16bf2f69a729a61f31ad759a18cfc5a8c3c19156a10b6dc16e0f4b39ca561"), looks := false }, kinds := [], alts := [], laidByText := true, laidKinds := [.data, .pinned], laidTests := true, laidLooks := .later }
def WordTellsCardSaid : Prop := Claim7.holds Tryd.pinned (.plain (OpenSpec.ofChange wordTellsSpec)) wordTellsCard

/-- THE TIED CARD OF 'exegetelaw07.WordLeast'. -/
def wordLeastCard : Claim7 := { stood := { row := wordLeastRow, standIns := [], harness := (true, "30a16bf2f69a729a61f31ad759a18cfc5a8c3c19156a10b6dc16e0f4b39ca561"), looks := false }, kinds := [], alts := [], laidByText := true, laidKinds := [.data, .pinned], laidTests := true, laidLooks := .later }
def WordLeastCardSaid : Prop := Claim7.holds Tryd.pinned (.plain (OpenSpec.ofChange wordLeastSpec)) wordLeastCard

/-- THE TIED CARD OF 'exegetelaw07.WordParts'. -/
def wordPartsCard : Claim7 := { stood := { row := wordPartsRow, standIns := [], harness := (true, "30a16bf2f69a729a61f31ad759a18cfc5a8c3c19156a10b6dc16e0f4b39ca561"), looks := false }, kinds := [], alts := [], laidByText := true, laidKinds := [.data, .pinned], laidTests := true, laidLooks := .later }
def WordPartsCardSaid : Prop := Claim7.holds Tryd.pinned (.plain (OpenSpec.ofChange wordPartsSpec)) wordPartsCard

/-- THE SECOND FORM's CARD OF 'exegetelaw05.ReachWords'. -/
def reachWordsUptoCard : Claim7 := { stood := { row := reachWordsUptoRow, standIns := [], harness := (true, "30a16bf2f69a729a61f31ad759a18cfc5a8c3c19156a10b6dc16e0f4b39ca561"), looks := false }, kinds := [], alts := [], laidByText := true, laidKinds := [.data, .pinned], laidTests := true, laidLooks := .later }
def ReachWordsUptoCardSaid : Prop := Claim7.holds Tryd.pinned (.plain (OpenSpec.upto reachWordsSpec)) reachWordsUptoCard

/-- THE SECOND FORM's CARD OF 'exegetelaw05.ReachTells'. -/
def reachTellsUptoCard : Claim7 := { stood := { row := reachTellsUptoRow, standIns := [], harness := (true, "30a16bf2f69a729a61f31ad759a18cfc5a8c3c19156a10b6dc16e0f4b39ca561"), looks := false }, kinds := [], alts := [], laidByText := true, laidKinds := [.data, .pinned], laidTests := true, laidLooks := .later }
def ReachTellsUptoCardSaid : Prop := Claim7.holds Tryd.pinned (.plain (OpenSpec.upto reachTellsSpec)) reachTellsUptoCard

/-- THE SECOND FORM's CARD OF 'exegetelaw05.ReachMore'. -/
def reachMoreUptoCard : Claim7 := { stood := { row := reachMoreUptoRow, standIns := [], harness := (true, "30a16bf2f69a729a61f31ad759a18cfc5a8c3c19156a10b6dc16e0f4b39ca561"), looks := false }, kinds := [], alts := [], laidByText := true, laidKinds := [.data, .pinned], laidTests := true, laidLooks := .later }
def ReachMoreUptoCardSaid : Prop := Claim7.holds Tryd.pinned (.plain (OpenSpec.upto reachMoreSpec)) reachMoreUptoCard

/-- THE SECOND FORM's CARD OF 'exegetelaw05.ReachHolds'. -/
def reachHoldsUptoCard : Claim7 := { stood := { row := reachHoldsUptoRow, standIns := [], harness := (true, "30a16bf2f69a729a61f31ad759a18cfc5a8c3c19156a10b6dc16e0f4b39ca561"), looks := false }, kinds := [], alts := [], laidByText := true, laidKinds := [.data, .pinned], laidTests := true, laidLooks := .later }
def ReachHoldsUptoCardSaid : Prop := Claim7.holds Tryd.pinned (.plain (OpenSpec.upto reachHoldsSpec)) reachHoldsUptoCard

/-- THE SECOND FORM's CARD OF 'exegetelaw06.FirstWords'. -/
def firstWordsUptoCard : Claim7 := { stood := { row := firstWordsUptoRow, standIns := [], harness := (true, "30a16bf2f69a729a61f31ad759a18cfc5a8c3c19156a10b6dc16e0f4b39ca561"), looks := false }, kinds := [], alts := [], laidByText := true, laidKinds := [.data, .pinned], laidTests := true, laidLooks := .later }
def FirstWordsUptoCardSaid : Prop := Claim7.holds Tryd.pinned (.plain (OpenSpec.upto firstWordsSpec)) firstWordsUptoCard

/-- THE SECOND FORM's CARD OF 'exegetelaw06.FirstGrows'. -/
def firstGrowsUptoCard : Claim7 := { stood := { row := firstGrowsUptoRow, standIns := [], harness := (true, "30a16bf2f69a729a61f31ad759a18cfc5a8c3c19156a10b6dc16e0f4b39ca561"), looks := false }, kinds := [], alts := [], laidByText := true, laidKinds := [.data, .pinned], laidTests := true, laidLooks := .later }
def FirstGrowsUptoCardSaid : Prop := Claim7.holds Tryd.pinned (.plain (OpenSpec.upto firstGrowsSpec)) firstGrowsUptoCard

/-- THE SECOND FORM's CARD OF 'exegetelaw06.FirstRows'. -/
def firstRowsUptoCard : Claim7 := { stood := { row := firstRowsUptoRow, standIns := [], harness := (true, "30a16bf2f69a729a61f31ad759a18cfc5a8c3c19156a10b6dc16e0f4b39ca561"), looks := false }, kinds := [], alts := [], laidByText := true, laidKinds := [.data, .pinned], laidTests := true, laidLooks := .later }
def FirstRowsUptoCardSaid : Prop := Claim7.holds Tryd.pinned (.plain (OpenSpec.upto firstRowsSpec)) firstRowsUptoCard

/-- THE SECOND FORM's CARD OF 'exegetelaw06.FirstTells'. -/
def firstTellsUptoCard : Claim7 := { stood := { row := firstTellsUptoRow, standIns := [], harness := (true, "30a16bf2f69a729a61f31ad759a18cfc5a8c3c19156a10b6dc16e0f4b39ca561"), looks := false }, kinds := [], alts := [], laidByText := true, laidKinds := [.data, .pinned], laidTests := true, laidLooks := .later }
def FirstTellsUptoCardSaid : Prop := Claim7.holds Tryd.pinned (.plain (OpenSpec.upto firstTellsSpec)) firstTellsUptoCard

/-- THE SECOND FORM's CARD OF 'exegetelaw07.WordTells'. -/
def wordTellsUptoCard : Claim7 := { stood := { row := wordTellsUptoRow, standIns := [], harness := (true, "30a16bf2f69a729a61f31ad759a18cfc5a8c3c19156a10b6dc16e0f4b39ca561"), looks := false }, kinds := [], alts := [], laidByText := true, laidKinds := [.data, .pinned], laidTests := true, laidLooks := .later }
def WordTellsUptoCardSaid : Prop := Claim7.holds Tryd.pinned (.plain (OpenSpec.upto wordTellsSpec)) wordTellsUptoCard

/-- THE SECOND FORM's CARD OF 'exegetelaw07.WordLeast'. -/
def wordLeastUptoCard : Claim7 := { stood := { row := wordLeastUptoRow, standIns := [], harness := (true, "30a16bf2f69a729a61f31ad759a18cfc5a8c3c19156a10b6dc16e0f4b39ca561"), looks := false }, kinds := [], alts := [], laidByText := true, laidKinds := [.data, .pinned], laidTests := true, laidLooks := .later }
def WordLeastUptoCardSaid : Prop := Claim7.holds Tryd.pinned (.plain (OpenSpec.upto wordLeastSpec)) wordLeastUptoCard

/-- THE SECOND FORM's CARD OF 'exegetelaw07.WordParts'. -/
def wordPartsUptoCard : Claim7 := { stood := { row := wordPartsUptoRow, standIns := [], harness := (true, "30a16bf2f69a729a61f31ad759a18cfc5a8c3c19156a10b6dc16e0f4b39ca561"), looks := false }, kinds := [], alts := [], laidByText := true, laidKinds := [.data, .pinned], laidTests := true, laidLooks := .later }
def WordPartsUptoCardSaid : Prop := Claim7.holds Tryd.pinned (.plain (OpenSpec.upto wordPartsSpec)) wordPartsUptoCard
end Rows
end Go.Proofs.YtajnboigikdefaaDoor
