/-
  DERIVED. GIVEN WITH THE SEED: THE CARDS: each row of YthofgbkmmedjnaaGreatDoorRows.lean that lists a variable, with what it lists TIED to the program's text (the seventh form; the later family's looks); each row that meets fmt, with fmt's text TOLD by the authors' own Lean function (tested against real Go, not proved from fmt's source: count such statements apart). THE CARD IS WHAT COUNTS. Prove the row's statement (the work); the ties are given (YthofgbkmmedjnaaGreatDoorTie.lean); close each card by the builder's one call (the guide's Derived/Test/ToyasCard.lean, 'card_holds'). Laid BY PROGRAM, IN A SANDBOX (cutbox-door.mjs). By AI agents, Wed Nov 11 2026. No macro, syntax, notation, axiom, sorry.
-/
import Derived.Test.YthofgbkmmedjnaaGreatDoorRows
import GoSem.ClaimSeven
namespace Go.Proofs.YthofgbkmmedjnaaGreatDoor
namespace Rows

/-- THE TIED CARD OF 'exegetelaw04.GramChecks'. -/
def gramChecksCard : Claim7 := { stood := { row := gramChecksRow, standIns := [], harness := (true, "04d104ed781863b84d9b4a2dc5e2c38f3e9558a3cc8b5f6747c4513f39759f04"), looks := true }, kinds := [], alts := [], laidByText := true, laidKinds := [.data, .pinned], laidTests := true, laidLooks := .later }
def GramChecksCardSaid : Prop := Claim7.holds Tryz.pinned (.plain (OpenSpec.ofChange gramChecksSpec)) gramChecksCard

/-- THE TIED CARD OF 'exegetelaw04.GramBack'. -/
def gramBackCard : Claim7 := { stood := { row := gramBackRow, standIns := [], harness := (true, "04d104ed781863b84d9b4a2dc5e2c38f3e9558a3cc8b5f6747c4513f39759f04"), looks := true }, kinds := [], alts := [], laidByText := true, laidKinds := [.data, .pinned], laidTests := true, laidLooks := .later }
def GramBackCardSaid : Prop := Claim7.holds Tryz.pinned (.plain (OpenSpec.ofChange gramBackSpec)) gramBackCard

/-- THE TIED CARD OF 'exegetelaw04.GramPrints'. -/
def gramPrintsCard : Claim7 := { stood := { row := gramPrintsRow, standIns := [], harness := (true, "04d104ed781863b84d9b4a2dc5e2c38f3e9558a3cc8b5f6747c4513f39759f04"), looks := true }, kinds := [], alts := [], laidByText := true, laidKinds := [.data, .pinned], laidTests := true, laidLooks := .later }
def GramPrintsCardSaid : Prop := Claim7.holds Tryz.pinned (.plain (OpenSpec.ofChange gramPrintsSpec)) gramPrintsCard

/-- THE SECOND FORM's CARD OF 'exegetelaw04.GramChecks'. -/
def gramChecksUptoCard : Claim7 := { stood := { row := gramChecksUptoRow, standIns := [], harness := (true, "04d104ed781863b84d9b4a2dc5e2c38f3e9558a3cc8b5f6747c4513f39759f04"), looks := true }, kinds := [], alts := [], laidByText := true, laidKinds := [.data, .pinned], laidTests := true, laidLooks := .later }
def GramChecksUptoCardSaid : Prop := Claim7.holds Tryz.pinned (.plain (OpenSpec.upto gramChecksSpec)) gramChecksUptoCard

/-- THE SECOND FORM's CARD OF 'exegetelaw04.GramBack'. -/
def gramBackUptoCard : Claim7 := { stood := { row := gramBackUptoRow, standIns := [], harness := (true, "04d104ed781863b84d9b4a2dc5e2c38f3e9558a3cc8b5f6747c4513f39759f04"), looks := true }, kinds := [], alts := [], laidByText := true, laidKinds := [.data, .pinned], laidTests := true, laidLooks := .later }
def GramBackUptoCardSaid : Prop := Claim7.holds Tryz.pinned (.plain (OpenSpec.upto gramBackSpec)) gramBackUptoCard

/-- THE SECOND FORM's CARD OF 'exegetelaw04.GramPrints'. -/
def gramPrintsUptoCard : Claim7 := { stood := { row := gramPrintsUptoRow, standIns := [], harness := (true, "04d104ed781863b84d9b4a2dc5e2c38f3e9558a3cc8b5f6747c4513f39759f04"), looks := true }, kinds := [], alts := [], laidByText := true, laidKinds := [.data, .pinned], laidTests := true, laidLooks := .later }
def GramPrintsUptoCardSaid : Prop := Claim7.holds Tryz.pinned (.plain (OpenSpec.upto gramPrintsSpec)) gramPrintsUptoCard
end Rows
end Go.Proofs.YthofgbkmmedjnaaGreatDoor
