/-
  DERIVED. GIVEN WITH THE SEED: THE CARDS: each row of YtcilipbgkpejeaaDoorRows.lean that lists a variable, with what it lists TIED to the program's text (the seventh form; the later family's looks); each row that meets fmt, with fmt's text TOLD by the authors' own Lean function (tested against real Go, not proved from fmt's source: count such statements apart). THE CARD IS WHAT COUNTS. Prove the row's statement (the work); the ties are given (YtcilipbgkpejeaaDoorTie.lean); close each card by the builder's one call (the guide's Derived/Test/ToyasCard.lean, 'card_holds'). Laid BY PROGRAM, IN A SANDBOX (cutbox-door.mjs). By AI agents, Wed Nov 11 2026. No macro, syntax, notation, axiom, sorry.
-/
import Derived.Test.YtcilipbgkpejeaaDoorRows
import GoSem.ClaimSeven
namespace Go.Proofs.YtcilipbgkpejeaaDoor
namespace Rows

/-- THE TIED CARD OF 'exegetelaw05.ReachWords'. -/
def reachWordsCard : Claim7 := { stood := { row := reachWordsRow, standIns := [], harness := (true, "9613950a354133cd0d6ec3c6b2b851e5bb3fad6940d71cc02c68b1402c802890"), looks := false }, kinds := [], alts := [], laidByText := true, laidKinds := [.data, .pinned], laidTests := true, laidLooks := .later }
def ReachWordsCardSaid : Prop := Claim7.holds Tryd.pinned (.plain (OpenSpec.ofChange reachWordsSpec)) reachWordsCard

/-- THE TIED CARD OF 'exegetelaw05.ReachForms'. -/
def reachFormsCard : Claim7 := { stood := { row := reachFormsRow, standIns := [], harness := (true, "9613950a354133cd0d6ec3c6b2b851e5bb3fad6940d71cc02c68b1402c802890"), looks := false }, kinds := [], alts := [], laidByText := true, laidKinds := [.data, .pinned], laidTests := true, laidLooks := .later }
def ReachFormsCardSaid : Prop := Claim7.holds Tryd.pinned (.plain (OpenSpec.ofChange reachFormsSpec)) reachFormsCard

/-- THE TIED CARD OF 'exegetelaw05.ReachTells'. -/
def reachTellsCard : Claim7 := { stood := { row := reachTellsRow, standIns := [], harness := (true, "9613950a354133cd0d6ec3c6b2b851e5bb3fad6940d71cc02c68b1402c802890"), looks := false }, kinds := [], alts := [], laidByText := true, laidKinds := [.data, .pinned], laidTests := true, laidLooks := .later }
def ReachTellsCardSaid : Prop := Claim7.holds Tryd.pinned (.plain (OpenSpec.ofChange reachTellsSpec)) reachTellsCard

/-- THE TIED CARD OF 'exegetelaw05.ReachMore'. -/
def reachMoreCard : Claim7 := { stood := { row := reachMoreRow, standIns := [], harness := (true, "9613950a354133cd0d6ec3c6b2b851e5bb3fad6940d71cc02c68b1402c802890"), looks := false }, kinds := [], alts := [], laidByText := true, laidKinds := [.data, .pinned], laidTests := true, laidLooks := .later }
def ReachMoreCardSaid : Prop := Claim7.holds Tryd.pinned (.plain (OpenSpec.ofChange reachMoreSpec)) reachMoreCard

/-- THE TIED CARD OF 'exegetelaw05.ReachHolds'. -/
def reachHoldsCard : Claim7 := { stood := { row := reachHoldsRow, standIns := [], harness := (true, "9613950a354133cd0d6ec3c6b2b851e5bb3fad6940d71cc02c68b1402c802890"), looks := false }, kinds := [], alts := [], laidByText := true, laidKinds := [.data, .pinned], laidTests := true, laidLooks := .later }
def ReachHoldsCardSaid : Prop := Claim7.holds Tryd.pinned (.plain (OpenSpec.ofChange reachHoldsSpec)) reachHoldsCard

/-- THE SECOND FORM's CARD OF 'exegetelaw05.ReachWords'. -/
def reachWordsUptoCard : Claim7 := { stood := { row := reachWordsUptoRow, standIns := [], harness := (true, "9613950a354133cd0d6ec3c6b2b851e5bb3fad6940d71cc02c68b1402c802890"), looks := false }, kinds := [], alts := [], laidByText := true, laidKinds := [.data, .pinned], laidTests := true, laidLooks := .later }
def ReachWordsUptoCardSaid : Prop := Claim7.holds Tryd.pinned (.plain (OpenSpec.upto reachWordsSpec)) reachWordsUptoCard

/-- THE SECOND FORM's CARD OF 'exegetelaw05.ReachForms'. -/
def reachFormsUptoCard : Claim7 := { stood := { row := reachFormsUptoRow, standIns := [], harness := (true, "9613950a354133cd0d6ec3c6b2b851e5bb3fad6940d71cc02c68b1402c802890"), looks := false }, kinds := [], alts := [], laidByText := true, laidKinds := [.data, .pinned], laidTests := true, laidLooks := .later }
def ReachFormsUptoCardSaid : Prop := Claim7.holds Tryd.pinned (.plain (OpenSpec.upto reachFormsSpec)) reachFormsUptoCard

/-- THE SECOND FORM's CARD OF 'exegetelaw05.ReachTells'. -/
def reachTellsUptoCard : Claim7 := { stood := { row := reachTellsUptoRow, standIns := [], harness := (true, "9613950a354133cd0d6ec3c6b2b851e5bb3fad6940d71cc02c68b1402c802890"), looks := false }, kinds := [], alts := [], laidByText := true, laidKinds := [.data, .pinned], laidTests := true, laidLooks := .later }
def ReachTellsUptoCardSaid : Prop := Claim7.holds Tryd.pinned (.plain (OpenSpec.upto reachTellsSpec)) reachTellsUptoCard

/-- THE SECOND FORM's CARD OF 'exegetelaw05.ReachMore'. -/
def reachMoreUptoCard : Claim7 := { stood := { row := reachMoreUptoRow, standIns := [], harness := (true, "9613950a354133cd0d6ec3c6b2b851e5bb3fad6940d71cc02c68b1402c802890"), looks := false }, kinds := [], alts := [], laidByText := true, laidKinds := [.data, .pinned], laidTests := true, laidLooks := .later }
def ReachMoreUptoCardSaid : Prop := Claim7.holds Tryd.pinned (.plain (OpenSpec.upto reachMoreSpec)) reachMoreUptoCard

/-- THE SECOND FORM's CARD OF 'exegetelaw05.ReachHolds'. -/
def reachHoldsUptoCard : Claim7 := { stood := { row := reachHoldsUptoRow, standIns := [], harness := (true, "9613950a354133cd0d6ec3c6b2b851e5bb3fad6940d71cc02c68b1402c802890"), looks := false }, kinds := [], alts := [], laidByText := true, laidKinds := [.data, .pinned], laidTests := true, laidLooks := .later }
def ReachHoldsUptoCardSaid : Prop := Claim7.holds Tryd.pinned (.plain (OpenSpec.upto reachHoldsSpec)) reachHoldsUptoCard
end Rows
end Go.Proofs.YtcilipbgkpejeaaDoor
