/-
  NARROWER THAN 'FOR EVERY INPUT', by the rows' own cells (each row's printed sentence says how): GramParses: laid · GramErrors: laid · GramLimits: laid · GramForms: laid.
  DERIVED. THE GIVEN ROWS OF THIS SEAT. 4 by the template 'for every input the law returns true; each argument reads behind the call as it read before'; 0 by the template 'total and deterministic' (their statements: YthofgbkmmedjnaaDoorTotals.lean).
  GIVEN WITH THE SEED: the statements are not yours to turn. If you find one false, say at which input.
  Laid BY PROGRAM, IN A SANDBOX (cutbox-rows.mjs): the forced cells as the released guide's own fill.sh prints them over the translation f7dad62a2177927e… (all of the seat's roots in one cut). By AI agents, Wed Nov 11 2026. No macro, syntax, notation, axiom, sorry.
-/
import Derived.Test.YthofgbkmmedjnaaDoorChecked
import GoSem.PinnedTables
import GoSem.Claim
import GoSem.ClaimJoined
import GoSem.ClaimMapViews
import Derived.JoinedTies
import Derived.KernelRfl
namespace Go.Proofs.YthofgbkmmedjnaaDoor
/- THE CELL 'sum', in the pinned program and in every row, IS THE sha256 OF THE DUMP (.gsa) THAT YthofgbkmmedjnaaDoorProg.lean LOADS. Nothing in Lean hashes anything: it is a label: what it is worth is what the hold of that sum in a sandbox is worth. -/
noncomputable def Tryd.pinned : Pinned := { name := "ythofgbkmmedjnaadoor", sum := "f7dad62a2177927e831bf0736bc88b32b5a2940b3ae94a2740943a0f94bc40ea", checked := Tryd.checked }
namespace Rows
def none {H : Type} : Left H := { results := [], args := [] }

/- WHAT THE LISTED PACKAGE-LEVEL VARIABLES READ AS WHEN THE CALL BEGINS. Each datum BY PROGRAM (the guide's laid-datum.mjs) off the statement by which the dump's own 'gosem.cut.vars' lays the variable. In a bare row this is a premise. The card (YthofgbkmmedjnaaDoorCards.lean) ties it to the program's text. -/
def laid_unicode_utf8_acceptRanges {H : Type} : DataW H := .agg [.agg [.lit (.int .u8 128), .lit (.int .u8 191)], .agg [.lit (.int .u8 160), .lit (.int .u8 191)], .agg [.lit (.int .u8 128), .lit (.int .u8 159)], .agg [.lit (.int .u8 144), .lit (.int .u8 191)], .agg [.lit (.int .u8 128), .lit (.int .u8 143)], .agg [.lit (.int .u8 0), .lit (.int .u8 0)], .agg [.lit (.int .u8 0), .lit (.int .u8 0)], .agg [.lit (.int .u8 0), .lit (.int .u8 0)], .agg [.lit (.int .u8 0), .lit (.int .u8 0)], .agg [.lit (.int .u8 0), .lit (.int .u8 0)], .agg [.lit (.int .u8 0), .lit (.int .u8 0)], .agg [.lit (.int .u8 0), .lit (.int .u8 0)], .agg [.lit (.int .u8 0), .lit (.int .u8 0)], .agg [.lit (.int .u8 0), .lit (.int .u8 0)], .agg [.lit (.int .u8 0), .lit (.int .u8 0)], .agg [.lit (.int .u8 0), .lit (.int .u8 0)]]
/-- One of Go's own tables, pinned by name: the form's constant. -/
def laid_unicode_utf8_first : DataW Unit := Go.Pinned.utf8First

/-- 'exegetelaw04.GramParses': WHATEVER THE INPUT: true; the input reads as it did. -/
def gramParsesSpec : ChangeSpec := { name := "gramParses", fn := fun _ => fun
  | [d1, d2, d3] => { results := [.lit (.bool true)], args := [d1, d2, d3] }
  | _ => none }
def gramParsesRow : OpenClaim := { program := "ythofgbkmmedjnaadoor", sum := "f7dad62a2177927e831bf0736bc88b32b5a2940b3ae94a2740943a0f94bc40ea", func := "exegete/exegetelaw04.GramParses", spec := "gramParses", inPlace := ["internal/bytealg.CountString", "internal/bytealg.IndexByteString", "internal/bytealg.IndexString"], unfollowed := true, recurses := true, named := ["unicode/utf8.first", "unicode/utf8.acceptRanges", "internal/bytealg.MaxLen"], apart := false, laid := [("unicode/utf8.acceptRanges", laid_unicode_utf8_acceptRanges), ("unicode/utf8.first", laid_unicode_utf8_first)] }
def GramParsesSaid : Prop := gramParsesRow.holds Tryd.pinned (OpenSpec.ofChange gramParsesSpec)

/-- ITS FALSE NEIGHBOUR: 'it returns false'. Refute it at one input. -/
def gramParsesWrong : ChangeSpec := { name := "gramParses", fn := fun _ => fun
  | [d1, d2, d3] => { results := [.lit (.bool false)], args := [d1, d2, d3] }
  | _ => none }
def GramParsesWrongFalsely : Prop := gramParsesRow.holds Tryd.pinned (OpenSpec.ofChange gramParsesWrong)

/-- 'exegetelaw04.GramErrors': WHATEVER THE INPUT: true; the input reads as it did. -/
def gramErrorsSpec : ChangeSpec := { name := "gramErrors", fn := fun _ => fun
  | [d] => { results := [.lit (.bool true)], args := [d] }
  | _ => none }
def gramErrorsRow : OpenClaim := { program := "ythofgbkmmedjnaadoor", sum := "f7dad62a2177927e831bf0736bc88b32b5a2940b3ae94a2740943a0f94bc40ea", func := "exegete/exegetelaw04.GramErrors", spec := "gramErrors", inPlace := ["internal/bytealg.CountString", "internal/bytealg.IndexByteString", "internal/bytealg.IndexString"], unfollowed := true, recurses := true, named := ["unicode/utf8.first", "unicode/utf8.acceptRanges", "internal/bytealg.MaxLen"], apart := false, laid := [("unicode/utf8.acceptRanges", laid_unicode_utf8_acceptRanges), ("unicode/utf8.first", laid_unicode_utf8_first)] }
def GramErrorsSaid : Prop := gramErrorsRow.holds Tryd.pinned (OpenSpec.ofChange gramErrorsSpec)

/-- ITS FALSE NEIGHBOUR: 'it returns false'. Refute it at one input. -/
def gramErrorsWrong : ChangeSpec := { name := "gramErrors", fn := fun _ => fun
  | [d] => { results := [.lit (.bool false)], args := [d] }
  | _ => none }
def GramErrorsWrongFalsely : Prop := gramErrorsRow.holds Tryd.pinned (OpenSpec.ofChange gramErrorsWrong)

/-- 'exegetelaw04.GramLimits': WHATEVER THE INPUT: true; the input reads as it did. -/
def gramLimitsSpec : ChangeSpec := { name := "gramLimits", fn := fun _ => fun
  | [d] => { results := [.lit (.bool true)], args := [d] }
  | _ => none }
def gramLimitsRow : OpenClaim := { program := "ythofgbkmmedjnaadoor", sum := "f7dad62a2177927e831bf0736bc88b32b5a2940b3ae94a2740943a0f94bc40ea", func := "exegete/exegetelaw04.GramLimits", spec := "gramLimits", inPlace := ["internal/bytealg.CountString", "internal/bytealg.IndexByteString", "internal/bytealg.IndexString"], unfollowed := true, recurses := true, named := ["unicode/utf8.first", "unicode/utf8.acceptRanges", "internal/bytealg.MaxLen"], apart := false, laid := [("unicode/utf8.acceptRanges", laid_unicode_utf8_acceptRanges), ("unicode/utf8.first", laid_unicode_utf8_first)] }
def GramLimitsSaid : Prop := gramLimitsRow.holds Tryd.pinned (OpenSpec.ofChange gramLimitsSpec)

/-- ITS FALSE NEIGHBOUR: 'it returns false'. Refute it at one input. -/
def gramLimitsWrong : ChangeSpec := { name := "gramLimits", fn := fun _ => fun
  | [d] => { results := [.lit (.bool false)], args := [d] }
  | _ => none }
def GramLimitsWrongFalsely : Prop := gramLimitsRow.holds Tryd.pinned (OpenSpec.ofChange gramLimitsWrong)

/-- 'exegetelaw04.GramForms': WHATEVER THE INPUT: true; the input reads as it did. -/
def gramFormsSpec : ChangeSpec := { name := "gramForms", fn := fun _ => fun
  | [d] => { results := [.lit (.bool true)], args := [d] }
  | _ => none }
def gramFormsRow : OpenClaim := { program := "ythofgbkmmedjnaadoor", sum := "f7dad62a2177927e831bf0736bc88b32b5a2940b3ae94a2740943a0f94bc40ea", func := "exegete/exegetelaw04.GramForms", spec := "gramForms", inPlace := ["internal/bytealg.CountString", "internal/bytealg.IndexByteString", "internal/bytealg.IndexString", "internal/abi.NoEscape"], unfollowed := true, recurses := true, named := ["unicode/utf8.first", "unicode/utf8.acceptRanges", "internal/bytealg.MaxLen"], apart := false, laid := [("unicode/utf8.acceptRanges", laid_unicode_utf8_acceptRanges), ("unicode/utf8.first", laid_unicode_utf8_first)] }
def GramFormsSaid : Prop := gramFormsRow.holds Tryd.pinned (OpenSpec.ofChange gramFormsSpec)

/-- ITS FALSE NEIGHBOUR: 'it returns false'. Refute it at one input. -/
def gramFormsWrong : ChangeSpec := { name := "gramForms", fn := fun _ => fun
  | [d] => { results := [.lit (.bool false)], args := [d] }
  | _ => none }
def GramFormsWrongFalsely : Prop := gramFormsRow.holds Tryd.pinned (OpenSpec.ofChange gramFormsWrong)

/- THE SECOND FORM. 'bulk': how many values and letters a reading holds, each counted each time it is reached (what is shared counts as often as it is met; a slice's spare places count too). A statement '..UptoSaid' is the law's where the arguments, and the package variables that the reading takes, are together of bulk at most 1048576: NARROWER than '..Said'. Prove '..Said' where nothing that the law and all that it calls make is longer than what came in: it says more and counts as full. Else prove '..UptoSaid'. A law counts once. -/
mutual
def uptoBulk {H : Type} : DataW H → Nat
  | .lit (.string bytes) => bytes.length + 1
  | .lit _ => 1
  | .nil => 1
  | .ptr d => uptoBulk d + 1
  | .slice elems spare => uptoBulkAll elems + uptoBulkAll spare + 1
  | .agg parts => uptoBulkAll parts + 1
  | .iface _ d => uptoBulk d + 1
  | .map entries => uptoBulkEntries entries + 1
  | .held _ => 1
def uptoBulkAll {H : Type} : List (DataW H) → Nat
  | [] => 0
  | d :: r => uptoBulk d + uptoBulkAll r
def uptoBulkEntries {H : Type} : List (Lit × DataW H) → Nat
  | [] => 0
  | x :: r => uptoBulkEntry x + uptoBulkEntries r
def uptoBulkEntry {H : Type} : Lit × DataW H → Nat
  | (.string bytes, d) => bytes.length + uptoBulk d + 1
  | (_, d) => uptoBulk d + 1
 end
def uptoSmall : (H : Type) → List (DataW H) → Bool := fun _ ds => decide (uptoBulkAll ds ≤ 1048576)
def OpenSpec.upto (s : _root_.Go.ChangeSpec) : _root_.Go.OpenSpec := { _root_.Go.OpenSpec.ofChange s with cond := some uptoSmall }

/-- 'exegetelaw04.GramParses', WHERE WHAT IT READS IS OF BULK AT MOST 1048576: true; the input reads as it did. -/
def gramParsesUptoRow : OpenClaim := { program := "ythofgbkmmedjnaadoor", sum := "f7dad62a2177927e831bf0736bc88b32b5a2940b3ae94a2740943a0f94bc40ea", func := "exegete/exegetelaw04.GramParses", spec := "gramParses", inPlace := ["internal/bytealg.CountString", "internal/bytealg.IndexByteString", "internal/bytealg.IndexString"], unfollowed := true, recurses := true, named := ["unicode/utf8.first", "unicode/utf8.acceptRanges", "internal/bytealg.MaxLen"], apart := false, laid := [("unicode/utf8.acceptRanges", laid_unicode_utf8_acceptRanges), ("unicode/utf8.first", laid_unicode_utf8_first)], narrowed := true }
def GramParsesUptoSaid : Prop := gramParsesUptoRow.holds Tryd.pinned (OpenSpec.upto gramParsesSpec)

/-- 'exegetelaw04.GramErrors', WHERE WHAT IT READS IS OF BULK AT MOST 1048576: true; the input reads as it did. -/
def gramErrorsUptoRow : OpenClaim := { program := "ythofgbkmmedjnaadoor", sum := "f7dad62a2177927e831bf0736bc88b32b5a2940b3ae94a2740943a0f94bc40ea", func := "exegete/exegetelaw04.GramErrors", spec := "gramErrors", inPlace := ["internal/bytealg.CountString", "internal/bytealg.IndexByteString", "internal/bytealg.IndexString"], unfollowed := true, recurses := true, named := ["unicode/utf8.first", "unicode/utf8.acceptRanges", "internal/bytealg.MaxLen"], apart := false, laid := [("unicode/utf8.acceptRanges", laid_unicode_utf8_acceptRanges), ("unicode/utf8.first", laid_unicode_utf8_first)], narrowed := true }
def GramErrorsUptoSaid : Prop := gramErrorsUptoRow.holds Tryd.pinned (OpenSpec.upto gramErrorsSpec)

/-- 'exegetelaw04.GramLimits', WHERE WHAT IT READS IS OF BULK AT MOST 1048576: true; the input reads as it did. -/
def gramLimitsUptoRow : OpenClaim := { program := "ythofgbkmmedjnaadoor", sum := "f7dad62a2177927e831bf0736bc88b32b5a2940b3ae94a2740943a0f94bc40ea", func := "exegete/exegetelaw04.GramLimits", spec := "gramLimits", inPlace := ["internal/bytealg.CountString", "internal/bytealg.IndexByteString", "internal/bytealg.IndexString"], unfollowed := true, recurses := true, named := ["unicode/utf8.first", "unicode/utf8.acceptRanges", "internal/bytealg.MaxLen"], apart := false, laid := [("unicode/utf8.acceptRanges", laid_unicode_utf8_acceptRanges), ("unicode/utf8.first", laid_unicode_utf8_first)], narrowed := true }
def GramLimitsUptoSaid : Prop := gramLimitsUptoRow.holds Tryd.pinned (OpenSpec.upto gramLimitsSpec)

/-- 'exegetelaw04.GramForms', WHERE WHAT IT READS IS OF BULK AT MOST 1048576: true; the input reads as it did. -/
def gramFormsUptoRow : OpenClaim := { program := "ythofgbkmmedjnaadoor", sum := "f7dad62a2177927e831bf0736bc88b32b5a2940b3ae94a2740943a0f94bc40ea", func := "exegete/exegetelaw04.GramForms", spec := "gramForms", inPlace := ["internal/bytealg.CountString", "internal/bytealg.IndexByteString", "internal/bytealg.IndexString", "internal/abi.NoEscape"], unfollowed := true, recurses := true, named := ["unicode/utf8.first", "unicode/utf8.acceptRanges", "internal/bytealg.MaxLen"], apart := false, laid := [("unicode/utf8.acceptRanges", laid_unicode_utf8_acceptRanges), ("unicode/utf8.first", laid_unicode_utf8_first)], narrowed := true }
def GramFormsUptoSaid : Prop := gramFormsUptoRow.holds Tryd.pinned (OpenSpec.upto gramFormsSpec)

end Rows
end Go.Proofs.YthofgbkmmedjnaaDoor
