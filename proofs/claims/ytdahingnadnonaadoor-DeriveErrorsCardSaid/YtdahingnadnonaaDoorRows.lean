/-
  NARROWER THAN 'FOR EVERY INPUT', by the rows' own cells (each row's printed sentence says how): DeriveForms: laid · DeriveErrors: laid · DeriveTells: laid · DeriveTrees: laid · DeriveGrown: laid · DeriveParts: laid.
  DERIVED. THE GIVEN ROWS OF THIS SEAT. 6 by the template 'for every input the law returns true; each argument reads behind the call as it read before'; 0 by the template 'total and deterministic' (their statements: YtdahingnadnonaaDoorTotals.lean).
  GIVEN WITH THE SEED: the statements are not yours to turn. If you find one false, say at which input.
  Laid BY PROGRAM, IN A SANDBOX (cutbox-rows.mjs): the forced cells as the released guide's own fill.sh prints them over the translation 3740c75ccd4d0a07… (all of the seat's roots in one cut). By AI agents, Wed Nov 11 2026. No macro, syntax, notation, axiom, sorry.
-/
import Derived.Test.YtdahingnadnonaaDoorChecked
import GoSem.PinnedTables
import GoSem.Claim
import GoSem.ClaimJoined
import GoSem.ClaimMapViews
import Derived.JoinedTies
import Derived.KernelRfl
namespace Go.Proofs.YtdahingnadnonaaDoor
/- THE CELL 'sum', in the pinned program and in every row, IS THE sha256 OF THE DUMP (.gsa) THAT YtdahingnadnonaaDoorProg.lean LOADS. Nothing in Lean hashes anything: it is a label: what it is worth is what the hold of that sum in a sandbox is worth. -/
noncomputable def Tryd.pinned : Pinned := { name := "ytdahingnadnonaadoor", sum := "3740c75ccd4d0a07e37c272c36295bb4b25138b2d589e83574e164dfc4e48b42", checked := Tryd.checked }
namespace Rows
def none {H : Type} : Left H := { results := [], args := [] }

/- WHAT THE LISTED PACKAGE-LEVEL VARIABLES READ AS WHEN THE CALL BEGINS. Each datum BY PROGRAM (the guide's laid-datum.mjs) off the statement by which the dump's own 'gosem.cut.vars' lays the variable. In a bare row this is a premise. The card (YtdahingnadnonaaDoorCards.lean) ties it to the program's text. -/
def laid_unicode_utf8_acceptRanges {H : Type} : DataW H := .agg [.agg [.lit (.int .u8 128), .lit (.int .u8 191)], .agg [.lit (.int .u8 160), .lit (.int .u8 191)], .agg [.lit (.int .u8 128), .lit (.int .u8 159)], .agg [.lit (.int .u8 144), .lit (.int .u8 191)], .agg [.lit (.int .u8 128), .lit (.int .u8 143)], .agg [.lit (.int .u8 0), .lit (.int .u8 0)], .agg [.lit (.int .u8 0), .lit (.int .u8 0)], .agg [.lit (.int .u8 0), .lit (.int .u8 0)], .agg [.lit (.int .u8 0), .lit (.int .u8 0)], .agg [.lit (.int .u8 0), .lit (.int .u8 0)], .agg [.lit (.int .u8 0), .lit (.int .u8 0)], .agg [.lit (.int .u8 0), .lit (.int .u8 0)], .agg [.lit (.int .u8 0), .lit (.int .u8 0)], .agg [.lit (.int .u8 0), .lit (.int .u8 0)], .agg [.lit (.int .u8 0), .lit (.int .u8 0)], .agg [.lit (.int .u8 0), .lit (.int .u8 0)]]
/-- One of Go's own tables, pinned by name: the form's constant. -/
def laid_unicode_utf8_first : DataW Unit := Go.Pinned.utf8First

/-- 'exegetelaw09.DeriveForms': WHATEVER THE INPUT: true; the input reads as it did. -/
def deriveFormsSpec : ChangeSpec := { name := "deriveForms", fn := fun _ => fun
  | [d] => { results := [.lit (.bool true)], args := [d] }
  | _ => none }
def deriveFormsRow : OpenClaim := { program := "ytdahingnadnonaadoor", sum := "3740c75ccd4d0a07e37c272c36295bb4b25138b2d589e83574e164dfc4e48b42", func := "exegete/exegetelaw09.DeriveForms", spec := "deriveForms", inPlace := ["internal/bytealg.IndexByteString", "internal/bytealg.IndexString"], unfollowed := true, recurses := true, named := ["unicode/utf8.first", "unicode/utf8.acceptRanges", "internal/bytealg.MaxLen"], plainKeys := false, apart := false, laid := [("unicode/utf8.acceptRanges", laid_unicode_utf8_acceptRanges), ("unicode/utf8.first", laid_unicode_utf8_first)] }
def DeriveFormsSaid : Prop := deriveFormsRow.holds Tryd.pinned (OpenSpec.ofChange deriveFormsSpec)

/-- ITS FALSE NEIGHBOUR: 'it returns false'. Refute it at one input. -/
def deriveFormsWrong : ChangeSpec := { name := "deriveForms", fn := fun _ => fun
  | [d] => { results := [.lit (.bool false)], args := [d] }
  | _ => none }
def DeriveFormsWrongFalsely : Prop := deriveFormsRow.holds Tryd.pinned (OpenSpec.ofChange deriveFormsWrong)

/-- 'exegetelaw09.DeriveErrors': WHATEVER THE INPUT: true; the input reads as it did. -/
def deriveErrorsSpec : ChangeSpec := { name := "deriveErrors", fn := fun _ => fun
  | [d] => { results := [.lit (.bool true)], args := [d] }
  | _ => none }
def deriveErrorsRow : OpenClaim := { program := "ytdahingnadnonaadoor", sum := "3740c75ccd4d0a07e37c272c36295bb4b25138b2d589e83574e164dfc4e48b42", func := "exegete/exegetelaw09.DeriveErrors", spec := "deriveErrors", inPlace := ["internal/bytealg.IndexByteString", "internal/bytealg.IndexString"], unfollowed := true, recurses := true, named := ["unicode/utf8.first", "unicode/utf8.acceptRanges", "internal/bytealg.MaxLen"], plainKeys := false, apart := false, laid := [("unicode/utf8.acceptRanges", laid_unicode_utf8_acceptRanges), ("unicode/utf8.first", laid_unicode_utf8_first)] }
def DeriveErrorsSaid : Prop := deriveErrorsRow.holds Tryd.pinned (OpenSpec.ofChange deriveErrorsSpec)

/-- ITS FALSE NEIGHBOUR: 'it returns false'. Refute it at one input. -/
def deriveErrorsWrong : ChangeSpec := { name := "deriveErrors", fn := fun _ => fun
  | [d] => { results := [.lit (.bool false)], args := [d] }
  | _ => none }
def DeriveErrorsWrongFalsely : Prop := deriveErrorsRow.holds Tryd.pinned (OpenSpec.ofChange deriveErrorsWrong)

/-- 'exegetelaw09.DeriveTells': WHATEVER THE INPUT: true; the input reads as it did. -/
def deriveTellsSpec : ChangeSpec := { name := "deriveTells", fn := fun _ => fun
  | [d1, d2, d3, d4] => { results := [.lit (.bool true)], args := [d1, d2, d3, d4] }
  | _ => none }
def deriveTellsRow : OpenClaim := { program := "ytdahingnadnonaadoor", sum := "3740c75ccd4d0a07e37c272c36295bb4b25138b2d589e83574e164dfc4e48b42", func := "exegete/exegetelaw09.DeriveTells", spec := "deriveTells", inPlace := ["internal/bytealg.IndexByteString", "internal/bytealg.IndexString"], unfollowed := true, recurses := true, named := ["unicode/utf8.first", "unicode/utf8.acceptRanges", "internal/bytealg.MaxLen"], plainKeys := false, apart := false, laid := [("unicode/utf8.acceptRanges", laid_unicode_utf8_acceptRanges), ("unicode/utf8.first", laid_unicode_utf8_first)] }
def DeriveTellsSaid : Prop := deriveTellsRow.holds Tryd.pinned (OpenSpec.ofChange deriveTellsSpec)

/-- ITS FALSE NEIGHBOUR: 'it returns false'. Refute it at one input. -/
def deriveTellsWrong : ChangeSpec := { name := "deriveTells", fn := fun _ => fun
  | [d1, d2, d3, d4] => { results := [.lit (.bool false)], args := [d1, d2, d3, d4] }
  | _ => none }
def DeriveTellsWrongFalsely : Prop := deriveTellsRow.holds Tryd.pinned (OpenSpec.ofChange deriveTellsWrong)

/-- 'exegetelaw09.DeriveTrees': WHATEVER THE INPUT: true; the input reads as it did. -/
def deriveTreesSpec : ChangeSpec := { name := "deriveTrees", fn := fun _ => fun
  | [d1, d2, d3] => { results := [.lit (.bool true)], args := [d1, d2, d3] }
  | _ => none }
def deriveTreesRow : OpenClaim := { program := "ytdahingnadnonaadoor", sum := "3740c75ccd4d0a07e37c272c36295bb4b25138b2d589e83574e164dfc4e48b42", func := "exegete/exegetelaw09.DeriveTrees", spec := "deriveTrees", inPlace := ["internal/bytealg.IndexByteString", "internal/bytealg.IndexString"], unfollowed := true, recurses := true, named := ["unicode/utf8.first", "unicode/utf8.acceptRanges", "internal/bytealg.MaxLen"], plainKeys := false, apart := false, laid := [("unicode/utf8.acceptRanges", laid_unicode_utf8_acceptRanges), ("unicode/utf8.first", laid_unicode_utf8_first)] }
def DeriveTreesSaid : Prop := deriveTreesRow.holds Tryd.pinned (OpenSpec.ofChange deriveTreesSpec)

/-- ITS FALSE NEIGHBOUR: 'it returns false'. Refute it at one input. -/
def deriveTreesWrong : ChangeSpec := { name := "deriveTrees", fn := fun _ => fun
  | [d1, d2, d3] => { results := [.lit (.bool false)], args := [d1, d2, d3] }
  | _ => none }
def DeriveTreesWrongFalsely : Prop := deriveTreesRow.holds Tryd.pinned (OpenSpec.ofChange deriveTreesWrong)

/-- 'exegetelaw09.DeriveGrown': WHATEVER THE INPUT: true; the input reads as it did. -/
def deriveGrownSpec : ChangeSpec := { name := "deriveGrown", fn := fun _ => fun
  | [d1, d2] => { results := [.lit (.bool true)], args := [d1, d2] }
  | _ => none }
def deriveGrownRow : OpenClaim := { program := "ytdahingnadnonaadoor", sum := "3740c75ccd4d0a07e37c272c36295bb4b25138b2d589e83574e164dfc4e48b42", func := "exegete/exegetelaw09.DeriveGrown", spec := "deriveGrown", inPlace := ["internal/bytealg.IndexByteString", "internal/bytealg.IndexString"], unfollowed := true, recurses := true, named := ["unicode/utf8.first", "unicode/utf8.acceptRanges", "internal/bytealg.MaxLen"], plainKeys := false, apart := false, laid := [("unicode/utf8.acceptRanges", laid_unicode_utf8_acceptRanges), ("unicode/utf8.first", laid_unicode_utf8_first)] }
def DeriveGrownSaid : Prop := deriveGrownRow.holds Tryd.pinned (OpenSpec.ofChange deriveGrownSpec)

/-- ITS FALSE NEIGHBOUR: 'it returns false'. Refute it at one input. -/
def deriveGrownWrong : ChangeSpec := { name := "deriveGrown", fn := fun _ => fun
  | [d1, d2] => { results := [.lit (.bool false)], args := [d1, d2] }
  | _ => none }
def DeriveGrownWrongFalsely : Prop := deriveGrownRow.holds Tryd.pinned (OpenSpec.ofChange deriveGrownWrong)

/-- 'exegetelaw09.DeriveParts': WHATEVER THE INPUT: true; the input reads as it did. -/
def derivePartsSpec : ChangeSpec := { name := "deriveParts", fn := fun _ => fun
  | [d1, d2, d3, d4] => { results := [.lit (.bool true)], args := [d1, d2, d3, d4] }
  | _ => none }
def derivePartsRow : OpenClaim := { program := "ytdahingnadnonaadoor", sum := "3740c75ccd4d0a07e37c272c36295bb4b25138b2d589e83574e164dfc4e48b42", func := "exegete/exegetelaw09.DeriveParts", spec := "deriveParts", inPlace := ["internal/bytealg.IndexByteString", "internal/bytealg.IndexString"], unfollowed := true, recurses := true, named := ["unicode/utf8.first", "unicode/utf8.acceptRanges", "internal/bytealg.MaxLen"], plainKeys := false, apart := false, laid := [("unicode/utf8.acceptRanges", laid_unicode_utf8_acceptRanges), ("unicode/utf8.first", laid_unicode_utf8_first)] }
def DerivePartsSaid : Prop := derivePartsRow.holds Tryd.pinned (OpenSpec.ofChange derivePartsSpec)

/-- ITS FALSE NEIGHBOUR: 'it returns false'. Refute it at one input. -/
def derivePartsWrong : ChangeSpec := { name := "deriveParts", fn := fun _ => fun
  | [d1, d2, d3, d4] => { results := [.lit (.bool false)], args := [d1, d2, d3, d4] }
  | _ => none }
def DerivePartsWrongFalsely : Prop := derivePartsRow.holds Tryd.pinned (OpenSpec.ofChange derivePartsWrong)

/- THE SECOND FORM. 'bulk': how many values and letters a reading holds, each counted each time it is reached (what is shared counts as often as it is met; a slice's spare places count too). A statement '..UptoSaid' is the law's where the arguments, and the package variables that the reading takes, are together of bulk at most 1048576: NARROWER than '..Said'. Prove '..Said' where nothing that the law and all that it calls make is longer than what came in: it says more and counts as full. Else prove '..UptoSaid'. A law counts once. -/
mutual
def uptoBulk {H : Type} : DataW H → Nat
  | .lit (.string bytes) => bytes.length + 1
  | .lit _ => 1
  | .nil => 1
  | .ptr d => uptoBulk d + 1
  | .slice elems spare => uptoBulkAll elems + uptoBulkAll spare + 1
  | .agg parts => uptoBulkAll parts + 1
  | .iface _ d => uptoBulk d + 1
  | .map entries => uptoBulkEntries entries + 1
  | .held _ => 1
def uptoBulkAll {H : Type} : List (DataW H) → Nat
  | [] => 0
  | d :: r => uptoBulk d + uptoBulkAll r
def uptoBulkEntries {H : Type} : List (Lit × DataW H) → Nat
  | [] => 0
  | x :: r => uptoBulkEntry x + uptoBulkEntries r
def uptoBulkEntry {H : Type} : Lit × DataW H → Nat
  | (.string bytes, d) => bytes.length + uptoBulk d + 1
  | (_, d) => uptoBulk d + 1
 end
def uptoSmall : (H : Type) → List (DataW H) → Bool := fun _ ds => decide (uptoBulkAll ds ≤ 1048576)
def OpenSpec.upto (s : _root_.Go.ChangeSpec) : _root_.Go.OpenSpec := { _root_.Go.OpenSpec.ofChange s with cond := some uptoSmall }

/-- 'exegetelaw09.DeriveForms', WHERE WHAT IT READS IS OF BULK AT MOST 1048576: true; the input reads as it did. -/
def deriveFormsUptoRow : OpenClaim := { program := "ytdahingnadnonaadoor", sum := "3740c75ccd4d0a07e37c272c36295bb4b25138b2d589e83574e164dfc4e48b42", func := "exegete/exegetelaw09.DeriveForms", spec := "deriveForms", inPlace := ["internal/bytealg.IndexByteString", "internal/bytealg.IndexString"], unfollowed := true, recurses := true, named := ["unicode/utf8.first", "unicode/utf8.acceptRanges", "internal/bytealg.MaxLen"], plainKeys := false, apart := false, laid := [("unicode/utf8.acceptRanges", laid_unicode_utf8_acceptRanges), ("unicode/utf8.first", laid_unicode_utf8_first)], narrowed := true }
def DeriveFormsUptoSaid : Prop := deriveFormsUptoRow.holds Tryd.pinned (OpenSpec.upto deriveFormsSpec)

/-- 'exegetelaw09.DeriveErrors', WHERE WHAT IT READS IS OF BULK AT MOST 1048576: true; the input reads as it did. -/
def deriveErrorsUptoRow : OpenClaim := { program := "ytdahingnadnonaadoor", sum := "3740c75ccd4d0a07e37c272c36295bb4b25138b2d589e83574e164dfc4e48b42", func := "exegete/exegetelaw09.DeriveErrors", spec := "deriveErrors", inPlace := ["internal/bytealg.IndexByteString", "internal/bytealg.IndexString"], unfollowed := true, recurses := true, named := ["unicode/utf8.first", "unicode/utf8.acceptRanges", "internal/bytealg.MaxLen"], plainKeys := false, apart := false, laid := [("unicode/utf8.acceptRanges", laid_unicode_utf8_acceptRanges), ("unicode/utf8.first", laid_unicode_utf8_first)], narrowed := true }
def DeriveErrorsUptoSaid : Prop := deriveErrorsUptoRow.holds Tryd.pinned (OpenSpec.upto deriveErrorsSpec)

/-- 'exegetelaw09.DeriveTells', WHERE WHAT IT READS IS OF BULK AT MOST 1048576: true; the input reads as it did. -/
def deriveTellsUptoRow : OpenClaim := { program := "ytdahingnadnonaadoor", sum := "3740c75ccd4d0a07e37c272c36295bb4b25138b2d589e83574e164dfc4e48b42", func := "exegete/exegetelaw09.DeriveTells", spec := "deriveTells", inPlace := ["internal/bytealg.IndexByteString", "internal/bytealg.IndexString"], unfollowed := true, recurses := true, named := ["unicode/utf8.first", "unicode/utf8.acceptRanges", "internal/bytealg.MaxLen"], plainKeys := false, apart := false, laid := [("unicode/utf8.acceptRanges", laid_unicode_utf8_acceptRanges), ("unicode/utf8.first", laid_unicode_utf8_first)], narrowed := true }
def DeriveTellsUptoSaid : Prop := deriveTellsUptoRow.holds Tryd.pinned (OpenSpec.upto deriveTellsSpec)

/-- 'exegetelaw09.DeriveTrees', WHERE WHAT IT READS IS OF BULK AT MOST 1048576: true; the input reads as it did. -/
def deriveTreesUptoRow : OpenClaim := { program := "ytdahingnadnonaadoor", sum := "3740c75ccd4d0a07e37c272c36295bb4b25138b2d589e83574e164dfc4e48b42", func := "exegete/exegetelaw09.DeriveTrees", spec := "deriveTrees", inPlace := ["internal/bytealg.IndexByteString", "internal/bytealg.IndexString"], unfollowed := true, recurses := true, named := ["unicode/utf8.first", "unicode/utf8.acceptRanges", "internal/bytealg.MaxLen"], plainKeys := false, apart := false, laid := [("unicode/utf8.acceptRanges", laid_unicode_utf8_acceptRanges), ("unicode/utf8.first", laid_unicode_utf8_first)], narrowed := true }
def DeriveTreesUptoSaid : Prop := deriveTreesUptoRow.holds Tryd.pinned (OpenSpec.upto deriveTreesSpec)

/-- 'exegetelaw09.DeriveGrown', WHERE WHAT IT READS IS OF BULK AT MOST 1048576: true; the input reads as it did. -/
def deriveGrownUptoRow : OpenClaim := { program := "ytdahingnadnonaadoor", sum := "3740c75ccd4d0a07e37c272c36295bb4b25138b2d589e83574e164dfc4e48b42", func := "exegete/exegetelaw09.DeriveGrown", spec := "deriveGrown", inPlace := ["internal/bytealg.IndexByteString", "internal/bytealg.IndexString"], unfollowed := true, recurses := true, named := ["unicode/utf8.first", "unicode/utf8.acceptRanges", "internal/bytealg.MaxLen"], plainKeys := false, apart := false, laid := [("unicode/utf8.acceptRanges", laid_unicode_utf8_acceptRanges), ("unicode/utf8.first", laid_unicode_utf8_first)], narrowed := true }
def DeriveGrownUptoSaid : Prop := deriveGrownUptoRow.holds Tryd.pinned (OpenSpec.upto deriveGrownSpec)

/-- 'exegetelaw09.DeriveParts', WHERE WHAT IT READS IS OF BULK AT MOST 1048576: true; the input reads as it did. -/
def derivePartsUptoRow : OpenClaim := { program := "ytdahingnadnonaadoor", sum := "3740c75ccd4d0a07e37c272c36295bb4b25138b2d589e83574e164dfc4e48b42", func := "exegete/exegetelaw09.DeriveParts", spec := "deriveParts", inPlace := ["internal/bytealg.IndexByteString", "internal/bytealg.IndexString"], unfollowed := true, recurses := true, named := ["unicode/utf8.first", "unicode/utf8.acceptRanges", "internal/bytealg.MaxLen"], plainKeys := false, apart := false, laid := [("unicode/utf8.acceptRanges", laid_unicode_utf8_acceptRanges), ("unicode/utf8.first", laid_unicode_utf8_first)], narrowed := true }
def DerivePartsUptoSaid : Prop := derivePartsUptoRow.holds Tryd.pinned (OpenSpec.upto derivePartsSpec)

end Rows
end Go.Proofs.YtdahingnadnonaaDoor
