/-
  NARROWER THAN 'FOR EVERY INPUT', by the rows' own cells (each row's printed sentence says how): ConeAsks: laid · ConeFiles: laid · ConeMore: laid · ConeTwo: laid · ConeOf: laid · ConeReads: laid · ConeBack: laid.
  DERIVED. THE GIVEN ROWS OF THIS SEAT. 7 by the template 'for every input the law returns true; each argument reads behind the call as it read before'; 0 by the template 'total and deterministic' (their statements: YtinndapmljnifaaDoorTotals.lean).
  GIVEN WITH THE SEED: the statements are not yours to turn. If you find one false, say at which input.
  Laid BY PROGRAM, IN A SANDBOX (cutbox-rows.mjs): the forced cells as the released guide's own fill.sh prints them over the translation 8ac3233a1fcd9cae… (all of the seat's roots in one cut). By AI agents, Wed Nov 11 2026. No macro, syntax, notation, axiom, sorry.
-/
import Derived.Test.YtinndapmljnifaaDoorChecked
import GoSem.PinnedTables
import GoSem.Claim
import GoSem.ClaimJoined
import GoSem.ClaimMapViews
import Derived.JoinedTies
import Derived.KernelRfl
namespace Go.Proofs.YtinndapmljnifaaDoor
/- THE CELL 'sum', in the pinned program and in every row, IS THE sha256 OF THE DUMP (.gsa) THAT YtinndapmljnifaaDoorProg.lean LOADS. Nothing in Lean hashes anything: it is a label: what it is worth is what the hold of that sum in a sandbox is worth. -/
noncomputable def Tryd.pinned : Pinned := { name := "ytinndapmljnifaadoor", sum := "8ac3233a1fcd9caee724d2b06618c071406116644de5f7a3b4511fb6671bb887", checked := Tryd.checked }
namespace Rows
def none {H : Type} : Left H := { results := [], args := [] }

/- WHAT THE LISTED PACKAGE-LEVEL VARIABLES READ AS WHEN THE CALL BEGINS. Each datum BY PROGRAM (the guide's laid-datum.mjs) off the statement by which the dump's own 'gosem.cut.vars' lays the variable. In a bare row this is a premise. The card (YtinndapmljnifaaDoorCards.lean) ties it to the program's text. -/
def laid_unicode_utf8_acceptRanges {H : Type} : DataW H := .agg [.agg [.lit (.int .u8 128), .lit (.int .u8 191)], .agg [.lit (.int .u8 160), .lit (.int .u8 191)], .agg [.lit (.int .u8 128), .lit (.int .u8 159)], .agg [.lit (.int .u8 144), .lit (.int .u8 191)], .agg [.lit (.int .u8 128), .lit (.int .u8 143)], .agg [.lit (.int .u8 0), .lit (.int .u8 0)], .agg [.lit (.int .u8 0), .lit (.int .u8 0)], .agg [.lit (.int .u8 0), .lit (.int .u8 0)], .agg [.lit (.int .u8 0), .lit (.int .u8 0)], .agg [.lit (.int .u8 0), .lit (.int .u8 0)], .agg [.lit (.int .u8 0), .lit (.int .u8 0)], .agg [.lit (.int .u8 0), .lit (.int .u8 0)], .agg [.lit (.int .u8 0), .lit (.int .u8 0)], .agg [.lit (.int .u8 0), .lit (.int .u8 0)], .agg [.lit (.int .u8 0), .lit (.int .u8 0)], .agg [.lit (.int .u8 0), .lit (.int .u8 0)]]
/-- One of Go's own tables, pinned by name: the form's constant. -/
def laid_unicode_utf8_first : DataW Unit := Go.Pinned.utf8First

/-- 'tussocklaw18.ConeAsks': WHATEVER THE INPUT: true; the input reads as it did. -/
def coneAsksSpec : ChangeSpec := { name := "coneAsks", fn := fun _ => fun
  | [d1, d2] => { results := [.lit (.bool true)], args := [d1, d2] }
  | _ => none }
def coneAsksRow : OpenClaim := { program := "ytinndapmljnifaadoor", sum := "8ac3233a1fcd9caee724d2b06618c071406116644de5f7a3b4511fb6671bb887", func := "tussock/tussocklaw18.ConeAsks", spec := "coneAsks", inPlace := ["internal/bytealg.CountString", "internal/bytealg.IndexByteString", "internal/bytealg.IndexString", "internal/abi.NoEscape", "internal/bytealg.MakeNoZero"], unfollowed := true, recurses := true, named := ["unicode/utf8.first", "unicode/utf8.acceptRanges", "internal/bytealg.MaxLen"], apart := false, laid := [("unicode/utf8.acceptRanges", laid_unicode_utf8_acceptRanges), ("unicode/utf8.first", laid_unicode_utf8_first)] }
def ConeAsksSaid : Prop := coneAsksRow.holds Tryd.pinned (OpenSpec.ofChange coneAsksSpec)

/-- ITS FALSE NEIGHBOUR: 'it returns false'. Refute it at one input. -/
def coneAsksWrong : ChangeSpec := { name := "coneAsks", fn := fun _ => fun
  | [d1, d2] => { results := [.lit (.bool false)], args := [d1, d2] }
  | _ => none }
def ConeAsksWrongFalsely : Prop := coneAsksRow.holds Tryd.pinned (OpenSpec.ofChange coneAsksWrong)

/-- 'tussocklaw18.ConeFiles': WHATEVER THE INPUT: true; the input reads as it did. -/
def coneFilesSpec : ChangeSpec := { name := "coneFiles", fn := fun _ => fun
  | [d1, d2] => { results := [.lit (.bool true)], args := [d1, d2] }
  | _ => none }
def coneFilesRow : OpenClaim := { program := "ytinndapmljnifaadoor", sum := "8ac3233a1fcd9caee724d2b06618c071406116644de5f7a3b4511fb6671bb887", func := "tussock/tussocklaw18.ConeFiles", spec := "coneFiles", inPlace := ["internal/bytealg.CountString", "internal/bytealg.IndexByteString", "internal/bytealg.IndexString", "internal/abi.NoEscape", "internal/bytealg.MakeNoZero"], unfollowed := true, recurses := true, named := ["unicode/utf8.first", "unicode/utf8.acceptRanges", "internal/bytealg.MaxLen"], apart := false, laid := [("unicode/utf8.acceptRanges", laid_unicode_utf8_acceptRanges), ("unicode/utf8.first", laid_unicode_utf8_first)] }
def ConeFilesSaid : Prop := coneFilesRow.holds Tryd.pinned (OpenSpec.ofChange coneFilesSpec)

/-- ITS FALSE NEIGHBOUR: 'it returns false'. Refute it at one input. -/
def coneFilesWrong : ChangeSpec := { name := "coneFiles", fn := fun _ => fun
  | [d1, d2] => { results := [.lit (.bool false)], args := [d1, d2] }
  | _ => none }
def ConeFilesWrongFalsely : Prop := coneFilesRow.holds Tryd.pinned (OpenSpec.ofChange coneFilesWrong)

/-- 'tussocklaw18.ConeMore': WHATEVER THE INPUT: true; the input reads as it did. -/
def coneMoreSpec : ChangeSpec := { name := "coneMore", fn := fun _ => fun
  | [d1, d2, d3] => { results := [.lit (.bool true)], args := [d1, d2, d3] }
  | _ => none }
def coneMoreRow : OpenClaim := { program := "ytinndapmljnifaadoor", sum := "8ac3233a1fcd9caee724d2b06618c071406116644de5f7a3b4511fb6671bb887", func := "tussock/tussocklaw18.ConeMore", spec := "coneMore", inPlace := ["internal/bytealg.CountString", "internal/bytealg.IndexByteString", "internal/bytealg.IndexString", "internal/abi.NoEscape", "internal/bytealg.MakeNoZero"], unfollowed := true, recurses := true, named := ["unicode/utf8.first", "unicode/utf8.acceptRanges", "internal/bytealg.MaxLen"], apart := false, laid := [("unicode/utf8.acceptRanges", laid_unicode_utf8_acceptRanges), ("unicode/utf8.first", laid_unicode_utf8_first)] }
def ConeMoreSaid : Prop := coneMoreRow.holds Tryd.pinned (OpenSpec.ofChange coneMoreSpec)

/-- ITS FALSE NEIGHBOUR: 'it returns false'. Refute it at one input. -/
def coneMoreWrong : ChangeSpec := { name := "coneMore", fn := fun _ => fun
  | [d1, d2, d3] => { results := [.lit (.bool false)], args := [d1, d2, d3] }
  | _ => none }
def ConeMoreWrongFalsely : Prop := coneMoreRow.holds Tryd.pinned (OpenSpec.ofChange coneMoreWrong)

/-- 'tussocklaw18.ConeTwo': WHATEVER THE INPUT: true; the input reads as it did. -/
def coneTwoSpec : ChangeSpec := { name := "coneTwo", fn := fun _ => fun
  | [d1, d2] => { results := [.lit (.bool true)], args := [d1, d2] }
  | _ => none }
def coneTwoRow : OpenClaim := { program := "ytinndapmljnifaadoor", sum := "8ac3233a1fcd9caee724d2b06618c071406116644de5f7a3b4511fb6671bb887", func := "tussock/tussocklaw18.ConeTwo", spec := "coneTwo", inPlace := ["internal/bytealg.CountString", "internal/bytealg.IndexByteString", "internal/bytealg.IndexString", "internal/abi.NoEscape", "internal/bytealg.MakeNoZero"], unfollowed := true, recurses := true, named := ["unicode/utf8.first", "unicode/utf8.acceptRanges", "internal/bytealg.MaxLen"], apart := false, laid := [("unicode/utf8.acceptRanges", laid_unicode_utf8_acceptRanges), ("unicode/utf8.first", laid_unicode_utf8_first)] }
def ConeTwoSaid : Prop := coneTwoRow.holds Tryd.pinned (OpenSpec.ofChange coneTwoSpec)

/-- ITS FALSE NEIGHBOUR: 'it returns false'. Refute it at one input. -/
def coneTwoWrong : ChangeSpec := { name := "coneTwo", fn := fun _ => fun
  | [d1, d2] => { results := [.lit (.bool false)], args := [d1, d2] }
  | _ => none }
def ConeTwoWrongFalsely : Prop := coneTwoRow.holds Tryd.pinned (OpenSpec.ofChange coneTwoWrong)

/-- 'tussocklaw18.ConeOf': WHATEVER THE INPUT: true; the input reads as it did. -/
def coneOfSpec : ChangeSpec := { name := "coneOf", fn := fun _ => fun
  | [d] => { results := [.lit (.bool true)], args := [d] }
  | _ => none }
def coneOfRow : OpenClaim := { program := "ytinndapmljnifaadoor", sum := "8ac3233a1fcd9caee724d2b06618c071406116644de5f7a3b4511fb6671bb887", func := "tussock/tussocklaw18.ConeOf", spec := "coneOf", inPlace := ["internal/bytealg.CountString", "internal/bytealg.IndexByteString", "internal/bytealg.IndexString", "internal/abi.NoEscape", "internal/bytealg.MakeNoZero"], unfollowed := true, recurses := true, named := ["unicode/utf8.first", "unicode/utf8.acceptRanges", "internal/bytealg.MaxLen"], apart := false, laid := [("unicode/utf8.acceptRanges", laid_unicode_utf8_acceptRanges), ("unicode/utf8.first", laid_unicode_utf8_first)] }
def ConeOfSaid : Prop := coneOfRow.holds Tryd.pinned (OpenSpec.ofChange coneOfSpec)

/-- ITS FALSE NEIGHBOUR: 'it returns false'. Refute it at one input. -/
def coneOfWrong : ChangeSpec := { name := "coneOf", fn := fun _ => fun
  | [d] => { results := [.lit (.bool false)], args := [d] }
  | _ => none }
def ConeOfWrongFalsely : Prop := coneOfRow.holds Tryd.pinned (OpenSpec.ofChange coneOfWrong)

/-- 'tussocklaw18.ConeReads': WHATEVER THE INPUT: true; the input reads as it did. -/
def coneReadsSpec : ChangeSpec := { name := "coneReads", fn := fun _ => fun
  | [d] => { results := [.lit (.bool true)], args := [d] }
  | _ => none }
def coneReadsRow : OpenClaim := { program := "ytinndapmljnifaadoor", sum := "8ac3233a1fcd9caee724d2b06618c071406116644de5f7a3b4511fb6671bb887", func := "tussock/tussocklaw18.ConeReads", spec := "coneReads", inPlace := ["internal/bytealg.CountString", "internal/bytealg.IndexByteString", "internal/bytealg.IndexString", "internal/abi.NoEscape", "internal/bytealg.MakeNoZero"], unfollowed := true, recurses := true, named := ["unicode/utf8.first", "unicode/utf8.acceptRanges", "internal/bytealg.MaxLen"], apart := false, laid := [("unicode/utf8.acceptRanges", laid_unicode_utf8_acceptRanges), ("unicode/utf8.first", laid_unicode_utf8_first)] }
def ConeReadsSaid : Prop := coneReadsRow.holds Tryd.pinned (OpenSpec.ofChange coneReadsSpec)

/-- ITS FALSE NEIGHBOUR: 'it returns false'. Refute it at one input. -/
def coneReadsWrong : ChangeSpec := { name := "coneReads", fn := fun _ => fun
  | [d] => { results := [.lit (.bool false)], args := [d] }
  | _ => none }
def ConeReadsWrongFalsely : Prop := coneReadsRow.holds Tryd.pinned (OpenSpec.ofChange coneReadsWrong)

/-- 'tussocklaw18.ConeBack': WHATEVER THE INPUT: true; the input reads as it did. -/
def coneBackSpec : ChangeSpec := { name := "coneBack", fn := fun _ => fun
  | [d1, d2] => { results := [.lit (.bool true)], args := [d1, d2] }
  | _ => none }
def coneBackRow : OpenClaim := { program := "ytinndapmljnifaadoor", sum := "8ac3233a1fcd9caee724d2b06618c071406116644de5f7a3b4511fb6671bb887", func := "tussock/tussocklaw18.ConeBack", spec := "coneBack", inPlace := ["internal/bytealg.CountString", "internal/bytealg.IndexByteString", "internal/bytealg.IndexString", "internal/abi.NoEscape", "internal/bytealg.MakeNoZero"], unfollowed := true, recurses := true, named := ["unicode/utf8.first", "unicode/utf8.acceptRanges", "internal/bytealg.MaxLen"], apart := false, laid := [("unicode/utf8.acceptRanges", laid_unicode_utf8_acceptRanges), ("unicode/utf8.first", laid_unicode_utf8_first)] }
def ConeBackSaid : Prop := coneBackRow.holds Tryd.pinned (OpenSpec.ofChange coneBackSpec)

/-- ITS FALSE NEIGHBOUR: 'it returns false'. Refute it at one input. -/
def coneBackWrong : ChangeSpec := { name := "coneBack", fn := fun _ => fun
  | [d1, d2] => { results := [.lit (.bool false)], args := [d1, d2] }
  | _ => none }
def ConeBackWrongFalsely : Prop := coneBackRow.holds Tryd.pinned (OpenSpec.ofChange coneBackWrong)

/- THE SECOND FORM. 'bulk': how many values and letters a reading holds, each counted each time it is reached (what is shared counts as often as it is met; a slice's spare places count too). A statement '..UptoSaid' is the law's where the arguments, and the package variables that the reading takes, are together of bulk at most 1048576: NARROWER than '..Said'. Prove '..Said' where nothing that the law and all that it calls make is longer than what came in: it says more and counts as full. Else prove '..UptoSaid'. A law counts once. -/
mutual
def uptoBulk {H : Type} : DataW H → Nat
  | .lit (.string bytes) => bytes.length + 1
  | .lit _ => 1
  | .nil => 1
  | .ptr d => uptoBulk d + 1
  | .slice elems spare => uptoBulkAll elems + uptoBulkAll spare + 1
  | .agg parts => uptoBulkAll parts + 1
  | .iface _ d => uptoBulk d + 1
  | .map entries => uptoBulkEntries entries + 1
  | .held _ => 1
def uptoBulkAll {H : Type} : List (DataW H) → Nat
  | [] => 0
  | d :: r => uptoBulk d + uptoBulkAll r
def uptoBulkEntries {H : Type} : List (Lit × DataW H) → Nat
  | [] => 0
  | x :: r => uptoBulkEntry x + uptoBulkEntries r
def uptoBulkEntry {H : Type} : Lit × DataW H → Nat
  | (.string bytes, d) => bytes.length + uptoBulk d + 1
  | (_, d) => uptoBulk d + 1
 end
def uptoSmall : (H : Type) → List (DataW H) → Bool := fun _ ds => decide (uptoBulkAll ds ≤ 1048576)
def OpenSpec.upto (s : _root_.Go.ChangeSpec) : _root_.Go.OpenSpec := { _root_.Go.OpenSpec.ofChange s with cond := some uptoSmall }

/-- 'tussocklaw18.ConeAsks', WHERE WHAT IT READS IS OF BULK AT MOST 1048576: true; the input reads as it did. -/
def coneAsksUptoRow : OpenClaim := { program := "ytinndapmljnifaadoor", sum := "8ac3233a1fcd9caee724d2b06618c071406116644de5f7a3b4511fb6671bb887", func := "tussock/tussocklaw18.ConeAsks", spec := "coneAsks", inPlace := ["internal/bytealg.CountString", "internal/bytealg.IndexByteString", "internal/bytealg.IndexString", "internal/abi.NoEscape", "internal/bytealg.MakeNoZero"], unfollowed := true, recurses := true, named := ["unicode/utf8.first", "unicode/utf8.acceptRanges", "internal/bytealg.MaxLen"], apart := false, laid := [("unicode/utf8.acceptRanges", laid_unicode_utf8_acceptRanges), ("unicode/utf8.first", laid_unicode_utf8_first)], narrowed := true }
def ConeAsksUptoSaid : Prop := coneAsksUptoRow.holds Tryd.pinned (OpenSpec.upto coneAsksSpec)

/-- 'tussocklaw18.ConeFiles', WHERE WHAT IT READS IS OF BULK AT MOST 1048576: true; the input reads as it did. -/
def coneFilesUptoRow : OpenClaim := { program := "ytinndapmljnifaadoor", sum := "8ac3233a1fcd9caee724d2b06618c071406116644de5f7a3b4511fb6671bb887", func := "tussock/tussocklaw18.ConeFiles", spec := "coneFiles", inPlace := ["internal/bytealg.CountString", "internal/bytealg.IndexByteString", "internal/bytealg.IndexString", "internal/abi.NoEscape", "internal/bytealg.MakeNoZero"], unfollowed := true, recurses := true, named := ["unicode/utf8.first", "unicode/utf8.acceptRanges", "internal/bytealg.MaxLen"], apart := false, laid := [("unicode/utf8.acceptRanges", laid_unicode_utf8_acceptRanges), ("unicode/utf8.first", laid_unicode_utf8_first)], narrowed := true }
def ConeFilesUptoSaid : Prop := coneFilesUptoRow.holds Tryd.pinned (OpenSpec.upto coneFilesSpec)

/-- 'tussocklaw18.ConeMore', WHERE WHAT IT READS IS OF BULK AT MOST 1048576: true; the input reads as it did. -/
def coneMoreUptoRow : OpenClaim := { program := "ytinndapmljnifaadoor", sum := "8ac3233a1fcd9caee724d2b06618c071406116644de5f7a3b4511fb6671bb887", func := "tussock/tussocklaw18.ConeMore", spec := "coneMore", inPlace := ["internal/bytealg.CountString", "internal/bytealg.IndexByteString", "internal/bytealg.IndexString", "internal/abi.NoEscape", "internal/bytealg.MakeNoZero"], unfollowed := true, recurses := true, named := ["unicode/utf8.first", "unicode/utf8.acceptRanges", "internal/bytealg.MaxLen"], apart := false, laid := [("unicode/utf8.acceptRanges", laid_unicode_utf8_acceptRanges), ("unicode/utf8.first", laid_unicode_utf8_first)], narrowed := true }
def ConeMoreUptoSaid : Prop := coneMoreUptoRow.holds Tryd.pinned (OpenSpec.upto coneMoreSpec)

/-- 'tussocklaw18.ConeTwo', WHERE WHAT IT READS IS OF BULK AT MOST 1048576: true; the input reads as it did. -/
def coneTwoUptoRow : OpenClaim := { program := "ytinndapmljnifaadoor", sum := "8ac3233a1fcd9caee724d2b06618c071406116644de5f7a3b4511fb6671bb887", func := "tussock/tussocklaw18.ConeTwo", spec := "coneTwo", inPlace := ["internal/bytealg.CountString", "internal/bytealg.IndexByteString", "internal/bytealg.IndexString", "internal/abi.NoEscape", "internal/bytealg.MakeNoZero"], unfollowed := true, recurses := true, named := ["unicode/utf8.first", "unicode/utf8.acceptRanges", "internal/bytealg.MaxLen"], apart := false, laid := [("unicode/utf8.acceptRanges", laid_unicode_utf8_acceptRanges), ("unicode/utf8.first", laid_unicode_utf8_first)], narrowed := true }
def ConeTwoUptoSaid : Prop := coneTwoUptoRow.holds Tryd.pinned (OpenSpec.upto coneTwoSpec)

/-- 'tussocklaw18.ConeOf', WHERE WHAT IT READS IS OF BULK AT MOST 1048576: true; the input reads as it did. -/
def coneOfUptoRow : OpenClaim := { program := "ytinndapmljnifaadoor", sum := "8ac3233a1fcd9caee724d2b06618c071406116644de5f7a3b4511fb6671bb887", func := "tussock/tussocklaw18.ConeOf", spec := "coneOf", inPlace := ["internal/bytealg.CountString", "internal/bytealg.IndexByteString", "internal/bytealg.IndexString", "internal/abi.NoEscape", "internal/bytealg.MakeNoZero"], unfollowed := true, recurses := true, named := ["unicode/utf8.first", "unicode/utf8.acceptRanges", "internal/bytealg.MaxLen"], apart := false, laid := [("unicode/utf8.acceptRanges", laid_unicode_utf8_acceptRanges), ("unicode/utf8.first", laid_unicode_utf8_first)], narrowed := true }
def ConeOfUptoSaid : Prop := coneOfUptoRow.holds Tryd.pinned (OpenSpec.upto coneOfSpec)

/-- 'tussocklaw18.ConeReads', WHERE WHAT IT READS IS OF BULK AT MOST 1048576: true; the input reads as it did. -/
def coneReadsUptoRow : OpenClaim := { program := "ytinndapmljnifaadoor", sum := "8ac3233a1fcd9caee724d2b06618c071406116644de5f7a3b4511fb6671bb887", func := "tussock/tussocklaw18.ConeReads", spec := "coneReads", inPlace := ["internal/bytealg.CountString", "internal/bytealg.IndexByteString", "internal/bytealg.IndexString", "internal/abi.NoEscape", "internal/bytealg.MakeNoZero"], unfollowed := true, recurses := true, named := ["unicode/utf8.first", "unicode/utf8.acceptRanges", "internal/bytealg.MaxLen"], apart := false, laid := [("unicode/utf8.acceptRanges", laid_unicode_utf8_acceptRanges), ("unicode/utf8.first", laid_unicode_utf8_first)], narrowed := true }
def ConeReadsUptoSaid : Prop := coneReadsUptoRow.holds Tryd.pinned (OpenSpec.upto coneReadsSpec)

/-- 'tussocklaw18.ConeBack', WHERE WHAT IT READS IS OF BULK AT MOST 1048576: true; the input reads as it did. -/
def coneBackUptoRow : OpenClaim := { program := "ytinndapmljnifaadoor", sum := "8ac3233a1fcd9caee724d2b06618c071406116644de5f7a3b4511fb6671bb887", func := "tussock/tussocklaw18.ConeBack", spec := "coneBack", inPlace := ["internal/bytealg.CountString", "internal/bytealg.IndexByteString", "internal/bytealg.IndexString", "internal/abi.NoEscape", "internal/bytealg.MakeNoZero"], unfollowed := true, recurses := true, named := ["unicode/utf8.first", "unicode/utf8.acceptRanges", "internal/bytealg.MaxLen"], apart := false, laid := [("unicode/utf8.acceptRanges", laid_unicode_utf8_acceptRanges), ("unicode/utf8.first", laid_unicode_utf8_first)], narrowed := true }
def ConeBackUptoSaid : Prop := coneBackUptoRow.holds Tryd.pinned (OpenSpec.upto coneBackSpec)

end Rows
end Go.Proofs.YtinndapmljnifaaDoor
