/-
  NARROWER THAN 'FOR EVERY INPUT', by the rows' own cells (each row's printed sentence says how): WalForms: laid · WalLasts: laid · WalBeside: laid · WalTells: laid · WalPlays: laid.
  DERIVED. THE GIVEN ROWS OF THIS SEAT. 5 by the template 'for every input the law returns true; each argument reads behind the call as it read before'; 0 by the template 'total and deterministic' (their statements: YthlmbgaipbjbhaaDoorTotals.lean).
  GIVEN WITH THE SEED: the statements are not yours to turn. If you find one false, say at which input.
  Laid BY PROGRAM, IN A SANDBOX (cutbox-rows.mjs): the forced cells as the released guide's own fill.sh prints them over the translation 0e70bacb7d29926e… (all of the seat's roots in one cut). By AI agents, Wed Nov 11 2026. No macro, syntax, notation, axiom, sorry.
-/
import Derived.Test.YthlmbgaipbjbhaaDoorChecked
import GoSem.Claim
import GoSem.ClaimJoined
import GoSem.ClaimMapViews
import Derived.JoinedTies
import Derived.KernelRfl
namespace Go.Proofs.YthlmbgaipbjbhaaDoor
/- THE CELL 'sum', in the pinned program and in every row, IS THE sha256 OF THE DUMP (.gsa) THAT YthlmbgaipbjbhaaDoorProg.lean LOADS. Nothing in Lean hashes anything: it is a label: what it is worth is what the hold of that sum in a sandbox is worth. -/
noncomputable def Tryd.pinned : Pinned := { name := "ythlmbgaipbjbhaadoor", sum := "0e70bacb7d29926eeff1550a4e8a293db0ae372c5ef19dc0448922df2cd6bf02", checked := Tryd.checked }
namespace Rows
def none {H : Type} : Left H := { results := [], args := [] }

/- WHAT THE LISTED PACKAGE-LEVEL VARIABLES READ AS WHEN THE CALL BEGINS. Each datum BY PROGRAM (the guide's laid-datum.mjs) off the statement by which the dump's own 'gosem.cut.vars' lays the variable. In a bare row this is a premise. The card (YthlmbgaipbjbhaaDoorCards.lean) ties it to the program's text. -/
def laid_tussock_wire_nibbles {H : Type} : DataW H := .agg [.lit (.int .u32 0), .lit (.int .u32 498536548), .lit (.int .u32 997073096), .lit (.int .u32 651767980), .lit (.int .u32 1994146192), .lit (.int .u32 1802195444), .lit (.int .u32 1303535960), .lit (.int .u32 1342533948), .lit (.int .u32 3988292384), .lit (.int .u32 4027552580), .lit (.int .u32 3604390888), .lit (.int .u32 3412177804), .lit (.int .u32 2607071920), .lit (.int .u32 2262029012), .lit (.int .u32 2685067896), .lit (.int .u32 3183342108)]

/-- 'tussocklaw05.WalForms': WHATEVER THE INPUT: true; the input reads as it did. -/
def walFormsSpec : ChangeSpec := { name := "walForms", fn := fun _ => fun
  | [d1, d2, d3] => { results := [.lit (.bool true)], args := [d1, d2, d3] }
  | _ => none }
def walFormsRow : OpenClaim := { program := "ythlmbgaipbjbhaadoor", sum := "0e70bacb7d29926eeff1550a4e8a293db0ae372c5ef19dc0448922df2cd6bf02", func := "tussock/tussocklaw05.WalForms", spec := "walForms", inPlace := ["maps.clone"], unfollowed := true, recurses := true, named := ["tussock/wire.nibbles"], apart := false, laid := [("tussock/wire.nibbles", laid_tussock_wire_nibbles)] }
def WalFormsSaid : Prop := walFormsRow.holds Tryd.pinned (OpenSpec.ofChange walFormsSpec)

/-- ITS FALSE NEIGHBOUR: 'it returns false'. Refute it at one input. -/
def walFormsWrong : ChangeSpec := { name := "walForms", fn := fun _ => fun
  | [d1, d2, d3] => { results := [.lit (.bool false)], args := [d1, d2, d3] }
  | _ => none }
def WalFormsWrongFalsely : Prop := walFormsRow.holds Tryd.pinned (OpenSpec.ofChange walFormsWrong)

/-- 'tussocklaw05.WalLasts': WHATEVER THE INPUT: true; the input reads as it did. -/
def walLastsSpec : ChangeSpec := { name := "walLasts", fn := fun _ => fun
  | [d] => { results := [.lit (.bool true)], args := [d] }
  | _ => none }
def walLastsRow : OpenClaim := { program := "ythlmbgaipbjbhaadoor", sum := "0e70bacb7d29926eeff1550a4e8a293db0ae372c5ef19dc0448922df2cd6bf02", func := "tussock/tussocklaw05.WalLasts", spec := "walLasts", inPlace := ["maps.clone"], unfollowed := true, recurses := true, named := ["tussock/wire.nibbles"], apart := false, laid := [("tussock/wire.nibbles", laid_tussock_wire_nibbles)] }
def WalLastsSaid : Prop := walLastsRow.holds Tryd.pinned (OpenSpec.ofChange walLastsSpec)

/-- ITS FALSE NEIGHBOUR: 'it returns false'. Refute it at one input. -/
def walLastsWrong : ChangeSpec := { name := "walLasts", fn := fun _ => fun
  | [d] => { results := [.lit (.bool false)], args := [d] }
  | _ => none }
def WalLastsWrongFalsely : Prop := walLastsRow.holds Tryd.pinned (OpenSpec.ofChange walLastsWrong)

/-- 'tussocklaw05.WalBeside': WHATEVER THE INPUT: true; the input reads as it did. -/
def walBesideSpec : ChangeSpec := { name := "walBeside", fn := fun _ => fun
  | [d1, d2, d3, d4, d5, d6] => { results := [.lit (.bool true)], args := [d1, d2, d3, d4, d5, d6] }
  | _ => none }
def walBesideRow : OpenClaim := { program := "ythlmbgaipbjbhaadoor", sum := "0e70bacb7d29926eeff1550a4e8a293db0ae372c5ef19dc0448922df2cd6bf02", func := "tussock/tussocklaw05.WalBeside", spec := "walBeside", inPlace := ["maps.clone"], unfollowed := true, recurses := true, named := ["tussock/wire.nibbles"], apart := false, laid := [("tussock/wire.nibbles", laid_tussock_wire_nibbles)] }
def WalBesideSaid : Prop := walBesideRow.holds Tryd.pinned (OpenSpec.ofChange walBesideSpec)

/-- ITS FALSE NEIGHBOUR: 'it returns false'. Refute it at one input. -/
def walBesideWrong : ChangeSpec := { name := "walBeside", fn := fun _ => fun
  | [d1, d2, d3, d4, d5, d6] => { results := [.lit (.bool false)], args := [d1, d2, d3, d4, d5, d6] }
  | _ => none }
def WalBesideWrongFalsely : Prop := walBesideRow.holds Tryd.pinned (OpenSpec.ofChange walBesideWrong)

/-- 'tussocklaw05.WalTells': WHATEVER THE INPUT: true; the input reads as it did. -/
def walTellsSpec : ChangeSpec := { name := "walTells", fn := fun _ => fun
  | [d1, d2, d3, d4, d5, d6] => { results := [.lit (.bool true)], args := [d1, d2, d3, d4, d5, d6] }
  | _ => none }
def walTellsRow : OpenClaim := { program := "ythlmbgaipbjbhaadoor", sum := "0e70bacb7d29926eeff1550a4e8a293db0ae372c5ef19dc0448922df2cd6bf02", func := "tussock/tussocklaw05.WalTells", spec := "walTells", inPlace := ["maps.clone"], unfollowed := true, recurses := true, named := ["tussock/wire.nibbles"], apart := false, laid := [("tussock/wire.nibbles", laid_tussock_wire_nibbles)] }
def WalTellsSaid : Prop := walTellsRow.holds Tryd.pinned (OpenSpec.ofChange walTellsSpec)

/-- ITS FALSE NEIGHBOUR: 'it returns false'. Refute it at one input. -/
def walTellsWrong : ChangeSpec := { name := "walTells", fn := fun _ => fun
  | [d1, d2, d3, d4, d5, d6] => { results := [.lit (.bool false)], args := [d1, d2, d3, d4, d5, d6] }
  | _ => none }
def WalTellsWrongFalsely : Prop := walTellsRow.holds Tryd.pinned (OpenSpec.ofChange walTellsWrong)

/-- 'tussocklaw05.WalPlays': WHATEVER THE INPUT: true; the input reads as it did. -/
def walPlaysSpec : ChangeSpec := { name := "walPlays", fn := fun _ => fun
  | [d1, d2, d3] => { results := [.lit (.bool true)], args := [d1, d2, d3] }
  | _ => none }
def walPlaysRow : OpenClaim := { program := "ythlmbgaipbjbhaadoor", sum := "0e70bacb7d29926eeff1550a4e8a293db0ae372c5ef19dc0448922df2cd6bf02", func := "tussock/tussocklaw05.WalPlays", spec := "walPlays", inPlace := ["maps.clone"], unfollowed := true, recurses := true, named := ["tussock/wire.nibbles"], apart := false, laid := [("tussock/wire.nibbles", laid_tussock_wire_nibbles)] }
def WalPlaysSaid : Prop := walPlaysRow.holds Tryd.pinned (OpenSpec.ofChange walPlaysSpec)

/-- ITS FALSE NEIGHBOUR: 'it returns false'. Refute it at one input. -/
def walPlaysWrong : ChangeSpec := { name := "walPlays", fn := fun _ => fun
  | [d1, d2, d3] => { results := [.lit (.bool false)], args := [d1, d2, d3] }
  | _ => none }
def WalPlaysWrongFalsely : Prop := walPlaysRow.holds Tryd.pinned (OpenSpec.ofChange walPlaysWrong)

/- THE SECOND FORM. 'bulk': how many values and letters a reading holds, each counted each time it is reached (what is shared counts as often as it is met; a slice's spare places count too). A statement '..UptoSaid' is the law's where the arguments, and the package variables that the reading takes, are together of bulk at most 1048576: NARROWER than '..Said'. Prove '..Said' where nothing that the law and all that it calls make is longer than what came in: it says more and counts as full. Else prove '..UptoSaid'. A law counts once. -/
mutual
def uptoBulk {H : Type} : DataW H → Nat
  | .lit (.string bytes) => bytes.length + 1
  | .lit _ => 1
  | .nil => 1
  | .ptr d => uptoBulk d + 1
  | .slice elems spare => uptoBulkAll elems + uptoBulkAll spare + 1
  | .agg parts => uptoBulkAll parts + 1
  | .iface _ d => uptoBulk d + 1
  | .map entries => uptoBulkEntries entries + 1
  | .held _ => 1
def uptoBulkAll {H : Type} : List (DataW H) → Nat
  | [] => 0
  | d :: r => uptoBulk d + uptoBulkAll r
def uptoBulkEntries {H : Type} : List (Lit × DataW H) → Nat
  | [] => 0
  | x :: r => uptoBulkEntry x + uptoBulkEntries r
def uptoBulkEntry {H : Type} : Lit × DataW H → Nat
  | (.string bytes, d) => bytes.length + uptoBulk d + 1
  | (_, d) => uptoBulk d + 1
 end
def uptoSmall : (H : Type) → List (DataW H) → Bool := fun _ ds => decide (uptoBulkAll ds ≤ 1048576)
def OpenSpec.upto (s : _root_.Go.ChangeSpec) : _root_.Go.OpenSpec := { _root_.Go.OpenSpec.ofChange s with cond := some uptoSmall }

/-- 'tussocklaw05.WalForms', WHERE WHAT IT READS IS OF BULK AT MOST 1048576: true; the input reads as it did. -/
def walFormsUptoRow : OpenClaim := { program := "ythlmbgaipbjbhaadoor", sum := "0e70bacb7d29926eeff1550a4e8a293db0ae372c5ef19dc0448922df2cd6bf02", func := "tussock/tussocklaw05.WalForms", spec := "walForms", inPlace := ["maps.clone"], unfollowed := true, recurses := true, named := ["tussock/wire.nibbles"], apart := false, laid := [("tussock/wire.nibbles", laid_tussock_wire_nibbles)], narrowed := true }
def WalFormsUptoSaid : Prop := walFormsUptoRow.holds Tryd.pinned (OpenSpec.upto walFormsSpec)

/-- 'tussocklaw05.WalLasts', WHERE WHAT IT READS IS OF BULK AT MOST 1048576: true; the input reads as it did. -/
def walLastsUptoRow : OpenClaim := { program := "ythlmbgaipbjbhaadoor", sum := "0e70bacb7d29926eeff1550a4e8a293db0ae372c5ef19dc0448922df2cd6bf02", func := "tussock/tussocklaw05.WalLasts", spec := "walLasts", inPlace := ["maps.clone"], unfollowed := true, recurses := true, named := ["tussock/wire.nibbles"], apart := false, laid := [("tussock/wire.nibbles", laid_tussock_wire_nibbles)], narrowed := true }
def WalLastsUptoSaid : Prop := walLastsUptoRow.holds Tryd.pinned (OpenSpec.upto walLastsSpec)

/-- 'tussocklaw05.WalBeside', WHERE WHAT IT READS IS OF BULK AT MOST 1048576: true; the input reads as it did. -/
def walBesideUptoRow : OpenClaim := { program := "ythlmbgaipbjbhaadoor", sum := "0e70bacb7d29926eeff1550a4e8a293db0ae372c5ef19dc0448922df2cd6bf02", func := "tussock/tussocklaw05.WalBeside", spec := "walBeside", inPlace := ["maps.clone"], unfollowed := true, recurses := true, named := ["tussock/wire.nibbles"], apart := false, laid := [("tussock/wire.nibbles", laid_tussock_wire_nibbles)], narrowed := true }
def WalBesideUptoSaid : Prop := walBesideUptoRow.holds Tryd.pinned (OpenSpec.upto walBesideSpec)

/-- 'tussocklaw05.WalTells', WHERE WHAT IT READS IS OF BULK AT MOST 1048576: true; the input reads as it did. -/
def walTellsUptoRow : OpenClaim := { program := "ythlmbgaipbjbhaadoor", sum := "0e70bacb7d29926eeff1550a4e8a293db0ae372c5ef19dc0448922df2cd6bf02", func := "tussock/tussocklaw05.WalTells", spec := "walTells", inPlace := ["maps.clone"], unfollowed := true, recurses := true, named := ["tussock/wire.nibbles"], apart := false, laid := [("tussock/wire.nibbles", laid_tussock_wire_nibbles)], narrowed := true }
def WalTellsUptoSaid : Prop := walTellsUptoRow.holds Tryd.pinned (OpenSpec.upto walTellsSpec)

/-- 'tussocklaw05.WalPlays', WHERE WHAT IT READS IS OF BULK AT MOST 1048576: true; the input reads as it did. -/
def walPlaysUptoRow : OpenClaim := { program := "ythlmbgaipbjbhaadoor", sum := "0e70bacb7d29926eeff1550a4e8a293db0ae372c5ef19dc0448922df2cd6bf02", func := "tussock/tussocklaw05.WalPlays", spec := "walPlays", inPlace := ["maps.clone"], unfollowed := true, recurses := true, named := ["tussock/wire.nibbles"], apart := false, laid := [("tussock/wire.nibbles", laid_tussock_wire_nibbles)], narrowed := true }
def WalPlaysUptoSaid : Prop := walPlaysUptoRow.holds Tryd.pinned (OpenSpec.upto walPlaysSpec)

end Rows
end Go.Proofs.YthlmbgaipbjbhaaDoor
