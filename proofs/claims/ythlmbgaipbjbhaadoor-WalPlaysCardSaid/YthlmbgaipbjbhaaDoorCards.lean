/-
  DERIVED. GIVEN WITH THE SEED: THE CARDS: each row of YthlmbgaipbjbhaaDoorRows.lean that lists a variable, with what it lists TIED to the program's text (the seventh form; the later family's looks); each row that meets fmt, with fmt's text TOLD by the authors' own Lean function (tested against real Go, not proved from fmt's source: count such statements apart). THE CARD IS WHAT COUNTS. Prove the row's statement (the work); the ties are given (YthlmbgaipbjbhaaDoorTie.lean); close each card by the builder's one call (the guide's Derived/Test/ToyasCard.lean, 'card_holds'). Laid BY PROGRAM, IN A SANDBOX (cutbox-door.mjs). By AI agents, Wed Nov 11 2026. No macro, syntax, notation, axiom, sorry.
-/
import Derived.Test.YthlmbgaipbjbhaaDoorRows
import GoSem.ClaimSeven
namespace Go.Proofs.YthlmbgaipbjbhaaDoor
namespace Rows

/-- THE TIED CARD OF 'tussocklaw05.WalForms'. -/
def walFormsCard : Claim7 := { stood := { row := walFormsRow, standIns := [], harness := (true, "368ca712fee7425d927e623a36d3ea8d2645ab1cfb031edc61f7618dbd10d9fe"), looks := true }, kinds := [], alts := [], laidByText := true, laidKinds := [.data], laidTests := true, laidLooks := .later }
def WalFormsCardSaid : Prop := Claim7.holds Tryd.pinned (.plain (OpenSpec.ofChange walFormsSpec)) walFormsCard

/-- THE TIED CARD OF 'tussocklaw05.WalLasts'. -/
def walLastsCard : Claim7 := { stood := { row := walLastsRow, standIns := [], harness := (true, "368ca712fee7425d927e623a36d3ea8d2645ab1cfb031edc61f7618dbd10d9fe"), looks := true }, kinds := [], alts := [], laidByText := true, laidKinds := [.data], laidTests := true, laidLooks := .later }
def WalLastsCardSaid : Prop := Claim7.holds Tryd.pinned (.plain (OpenSpec.ofChange walLastsSpec)) walLastsCard

/-- THE TIED CARD OF 'tussocklaw05.WalBeside'. -/
def walBesideCard : Claim7 := { stood := { row := walBesideRow, standIns := [], harness := (true, "368ca712fee7425d927e623a36d3ea8d2645ab1cfb031edc61f7618dbd10d9fe"), looks := true }, kinds := [], alts := [], laidByText := true, laidKinds := [.data], laidTests := true, laidLooks := .later }
def WalBesideCardSaid : Prop := Claim7.holds Tryd.pinned (.plain (OpenSpec.ofChange walBesideSpec)) walBesideCard

/-- THE TIED CARD OF 'tussocklaw05.WalTells'. -/
def walTellsCard : Claim7 := { stood := { row := walTellsRow, standIns := [], harness := (true, "368ca712fee7425d927e623a36d3ea8d2645ab1cfb031edc61f7618dbd10d9fe"), looks := true }, kinds := [], alts := [], laidByText := true, laidKinds := [.data], laidTests := true, laidLooks := .later }
def WalTellsCardSaid : Prop := Claim7.holds Tryd.pinned (.plain (OpenSpec.ofChange walTellsSpec)) walTellsCard

/-- THE TIED CARD OF 'tussocklaw05.WalPlays'. -/
def walPlaysCard : Claim7 := { stood := { row := walPlaysRow, standIns := [], harness := (true, "368ca712fee7425d927e623a36d3ea8d2645ab1cfb031edc61f7618dbd10d9fe"), looks := true }, kinds := [], alts := [], laidByText := true, laidKinds := [.data], laidTests := true, laidLooks := .later }
def WalPlaysCardSaid : Prop := Claim7.holds Tryd.pinned (.plain (OpenSpec.ofChange walPlaysSpec)) walPlaysCard

/-- THE SECOND FORM's CARD OF 'tussocklaw05.WalForms'. -/
def walFormsUptoCard : Claim7 := { stood := { row := walFormsUptoRow, standIns := [], harness := (true, "368ca712fee7425d927e623a36d3ea8d2645ab1cfb031edc61f7618dbd10d9fe"), looks := true }, kinds := [], alts := [], laidByText := true, laidKinds := [.data], laidTests := true, laidLooks := .later }
def WalFormsUptoCardSaid : Prop := Claim7.holds Tryd.pinned (.plain (OpenSpec.upto walFormsSpec)) walFormsUptoCard

/-- THE SECOND FORM's CARD OF 'tussocklaw05.WalLasts'. -/
def walLastsUptoCard : Claim7 := { stood := { row := walLastsUptoRow, standIns := [], harness := (true, "368ca712fee7425d927e623a36d3ea8d2645ab1cfb031edc61f7618dbd10d9fe"), looks := true }, kinds := [], alts := [], laidByText := true, laidKinds := [.data], laidTests := true, laidLooks := .later }
def WalLastsUptoCardSaid : Prop := Claim7.holds Tryd.pinned (.plain (OpenSpec.upto walLastsSpec)) walLastsUptoCard

/-- THE SECOND FORM's CARD OF 'tussocklaw05.WalBeside'. -/
def walBesideUptoCard : Claim7 := { stood := { row := walBesideUptoRow, standIns := [], harness := (true, "368ca712fee7425d927e623a36d3ea8d2645ab1cfb031edc61f7618dbd10d9fe"), looks := true }, kinds := [], alts := [], laidByText := true, laidKinds := [.data], laidTests := true, laidLooks := .later }
def WalBesideUptoCardSaid : Prop := Claim7.holds Tryd.pinned (.plain (OpenSpec.upto walBesideSpec)) walBesideUptoCard

/-- THE SECOND FORM's CARD OF 'tussocklaw05.WalTells'. -/
def walTellsUptoCard : Claim7 := { stood := { row := walTellsUptoRow, standIns := [], harness := (true, "368ca712fee7425d927e623a36d3ea8d2645ab1cfb031edc61f7618dbd10d9fe"), looks := true }, kinds := [], alts := [], laidByText := true, laidKinds := [.data], laidTests := true, laidLooks := .later }
def WalTellsUptoCardSaid : Prop := Claim7.holds Tryd.pinned (.plain (OpenSpec.upto walTellsSpec)) walTellsUptoCard

/-- THE SECOND FORM's CARD OF 'tussocklaw05.WalPlays'. -/
def walPlaysUptoCard : Claim7 := { stood := { row := walPlaysUptoRow, standIns := [], harness := (true, "368ca712fee7425d927e623a36d3ea8d2645ab1cfb031edc61f7618dbd10d9fe"), looks := true }, kinds := [], alts := [], laidByText := true, laidKinds := [.data], laidTests := true, laidLooks := .later }
def WalPlaysUptoCardSaid : Prop := Claim7.holds Tryd.pinned (.plain (OpenSpec.upto walPlaysSpec)) walPlaysUptoCard
end Rows
end Go.Proofs.YthlmbgaipbjbhaaDoor
