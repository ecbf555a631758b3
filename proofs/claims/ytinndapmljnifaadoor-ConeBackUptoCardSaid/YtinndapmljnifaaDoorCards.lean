/-
  DERIVED. GIVEN WITH THE SEED: THE CARDS: each row of YtinndapmljnifaaDoorRows.lean that lists a variable, with what it lists TIED to the program's text (the seventh form; the later family's looks); each row that meets fmt, with fmt's text TOLD by the authors' own Lean function (tested against real Go, not proved from fmt's source: count such statements apart). THE CARD IS WHAT COUNTS. Prove the row's statement (the work); the ties are given (YtinndapmljnifaaDoorTie.lean); close each card by the builder's one call (the guide's Derived/Test/ToyasCard.lean, 'card_holds'). Laid BY PROGRAM, IN A SANDBOX (cutbox-door.mjs). By AI agents, Wed Nov 11 2026. No macro, syntax, notation, axiom, sorry.
-/
import Derived.Test.YtinndapmljnifaaDoorRows
import GoSem.ClaimSeven
namespace Go.Proofs.YtinndapmljnifaaDoor
namespace Rows

/-- THE TIED CARD OF 'tussocklaw18.ConeAsks'. -/
def coneAsksCard : Claim7 := { stood := { row := coneAsksRow, standIns := [], harness := (true, "699c3a1ec5b2d94b710e144a4f91dea316f9299c555d660405929afd331f6cc0"), looks := false }, kinds := [], alts := [], laidByText := true, laidKinds := [.data, .pinned], laidTests := true, laidLooks := .later }
def ConeAsksCardSaid : Prop := Claim7.holds Tryd.pinned (.plain (OpenSpec.ofChange coneAsksSpec)) coneAsksCard

/-- THE TIED CARD OF 'tussocklaw18.ConeFiles'. -/
def coneFilesCard : Claim7 := { stood := { row := coneFilesRow, standIns := [], harness := (true, "699c3a1ec5b2d94b710e144a4f91dea316f9299c555d660405929afd331f6cc0"), looks := false }, kinds := [], alts := [], laidByText := true, laidKinds := [.data, .pinned], laidTests := true, laidLooks := .later }
def ConeFilesCardSaid : Prop := Claim7.holds Tryd.pinned (.plain (OpenSpec.ofChange coneFilesSpec)) coneFilesCard

/-- THE TIED CARD OF 'tussocklaw18.ConeMore'. -/
def coneMoreCard : Claim7 := { stood := { row := coneMoreRow, standIns := [], harness := (true, "699c3a1ec5b2d94b710e144a4f91dea316f9299c555d660405929afd331f6cc0"), looks := false }, kinds := [], alts := [], laidByText := true, laidKinds := [.data, .pinned], laidTests := true, laidLooks := .later }
def ConeMoreCardSaid : Prop := Claim7.holds Tryd.pinned (.plain (OpenSpec.ofChange coneMoreSpec)) coneMoreCard

/-- THE TIED CARD OF 'tussocklaw18.ConeTwo'. -/
def coneTwoCard : Claim7 := { stood := { row := coneTwoRow, standIns := [], harness := (true, "699c3a1ec5b2d94b710e144a4f91dea316f9299c555d660405929afd331f6cc0"), looks := false }, kinds := [], alts := [], laidByText := true, laidKinds := [.data, .pinned], laidTests := true, laidLooks := .later }
def ConeTwoCardSaid : Prop := Claim7.holds Tryd.pinned (.plain (OpenSpec.ofChange coneTwoSpec)) coneTwoCard

/-- THE TIED CARD OF 'tussocklaw18.ConeOf'. -/
def coneOfCard : Claim7 := { stood := { row := coneOfRow, standIns := [], harness := (true, "699c3a1ec5b2d94b710e144a4f91dea316f9299c555d660405929afd331f6cc0"), looks := false }, kinds := [], alts := [], laidByText := true, laidKinds := [.data, .pinned], laidTests := true, laidLooks := .later }
def ConeOfCardSaid : Prop := Claim7.holds Tryd.pinned (.plain (OpenSpec.ofChange coneOfSpec)) coneOfCard

/-- THE TIED CARD OF 'tussocklaw18.ConeReads'. -/
def coneReadsCard : Claim7 := { stood := { row := coneReadsRow, standIns := [], harness := (true, "699c3a1ec5b2d94b710e144a4f91dea316f9299c555d660405929afd331f6cc0"), looks := false }, kinds := [], alts := [], laidByText := true, laidKinds := [.data, .pinned], laidTests := true, laidLooks := .later }
def ConeReadsCardSaid : Prop := Claim7.holds Tryd.pinned (.plain (OpenSpec.ofChange coneReadsSpec)) coneReadsCard

/-- THE TIED CARD OF 'tussocklaw18.ConeBack'. -/
def coneBackCard : Claim7 := { stood := { row := coneBackRow, standIns := [], harness := (true, "699c3a1ec5b2d94b710e144a4f91dea316f9299c555d660405929afd331f6cc0"), looks := false }, kinds := [], alts := [], laidByText := true, laidKinds := [.data, .pinned], laidTests := true, laidLooks := .later }
def ConeBackCardSaid : Prop := Claim7.holds Tryd.pinned (.plain (OpenSpec.ofChange coneBackSpec)) coneBackCard

/-- THE SECOND FORM's CARD OF 'tussocklaw18.ConeAsks'. -/
def coneAsksUptoCard : Claim7 := { stood := { row := coneAsksUptoRow, standIns := [], harness := (true, "699c3a1ec5b2d94b710e144a4f91dea316f9299c555d660405929afd331f6cc0"), looks := false }, kinds := [], alts := [], laidByText := true, laidKinds := [.data, .pinned], laidTests := true, laidLooks := .later }
def ConeAsksUptoCardSaid : Prop := Claim7.holds Tryd.pinned (.plain (OpenSpec.upto coneAsksSpec)) coneAsksUptoCard

/-- THE SECOND FORM's CARD OF 'tussocklaw18.ConeFiles'. -/
def coneFilesUptoCard : Claim7 := { stood := { row := coneFilesUptoRow, standIns := [], harness := (true, "699c3a1ec5b2d94b710e144a4f91dea316f9299c555d660405929afd331f6cc0"), looks := false }, kinds := [], alts := [], laidByText := true, laidKinds := [.data, .pinned], laidTests := true, laidLooks := .later }
def ConeFilesUptoCardSaid : Prop := Claim7.holds Tryd.pinned (.plain (OpenSpec.upto coneFilesSpec)) coneFilesUptoCard

/-- THE SECOND FORM's CARD OF 'tussocklaw18.ConeMore'. -/
def coneMoreUptoCard : Claim7 := { stood := { row := coneMoreUptoRow, standIns := [], harness := (true, "699c3a1ec5b2d94b710e144a4f91dea316f9299c555d660405929afd331f6cc0"), looks := false }, kinds := [], alts := [], laidByText := true, laidKinds := [.data, .pinned], laidTests := true, laidLooks := .later }
def ConeMoreUptoCardSaid : Prop := Claim7.holds Tryd.pinned (.plain (OpenSpec.upto coneMoreSpec)) coneMoreUptoCard

/-- THE SECOND FORM's CARD OF 'tussocklaw18.ConeTwo'. -/
def coneTwoUptoCard : Claim7 := { stood := { row := coneTwoUptoRow, standIns := [], harness := (true, "699c3a1ec5b2d94b710e144a4f91dea316f9299c555d660405929afd331f6cc0"), looks := false }, kinds := [], alts := [], laidByText := true, laidKinds := [.data, .pinned], laidTests := true, laidLooks := .later }
def ConeTwoUptoCardSaid : Prop := Claim7.holds Tryd.pinned (.plain (OpenSpec.upto coneTwoSpec)) coneTwoUptoCard

/-- THE SECOND FORM's CARD OF 'tussocklaw18.ConeOf'. -/
def coneOfUptoCard : Claim7 := { stood := { row := coneOfUptoRow, standIns := [], harness := (true, "699c3a1ec5b2d94b710e144a4f91dea316f9299c555d660405929afd331f6cc0"), looks := false }, kinds := [], alts := [], laidByText := true, laidKinds := [.data, .pinned], laidTests := true, laidLooks := .later }
def ConeOfUptoCardSaid : Prop := Claim7.holds Tryd.pinned (.plain (OpenSpec.upto coneOfSpec)) coneOfUptoCard

/-- THE SECOND FORM's CARD OF 'tussocklaw18.ConeReads'. -/
def coneReadsUptoCard : Claim7 := { stood := { row := coneReadsUptoRow, standIns := [], harness := (true, "699c3a1ec5b2d94b710e144a4f91dea316f9299c555d660405929afd331f6cc0"), looks := false }, kinds := [], alts := [], laidByText := true, laidKinds := [.data, .pinned], laidTests := true, laidLooks := .later }
def ConeReadsUptoCardSaid : Prop := Claim7.holds Tryd.pinned (.plain (OpenSpec.upto coneReadsSpec)) coneReadsUptoCard

/-- THE SECOND FORM's CARD OF 'tussocklaw18.ConeBack'. -/
def coneBackUptoCard : Claim7 := { stood := { row := coneBackUptoRow, standIns := [], harness := (true, "699c3a1ec5b2d94b710e144a4f91dea316f9299c555d660405929afd331f6cc0"), looks := false }, kinds := [], alts := [], laidByText := true, laidKinds := [.data, .pinned], laidTests := true, laidLooks := .later }
def ConeBackUptoCardSaid : Prop := Claim7.holds Tryd.pinned (.plain (OpenSpec.upto coneBackSpec)) coneBackUptoCard
end Rows
end Go.Proofs.YtinndapmljnifaaDoor
