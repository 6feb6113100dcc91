/-
  DERIVED. GIVEN WITH THE SEED: THE CARDS: each row of YtmnpchoocaiegaaGreatDoorRows.lean that lists a variable, with what it lists TIED to the program's text (the seventh form; the later family's looks); each row that meets fmt, with fmt's text TOLD by the authors' own Lean function (tested against real Go, not proved from fmt's source: count such statements apart). THE CARD IS WHAT COUNTS. Prove the row's statement (the work); the ties are given (YtmnpchoocaiegaaGreatDoorTie.lean); close each card by the builder's one call (the guide's Derived/Test/ToyasCard.lean, 'card_holds'). Laid BY PROGRAM, IN A SANDBOX (cutbox-door.mjs). By AI agents, Wed Nov 11 2026. No macro, syntax, notation, axiom, sorry.
-/
import Derived.Test.YtmnpchoocaiegaaGreatDoorRows
import GoSem.ClaimSeven
namespace Go.Proofs.YtmnpchoocaiegaaGreatDoor
namespace Rows

/-- THE TIED CARD OF 'chancerylaw2.MarkupRefuses'. -/
def markupRefusesCard : Claim7 := { stood := { row := markupRefusesRow, standIns := [], harness := (true, "b798c21f5055e9cd159b433a68a058295c0428617d20527706b4b1c7ddd19987"), looks := true }, kinds := [], alts := [], laidByText := true, laidKinds := [.data, .data, .data, .data, .sentinel, .sentinel, .pinned], laidTests := true, laidLooks := .later }
def MarkupRefusesCardSaid : Prop := Claim7.holds Tryz.pinned (.plain (OpenSpec.ofChange markupRefusesSpec)) markupRefusesCard

/-- THE TIED CARD OF 'chancerylaw2.MarkupPrintMatches'. -/
def markupPrintMatchesCard : Claim7 := { stood := { row := markupPrintMatchesRow, standIns := [], harness := (true, "b798c21f5055e9cd159b433a68a058295c0428617d20527706b4b1c7ddd19987"), looks := true }, kinds := [], alts := [], laidByText := true, laidKinds := [.data, .data, .data, .data, .sentinel, .sentinel, .pinned], laidTests := true, laidLooks := .later }
def MarkupPrintMatchesCardSaid : Prop := Claim7.holds Tryz.pinned (.plain (OpenSpec.ofChange markupPrintMatchesSpec)) markupPrintMatchesCard

/-- THE TIED CARD OF 'chancerylaw2.MarkupParseAccepts'. -/
def markupParseAcceptsCard : Claim7 := { stood := { row := markupParseAcceptsRow, standIns := [], harness := (true, "b798c21f5055e9cd159b433a68a058295c0428617d20527706b4b1c7ddd19987"), looks := true }, kinds := [], alts := [], laidByText := true, laidKinds := [.data, .data, .data, .data, .sentinel, .sentinel, .pinned], laidTests := true, laidLooks := .later }
def MarkupParseAcceptsCardSaid : Prop := Claim7.holds Tryz.pinned (.plain (OpenSpec.ofChange markupParseAcceptsSpec)) markupParseAcceptsCard

/-- THE TIED CARD OF 'chancerylaw2.ParcelPartsMatch'. -/
def parcelPartsMatchCard : Claim7 := { stood := { row := parcelPartsMatchRow, standIns := [], harness := (true, "b798c21f5055e9cd159b433a68a058295c0428617d20527706b4b1c7ddd19987"), looks := true }, kinds := [], alts := [], laidByText := true, laidKinds := [.data, .data, .data, .data, .data, .pinned], laidTests := true, laidLooks := .later }
def ParcelPartsMatchCardSaid : Prop := Claim7.holds Tryz.pinned (.plain (OpenSpec.ofChange parcelPartsMatchSpec)) parcelPartsMatchCard

/-- THE TIED CARD OF 'chancerylaw2.ParcelLoadMatches'. -/
def parcelLoadMatchesCard : Claim7 := { stood := { row := parcelLoadMatchesRow, standIns := [], harness := (true, "b798c21f5055e9cd159b433a68a058295c0428617d20527706b4b1c7ddd19987"), looks := true }, kinds := [], alts := [], laidByText := true, laidKinds := [.data, .data, .data, .data, .data, .sentinel, .sentinel, .pinned], laidTests := true, laidLooks := .later }
def ParcelLoadMatchesCardSaid : Prop := Claim7.holds Tryz.pinned (.plain (OpenSpec.ofChange parcelLoadMatchesSpec)) parcelLoadMatchesCard

/-- THE SECOND FORM's CARD OF 'chancerylaw2.MarkupRefuses'. -/
def markupRefusesUptoCard : Claim7 := { stood := { row := markupRefusesUptoRow, standIns := [], harness := (true, "b798c21f5055e9cd159b433a68a058295c0428617d20527706b4b1c7ddd19987"), looks := true }, kinds := [], alts := [], laidByText := true, laidKinds := [.data, .data, .data, .data, .sentinel, .sentinel, .pinned], laidTests := true, laidLooks := .later }
def MarkupRefusesUptoCardSaid : Prop := Claim7.holds Tryz.pinned (.plain (OpenSpec.upto markupRefusesSpec)) markupRefusesUptoCard

/-- THE SECOND FORM's CARD OF 'chancerylaw2.MarkupPrintMatches'. -/
def markupPrintMatchesUptoCard : Claim7 := { stood := { row := markupPrintMatchesUptoRow, standIns := [], harness := (true, "b798c21f5055e9cd159b433a68a058295c0428617d20527706b4b1c7ddd19987"), looks := true }, kinds := [], alts := [], laidByText := true, laidKinds := [.data, .data, .data, .data, .sentinel, .sentinel, .pinned], laidTests := true, laidLooks := .later }
def MarkupPrintMatchesUptoCardSaid : Prop := Claim7.holds Tryz.pinned (.plain (OpenSpec.upto markupPrintMatchesSpec)) markupPrintMatchesUptoCard

/-- THE SECOND FORM's CARD OF 'chancerylaw2.MarkupParseAccepts'. -/
def markupParseAcceptsUptoCard : Claim7 := { stood := { row := markupParseAcceptsUptoRow, standIns := [], harness := (true, "b798c21f5055e9cd159b433a68a058295c0428617d20527706b4b1c7ddd19987"), looks := true }, kinds := [], alts := [], laidByText := true, laidKinds := [.data, .data, .data, .data, .sentinel, .sentinel, .pinned], laidTests := true, laidLooks := .later }
def MarkupParseAcceptsUptoCardSaid : Prop := Claim7.holds Tryz.pinned (.plain (OpenSpec.upto markupParseAcceptsSpec)) markupParseAcceptsUptoCard

/-- THE SECOND FORM's CARD OF 'chancerylaw2.ParcelPartsMatch'. -/
def parcelPartsMatchUptoCard : Claim7 := { stood := { row := parcelPartsMatchUptoRow, standIns := [], harness := (true, "b798c21f5055e9cd159b433a68a058295c0428617d20527706b4b1c7ddd19987"), looks := true }, kinds := [], alts := [], laidByText := true, laidKinds := [.data, .data, .data, .data, .data, .pinned], laidTests := true, laidLooks := .later }
def ParcelPartsMatchUptoCardSaid : Prop := Claim7.holds Tryz.pinned (.plain (OpenSpec.upto parcelPartsMatchSpec)) parcelPartsMatchUptoCard

/-- THE SECOND FORM's CARD OF 'chancerylaw2.ParcelLoadMatches'. -/
def parcelLoadMatchesUptoCard : Claim7 := { stood := { row := parcelLoadMatchesUptoRow, standIns := [], harness := (true, "b798c21f5055e9cd159b433a68a058295c0428617d20527706b4b1c7ddd19987"), looks := true }, kinds := [], alts := [], laidByText := true, laidKinds := [.data, .data, .data, .data, .data, .sentinel, .sentinel, .pinned], laidTests := true, laidLooks := .later }
def ParcelLoadMatchesUptoCardSaid : Prop := Claim7.holds Tryz.pinned (.plain (OpenSpec.upto parcelLoadMatchesSpec)) parcelLoadMatchesUptoCard
end Rows
end Go.Proofs.YtmnpchoocaiegaaGreatDoor
