/-
  DERIVED. GIVEN WITH THE SEED: THE CARDS: each row of YtmkpdineahbfkaaGreatDoorRows.lean that lists a variable, with what it lists TIED to the program's text (the seventh form; the later family's looks); each row that meets fmt, with fmt's text TOLD by the authors' own Lean function (tested against real Go, not proved from fmt's source: count such statements apart). THE CARD IS WHAT COUNTS. Prove the row's statement (the work); the ties are given (YtmkpdineahbfkaaGreatDoorTie.lean); close each card by the builder's one call (the guide's Derived/Test/ToyasCard.lean, 'card_holds'). Laid BY PROGRAM, IN A SANDBOX (cutbox-door.mjs). By AI agents, Wed Nov 11 2026. No macro, syntax, notation, axiom, sorry.
-/
import Derived.Test.YtmkpdineahbfkaaGreatDoorRows
import GoSem.ClaimSeven
namespace Go.Proofs.YtmkpdineahbfkaaGreatDoor
namespace Rows

/-- THE TIED CARD OF 'chancerylaw2.ArrangeRowsMatch'. -/
def arrangeRowsMatchCard : Claim7 := { stood := { row := arrangeRowsMatchRow, standIns := [], harness := (true, "37c52203ae1d7a207dfe4e6b2d756db0f9b4b735a6beb944faf755afc1e305a7"), looks := true }, kinds := [], alts := [], laidByText := true, laidKinds := [.data, .data, .data, .data, .data, .sentinel, .sentinel, .data, .pinned], laidTests := true, laidLooks := .later }
def ArrangeRowsMatchCardSaid : Prop := Claim7.holds Tryz.pinned (.plain (OpenSpec.ofChange arrangeRowsMatchSpec)) arrangeRowsMatchCard

/-- THE SECOND FORM's CARD OF 'chancerylaw2.ArrangeRowsMatch'. -/
def arrangeRowsMatchUptoCard : Claim7 := { stood := { row := arrangeRowsMatchUptoRow, standIns := [], harness := (true, "37c52203ae1d7a207dfe4e6b2d756db0f9b4b735a6beb944faf755afc1e305a7"), looks := true }, kinds := [], alts := [], laidByText := true, laidKinds := [.data, .data, .data, .data, .data, .sentinel, .sentinel, .data, .pinned], laidTests := true, laidLooks := .later }
def ArrangeRowsMatchUptoCardSaid : Prop := Claim7.holds Tryz.pinned (.plain (OpenSpec.upto arrangeRowsMatchSpec)) arrangeRowsMatchUptoCard
end Rows
end Go.Proofs.YtmkpdineahbfkaaGreatDoor
