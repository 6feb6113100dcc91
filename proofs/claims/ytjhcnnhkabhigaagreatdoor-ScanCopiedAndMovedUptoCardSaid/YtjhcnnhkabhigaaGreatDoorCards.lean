/-
  DERIVED. GIVEN WITH THE SEED: THE CARDS: each row of YtjhcnnhkabhigaaGreatDoorRows.lean that lists a variable, with what it lists TIED to the program's text (the seventh form; the later family's looks); each row that meets fmt, with fmt's text TOLD by the authors' own Lean function (tested against real Go, not proved from fmt's source: count such statements apart). THE CARD IS WHAT COUNTS. Prove the row's statement (the work); the ties are given (YtjhcnnhkabhigaaGreatDoorTie.lean); close each card by the builder's one call (the guide's Derived/Test/ToyasCard.lean, 'card_holds'). Laid BY PROGRAM, IN A SANDBOX (cutbox-door.mjs). By AI agents, Wed Nov 11 2026. No macro, syntax, notation, axiom, sorry.
-/
import Derived.Test.YtjhcnnhkabhigaaGreatDoorRows
import GoSem.ClaimSeven
namespace Go.Proofs.YtjhcnnhkabhigaaGreatDoor
namespace Rows

/-- THE TIED CARD OF 'chancerylaw2.ScanCopiedAndMoved'. -/
def scanCopiedAndMovedCard : Claim7 := { stood := { row := scanCopiedAndMovedRow, standIns := [], harness := (true, "df6b6d7587274d27e841d62183aa1a21e4c59627cf4c83d72faa5ca0386dd7a2"), looks := true }, kinds := [], alts := [], laidByText := true, laidKinds := [.data, .data, .data, .data, .data, .sentinel, .sentinel, .pinned], laidTests := true, laidLooks := .later }
def ScanCopiedAndMovedCardSaid : Prop := Claim7.holds Tryz.pinned (.plain (OpenSpec.ofChange scanCopiedAndMovedSpec)) scanCopiedAndMovedCard

/-- THE SECOND FORM's CARD OF 'chancerylaw2.ScanCopiedAndMoved'. -/
def scanCopiedAndMovedUptoCard : Claim7 := { stood := { row := scanCopiedAndMovedUptoRow, standIns := [], harness := (true, "df6b6d7587274d27e841d62183aa1a21e4c59627cf4c83d72faa5ca0386dd7a2"), looks := true }, kinds := [], alts := [], laidByText := true, laidKinds := [.data, .data, .data, .data, .data, .sentinel, .sentinel, .pinned], laidTests := true, laidLooks := .later }
def ScanCopiedAndMovedUptoCardSaid : Prop := Claim7.holds Tryz.pinned (.plain (OpenSpec.upto scanCopiedAndMovedSpec)) scanCopiedAndMovedUptoCard
end Rows
end Go.Proofs.YtjhcnnhkabhigaaGreatDoor
