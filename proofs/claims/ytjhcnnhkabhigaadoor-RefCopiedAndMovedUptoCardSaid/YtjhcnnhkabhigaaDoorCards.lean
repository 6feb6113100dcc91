/-
  DERIVED. GIVEN WITH THE SEED: THE CARDS: each row of YtjhcnnhkabhigaaDoorRows.lean that lists a variable, with what it lists TIED to the program's text (the seventh form; the later family's looks); each row that meets fmt, with fmt's text TOLD by the authors' own Lean function (tested against real Go, not proved from fmt's source: count such statements apart). THE CARD IS WHAT COUNTS. Prove the row's statement (the work); the ties are given (YtjhcnnhkabhigaaDoorTie.lean); close each card by the builder's one call (the guide's Derived/Test/ToyasCard.lean, 'card_holds'). Laid BY PROGRAM, IN A SANDBOX (cutbox-door.mjs). By AI agents, Wed Nov 11 2026. No macro, syntax, notation, axiom, sorry.
-/
import Derived.Test.YtjhcnnhkabhigaaDoorRows
import GoSem.ClaimSeven
namespace Go.Proofs.YtjhcnnhkabhigaaDoor
namespace Rows

/-- THE TIED CARD OF 'chancerylaw2.RefCopiedAndMoved'. -/
def refCopiedAndMovedCard : Claim7 := { stood := { row := refCopiedAndMovedRow, standIns := [], harness := (true, "b5fcff84f317d3110add126c033ae71a5fb87f050eed16e9ec7bd39bd3071f6c"), looks := true }, kinds := [], alts := [], laidByText := true, laidKinds := [.data, .data, .data, .sentinel, .sentinel], laidTests := true, laidLooks := .later }
def RefCopiedAndMovedCardSaid : Prop := Claim7.holds Tryd.pinned (.plain (OpenSpec.ofChange refCopiedAndMovedSpec)) refCopiedAndMovedCard

/-- THE SECOND FORM's CARD OF 'chancerylaw2.RefCopiedAndMoved'. -/
def refCopiedAndMovedUptoCard : Claim7 := { stood := { row := refCopiedAndMovedUptoRow, standIns := [], harness := (true, "b5fcff84f317d3110add126c033ae71a5fb87f050eed16e9ec7bd39bd3071f6c"), looks := true }, kinds := [], alts := [], laidByText := true, laidKinds := [.data, .data, .data, .sentinel, .sentinel], laidTests := true, laidLooks := .later }
def RefCopiedAndMovedUptoCardSaid : Prop := Claim7.holds Tryd.pinned (.plain (OpenSpec.upto refCopiedAndMovedSpec)) refCopiedAndMovedUptoCard
end Rows
end Go.Proofs.YtjhcnnhkabhigaaDoor
