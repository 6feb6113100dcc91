/- What every row of this seat asks. Printed by a program. -/
import Derived.Test.YtmnpchoocaiegaaGreatDoorFns
import Derived.Test.YtmnpchoocaiegaaGreatDoorCards
import Derived.Test.YtmnpchoocaiegaaGreatDoorTie
import Derived.LaidMore
import Derived.ProofKit
import Derived.Deep.DeepHandedRow
import Derived.Deep.DeepWitnessRowRef
import Derived.Deep.DeepWitnessRef
namespace Go.Proofs.YtmnpchoocaiegaaGreatDoor
open Go Go.Fe

theorem own : ownKnob Tryz.prog.godebug = none := by kernel_rfl
theorem laidOut : laidOutB Tryz.prog = true := by kernel_rfl
theorem bulk {H : Type} : Bulk (Rows.uptoBulk (H := H)) Rows.uptoBulkAll where
  str := fun s => by simp [Rows.uptoBulk]
  pos := fun d => by
    cases d with
    | lit l => cases l <;> simp [Rows.uptoBulk]
    | _ => simp [Rows.uptoBulk]
  sl := fun x y => by simp [Rows.uptoBulk]
  agg := fun x => by simp [Rows.uptoBulk]
  nil := by simp [Rows.uptoBulkAll]
  cons := fun d r => by simp [Rows.uptoBulkAll]
end Go.Proofs.YtmnpchoocaiegaaGreatDoor
