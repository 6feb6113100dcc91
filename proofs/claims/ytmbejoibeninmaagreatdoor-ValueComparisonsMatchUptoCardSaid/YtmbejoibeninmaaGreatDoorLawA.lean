import Derived.Test.YtmbejoibeninmaaGreatDoorFun
import Derived.Test.YtmbejoibeninmaaGreatDoorFeRun
namespace Go.Proofs.YtmbejoibeninmaaGreatDoor
open Go Go.Fe

theorem values_true : chancerylaw2_values = some (true, ()) := by kernel_rfl

/-! ### Years -/
def leapP (y : Int) : Prop := (y % 4 = 0 ∧ y % 100 ≠ 0) ∨ y % 400 = 0
instance (y : Int) : Decidable (leapP y) := by unfold leapP; infer_instance
end Go.Proofs.YtmbejoibeninmaaGreatDoor
