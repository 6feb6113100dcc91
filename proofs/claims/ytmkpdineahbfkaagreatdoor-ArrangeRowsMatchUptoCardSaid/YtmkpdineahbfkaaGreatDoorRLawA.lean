import Derived.Test.YtmkpdineahbfkaaGreatDoorFun
import Derived.Test.YtmkpdineahbfkaaGreatDoorFeRun
namespace Go.Proofs.YtmkpdineahbfkaaGreatDoor
open Go Go.Fe

/-! ### Years -/
def leapP (y : Int) : Prop := (y % 4 = 0 ∧ y % 100 ≠ 0) ∨ y % 400 = 0
instance (y : Int) : Decidable (leapP y) := by unfold leapP; infer_instance
end Go.Proofs.YtmkpdineahbfkaaGreatDoor
