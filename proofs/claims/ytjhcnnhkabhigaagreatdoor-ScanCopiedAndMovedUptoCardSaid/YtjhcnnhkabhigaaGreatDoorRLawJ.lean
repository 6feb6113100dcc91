import Derived.Test.YtjhcnnhkabhigaaGreatDoorRLawI
namespace Go.Proofs.YtjhcnnhkabhigaaGreatDoor
open Go Go.Fe

/-! ### Whose references are meant -/
theorem meant_eq (r : RefD) (o0 : Str) (o1 : Bool) : fscan_meant r o0 o1 = some (if r.1 = [] then o1 else decide (r.1 = o0), ()) := by
  unfold fscan_meant
  by_cases h : r.1 = []
  · rw [decide_eq_true h, if_pos h]
    rfl
  · rw [decide_eq_false h, if_neg h]
    rfl
theorem belongs_eq (r : RefD) (o0 : Str) (o1 : Bool) : chanceryref2_Belongs r o0 o1 = some (if r.1 = [] then o1 else decide (r.1 = o0), ()) := by
  unfold chanceryref2_Belongs
  by_cases h : r.1 = []
  · rw [decide_eq_true h, if_pos h]
    cases o1 <;> rfl
  · rw [decide_eq_false h, if_neg h]
    rfl
end Go.Proofs.YtjhcnnhkabhigaaGreatDoor
