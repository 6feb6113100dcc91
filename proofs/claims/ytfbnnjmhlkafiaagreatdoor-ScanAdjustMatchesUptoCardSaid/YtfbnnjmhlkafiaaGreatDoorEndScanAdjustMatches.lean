/- Formulas follow their rows and columns as the reference says: the law holds of the program for every input whose arguments hold together at most 1048576 values and letters. -/
import Derived.Test.YtfbnnjmhlkafiaaGreatDoorRowScanAdjustMatches
import Derived.Test.YtfbnnjmhlkafiaaGreatDoorLawJ
namespace Go.Proofs.YtfbnnjmhlkafiaaGreatDoor
open Go Go.Fe
theorem row_length (l : List (Int × (Int × Unit))) : l.length ≤ Ty.bulk (.sl (.pair (.int .i64) (.pair (.int .i64) .unit))) l := by
  have key : ∀ l : List (Int × (Int × Unit)), l.length ≤ (l.map (Ty.bulk (.pair (.int .i64) (.pair (.int .i64) .unit)))).sum := by
    intro l
    induction l with
    | nil => simp
    | cons x r ih =>
      have : Ty.bulk (.pair (.int .i64) (.pair (.int .i64) .unit)) x = 2 := rfl
      simp only [List.map_cons, List.sum_cons, List.length_cons, this]
      omega
  exact Nat.le_succ_of_le (key l)
theorem ScanAdjustMatches_holds : Rows.ScanAdjustMatchesUptoCardSaid :=
  ScanAdjustMatches.card fun x _ hb => scanAdjust_law (x := x.1) (a1 := x.2.1) (a2 := x.2.2.1) (a3 := x.2.2.2.1) (a4 := x.2.2.2.2.1)
    (by
      have h : Ty.bulk .str x.1 = x.1.length + 1 := rfl
      simp only [Tys.bulk] at hb
      omega)
    (by
      have h := row_length x.2.2.2.1
      simp only [Tys.bulk] at hb
      omega)
    (by
      have h := row_length x.2.2.2.2.1
      simp only [Tys.bulk] at hb
      omega)
#print axioms ScanAdjustMatches_holds
end Go.Proofs.YtfbnnjmhlkafiaaGreatDoor
