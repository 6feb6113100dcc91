/- A reference goes with its cells when rows and columns change: the law holds of the program for every input whose arguments hold together at most 1048576 values and letters. -/
import Derived.Test.YtfbnnjmhlkafiaaDoorRowRefThroughMatches
import Derived.Test.YtfbnnjmhlkafiaaDoorLawS
namespace Go.Proofs.YtfbnnjmhlkafiaaDoor
open Go Go.Fe
theorem row_length (l : List (Int × (Int × Unit))) : l.length ≤ Ty.bulk (.sl (.pair (.int .i64) (.pair (.int .i64) .unit))) l := by
  have key : ∀ l : List (Int × (Int × Unit)), l.length ≤ (l.map (Ty.bulk (.pair (.int .i64) (.pair (.int .i64) .unit)))).sum := by
    intro l
    induction l with
    | nil => simp
    | cons x r ih =>
      have : Ty.bulk (.pair (.int .i64) (.pair (.int .i64) .unit)) x = 2 := rfl
      simp only [List.map_cons, List.sum_cons, List.length_cons, this]
      omega
  exact Nat.le_succ_of_le (key l)
theorem RefThroughMatches_holds : Rows.RefThroughMatchesUptoCardSaid :=
  RefThroughMatches.card fun x _ hb => refThrough_law x.1.1 x.1.2.1 x.1.2.2.1 x.1.2.2.2.1 x.1.2.2.2.2.1 x.1.2.2.2.2.2.1 x.1.2.2.2.2.2.2.1 x.1.2.2.2.2.2.2.2.1 x.1.2.2.2.2.2.2.2.2.1 x.1.2.2.2.2.2.2.2.2.2.1 x.2.1 x.2.2.1
    (by
      have h := row_length x.2.1
      simp only [Tys.bulk] at hb
      omega)
    (by
      have h := row_length x.2.2.1
      simp only [Tys.bulk] at hb
      omega)
#print axioms RefThroughMatches_holds
end Go.Proofs.YtfbnnjmhlkafiaaDoor
