/- Sums, differences, products, quotients and comparisons of fractions are those of the reference: the law holds of the program for every input whose arguments hold together at most 1048576 values and letters. -/
import Derived.Test.YtmcoedgkmciciaaGreatDoorRowExactOperationsMatch
import Derived.Test.YtmcoedgkmciciaaGreatDoorLawS
namespace Go.Proofs.YtmcoedgkmciciaaGreatDoor
open Go Go.Fe
theorem ExactOperationsMatch_holds : Rows.ExactOperationsMatchUptoCardSaid :=
  ExactOperationsMatch.card fun x _ hb => by
    simp only [Tys.bulk, Ty.bulk] at hb
    exact operations_law (a := x.1) (b := x.2.1) (by omega) (by omega) (by omega) (by omega)
#print axioms ExactOperationsMatch_holds
end Go.Proofs.YtmcoedgkmciciaaGreatDoor
