/- Roots are the greatest multiples whose squares are not greater: the law holds of the program for every input whose arguments hold together at most 1048576 values and letters. -/
import Derived.Test.YtmcoedgkmciciaaGreatDoorRowExactRootMatches
import Derived.Test.YtmcoedgkmciciaaGreatDoorLawV
namespace Go.Proofs.YtmcoedgkmciciaaGreatDoor
open Go Go.Fe
theorem ExactRootMatches_holds : Rows.ExactRootMatchesUptoCardSaid :=
  ExactRootMatches.card fun x _ hb => by
    simp only [Tys.bulk, Ty.bulk] at hb
    exact root_law (a := x.1) (n := x.2.1) (by omega) (by omega)
#print axioms ExactRootMatches_holds
end Go.Proofs.YtmcoedgkmciciaaGreatDoor
