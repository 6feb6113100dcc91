/- Floor, Round, Fixed, Shortest and Int are those of the reference: the law holds of the program for every input whose arguments hold together at most 1048576 values and letters. -/
import Derived.Test.YtmcoedgkmciciaaGreatDoorRowExactRoundingMatches
import Derived.Test.YtmcoedgkmciciaaGreatDoorLawZa
namespace Go.Proofs.YtmcoedgkmciciaaGreatDoor
open Go Go.Fe
theorem ExactRoundingMatches_holds : Rows.ExactRoundingMatchesUptoCardSaid :=
  ExactRoundingMatches.card fun x _ hb => by
    simp only [Tys.bulk, Ty.bulk] at hb
    exact rounding_law (a := x.1) (k := x.2.1) (by omega) (by omega)
#print axioms ExactRoundingMatches_holds
end Go.Proofs.YtmcoedgkmciciaaGreatDoor
