/- Parse reads decimal numbers, and no others: the law holds of the program for every input whose arguments hold together at most 1048576 values and letters. -/
import Derived.Test.YtmcoedgkmciciaaGreatDoorRowExactParseMatches
import Derived.Test.YtmcoedgkmciciaaGreatDoorLawX
namespace Go.Proofs.YtmcoedgkmciciaaGreatDoor
open Go Go.Fe
theorem ExactParseMatches_holds : Rows.ExactParseMatchesUptoCardSaid :=
  ExactParseMatches.card fun x _ hb => by
    simp only [Tys.bulk, Ty.bulk] at hb
    exact parse_law (s := x.1) (by omega)
#print axioms ExactParseMatches_holds
end Go.Proofs.YtmcoedgkmciciaaGreatDoor
