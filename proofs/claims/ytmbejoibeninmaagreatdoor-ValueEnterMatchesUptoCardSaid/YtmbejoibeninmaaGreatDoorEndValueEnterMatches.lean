/- Enter reads numbers, dates, times and all else as the reference says: the law holds of the program for every input whose arguments hold together at most 1048576 values and letters. -/
import Derived.Test.YtmbejoibeninmaaGreatDoorRowValueEnterMatches
import Derived.Test.YtmbejoibeninmaaGreatDoorLawW
namespace Go.Proofs.YtmbejoibeninmaaGreatDoor
open Go Go.Fe
theorem ValueEnterMatches_holds : Rows.ValueEnterMatchesUptoCardSaid :=
  ValueEnterMatches.card fun x _ _ => enter_law x.1
#print axioms ValueEnterMatches_holds
end Go.Proofs.YtmbejoibeninmaaGreatDoor
