/- Dates are numbered from 1 January 1900 on as the reference says: the law holds of the program for every input whose arguments hold together at most 1048576 values and letters. -/
import Derived.Test.YtmbejoibeninmaaGreatDoorRowValueCalendarMatches
import Derived.Test.YtmbejoibeninmaaGreatDoorLawC
namespace Go.Proofs.YtmbejoibeninmaaGreatDoor
open Go Go.Fe
theorem ValueCalendarMatches_holds : Rows.ValueCalendarMatchesUptoCardSaid :=
  ValueCalendarMatches.card fun x _ _ => valueCalendar_law x.1 x.2.1 x.2.2.1 x.2.2.2.1
#print axioms ValueCalendarMatches_holds
end Go.Proofs.YtmbejoibeninmaaGreatDoor
