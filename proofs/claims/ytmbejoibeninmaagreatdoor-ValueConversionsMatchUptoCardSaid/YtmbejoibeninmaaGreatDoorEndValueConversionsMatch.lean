/- Show, ToNumber, ToText and ToBool answer as the reference says: the law holds of the program for every input whose arguments hold together at most 1048576 values and letters. -/
import Derived.Test.YtmbejoibeninmaaGreatDoorRowValueConversionsMatch
import Derived.Test.YtmbejoibeninmaaGreatDoorLawX
namespace Go.Proofs.YtmbejoibeninmaaGreatDoor
open Go Go.Fe
theorem ValueConversionsMatch_holds : Rows.ValueConversionsMatchUptoCardSaid :=
  ValueConversionsMatch.card fun x _ hb => by
    have h : Tys.bulk _ x = vb x.1 + 0 := rfl
    exact conversions_law (v := x.1) (by omega)
#print axioms ValueConversionsMatch_holds
end Go.Proofs.YtmbejoibeninmaaGreatDoor
