/- Compare and Order of values are those of the reference: the law holds of the program for every input whose arguments hold together at most 1048576 values and letters. -/
import Derived.Test.YtmbejoibeninmaaGreatDoorRowValueComparisonsMatch
import Derived.Test.YtmbejoibeninmaaGreatDoorLawJ
namespace Go.Proofs.YtmbejoibeninmaaGreatDoor
open Go Go.Fe
theorem ValueComparisonsMatch_holds : Rows.ValueComparisonsMatchUptoCardSaid :=
  ValueComparisonsMatch.card fun x _ hb => by
    have h : Tys.bulk _ x = vb x.1 + (vb x.2.1 + 0) := rfl
    exact comparisons_law (a := x.1) (b := x.2.1) (by omega) (by omega)
#print axioms ValueComparisonsMatch_holds
end Go.Proofs.YtmbejoibeninmaaGreatDoor
