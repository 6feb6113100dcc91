/- Rows are sorted by keys and grouped as the law asks: it holds of the program for every input whose arguments hold together at most 1048576 values and letters. -/
import Derived.Test.YtmkpdineahbfkaaGreatDoorRowArrangeRowsMatch
import Derived.Test.YtmkpdineahbfkaaGreatDoorLawY
namespace Go.Proofs.YtmkpdineahbfkaaGreatDoor
open Go Go.Fe
theorem ArrangeRowsMatch_holds : Rows.ArrangeRowsMatchUptoCardSaid :=
  ArrangeRowsMatch.card fun x _ hb => by
    have h : Tys.bulk _ x = vb x.1 + (Ty.bulk _ x.2.1 + (Ty.bulk _ x.2.2.1 + 0)) := rfl
    exact arrange_law (v := x.1) (by omega) x.2.1 x.2.2.1
#print axioms ArrangeRowsMatch_holds
end Go.Proofs.YtmkpdineahbfkaaGreatDoor
