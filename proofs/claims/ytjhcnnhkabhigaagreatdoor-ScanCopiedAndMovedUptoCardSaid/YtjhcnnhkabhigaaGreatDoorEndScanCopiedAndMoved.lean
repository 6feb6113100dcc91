/- Formulas whose references are copied or moved are written anew as the reference says: the law holds of the program for every input whose arguments hold together at most 1048576 values and letters. -/
import Derived.Test.YtjhcnnhkabhigaaGreatDoorRowScanCopiedAndMoved
import Derived.Test.YtjhcnnhkabhigaaGreatDoorRLawN
namespace Go.Proofs.YtjhcnnhkabhigaaGreatDoor
open Go Go.Fe
theorem ScanCopiedAndMoved_holds : Rows.ScanCopiedAndMovedUptoCardSaid :=
  ScanCopiedAndMoved.card fun x _ hb => by
    have b1 : Ty.bulk .str x.1 = x.1.length + 1 := rfl
    simp only [Tys.bulk] at hb
    exact scanCopiedMoved_law (x := x.1) (a1 := x.2.1) (a2 := x.2.2.1) (b := x.2.2.2.1) (d := x.2.2.2.2.1) (e := x.2.2.2.2.2.1) (by omega)
#print axioms ScanCopiedAndMoved_holds
end Go.Proofs.YtjhcnnhkabhigaaGreatDoor
