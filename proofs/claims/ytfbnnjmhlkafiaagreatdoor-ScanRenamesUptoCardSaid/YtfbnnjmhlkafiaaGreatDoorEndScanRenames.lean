/- Sheets and names are renamed in formulas as the reference says: the law holds of the program for every input whose arguments hold together at most 1048576 values and letters. -/
import Derived.Test.YtfbnnjmhlkafiaaGreatDoorRowScanRenames
import Derived.Test.YtfbnnjmhlkafiaaGreatDoorLawN
namespace Go.Proofs.YtfbnnjmhlkafiaaGreatDoor
open Go Go.Fe
theorem ScanRenames_holds : Rows.ScanRenamesUptoCardSaid :=
  ScanRenames.card fun x _ hb => by
    have b1 : Ty.bulk .str x.1 = x.1.length + 1 := rfl
    have b2 : Ty.bulk .str x.2.1 = x.2.1.length + 1 := rfl
    have b3 : Ty.bulk .str x.2.2.1 = x.2.2.1.length + 1 := rfl
    simp only [Tys.bulk] at hb
    exact scanRenames_law (x := x.1) (a1 := x.2.1) (a2 := x.2.2.1) (by omega) (by omega) (by omega)
#print axioms ScanRenames_holds
end Go.Proofs.YtfbnnjmhlkafiaaGreatDoor
