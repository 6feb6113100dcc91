/- Formulas are cut into the tokens of the reference: the law holds of the program for every input whose arguments hold together at most 1048576 values and letters. -/
import Derived.Test.YtfbnnjmhlkafiaaGreatDoorRowScanTokensMatch
import Derived.Test.YtfbnnjmhlkafiaaGreatDoorLawG
namespace Go.Proofs.YtfbnnjmhlkafiaaGreatDoor
open Go Go.Fe
theorem ScanTokensMatch_holds : Rows.ScanTokensMatchUptoCardSaid :=
  ScanTokensMatch.card fun x _ hb => scanTokens_law (x := x.1) (by
    simp only [Tys.bulk, Ty.bulk] at hb
    omega)
#print axioms ScanTokensMatch_holds
end Go.Proofs.YtfbnnjmhlkafiaaGreatDoor
