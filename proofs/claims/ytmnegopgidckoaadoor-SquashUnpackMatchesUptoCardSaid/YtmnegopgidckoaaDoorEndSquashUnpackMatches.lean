/- Compressed strings are read bit by bit, and the first fault is found: the law holds of the program for every input whose arguments hold together at most 1048576 values and letters. -/
import Derived.Test.YtmnegopgidckoaaDoorRowSquashUnpackMatches
import Derived.Test.YtmnegopgidckoaaDoorLawG
namespace Go.Proofs.YtmnegopgidckoaaDoor
open Go Go.Fe
theorem SquashUnpackMatches_holds : Rows.SquashUnpackMatchesUptoCardSaid :=
  SquashUnpackMatches.card fun x _ hb => unpack_law x.1 x.2.1 (by
    simp only [Tys.bulk, Ty.bulk] at hb
    omega)
#print axioms SquashUnpackMatches_holds
end Go.Proofs.YtmnegopgidckoaaDoor
