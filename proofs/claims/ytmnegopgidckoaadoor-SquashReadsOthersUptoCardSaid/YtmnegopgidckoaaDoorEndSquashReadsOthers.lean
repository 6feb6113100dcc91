/- What another program compressed is read: the law holds of the program for every input whose arguments hold together at most 1048576 values and letters. -/
import Derived.Test.YtmnegopgidckoaaDoorRowSquashReadsOthers
import Derived.Test.YtmnegopgidckoaaDoorLawL
namespace Go.Proofs.YtmnegopgidckoaaDoor
open Go Go.Fe
theorem SquashReadsOthers_holds : Rows.SquashReadsOthersUptoCardSaid :=
  SquashReadsOthers.card fun x _ _ => readOthers_law x.1
#print axioms SquashReadsOthers_holds
end Go.Proofs.YtmnegopgidckoaaDoor
