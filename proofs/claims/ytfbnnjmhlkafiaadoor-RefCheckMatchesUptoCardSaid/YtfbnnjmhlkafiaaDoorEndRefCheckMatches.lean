/- Check returns the first error of a reference, and Print its text: the law holds of the program for every input whose arguments hold together at most 1048576 values and letters. -/
import Derived.Test.YtfbnnjmhlkafiaaDoorRowRefCheckMatches
import Derived.Test.YtfbnnjmhlkafiaaDoorLawF
namespace Go.Proofs.YtfbnnjmhlkafiaaDoor
open Go Go.Fe
theorem RefCheckMatches_holds : Rows.RefCheckMatchesUptoCardSaid :=
  RefCheckMatches.card fun x _ _ => refCheck_law x.1.1 x.1.2.1 x.1.2.2.1 x.1.2.2.2.1 x.1.2.2.2.2.1 x.1.2.2.2.2.2.1 x.1.2.2.2.2.2.2.1 x.1.2.2.2.2.2.2.2.1 x.1.2.2.2.2.2.2.2.2.1 x.1.2.2.2.2.2.2.2.2.2.1
#print axioms RefCheckMatches_holds
end Go.Proofs.YtfbnnjmhlkafiaaDoor
