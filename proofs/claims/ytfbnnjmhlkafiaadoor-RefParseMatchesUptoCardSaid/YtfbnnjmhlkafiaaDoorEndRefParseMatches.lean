/- Parse reads the strings of references, and no others: the law holds of the program for every input whose arguments hold together at most 1048576 values and letters. -/
import Derived.Test.YtfbnnjmhlkafiaaDoorRowRefParseMatches
import Derived.Test.YtfbnnjmhlkafiaaDoorLawM
namespace Go.Proofs.YtfbnnjmhlkafiaaDoor
open Go Go.Fe
theorem RefParseMatches_holds : Rows.RefParseMatchesUptoCardSaid :=
  RefParseMatches.card fun x _ _ => refParse_law x.1
#print axioms RefParseMatches_holds
end Go.Proofs.YtfbnnjmhlkafiaaDoor
