/- Patterns match whole strings: the law holds of the program for every input whose arguments hold together at most 1048576 values and letters. -/
import Derived.Test.YthkpkdaeblgbdaaDoorRowFtextPatternsMatch
import Derived.Test.YthkpkdaeblgbdaaDoorLawE
namespace Go.Proofs.YthkpkdaeblgbdaaDoor
open Go Go.Fe
theorem FtextPatternsMatch_holds : Rows.FtextPatternsMatchUptoCardSaid :=
  FtextPatternsMatch.card fun x _ _ => ftext_law x.1 x.2.1
#print axioms FtextPatternsMatch_holds
end Go.Proofs.YthkpkdaeblgbdaaDoor
