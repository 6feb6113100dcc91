/- A marked text is read as the reference reads it: the law holds of the program for every input whose arguments hold together at most 1048576 values and letters. -/
import Derived.Test.YtkjkjebmkmkgfaaDoorRowMarkedImportMatches
import Derived.Test.YtkjkjebmkmkgfaaDoorLawL
namespace Go.Proofs.YtkjkjebmkmkgfaaDoor
open Go Go.Fe
theorem MarkedImportMatches_holds : Rows.MarkedImportMatchesUptoCardSaid :=
  MarkedImportMatches.card fun x _ _ => markedImport_law x.1
#print axioms MarkedImportMatches_holds
end Go.Proofs.YtkjkjebmkmkgfaaDoor
