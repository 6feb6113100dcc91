/- Letters and Column count the strings of letters, and Plain knows plain names: the law holds of the program for every input whose arguments hold together at most 1048576 values and letters. -/
import Derived.Test.YtfbnnjmhlkafiaaDoorRowRefColumnLetters
import Derived.Test.YtfbnnjmhlkafiaaDoorLawC
namespace Go.Proofs.YtfbnnjmhlkafiaaDoor
open Go Go.Fe
theorem RefColumnLetters_holds : Rows.RefColumnLettersUptoCardSaid :=
  RefColumnLetters.card fun x _ hb => columnLetters_law x.1 x.2.1 (by
    have : Tys.bulk [.int .i64, .str] x = 1 + (x.2.1.length + 1 + 0) := rfl
    omega)
#print axioms RefColumnLetters_holds
end Go.Proofs.YtfbnnjmhlkafiaaDoor
