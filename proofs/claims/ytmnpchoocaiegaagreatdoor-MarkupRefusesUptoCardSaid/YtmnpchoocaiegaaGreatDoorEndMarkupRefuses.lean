/- Texts that are changed at one place are refused, at that place: it holds of the program for every input. -/
import Derived.Test.YtmnpchoocaiegaaGreatDoorRowMarkupRefuses
import Derived.Test.YtmnpchoocaiegaaGreatDoorLawA
namespace Go.Proofs.YtmnpchoocaiegaaGreatDoor
open Go Go.Fe
theorem MarkupRefuses_holds : Rows.MarkupRefusesUptoCardSaid :=
  MarkupRefuses.card fun x _ _ => refuses_law x.1
#print axioms MarkupRefuses_holds
end Go.Proofs.YtmnpchoocaiegaaGreatDoor
