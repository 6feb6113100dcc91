import Derived.Test.YtmbejoibeninmaaGreatDoorRLawR
namespace Go.Proofs.YtmbejoibeninmaaGreatDoor
open Go Go.Fe

end Go.Proofs.YtmbejoibeninmaaGreatDoor
