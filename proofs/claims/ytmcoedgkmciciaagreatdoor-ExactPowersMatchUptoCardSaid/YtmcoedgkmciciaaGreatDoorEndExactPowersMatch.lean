/- Powers, whole numbers and quotients of whole numbers are those of the reference: the law holds of the program for every input whose arguments hold together at most 1048576 values and letters. -/
import Derived.Test.YtmcoedgkmciciaaGreatDoorRowExactPowersMatch
import Derived.Test.YtmcoedgkmciciaaGreatDoorLawU
namespace Go.Proofs.YtmcoedgkmciciaaGreatDoor
open Go Go.Fe
theorem ExactPowersMatch_holds : Rows.ExactPowersMatchUptoCardSaid :=
  ExactPowersMatch.card fun x hx hb => by
    simp only [Tys.bulk, Ty.bulk] at hb
    have h1 := hx.2.1
    have h2 := hx.2.2.1
    have h3 := hx.2.2.2.1
    simp only [Ty.has] at h1 h2 h3
    exact powers_law (a := x.1) (n := x.2.1) (p := x.2.2.1) (q := x.2.2.2.1) (by omega) (by omega) h1.1 h1.2 h2.1 h2.2 h3.1 h3.2
#print axioms ExactPowersMatch_holds
end Go.Proofs.YtmcoedgkmciciaaGreatDoor
