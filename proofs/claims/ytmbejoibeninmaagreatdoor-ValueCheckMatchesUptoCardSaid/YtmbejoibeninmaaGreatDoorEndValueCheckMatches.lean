/- Check returns the first error of a value, and the makers make valid ones, as the reference says: the law holds of the program for every input whose arguments hold together at most 1048576 values and letters. -/
import Derived.Test.YtmbejoibeninmaaGreatDoorRowValueCheckMatches
import Derived.Test.YtmbejoibeninmaaGreatDoorLawI
namespace Go.Proofs.YtmbejoibeninmaaGreatDoor
open Go Go.Fe
theorem ValueCheckMatches_holds : Rows.ValueCheckMatchesUptoCardSaid :=
  ValueCheckMatches.card fun x hx hb => by
    have h0 : vb x.1 ≤ 1048576 := by
      have : Tys.bulk _ x = vb x.1 + Tys.bulk [.mu dataTy, .int .i64] x.2 := rfl
      omega
    have hn := hx.2.2.1
    simp only [Ty.has] at hn
    exact check_law h0 hn.1 hn.2
#print axioms ValueCheckMatches_holds
end Go.Proofs.YtmbejoibeninmaaGreatDoor
