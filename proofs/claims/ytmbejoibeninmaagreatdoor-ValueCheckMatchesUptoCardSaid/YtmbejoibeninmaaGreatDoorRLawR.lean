import Derived.Test.YtmbejoibeninmaaGreatDoorRLaw3
namespace Go.Proofs.YtmbejoibeninmaaGreatDoor
open Go Go.Fe

/-! ### Sums -/
def N10 (m : Bool) (n d : Nat) : NumD := (m, rep 10 n, rep 10 d, ())
theorem Check_eq {f : FracD} (hs : f.1.length < 100000000) (hs' : f.2.1.length < 100000000) : exact_Check f = some (fracErr f, ()) := by
  unfold exact_Check
  rw [read_eq hs hs', Option.bind_some]
  by_cases h : fracErr f = 0
  · rw [if_pos h, h]
  · rw [if_neg h]
end Go.Proofs.YtmbejoibeninmaaGreatDoor
