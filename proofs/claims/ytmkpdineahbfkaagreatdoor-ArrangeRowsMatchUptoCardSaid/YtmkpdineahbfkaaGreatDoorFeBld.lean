/- strings.Builder: its look at its own address, and its text. -/
import Derived.Test.YtmkpdineahbfkaaGreatDoorFeShelf
import Derived.Lib.UnsafeStr
namespace Go.Fe
open Go

/-- The world turns at a block that nobody has. -/
theorem Inv.chg {n : Nat} {f : Frame0} {F : Froz} {κ : Conc} {s : St} {a : Act} {w w' : World} (hI : Inv n f F κ s a w) {b : Nat} (hw : Chg b w w') (hF : F b = none) (hmay : f.w.heap.size ≤ b ∨ f.may b)
    (hno : ∀ o c p q, s.get (okey o) = some c → c.isObj = true → κ o ≠ some (b, p, q)) : Inv n f F κ s a w' := by
  have hheap : ∀ b' ob, b' ≠ b → w.heap[b']? = some ob → w'.heap[b']? = some ob := fun b' ob hb h => by rw [hw.same b' hb (lt_of_some h), h]
  constructor
  · exact hI.tmps
  · exact hI.defers
  · intro b' o h; exact hheap b' o (by rintro rfl; rw [hF] at h; cases h) (hI.frozen b' o h)
  · exact hI.slots
  · intro o c ho
    by_cases hobj : c.isObj = true
    · refine RepO.mono (Froz.le_refl F) rfl (fun o _ => .of_eq rfl rfl) (fun b' p q hk => ?_) (hI.objs o c ho)
      have hlt := RepO.lt hI ho hobj hk
      have hsome : w.heap[b']? = some w.heap[b'] := Array.getElem?_eq_getElem hlt
      rw [hsome]
      exact hheap b' _ (by rintro rfl; exact hno o c p q ho hobj hk) hsome
    · cases c <;> first | trivial | exact absurd rfl hobj
  · exact hI.free
  · exact hI.apart
  · exact hI.closed
  · exact hI.kept.chg hw hmay
  · exact hI.grown

section
variable {P : Program} {glob : Glob} {i : Nat}

end
end Go.Fe
