/- Functions that do nothing but panic. -/
import Derived.Test.YtmnpchoocaiegaaGreatDoorFeCtx
namespace Go.Fe
open Go

/-- A function that is handed one object and panics. -/
def failSem (T : Nat) (t : Ty) (p : t.den) (args : C) (objs : List C) : Option CRes := match args, objs with
  | .cons (.ptr 0 0) .unit, [c] => if c.isObj = true then some (.mkP (α := Empty) (t := t) 0 T (some (.inr p)) fun x => nomatch x) else none
  | _, _ => none
theorem fail_ok {P : Program} {glob : Glob} {i T : Nat} {t : Ty} {p : t.den} (h : ∀ (a : Addr) (w : World), Calls P i #[.pointer (some a)] w fun e w' => ∃ v, RepV (fun _ => none) t p v ∧ e = fallen T v ∧ w' = w) : FnOK P glob i (failSem T t p) := by
  refine ⟨fun args objs α k m r x hs hm => ?_, fun args objs α t' k T' m r hs => ?_, fun args objs α β k m r r' hs => ?_⟩
  rotate_right
  · unfold failSem at hs
    split at hs
    · split at hs
      · cases hs
      · cases hs
    · cases hs
  · unfold failSem at hs
    split at hs
    · split at hs
      · cases hs
      · cases hs
    · cases hs
  · unfold failSem at hs
    split at hs
    · rename_i c
      split at hs
      · rename_i hc
        cases hs
        refine ⟨fun x => x.elim, fun p' hp => ?_⟩
        cases hp
        intro F κ w vals hG hI hargs hrefs
        obtain ⟨v, q, rfl, hv, hq⟩ := rep_cons hargs
        have := rep_unit hq
        subst this
        have h0 : (ost 0 [c]).get (okey 0) = some c := by rw [ost_get0]; rfl
        obtain ⟨b, p0, q0, hκ, rfl⟩ := rep_ptr.1 hv _ h0 (by rintro rfl; simp [C.isObj] at hc)
        refine (h _ w).mono ?_
        rintro e w' ⟨v, hv, rfl, rfl⟩
        exact fall_comes hI (Froz.le_refl F) (rep_val.2 (by obtain ⟨cs, h1, h2⟩ := hv; exact ⟨cs, h1.mono (fun b o h => by cases h), h2⟩))
      · cases hs
    · cases hs
end Go.Fe
