/- What is known of a program, function by function. -/
import Derived.Test.YtmnegopgidckoaaFeTop
namespace Go.Fe
open Go

def Ctx.base (tab : List (TypeId × Ty)) (glob : Nat → Option ((t : Ty) × t.den)) : Ctx := { tab := fun T => List.lookup T tab, glob := glob, eqt := fun _ => none, fn := fun _ _ _ => none }
def Ctx.add (Γ : Ctx) (i : Nat) (sem : C → List C → Option CRes) : Ctx := { Γ with fn := fun j => if j = i then sem else Γ.fn j }

theorem lookup_all {α : Type} {p : Nat × α → Bool} : ∀ {l : List (Nat × α)} {k : Nat} {x : α}, l.all p = true → l.lookup k = some x → p (k, x) = true := fun h h' => List.all_eq_true.1 h _ (lookup_in h')

theorem base_ok {P : Program} {tab : List (TypeId × Ty)} {glob : Nat → Option ((t : Ty) × t.den)} (h : (tab.all fun p => tyIs P p.2 (.inl p.1)) = true) : CtxOK (Ctx.base tab glob) P where
  tab := fun _ _ ht => lookup_all h ht
  eqs := fun _ _ ht => by cases ht
  fns := fun _ _ _ _ h => by cases h

theorem add_ok {Γ : Ctx} {P : Program} {i : Nat} {sem : C → List C → Option CRes} (hΓ : CtxOK Γ P) (h : FnOK P Γ.glob i sem) (hc : ∀ vals w, (callFunc i vals).run P w = .ok (.enter i vals) w) : CtxOK (Γ.add i sem) P where
  tab := hΓ.tab
  eqs := hΓ.eqs
  fns := fun j args objs r hr => by
    simp only [Ctx.add] at hr ⊢
    split
    · rename_i e
      subst e
      exact ⟨h, hc⟩
    · rename_i e
      rw [if_neg e] at hr
      exact hΓ.fns j args objs r hr

def bodyOf (f : Func) : Code := f.body.getD .skip
theorem bodyOf_eq {f : Func} {c : Code} (h : f.body = some c) : f.body = some (bodyOf f) := by rw [bodyOf, h]; rfl

/-- A function's contract, out of closed facts. -/
theorem fn_add {Γ : Ctx} {P : Program} (hΓ : CtxOK Γ P) (hm : P.follows .mixedOrders = true) (i : Nat) (f : Func) (rs : List ResultVar) (h : HC) (I : Inst) (n : Nat) (run : Ks.den I.args → Ks.den I.objs → Option I.out.den)
    (hf : P.funcs[i]? = some f) (hb : f.body.isSome = true) (hn : f.ntmps = n) (hr : f.results = rs.toArray) (hok : I.ok n rs.length (dsts (bodyOf f)) = true)
    (hrun : ∀ x y, evFn Γ n (bodyOf f) rs h I x y = run x y) : FnOK P Γ.glob i (I.sem run) := by
  obtain ⟨c, hc⟩ := Option.isSome_iff_exists.1 hb
  exact fn_ok hΓ hm h I hf (bodyOf_eq hc) hn hr hok hrun

end Go.Fe
