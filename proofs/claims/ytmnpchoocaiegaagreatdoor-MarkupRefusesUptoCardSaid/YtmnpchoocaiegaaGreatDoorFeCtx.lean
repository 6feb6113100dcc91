/- What is known of a program, function by function. -/
import Derived.Test.YtmnpchoocaiegaaGreatDoorFeTop
namespace Go.Fe
open Go

def Ctx.base (tab : List (TypeId × Ty)) (glob : Glob) : Ctx := { tab := fun T => List.lookup T tab, glob := glob, eqt := fun _ => none, fn := fun _ _ _ => none }
/-- .. and builders. -/
def Ctx.withBld (Γ : Ctx) (l : List TypeId) : Ctx := { Γ with bld := fun T => l.contains T }
def Ctx.add (Γ : Ctx) (i : Nat) (sem : C → List C → Option CRes) : Ctx := { Γ with fn := fun j => if j = i then sem else Γ.fn j }

theorem lookup_all {α : Type} {p : Nat × α → Bool} : ∀ {l : List (Nat × α)} {k : Nat} {x : α}, l.all p = true → l.lookup k = some x → p (k, x) = true := fun h h' => List.all_eq_true.1 h _ (lookup_in h')

theorem base_ok {P : Program} {tab : List (TypeId × Ty)} {glob : Glob} (h : (tab.all fun p => tyIs P p.2 (.inl p.1)) = true) : CtxOK (Ctx.base tab glob) P where
  tab := fun _ _ ht => lookup_all h ht
  bld := fun _ h => by cases h
  bw := fun _ h => by cases h
  pst := fun _ _ h => by cases h
  fa := fun _ _ h => by cases h
  psl := fun _ _ h => by cases h
  pp := fun _ h => by cases h
  eqs := fun _ _ ht => by cases ht
  fns := fun _ _ _ _ h => by cases h

theorem bld_ok {Γ : Ctx} {P : Program} (hΓ : CtxOK Γ P) {l : List TypeId} (h : l.all (bldIs P) = true) : CtxOK (Γ.withBld l) P where
  tab := hΓ.tab
  pst := hΓ.pst
  fa := hΓ.fa
  psl := hΓ.psl
  pp := hΓ.pp
  bld := fun T hT => List.all_eq_true.1 h T (by simpa [Ctx.withBld, List.contains_eq_mem] using hT)
  bw := hΓ.bw
  eqs := hΓ.eqs
  fns := hΓ.fns

def Ctx.withBw (Γ : Ctx) (l : List TypeId) : Ctx := { Γ with bw := fun T => l.contains T }
theorem bw_ok {Γ : Ctx} {P : Program} (hΓ : CtxOK Γ P) {l : List TypeId} (h : l.all (bwIs P) = true) : CtxOK (Γ.withBw l) P where
  tab := hΓ.tab
  pst := hΓ.pst
  fa := hΓ.fa
  psl := hΓ.psl
  pp := hΓ.pp
  bld := hΓ.bld
  bw := fun T hT => List.all_eq_true.1 h T (by simpa [Ctx.withBw, List.contains_eq_mem] using hT)
  eqs := hΓ.eqs
  fns := hΓ.fns
theorem add_ok {Γ : Ctx} {P : Program} {i : Nat} {sem : C → List C → Option CRes} (hΓ : CtxOK Γ P) (h : FnOK P Γ.glob i sem) (hc : ∀ vals w, (callFunc i vals).run P w = .ok (.enter i vals) w) : CtxOK (Γ.add i sem) P where
  tab := hΓ.tab
  pst := hΓ.pst
  fa := hΓ.fa
  psl := hΓ.psl
  pp := hΓ.pp
  bld := hΓ.bld
  bw := hΓ.bw
  eqs := hΓ.eqs
  fns := fun j args objs r hr => by
    simp only [Ctx.add] at hr ⊢
    split
    · rename_i e
      subst e
      exact ⟨h, hc⟩
    · rename_i e
      rw [if_neg e] at hr
      exact hΓ.fns j args objs r hr

/-- A further instance of a function. -/
def semOr (x y : C → List C → Option CRes) (a : C) (o : List C) : Option CRes := match x a o with
  | some r => some r
  | none => y a o
def Ctx.more (Γ : Ctx) (i : Nat) (sem : C → List C → Option CRes) : Ctx := { Γ with fn := fun j => if j = i then semOr (Γ.fn j) sem else Γ.fn j }

theorem more_ok {Γ : Ctx} {P : Program} {i : Nat} {sem : C → List C → Option CRes} (hΓ : CtxOK Γ P) (h : FnOK P Γ.glob i sem) (hc : ∀ vals w, (callFunc i vals).run P w = .ok (.enter i vals) w) : CtxOK (Γ.more i sem) P where
  tab := hΓ.tab
  pst := hΓ.pst
  fa := hΓ.fa
  psl := hΓ.psl
  pp := hΓ.pp
  bld := hΓ.bld
  bw := hΓ.bw
  eqs := hΓ.eqs
  fns := fun j args objs r hr => by
    simp only [Ctx.more] at hr ⊢
    split
    · rename_i e
      subst e
      refine ⟨⟨fun args objs α k m r x hs => ?_, fun args objs α t k T m r hs => ?_, fun args objs α β k m r r' hs => ?_⟩, hc⟩
      · unfold semOr at hs
        split at hs
        · rename_i r' hr'
          cases hs
          exact (hΓ.fns j args objs _ hr').1.one args objs α k m r x hr'
        · exact h.one args objs α k m r x hs
      · unfold semOr at hs
        split at hs
        · rename_i r' hr'
          cases hs
          exact (hΓ.fns j args objs _ hr').1.two args objs α t k T m r hr'
        · exact h.two args objs α t k T m r hs
      · unfold semOr at hs
        split at hs
        · rename_i q' hr'
          cases hs
          exact (hΓ.fns j args objs _ hr').1.three args objs α β k m r r' hr'
        · exact h.three args objs α β k m r r' hs
    · rename_i e
      rw [if_neg e] at hr
      exact hΓ.fns j args objs r hr

def bodyOf (f : Func) : Code := f.body.getD .skip
theorem bodyOf_eq {f : Func} {c : Code} (h : f.body = some c) : f.body = some (bodyOf f) := by rw [bodyOf, h]; rfl

/-- A function's contract, out of closed facts. -/
theorem fn_add {Γ : Ctx} {P : Program} (hΓ : CtxOK Γ P) (hm : P.follows .mixedOrders = true) (i : Nat) (f : Func) (rs : List ResultVar) (h : HC) (I : Inst) (n : Nat) (run : Ks.den I.args → Ks.den I.objs → Option I.out.den)
    (hf : P.funcs[i]? = some f) (hb : f.body.isSome = true) (hn : f.ntmps = n) (hr : f.results = rs.toArray) (hok : I.ok n rs.length (dsts (bodyOf f)) = true)
    (hrun : ∀ x y, evFn Γ n (bodyOf f) rs h I x y = run x y) : FnOK P Γ.glob i (I.sem run) := by
  obtain ⟨c, hc⟩ := Option.isSome_iff_exists.1 hb
  exact fn_ok hΓ hm h I hf (bodyOf_eq hc) hn hr hok hrun

/-- The kind of a function's word. -/
abbrev Inst.F (I : Inst) : Type := Ks.den I.args → Ks.den I.objs → Option I.out.den
/-- A function's contract and the context with it, at once. -/
theorem fn_put {Γ : Ctx} {P : Program} (hΓ : CtxOK Γ P) (hm : P.follows .mixedOrders = true) (i : Nat) (f : Func) (rs : List ResultVar) (h : HC) (I : Inst) (n : Nat) (run : I.F)
    (hf : P.funcs[i]? = some f) (hb : (f.body.isSome && I.ok n rs.length (dsts (bodyOf f))) = true) (hn : f.ntmps = n) (hr : f.results = rs.toArray)
    (hrun : ∀ x y, evFn Γ n (bodyOf f) rs h I x y = run x y) (hc : ∀ vals w, (callFunc i vals).run P w = .ok (.enter i vals) w) : CtxOK (Γ.add i (I.sem run)) P :=
  add_ok hΓ (fn_add hΓ hm i f rs h I n run hf (Bool.and_eq_true_iff.1 hb).1 hn hr (Bool.and_eq_true_iff.1 hb).2 hrun) hc
theorem fn_put2 {Γ : Ctx} {P : Program} (hΓ : CtxOK Γ P) (hm : P.follows .mixedOrders = true) (i : Nat) (f : Func) (rs : List ResultVar) (h : HC) (I : Inst) (n : Nat) (run : I.F)
    (hf : P.funcs[i]? = some f) (hb : (f.body.isSome && I.ok n rs.length (dsts (bodyOf f))) = true) (hn : f.ntmps = n) (hr : f.results = rs.toArray)
    (hrun : ∀ x y, evFn Γ n (bodyOf f) rs h I x y = run x y) (hc : ∀ vals w, (callFunc i vals).run P w = .ok (.enter i vals) w) : CtxOK (Γ.more i (I.sem run)) P :=
  more_ok hΓ (fn_add hΓ hm i f rs h I n run hf (Bool.and_eq_true_iff.1 hb).1 hn hr (Bool.and_eq_true_iff.1 hb).2 hrun) hc
/-- The kind of a word of a function that may panic. -/
abbrev Inst.FP (I : Inst) (t : Ty) : Type := Ks.den I.args → Ks.den I.objs → Option (I.out.den ⊕ t.den)
theorem fn_addP {Γ : Ctx} {P : Program} (hΓ : CtxOK Γ P) (hm : P.follows .mixedOrders = true) (i : Nat) (f : Func) (rs : List ResultVar) (h : HC) (I : Inst) (T : Nat) (t : Ty) (n : Nat) (run : I.FP t)
    (hf : P.funcs[i]? = some f) (hb : f.body.isSome = true) (hn : f.ntmps = n) (hr : f.results = rs.toArray) (hok : I.ok n rs.length (dsts (bodyOf f)) = true)
    (hrun : ∀ x y, evFnP Γ n (bodyOf f) rs h I T t x y = run x y) : FnOK P Γ.glob i (I.semP T t run) := by
  obtain ⟨c, hc⟩ := Option.isSome_iff_exists.1 hb
  exact fn_okP hΓ hm h I hf (bodyOf_eq hc) hn hr hok hrun
theorem fn_putP {Γ : Ctx} {P : Program} (hΓ : CtxOK Γ P) (hm : P.follows .mixedOrders = true) (i : Nat) (f : Func) (rs : List ResultVar) (h : HC) (I : Inst) (T : Nat) (t : Ty) (n : Nat) (run : I.FP t)
    (hf : P.funcs[i]? = some f) (hb : (f.body.isSome && I.ok n rs.length (dsts (bodyOf f))) = true) (hn : f.ntmps = n) (hr : f.results = rs.toArray)
    (hrun : ∀ x y, evFnP Γ n (bodyOf f) rs h I T t x y = run x y) (hc : ∀ vals w, (callFunc i vals).run P w = .ok (.enter i vals) w) : CtxOK (Γ.add i (I.semP T t run)) P :=
  add_ok hΓ (fn_addP hΓ hm i f rs h I T t n run hf (Bool.and_eq_true_iff.1 hb).1 hn hr (Bool.and_eq_true_iff.1 hb).2 hrun) hc
abbrev mk1 (args : List K) (a : K) : Inst := { args := args, objs := [], nres := 1, out := [(90000, a)], news := 0 }
abbrev mk2 (args : List K) (a b : K) : Inst := { args := args, objs := [], nres := 2, out := [(90000, a), (90001, b)], news := 0 }
abbrev mk3 (args : List K) (a b c : K) : Inst := { args := args, objs := [], nres := 3, out := [(90000, a), (90001, b), (90002, c)], news := 0 }

end Go.Fe
