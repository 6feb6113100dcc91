/- Contracts off the shelf: a function of data that leaves all that was there as it was. -/
import Derived.Test.YtmnpchoocaiegaaGreatDoorFeEq
import Derived.Deep.Draws
namespace Go.Fe
open Go

def takeT : (l : List Ty) → C → Option (Tys.den l)
  | [], .unit => some ()
  | t :: r, .cons a b => match asVal t a with
    | some x => (takeT r b).map fun y => (x, y)
    | none => none
  | _, _ => none

/-- The values are those of the data. -/
def RepA (F : Froz) : (l : List Ty) → Tys.den l → List Value → Prop
  | [], _, vs => vs = []
  | t :: r, x, vs => ∃ v q, vs = v :: q ∧ RepV F t x.1 v ∧ RepA F r x.2 q

theorem takeT_rep {F : Froz} {κ : Conc} {s : St} : ∀ (l : List Ty) {c : C} {x : Tys.den l} {vs : List Value}, takeT l c = some x → RepL F κ s c vs → RepA F l x vs
  | [], c, x, vs, h, hr => by
    cases c <;> simp only [takeT] at h <;> first | (cases h; done) | skip
    simpa only [RepA, RepL] using hr
  | t :: r, c, x, vs, h, hr => by
    cases c <;> simp only [takeT] at h <;> first | (cases h; done) | skip
    split at h
    · rename_i y hy
      simp only [Option.map_eq_some_iff] at h
      obtain ⟨z, hz, rfl⟩ := h
      simp only [RepL] at hr
      obtain ⟨v, q, rfl, h1, h2⟩ := hr
      refine ⟨v, q, rfl, ?_, takeT_rep r hz h2⟩
      have := (arg_rep (κ := κ) (s := s) (.val t) (x := y) (by
        unfold K.arg
        unfold asVal at hy
        split at hy
        · rename_i t' x'
          split at hy
          · rename_i e
            cases t <;> simp only [K.take, e, dif_pos] <;> exact hy
          · cases hy
        · split at hy
          · exact hy
          · cases hy
        · cases hy) h1).1
      exact rep_val.1 this
    · cases h

def Tys.cs : (l : List Ty) → Tys.den l → List C
  | [], _ => []
  | t :: r, x => .val t x.1 :: Tys.cs r x.2

def shelfSem (l r : List Ty) (f : Tys.den l → Option (Tys.den r)) (args : C) (objs : List C) : Option CRes := match objs with
  | [] => match takeT l args with
    | some x => some (.mk 0 (f x) fun y => ⟨resC (Tys.cs r y), [], []⟩)
    | none => none
  | _ => none

theorem cs_rep {F : Froz} {κ : Conc} {s : St} : ∀ (r : List Ty) {y : Tys.den r} {us : List Value}, RepA F r y us → (Tys.cs r y).length = us.length ∧ ∀ (j : Nat) (c : C), (Tys.cs r y)[j]? = some c → RepC F κ s c (us.getD j undef)
  | [], y, us, h => by simp only [RepA] at h; subst h; exact ⟨rfl, fun j c h => by simp [Tys.cs] at h⟩
  | t :: r, y, us, h => by
    simp only [RepA] at h
    obtain ⟨v, q, rfl, h1, h2⟩ := h
    obtain ⟨i1, i2⟩ := cs_rep (κ := κ) (s := s) r h2
    refine ⟨by simp [Tys.cs, i1], fun j c hj => ?_⟩
    cases j with
    | zero => simp only [Tys.cs, List.getElem?_cons_zero, Option.some.injEq] at hj; subst hj; simpa using rep_val.2 h1
    | succ j => simp only [Tys.cs, List.getElem?_cons_succ] at hj; simpa using i2 j c hj

theorem cs_refs : ∀ (r : List Ty) (y : Tys.den r) (c : C), c ∈ Tys.cs r y → c.refs = []
  | [], _, _, h => by simp [Tys.cs] at h
  | t :: r, y, c, h => by
    simp only [Tys.cs, List.mem_cons] at h
    rcases h with rfl | h
    · rfl
    · exact cs_refs r y.2 c h

theorem sameOld_refl (w : World) : SameOld w w := ⟨Nat.le_refl _, fun _ _ => rfl, rfl, rfl⟩
theorem fn_shelf {P : Program} {glob : Glob} {i : Nat} {l r : List Ty} {f : Tys.den l → Option (Tys.den r)}
    (h : ∀ (F : Froz) (w : World) (x : Tys.den l) (y : Tys.den r) (vs : List Value), (∀ b o, F b = some o → w.heap[b]? = some o) → GlobF glob F →
      f x = some y → RepA F l x vs → Calls P i vs.toArray w fun e w' => (∃ us, e = .returned (resV us) ∧ RepA F r y us) ∧ SameOld w w') : FnOK P glob i (shelfSem l r f) := by
  refine FnOK.of (fun args objs α k m q x hs hm F κ w vals hG hI hargs hrefs => ?_) (fun args objs q hq => ?_)
  rotate_left
  · unfold shelfSem at hq
    split at hq
    · split at hq
      · cases hq; rfl
      · cases hq
    · cases hq
  unfold shelfSem at hs
  split at hs
  · split at hs
    · rename_i x0 hx0
      cases hs
      refine (h F w x0 x vals hI.frozen hG hm (takeT_rep l hx0 hargs)).mono fun e w' ⟨⟨us, he, hv⟩, hw⟩ => ?_
      have hI' := hI.more (w' := w') ⟨hw.size, fun b' _ hb => hw.same b' hb, hw.rest⟩
      obtain ⟨h1, h2⟩ := cs_rep (κ := κ) (s := ost 0 []) _ hv
      refine ⟨_, F, κ, he, Froz.le_refl F, hI', resC_rep _ us h1 h2, fun o ho => ?_, rfl, rfl, fun i hi => by simp at hi⟩
      obtain ⟨c, hc, hoc⟩ := resC_refs _ o ho
      rw [cs_refs _ _ _ hc] at hoc
      cases hoc
    · cases hs
  · cases hs

end Go.Fe
