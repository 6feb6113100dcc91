/- From a function's text to its contract. -/
import Derived.Test.YtmnpchoocaiegaaGreatDoorFeEval
namespace Go.Fe
open Go

@[reducible] def Ks.den : List K → Type
  | [] => Unit
  | k :: r => k.den × Ks.den r
def Ks.unpack : (l : List K) → Ks.den l → List C
  | [], _ => []
  | k :: r, x => k.unpack x.1 :: Ks.unpack r x.2

/-- A content that is just of a kind. -/
def K.take : (k : K) → C → Option k.den
  | .val t, c => match c with
    | .val t' x => if h : t' = t then some (h ▸ x) else none
    | _ => none
  | .fptr t, c => match c with
    | .fptr t' x => if h : t' = t then some (h ▸ x) else none
    | _ => none
  | .own o, c => match c with
    | .own m => if m = o then some () else none
    | _ => none
  | .ptr o off, c => match c with
    | .ptr m off' => if m = o ∧ off' = off then some () else none
    | _ => none
  | .brow o, c => match c with
    | .brow m => if m = o then some () else none
    | _ => none
  | .adr o T, c => match c with
    | .adr m T' => if m = o ∧ T' = T then some () else none
    | _ => none
  | .fn f k, c => match c with
    | .fn f' d => if f' = f then (K.take k d) else none
    | _ => none
  | .cons a b, c => match c with
    | .cons d e => match K.take a d with
      | some x => (K.take b e).map fun y => (x, y)
      | none => none
    | _ => none
  | .unit, c => match c with
    | .unit => some ()
    | _ => none
  | .nil, c => match c with
    | .nil => some ()
    | _ => none
  | .dead, c => match c with
    | .dead => some ()
    | _ => none
  | .vec n t, c => match c with
    | .vec n' t' xs => if h : t' = t then if n' = n then some (h ▸ xs) else none else none
    | _ => none
  | .rcd k, c => match c with
    | .rcd d => K.take k d
    | _ => none
  | .iter, c => match c with
    | .iter x pos => some (x, pos)
    | _ => none

theorem take_eq : ∀ (k : K) {c : C} {x : k.den}, k.take c = some x → c = k.unpack x
  | .val t, c, x, h => by
    cases c <;> simp only [K.take] at h <;> first | (cases h; done) | skip
    split at h
    · rename_i e; subst e; cases h; rfl
    · cases h
  | .fptr t, c, x, h => by
    cases c <;> simp only [K.take] at h <;> first | (cases h; done) | skip
    split at h
    · rename_i e; subst e; cases h; rfl
    · cases h
  | .own o, c, x, h => by
    cases c <;> simp only [K.take] at h <;> first | (cases h; done) | skip
    split at h
    · rename_i e; subst e; rfl
    · cases h
  | .ptr o off, c, x, h => by
    cases c <;> simp only [K.take] at h <;> first | (cases h; done) | skip
    split at h
    · rename_i e; obtain ⟨rfl, rfl⟩ := e; rfl
    · cases h
  | .brow o, c, x, h => by
    cases c <;> simp only [K.take] at h <;> first | (cases h; done) | skip
    split at h
    · rename_i e; subst e; rfl
    · cases h
  | .adr o T, c, x, h => by
    cases c <;> simp only [K.take] at h <;> first | (cases h; done) | skip
    split at h
    · rename_i e; obtain ⟨rfl, rfl⟩ := e; rfl
    · cases h
  | .fn f k, c, x, h => by
    cases c <;> simp only [K.take] at h <;> first | (cases h; done) | skip
    split at h
    · rename_i e; subst e; simp only [K.unpack]; rw [take_eq k h]
    · cases h
  | .cons a b, c, x, h => by
    cases c <;> simp only [K.take] at h <;> first | (cases h; done) | skip
    split at h
    · rename_i x1 h1
      simp only [Option.map_eq_some_iff] at h
      obtain ⟨y, h2, rfl⟩ := h
      simp only [K.unpack]
      rw [take_eq a h1, take_eq b h2]
    · cases h
  | .unit, c, x, h => by cases c <;> simp only [K.take] at h <;> first | (cases h; done) | rfl
  | .nil, c, x, h => by cases c <;> simp only [K.take] at h <;> first | (cases h; done) | rfl
  | .dead, c, x, h => by cases c <;> simp only [K.take] at h <;> first | (cases h; done) | rfl
  | .vec n t, c, x, h => by
    cases c <;> simp only [K.take] at h <;> first | (cases h; done) | skip
    split at h
    · rename_i e
      split at h
      · rename_i e2; subst e; subst e2; cases h; rfl
      · cases h
    · cases h
  | .iter, c, x, h => by
    cases c <;> simp only [K.take] at h <;> first | (cases h; done) | skip
    cases h
    rfl
  | .rcd k, c, x, h => by
    cases c <;> simp only [K.take] at h <;> first | (cases h; done) | skip
    simp only [K.unpack]
    rw [take_eq k h]

/-- An argument as a kind has it. -/
def K.arg (k : K) (c : C) : Option k.den := match k, c with
  | .val (.sl _), .nil => some []
  | .dead, c => if c.lone then some () else none
  | k, c => k.take c

def takeL : (l : List K) → C → Option (Ks.den l)
  | [], .unit => some ()
  | k :: r, .cons a b => match k.arg a with
    | some x => (takeL r b).map fun y => (x, y)
    | none => none
  | _, _ => none
def takeO : (l : List K) → List C → Option (Ks.den l)
  | [], [] => some ()
  | k :: r, a :: b => match k.take a with
    | some x => (takeO r b).map fun y => (x, y)
    | none => none
  | _, _ => none

theorem takeO_eq : ∀ (l : List K) {cs : List C} {x : Ks.den l}, takeO l cs = some x → cs = Ks.unpack l x
  | [], [], x, _ => rfl
  | [], _ :: _, x, h => by cases h
  | _ :: _, [], x, h => by cases h
  | k :: r, a :: b, x, h => by
    simp only [takeO] at h
    split at h
    · rename_i y hy
      simp only [Option.map_eq_some_iff] at h
      obtain ⟨z, hz, rfl⟩ := h
      simp only [Ks.unpack]
      rw [take_eq k hy, takeO_eq r hz]
    · cases h

theorem unpack_len : ∀ (l : List K) (x : Ks.den l), (Ks.unpack l x).length = l.length
  | [], _ => rfl
  | _ :: r, x => by simp only [Ks.unpack, List.length_cons, unpack_len r]

theorem unpack_at : ∀ (l : List K) (x : Ks.den l) (j : Nat), match l[j]? with
    | some k => ∃ y, (Ks.unpack l x)[j]? = some (K.unpack k y)
    | none => (Ks.unpack l x)[j]? = none
  | [], _, j => by simp [Ks.unpack]
  | k :: r, x, 0 => ⟨x.1, rfl⟩
  | k :: r, x, j + 1 => by
    have := unpack_at r x.2 j
    simp only [List.getElem?_cons_succ, Ks.unpack]
    exact this

theorem arg_rep {F : Froz} {κ : Conc} {s : St} (k : K) {c : C} {x : k.den} {v : Value} (h : k.arg c = some x) (hv : RepC F κ s c v) :
    RepC F κ s (k.unpack x) v ∧ (k.unpack x).refs ⊆ c.refs := by
  unfold K.arg at h
  split at h
  · cases h
    obtain ⟨ad, rfl⟩ := rep_nil.1 hv
    refine ⟨rep_val.2 ⟨[.slice ad 0 0], ?_, rfl⟩, by simp [K.unpack, C.refs]⟩
    simp only [RepT]
    exact ⟨ad, 0, rfl, Nat.le_refl _, .inl trivial⟩
  · exact ⟨rep_dead, by simp [K.unpack, C.refs]⟩
  · rw [← take_eq _ h]
    exact ⟨hv, fun _ h => h⟩

theorem takeL_rep {F : Froz} {κ : Conc} {s : St} : ∀ (l : List K) {c : C} {x : Ks.den l} {vs : List Value}, takeL l c = some x → RepL F κ s c vs →
    vs.length = l.length ∧ ∀ (j : Nat) (d : C), (Ks.unpack l x)[j]? = some d → RepC F κ s d (vs.getD j undef) ∧ d.refs ⊆ c.refs
  | [], c, x, vs, h, hr => by
    cases c <;> simp only [takeL] at h <;> first | (cases h; done) | skip
    simp only [RepL] at hr
    subst hr
    exact ⟨rfl, fun j d hd => by simp [Ks.unpack] at hd⟩
  | k :: r, c, x, vs, h, hr => by
    cases c <;> simp only [takeL] at h <;> first | (cases h; done) | skip
    rename_i a b
    split at h
    · rename_i y hy
      simp only [Option.map_eq_some_iff] at h
      obtain ⟨z, hz, rfl⟩ := h
      simp only [RepL] at hr
      obtain ⟨v, vr, rfl, h1, h2⟩ := hr
      obtain ⟨g1, g2⟩ := takeL_rep r hz h2
      refine ⟨by simp [g1], fun j d hd => ?_⟩
      cases j with
      | zero =>
        simp only [Ks.unpack, List.getElem?_cons_zero, Option.some.injEq] at hd
        subst hd
        obtain ⟨e1, e2⟩ := arg_rep k hy h1
        exact ⟨by simpa using e1, fun o ho => by simp only [C.refs, List.mem_append]; exact .inl (e2 ho)⟩
      | succ j =>
        simp only [Ks.unpack, List.getElem?_cons_succ] at hd
        obtain ⟨e1, e2⟩ := g2 j d hd
        exact ⟨by simpa using e1, fun o ho => by simp only [C.refs, List.mem_append]; exact .inr (e2 ho)⟩
    · cases h

/-- Contents at the slots from k on. -/
def slotsAt : Nat → List C → St
  | _, [] => []
  | k, c :: r => (k, c) :: slotsAt (k + 1) r

theorem slotsAt_get : ∀ (l : List C) (k j : Nat), (slotsAt k l).get j = if k ≤ j then l[j - k]? else none
  | [], k, j => by simp [slotsAt, St.get]
  | c :: r, k, j => by
    simp only [slotsAt, St.get, slotsAt_get r]
    by_cases h : k = j
    · subst h; simp
    · rw [if_neg h]
      by_cases h1 : k + 1 ≤ j
      · rw [if_pos h1, if_pos (by omega)]
        obtain ⟨d, rfl⟩ : ∃ d, j = k + 1 + d := ⟨j - (k + 1), by omega⟩
        rw [show k + 1 + d - k = d + 1 by omega, List.getElem?_cons_succ]
        congr 1
        omega
      · rw [if_neg h1, if_neg (by omega)]

/-- How a function is run: the kinds of what it is given and of what it gives. -/
structure Inst where
  args : List K
  objs : List K
  nres : Nat
  out : Shape
  news : Nat

def resC : List C → C
  | [c] => c
  | l => .tup (listC l)

def Inst.outs (I : Inst) (r : I.out.den) : Out :=
  let s := I.out.unpack r
  ⟨resC ((List.range I.nres).map fun j => (s.get (90000 + j)).getD .dead), (List.range I.objs.length).map fun i => (s.get (okey i)).getD .dead,
    (List.range I.news).map fun j => (s.get (okey (I.objs.length + j))).getD .dead⟩

def Inst.sem (I : Inst) (run : Ks.den I.args → Ks.den I.objs → Option I.out.den) (args : C) (objs : List C) : Option CRes :=
  match takeL I.args args with
  | none => none
  | some x => match takeO I.objs objs with
    | none => none
    | some y => some (.mk I.news (run x y) I.outs)

def resList (Γ : Ctx) (s : St) : List ResultVar → Option (List C)
  | [] => some []
  | .tmp t :: r => if t < 90000 then match s.get t with
      | some c => (resList Γ s r).map (c :: ·)
      | none => none
    else none
  | .cell t T :: r => if t < 90000 then match s.get t with
      | some p => match loadR Γ T p s.get (some 0) with
        | some (.ok [(_, c)]) => (resList Γ s r).map (c :: ·)
        | _ => none
      | none => none
    else none

noncomputable def evFn (Γ : Ctx) (n : Nat) (code : Code) (rs : List ResultVar) (h : HC) (I : Inst) (x : Ks.den I.args) (y : Ks.den I.objs) : Option I.out.den :=
  evCode Γ n drawsOK h code (slotsAt 0 (Ks.unpack I.args x) ++ ost 0 (Ks.unpack I.objs y)) fun e s => match e with
    | .exit _ => none
    | .pan _ => none
    | _ => match resList Γ s rs with
      | none => none
      | some l => I.out.pack (slotsAt 90000 l ++ s)
/-- .. of a function that may panic, with a value of type T that is of t. -/
def Inst.semP (I : Inst) (T : Nat) (t : Ty) (run : Ks.den I.args → Ks.den I.objs → Option (I.out.den ⊕ t.den)) (args : C) (objs : List C) : Option CRes :=
  match takeL I.args args with
  | none => none
  | some x => match takeO I.objs objs with
    | none => none
    | some y => some (.mkP I.news T (run x y) I.outs)
noncomputable def evFnP (Γ : Ctx) (n : Nat) (code : Code) (rs : List ResultVar) (h : HC) (I : Inst) (T : Nat) (t : Ty) (x : Ks.den I.args) (y : Ks.den I.objs) : Option (I.out.den ⊕ t.den) :=
  evCode Γ n drawsOK h code (slotsAt 0 (Ks.unpack I.args x) ++ ost 0 (Ks.unpack I.objs y)) fun e s => match e with
    | .exit _ => none
    | .pan T' => if T' = T then match s.get panKey with
        | some (.val t' p) => if h : t' = t then some (.inr (h ▸ p)) else none
        | _ => none
      else none
    | _ => match resList Γ s rs with
      | none => none
      | some l => (I.out.pack (slotsAt 90000 l ++ s)).map .inl

/-- The address of object i at one place of both lists. -/
def hasPtr (i : Nat) : K → K → Bool
  | .cons (.ptr i' 0) b, .cons (.ptr i'' 0) b' => decide (i' = i ∧ i'' = i) || hasPtr i b b'
  | .cons _ b, .cons _ b' => hasPtr i b b'
  | _, _ => false
def pinned (k0 k : K) (i : Nat) (x y : Option K) : Bool := match k0, k, x, y with
  | .vec none t, .vec none t', some (.own i'), some (.own i'') => decide (t = t' ∧ i' = i ∧ i'' = i)
  | .vec (some m) t, .vec (some m') t', some (.ptr i' 0), some (.ptr i'' 0) => decide (t = t' ∧ m = m' ∧ i' = i ∧ i'' = i)
  | .rcd _, .rcd _, some (.ptr i' 0), some (.ptr i'' 0) => decide (i' = i ∧ i'' = i)
  | .rcd _, .rcd _, some (.fn _ c), some (.fn _ c') => hasPtr i c c'
  | _, _, _, _ => false

/-- What is handed over stays where it is, or it is gone. -/
def Inst.okObj (I : Inst) (W : List Nat) (i : Nat) : Bool := match I.out.lookup (okey i) with
  | none => true
  | some k => match I.objs[i]? with
    | none => false
    | some k0 => (List.range I.args.length).any fun j => !W.contains j && pinned k0 k i I.args[j]? (I.out.lookup j)

def Inst.ok (I : Inst) (n nr : Nat) (W : List Nat) : Bool :=
  decide (I.args.length ≤ n ∧ n ≤ 90000 ∧ I.nres = nr ∧ nr ≤ 5000) && ((List.range I.objs.length).all (I.okObj W)) &&
    I.out.all (fun p => decide (p.1 < okey (I.objs.length + I.news))) && (List.range nr).all (fun j => (I.out.lookup (90000 + j)).isSome)

theorem shape_get : ∀ (σ : Shape) (x : σ.den) (k : Nat), match σ.lookup k with
    | some K => ∃ y, (σ.unpack x).get k = some (K.unpack y)
    | none => (σ.unpack x).get k = none
  | [], _, k => by simp [Shape.unpack, St.get]
  | (i, K) :: r, x, k => by
    simp only [List.lookup, Shape.unpack, St.get]
    by_cases h : i = k
    · subst h
      simp only [BEq.rfl, if_true]
      exact ⟨x.1, rfl⟩
    · have : (k == i) = false := by simp; exact fun e => h e.symm
      simp only [this, if_neg h]
      exact shape_get r x.2 k

end Go.Fe
