/- What code does to contents. -/
import Derived.Test.YtmnpchoocaiegaaGreatDoorFeOps
namespace Go.Fe
open Go

/-- What a place holds, without the data. -/
inductive K where
  | val (t : Ty)
  | own (o : Nat)
  | ptr (o off : Nat)
  | adr (o T : Nat)
  | brow (o : Nat)
  | fptr (t : Ty)
  | fn (f : Nat) (caps : K)
  | cons (a b : K)
  | unit
  | nil
  | dead
  | vec (n : Option Nat) (t : Ty)
  | rcd (c : K)
  | iter
  deriving DecidableEq, Inhabited

@[reducible] def K.den : K → Type
  | .val t => t.den
  | .fptr t => t.den
  | .vec _ t => List t.den
  | .iter => Str × Nat
  | .fn _ k => k.den
  | .rcd k => k.den
  | .cons a b => a.den × b.den
  | _ => Unit

abbrev Shape := List (Nat × K)
@[reducible] def Shape.den (σ : Shape) : Type := match σ with
  | [] => Unit
  | (_, k) :: r => k.den × Shape.den r

/-- Which object of a state stands for which of a shape; 'none': it begins empty. -/
abbrev Maps := List (Nat × Option Nat)

def K.unpack : (k : K) → k.den → C
  | .val t, x => .val t x
  | .fptr t, x => .fptr t x
  | .vec n t, x => .vec n t x
  | .iter, x => .iter x.1 x.2
  | .own o, _ => .own o
  | .ptr o off, _ => .ptr o off
  | .adr o T, _ => .adr o T
  | .brow o, _ => .brow o
  | .fn f k, x => .fn f (k.unpack x)
  | .rcd k, x => .rcd (k.unpack x)
  | .cons a b, x => .cons (a.unpack x.1) (b.unpack x.2)
  | .unit, _ => .unit
  | .nil, _ => .nil
  | .dead, _ => .dead

def Shape.unpack : (σ : Shape) → σ.den → St
  | [], _ => []
  | (i, k) :: r, x => (i, k.unpack x.1) :: Shape.unpack r x.2

/-- Notes that object o of the shape is object m of the state. -/
def note (M : Maps) (o : Nat) (m : Option Nat) : Option Maps :=
  match M.lookup o with
  | none => some ((o, m) :: M)
  | some m' => if m' = m ∧ m.isSome then some M else none

/-- An own row as data. -/
def ownVal (s : St) (o : Nat) : (t : Ty) → Option t.den
  | .sl e' => match s.get (okey o) with
    | some (.vec _ e xs) => if h : e = e' then some (h ▸ xs : List e'.den) else none
    | _ => none
  | _ => none

/-- A content as a kind has it. What the own rows are that become data is told too. -/
def K.pack (s : St) : (k : K) → C → Maps → List Nat → Option (k.den × Maps × List Nat)
  | .val t, c, M, z => match c with
    | .own o => (ownVal s o t).map fun x => (x, M, o :: z)
    | c => (asVal t c).map fun x => (x, M, z)
  | .fptr t, c, M, z => match c with
    | .fptr t' x => if h : t' = t then some (h ▸ x, M, z) else none
    | _ => none
  | .own o, c, M, z => match c with
    | .own m => (note M o (some m)).map fun M => ((), M, z)
    | .nil => (note M o none).map fun M => ((), M, z)
    | _ => none
  | .ptr o off, c, M, z => match c with
    | .ptr m off' => if off' = off then (note M o (some m)).map fun M => ((), M, z) else none
    | _ => none
  | .brow o, c, M, z => match c with
    | .brow m => (note M o (some m)).map fun M => ((), M, z)
    | _ => none
  | .adr o T, c, M, z => match c with
    | .adr m T' => if T' = T then (note M o (some m)).map fun M => ((), M, z) else none
    | _ => none
  | .fn f k, c, M, z => match c with
    | .fn f' d => if f' = f then (K.pack s k d M z) else none
    | _ => none
  | .cons a b, c, M, z => match c with
    | .cons d e => match K.pack s a d M z with
      | some (x, M, z) => match K.pack s b e M z with
        | some (y, M, z) => some ((x, y), M, z)
        | none => none
      | none => none
    | _ => none
  | .unit, c, M, z => match c with
    | .unit => some ((), M, z)
    | _ => none
  | .nil, c, M, z => match c with
    | .nil => some ((), M, z)
    | _ => none
  | .dead, c, M, z => if c.lone = true ∧ c.cells = 1 then some ((), M, z) else none
  | .vec .., _, _, _ => none
  | .iter, _, _, _ => none
  | .rcd _, _, _, _ => none

/-- An object as a kind has it. -/
def K.packO (s : St) : (k : K) → Option Nat → Maps → List Nat → Option (k.den × Maps × List Nat)
  | .vec n t, m, M, z => match m with
    | some m => match s.get (okey m) with
      | some (.vec n' t' xs) => if h : t' = t then if n' = n then some ((h ▸ xs : List t.den), M, z) else none else none
      | _ => none
    | none => if n = none then some ([], M, z) else none
  | .rcd k, m, M, z => match m with
    | some m => match s.get (okey m) with
      | some (.rcd c) => K.pack s k c M z
      | _ => none
    | none => none
  | .iter, m, M, z => match m with
    | some m => match s.get (okey m) with
      | some (.iter x pos) => some ((x, pos), M, z)
      | _ => none
    | none => none
  | _, _, _, _ => none

/-- A state as a shape has it: slots first, then objects, each behind what leads to it. -/
def Shape.packs (s : St) : (σ : Shape) → Maps → List Nat → Option (σ.den × Maps × List Nat)
  | [], M, z => some ((), M, z)
  | (i, k) :: r, M, z =>
    match (if i < 100000 then (match s.get i with
        | some c => K.pack s k c M z
        | none => none)
      else match M.lookup (i - 100000) with
        | some m => K.packO s k m M z
        | none => none) with
    | none => none
    | some (x, M, z) => match Shape.packs s r M z with
      | none => none
      | some (y, M, z) => some ((x, y), M, z)

/-- Each key once; what a content names is an object of the shape. -/
def Shape.ok (σ : Shape) : Bool := decide (σ.map (·.1)).Nodup
def K.refs : K → List Nat
  | .own o | .ptr o _ | .adr o _ | .brow o => [o]
  | .cons a b => a.refs ++ b.refs
  | .fn _ c | .rcd c => c.refs
  | _ => []
def Shape.closed (σ : Shape) : Bool := σ.all fun p => p.2.refs.all fun o => (σ.map (·.1)).contains (okey o)

/-- The state's objects that stay objects are apart, and apart from those that become data. -/
def mapsOk (M : Maps) (z : List Nat) : Bool :=
  decide (M.filterMap (·.2)).Nodup && (M.filterMap (·.2)).all fun o => !z.contains o

def Shape.pack (σ : Shape) (s : St) : Option σ.den :=
  match Shape.packs s σ [] [] with
  | none => none
  | some (x, M, z) => if σ.ok && σ.closed && mapsOk M z then some x else none

inductive Ex where
  | normal | exit (n : Nat) | ret | pan (T : Nat)
  deriving DecidableEq, Inhabited

abbrev Exits := List (Ex × Shape)
@[reducible] def Exits.den (es : Exits) : Type := match es with
  | [] => Empty
  | [(_, σ)] => σ.den
  | (_, σ) :: r => σ.den ⊕ Exits.den r

def Exits.pack (es : Exits) (e : Ex) (s : St) : Option es.den := match es with
  | [] => none
  | [(e', σ)] => if e' = e then σ.pack s else none
  | (e', σ) :: p :: r => if e' = e then (σ.pack s).map Sum.inl else (Exits.pack (p :: r) e s).map Sum.inr

def elimK {X : Type} (k : Shape → Ex → St → Option X) : (es : Exits) → es.den → Option X
  | [] => fun x => nomatch x
  | [(e, σ)] => fun x => k σ e (σ.unpack x)
  | (e, σ) :: p :: r => fun x => Sum.casesOn (motive := fun _ => Option X) x (fun z => k σ e (σ.unpack z)) (fun z => elimK k (p :: r) z)
def Exits.elim {X : Type} (es : Exits) (x : es.den) (k : Shape → Ex → St → Option X) : Option X := elimK k es x

def loopK {S R : Type} (f : S → Option (S ⊕ R)) : Nat → S → Option R
  | 0, _ => none
  | n + 1, s => match f s with
    | none => none
    | some (.inl s') => loopK f n s'
    | some (.inr r) => some r

def rounds : Nat := 1099511627776
def loop {S R : Type} (f : S → Option (S ⊕ R)) (s : S) : Option R := loopK f rounds s

/-- Hints at code. -/
inductive HC where
  | leaf
  | region (hs : List OH)
  | seq (a b : HC)
  | cond (a b : HC)
  | block (a : HC)
  | loop (σ : Shape) (es : Exits) (a : HC)
  | cut (es : Exits) (a : HC)
  | again (a b : HC)

/-- What two ways come to alike. -/
noncomputable def agree {X : Type} (p q : Option X) : Option X := open Classical in if p = q then p else none

/-- The state in which a test's outcome is known. -/
def know (s : St) (x : Operand) (b : Bool) : St := match x with
  | .tmp t => s.set t (.val .bool b)
  | _ => s

/-- The slots that code writes. -/
def dsts : Code → List Nat
  | .region _ ops _ => ops.toList.filterMap (·.dst)
  | .seq a b => dsts a ++ dsts b
  | .cond _ a b => dsts a ++ dsts b
  | .block _ a | .loop a | .scope a => dsts a
  | _ => []

def C.plain : C → Bool
  | .val .. | .fptr .. => true
  | _ => false

/-- The data that code doesn't write. -/
def keep (s : St) (W : List Nat) (σ : Shape) : St :=
  s.filterMap fun p => match s.get p.1 with
    | some c => if decide (p.1 < 100000) && c.plain && !W.contains p.1 && !(σ.map (·.1)).contains p.1 then some (p.1, c) else none
    | none => none

def wrOf (ops : Array Oper) (hs : List OH) (i : Nat) : List Nat := match ops[i]? with
  | none => []
  | some o => o.dst.toList ++ (hs.getD i {}).outs o
/-- What a region may write, and what is left of a state behind it. -/
def regW (ops : Array Oper) (hs : List OH) : List Nat := (List.range ops.size).flatMap (wrOf ops hs)
def wipe : St → List Nat → St
  | [], _ => []
  | (k, c) :: r, W => if W.contains k then (if k < 100000 then wipe r W else (k, .dead) :: wipe r W) else (k, c) :: wipe r W
/-- What is kept behind a way out: nothing behind a panic. -/
def keepE (e : Ex) (t k : St) : St := match e with
  | .pan _ => t
  | _ => t ++ k

/-- In which order a drawn region is answered: what may run ahead of a panic does so. -/
def panAt (b : Array Nat) (hs : List OH) (n j : Nat) : Nat := ((List.range n).filter fun q => (hs.getD q {}).pan && (decide (q = j) || (b.getD j 0).testBit q)).length
def ordOf (ops : Array Oper) (hs : List OH) : List Nat := if hs.any (·.pan) then
    (List.range (ops.size + 1)).flatMap fun c => (List.range ops.size).filter fun j => decide (panAt (Region.before ops) hs ops.size j = c)
  else List.range ops.size
def ordD (d : Bool) (ops : Array Oper) (hs : List OH) : List Nat := match d with
  | false => List.range ops.size
  | true => ordOf ops hs

noncomputable def evCode {X : Type} (Γ : Ctx) (n : Nat) (draws : Array Oper → List OH → Bool) : HC → Code → St → (Ex → St → Option X) → Option X
  | .cut es h, c, s, k => (evCode Γ n draws h c s fun e s => es.pack e s).bind fun x => es.elim x fun σ e t => k e (keepE e t (keep s (dsts c) σ))
  | .region hs, .region _ ops d, s, k => if d = false || draws ops hs then evOpsK Γ n ops hs (k .normal) (fun T t p => k (.pan T) ((panKey, .val t p) :: wipe s (regW ops hs))) (ordD d ops hs) s else none
  | .seq a b, .seq x y, s, k => evCode Γ n draws a x s fun e s => match e with
    | .normal => evCode Γ n draws b y s k
    | e => k e s
  | .cond a b, .cond c x y, s, k => match opnd Γ s.get c with
    | some (.val .bool p) => cond p (evCode Γ n draws a x (know s c true) k) (evCode Γ n draws b y (know s c false) k)
    | some (.may p q) => cond q (agree (evCode Γ n draws a x (know s c true) k) (evCode Γ n draws b y (know s c false) k))
        (cond p (evCode Γ n draws b y (know s c false) k) (evCode Γ n draws a x (know s c true) k))
    | _ => none
  | .block a, .block id x, s, k => evCode Γ n draws a x s fun e s => match e with
    | .exit i => if i = id then k .normal s else k (.exit i) s
    | e => k e s
  | .loop σ es a, .loop x, s, k => match σ.pack s with
    | none => none
    | some p => (loop (S := σ.den) (R := es.den) (fun p => evCode Γ n draws a x (σ.unpack p ++ keep s (dsts x) σ) fun e s => match e with
        | .normal => (σ.pack s).map Sum.inl
        | e => (es.pack e s).map Sum.inr) p).bind fun x' => es.elim x' fun σ e t => k e (keepE e t (keep s (dsts x) σ))
  | .again a b, .loop x, s, k => evCode Γ n draws a x s fun e s => match e with
    | .normal => evCode Γ n draws b (.loop x) s k
    | e => k e s
  | .leaf, .skip, s, k => k .normal s
  | .leaf, .exit i, s, k => k (.exit i) s
  | .leaf, .ret, s, k => k .ret s
  | _, _, _, _ => none

end Go.Fe
