/- What an operation does to contents. -/
import Derived.Test.YtmnpchoocaiegaaGreatDoorFeBase
namespace Go.Fe
open Go

/-! ### The words of the plain functions -/
def lim : Nat := 68719476736

def chk (b : Bool) : Option Unit := match b with
  | true => some ()
  | false => none
def inb (i : Int) (n : Nat) : Bool := decide (0 ≤ i) && decide (i < n)
def idx {α : Type} (xs : List α) (i : Int) : Option α := if 0 ≤ i then xs[i.toNat]? else none
def cut {α : Type} (xs : List α) (lo hi : Int) : Option (List α) :=
  if 0 ≤ lo ∧ lo ≤ hi ∧ hi ≤ xs.length then some ((xs.take hi.toNat).drop lo.toNat) else none
def cat {α : Type} (xs ys : List α) : Option (List α) := if xs.length + ys.length ≤ lim then some (xs ++ ys) else none
def mk {α : Type} (n c : Int) (z : α) : Option (List α) := if 0 ≤ n ∧ n ≤ c ∧ c ≤ lim then some (List.replicate n.toNat z) else none
def over {α : Type} (xs ys : List α) : List α := ys.take xs.length ++ xs.drop ys.length
def quo (k : IntKind) (a b : Int) : Option Int := if b = 0 then none else some (k.wrap (a.tdiv b))
def rem (a b : Int) : Option Int := if b = 0 then none else some (a.tmod b)
def shc (b : Int) : Option Nat := if b < 0 then none else some b.toNat
def shl (k : IntKind) (a : Int) (n : Nat) : Int := k.wrap (a * 2 ^ (min n k.bits))
def shr (k : IntKind) (a : Int) (n : Nat) : Int := a.fdiv (2 ^ (min n k.bits))
def band (k : IntKind) (a b : Int) : Int := k.wrap ((BitVec.ofInt k.bits a &&& BitVec.ofInt k.bits b).toNat : Nat)
def bor (k : IntKind) (a b : Int) : Int := k.wrap ((BitVec.ofInt k.bits a ||| BitVec.ofInt k.bits b).toNat : Nat)
def bxor (k : IntKind) (a b : Int) : Int := k.wrap ((BitVec.ofInt k.bits a ^^^ BitVec.ofInt k.bits b).toNat : Nat)
def bandn (k : IntKind) (a b : Int) : Int := k.wrap ((BitVec.ofInt k.bits a &&& ~~~ (BitVec.ofInt k.bits b)).toNat : Nat)
def byteOfInt (n : Int) : UInt8 := UInt8.ofNat n.toNat
def bytesStr (xs : List Int) : Str := xs.map byteOfInt
def strBytes (s : Str) : List Int := s.map fun c => (c.toNat : Int)
def ofByte (c : UInt8) : Int := c.toNat

def Ty.isRec : Ty → Bool
  | .unit | .pair _ _ | .mu _ => true
  | _ => false

def Ty.beq : (t : Ty) → t.den → t.den → Bool
  | .int _, a, b => decide (a = b)
  | .bool, a, b => a == b
  | .str, a, b => decide (a = b)
  | .pair t u, a, b => t.beq a.1 b.1 && u.beq a.2 b.2
  | _, _, _ => true

/-- Types whose values Go compares, without slices. -/
def Ty.flat : Ty → Bool
  | .int _ | .bool | .str | .unit => true
  | .pair a b => a.flat && b.flat
  | _ => false

inductive Res : Type 1
  | ok (u : St)
  | bind {α : Type} (m : Option α) (f : α → St)

def Res.run : Res → Option St
  | .ok u => some u
  | .bind m f => m.map f
def Res.k {X : Type} : Res → (St → Option X) → Option X
  | .ok u, k => k u
  | .bind m f, k => m.bind fun a => k (f a)
theorem Res.k_eq {X : Type} (r : Res) (k : St → Option X) : r.k k = r.run.bind k := by
  cases r with
  | ok u => rfl
  | bind m f => cases m <;> rfl

/-- What a call comes to: the result, the objects that were handed over, the objects that are new. -/
structure Out where
  res : C
  objs : List C
  news : List C

inductive CRes : Type 1
  | mk {α : Type} (k : Nat) (m : Option α) (f : α → Out)
  | mkP {α : Type} {t : Ty} (k T : Nat) (m : Option (α ⊕ t.den)) (f : α → Out)
  | mkS {α β : Type} (k : Nat) (m : Option (α ⊕ β)) (f : α → Out) (g : β → Out)

/-- What an operation comes to: a call may end in a panic, too; g is left then, and the panic's value. -/
inductive Rs : Type 1
  | of (r : Res)
  | br (b : Bool) (u v : St)
  | sum {α β : Type} (m : Option (α ⊕ β)) (f : α → St) (g : β → St)
  | pan {α : Type} {t : Ty} (T : Nat) (m : Option (α ⊕ t.den)) (f : α → St) (g : St)
def panKey : Nat := 99999
def Rs.run : Rs → Option St
  | .of r => r.run
  | .br b u v => some (cond b u v)
  | .sum m f g => m.map fun x => match x with
    | .inl a => f a
    | .inr b => g b
  | .pan _ m f _ => m.bind fun x => match x with
    | .inl a => some (f a)
    | .inr _ => none
def Rs.fall : Rs → Option (Nat × St × (t : Ty) × t.den)
  | .of _ => none
  | .br .. => none
  | .sum .. => none
  | .pan (t := t) T m _ g => m.bind fun x => match x with
    | .inl _ => none
    | .inr p => some (T, g, ⟨t, p⟩)
def Rs.k {X : Type} : Rs → (St → Option X) → (Nat → St → (t : Ty) → t.den → Option X) → Option X
  | .of r, k, _ => r.k k
  | .br b u v, k, _ => cond b (k u) (k v)
  | .sum m f g, k, _ => m.bind fun x => Sum.casesOn (motive := fun _ => Option X) x (fun a => k (f a)) (fun b => k (g b))
  | .pan (t := t) T m f g, k, kp => m.bind fun x => Sum.casesOn (motive := fun _ => Option X) x (fun a => k (f a)) (fun p => kp T g t p)
theorem Rs.k_some {X : Type} (r : Rs) {k : St → Option X} {kp : Nat → St → (t : Ty) → t.den → Option X} {x : X} (h : r.k k kp = some x) :
    (∃ v, r.run = some v ∧ k v = some x) ∨ ∃ T g t p, r.fall = some (T, g, ⟨t, p⟩) ∧ kp T g t p = some x := by
  cases r with
  | of r =>
    simp only [Rs.k, Res.k_eq, Option.bind_eq_some_iff] at h
    exact .inl h
  | br b u v => cases b <;> exact .inl ⟨_, rfl, h⟩
  | sum m f g =>
    cases m with
    | none => cases h
    | some y => cases y <;> exact .inl ⟨_, rfl, h⟩
  | pan T m f g =>
    cases m with
    | none => cases h
    | some y => cases y with
      | inl a => exact .inl ⟨f a, rfl, h⟩
      | inr p => exact .inr ⟨T, g, _, p, rfl, h⟩

/-- What the evaluator is told of the program. -/
structure Ctx where
  tab : TypeId → Option Ty
  glob : Glob
  /-- structs that are compared -/
  eqt : TypeId → Option Ty
  /-- strings.Builder -/
  bld : TypeId → Bool := fun _ => false
  /-- structs of one strings.Builder -/
  bw : TypeId → Bool := fun _ => false
  /-- structs of parts of one cell, some of them pointers; slices of such; pointers -/
  pst : TypeId → Option Nat := fun _ => none
  fa : TypeId → Option Nat := fun _ => none
  psl : TypeId → Option Nat := fun _ => none
  pp : TypeId → Bool := fun _ => false
  fn : Nat → C → List C → Option CRes

/-- Hints at an operation: objects that are read, that are written (or handed over), that are new; slots whose own rows become data (with their objects); slots whose own rows are lent. -/
structure OH where
  rd : List Nat := []
  wr : List Nat := []
  new : List Nat := []
  fz : List (Nat × Nat) := []
  lend : List (Nat × Nat) := []
  agg : Bool := false
  /-- a call that may end in a panic -/
  pan : Bool := false

def constC : Value → Option C
  | .int k n => some (.val (.int k) n)
  | .bool b => some (.val .bool b)
  | .string s => some (.val .str s.data.toList)
  | .slice none 0 0 => some .nil
  | .nilIface => some (.val .err false)
  | _ => some .dead

/-- A content as data. -/
def asVal (t : Ty) : C → Option t.den
  | .val t' x => if h : t' = t then some (h ▸ x) else none
  | .nil => match t with
    | .sl _ => some []
    | _ => none
  | _ => none

def listC : List C → C
  | [] => .unit
  | c :: r => .cons c (listC r)

def nthC : C → Nat → Option C
  | .cons a _, 0 => some a
  | .cons _ b, n + 1 => nthC b n
  | _, _ => none

def appX : C → C → C
  | .cons a b, d => .cons a (appX b d)
  | _, d => d
def appC : C → C → Option C
  | .cons a b, d => (appC b d).map (.cons a)
  | .unit, d => some d
  | _, _ => none

/-- The parts of a variable of a type. -/
def leaves : (t : Ty) → t.den → C
  | .unit, _ => .unit
  | .pair a b, x => appX (leaves a x.1) (leaves b x.2)
  | .mu a, x => appX (leaves a x.data) (.cons (.val (.sl (.mu a)) x.kids) .unit)
  | t, x => .cons (.val t x) .unit

/-- The parts of a variable that nothing was written to. -/
def zleaves : Ty → C
  | .unit => .unit
  | .pair a b => appX (zleaves a) (zleaves b)
  | .mu a => appX (zleaves a) (.cons .nil .unit)
  | .sl _ => .cons .nil .unit
  | t => .cons (.val t t.zero) .unit

def C.cells : C → Nat
  | .val t _ => t.size
  | _ => 1

def C.lone : C → Bool
  | .cons .. | .unit | .vec .. | .rcd _ | .agg _ => false
  | _ => true

def C.aggV : C → Bool
  | .val t _ => t.agg
  | _ => false

def dropX : C → Nat → Option C
  | c, 0 => some c
  | .cons a b, n + 1 => if a.lone = true ∧ a.cells ≤ n + 1 ∧ 0 < a.cells then dropX b (n + 1 - a.cells) else none
  | _, _ => none

/-- The parts of a struct's literal: what is given, and zeros; a row that isn't given is nil. -/
def zfill : Ty → Nat → List (Nat × C) → Option C
  | .unit, _, [] => some .unit
  | .pair a b, i, [] => (zfill b (i + 1) []).map (appX (zleaves a))
  | .pair a b, i, (j, c) :: r => if j = i then match asVal a c with
      | some x => if a.agg = true then none else (zfill b (i + 1) r).map (.cons (.val a x))
      | none => none
    else (zfill b (i + 1) ((j, c) :: r)).map (appX (zleaves a))
  | _, _, _ => none
/-- Parts that are data of one cell, or nil rows; and how many. -/
def C.nilP : C → Bool
  | .cons (.val t _) b => !t.agg && b.nilP
  | .cons .nil b => b.nilP
  | .unit => true
  | _ => false
def C.len : C → Nat
  | .cons _ b => b.len + 1
  | _ => 0
/-- A row among parts becomes data. -/
def frz1 (o : Nat) (t : Ty) (xs : List t.den) : C → C
  | .own o' => if o' = o then .val (.sl t) xs else .own o'
  | c => c
def frzX (o : Nat) (t : Ty) (xs : List t.den) : C → C
  | .cons a b => .cons (frz1 o t xs a) (frzX o t xs b)
  | c => c

/-- Reads a type's value out of parts. -/
def gather : (t : Ty) → C → Option (t.den × C)
  | .unit, c => some ((), c)
  | .pair a b, c => match gather a c with
    | some (x, c') => match gather b c' with
      | some (y, c'') => some ((x, y), c'')
      | none => none
    | none => none
  | .mu a, c => match gather a c with
    | some (x, .cons k b) => (asVal (.sl (.mu a)) k).map fun y => (.node x y, b)
    | _ => none
  | t, .cons a b => (asVal t a).map fun x => (x, b)
  | _, _ => none

/-- Writes contents over parts. -/
def putX : C → Nat → C → Option C
  | x, 0, .unit => some x
  | .cons a b, 0, .cons p q => if p.lone = true ∧ a.lone = true ∧ p.cells = a.cells then (putX b 0 q).map (.cons p) else none
  | .cons a b, n + 1, p => if a.lone = true ∧ a.cells ≤ n + 1 ∧ 0 < a.cells then (putX b (n + 1 - a.cells) p).map (.cons a) else none
  | _, _, _ => none

/-- A part of a value, and a value with a part written. -/
def getP : (t : Ty) → List Nat → t.den → Option C
  | t, [], x => some (.val t x)
  | .pair a _, 0 :: p, x => getP a p x.1
  | .pair _ b, (n + 1) :: p, x => getP b (n :: p) x.2
  | .mu a, n :: p, x => if n = a.nf then (if p = [] then some (.val (.sl (.mu a)) x.kids) else none) else getP a (n :: p) x.data
  | _, _, _ => none
def setP : (t : Ty) → List Nat → t.den → C → Option t.den
  | t, [], _, c => asVal t c
  | .pair a _, 0 :: p, x, c => (setP a p x.1 c).map fun y => (y, x.2)
  | .pair _ b, (n + 1) :: p, x, c => (setP b (n :: p) x.2 c).map fun y => (x.1, y)
  | .mu a, n :: p, x, c => if n = a.nf then (if p = [] then (asVal (.sl (.mu a)) c).map fun y => .node x.data y else none) else (setP a (n :: p) x.data c).map fun y => .node y x.kids
  | _, _, _, _ => none

/-- Field f of a struct's type: how many cells stand before it, and its type. -/
def Ty.fld : Ty → Nat → Option (Nat × Ty)
  | .pair a _, 0 => some (0, a)
  | .pair a b, n + 1 => (b.fld n).map fun p => (a.size + p.1, p.2)
  | .mu a, n => if n = a.nf then some (a.size, .sl (.mu a)) else a.fld n
  | _, _ => none

def binR (tb tt : Option Ty) (op : BinOp) (x y : C) (out : C → St) : Option Res :=
  match x, y with
  | .val (.int k) a, .val (.int k') b =>
    match op with
    | .shl => some (.bind (shc b) fun n => out (.val (.int k) (shl k a n)))
    | .shr => some (.bind (shc b) fun n => out (.val (.int k) (shr k a n)))
    | op => if k = k' then match op with
      | .add => some (.ok (out (.val (.int k) (k.wrap (a + b)))))
      | .sub => some (.ok (out (.val (.int k) (k.wrap (a - b)))))
      | .mul => some (.ok (out (.val (.int k) (k.wrap (a * b)))))
      | .quo => some (.bind (quo k a b) fun c => out (.val (.int k) c))
      | .rem => some (.bind (rem a b) fun c => out (.val (.int k) c))
      | .and => some (.ok (out (.val (.int k) (band k a b))))
      | .or => some (.ok (out (.val (.int k) (bor k a b))))
      | .xor => some (.ok (out (.val (.int k) (bxor k a b))))
      | .andNot => some (.ok (out (.val (.int k) (bandn k a b))))
      | .eql => some (.ok (out (.val .bool (decide (a = b)))))
      | .neq => some (.ok (out (.val .bool (!decide (a = b)))))
      | .lss => some (.ok (out (.val .bool (decide (a < b)))))
      | .leq => some (.ok (out (.val .bool (decide (a ≤ b)))))
      | .gtr => some (.ok (out (.val .bool (decide (b < a)))))
      | .geq => some (.ok (out (.val .bool (decide (b ≤ a)))))
      | _ => none
      else none
  | .val .str a, .val .str b =>
    match op with
    | .add => some (.bind (cat a b) fun c => out (.val .str c))
    | .eql => some (.ok (out (.val .bool (decide (a = b)))))
    | .neq => some (.ok (out (.val .bool (!decide (a = b)))))
    | .lss => some (.ok (out (.val .bool (Op.bytesLess a b))))
    | .geq => some (.ok (out (.val .bool (!Op.bytesLess a b))))
    | .gtr => some (.ok (out (.val .bool (Op.bytesLess b a))))
    | .leq => some (.ok (out (.val .bool (!Op.bytesLess b a))))
    | _ => none
  | .val .bool a, .val .bool b =>
    if tb = some .bool then match op with
    | .eql => some (.ok (out (.val .bool (a == b))))
    | .neq => some (.ok (out (.val .bool (!(a == b)))))
    | _ => none
    else none
  | .val (.pair t u) a, .val (.pair t' u') b =>
    if h : Ty.pair t' u' = Ty.pair t u then
      if (Ty.pair t u).flat ∧ tt = some (Ty.pair t u) then
        match op with
        | .eql => some (.ok (out (.val .bool ((Ty.pair t u).beq a (h ▸ b)))))
        | .neq => some (.ok (out (.val .bool (!(Ty.pair t u).beq a (h ▸ b)))))
        | _ => none
      else none
    else none
  | _, _ => none

/-- Is an operand the literal nil? -/
def isNilC : Operand → Bool
  | .const .nilIface => true
  | _ => false
/-- Is an operand the nil slice? -/
def isNilS : Operand → Bool
  | .const (.slice none 0 0) => true
  | _ => false
/-- A row held against nil: one that is not empty is not nil. -/
def nilR (op : BinOp) (q : Bool) (out : C → St) : Option Res :=
  match op with
  | .eql => some (.ok (out (.may true q)))
  | .neq => some (.ok (out (.may false q)))
  | _ => none
def errR (op : BinOp) (a b : Bool) (out : C → St) : Option Res :=
  match op with
  | .eql => some (.ok (out (.val .bool (a == b))))
  | .neq => some (.ok (out (.val .bool (!(a == b)))))
  | _ => none

def unR (op : UnOp) (x : C) (out : C → St) : Option Res :=
  match op, x with
  | .neg, .val (.int k) a => some (.ok (out (.val (.int k) (k.wrap (0 - a)))))
  | .xor, .val (.int k) a => some (.ok (out (.val (.int k) (bxor k (if k.signed then -1 else k.max) a))))
  | .not, .val .bool b => some (.ok (out (.val .bool (!b))))
  | _, _ => none

/-- The content of an operand. -/
def opnd (Γ : Ctx) (g : Nat → Option C) : Operand → Option C
  | .tmp t => if t < 100000 then g t else none
  | .const v => constC v
  | .global i => match Γ.glob i with
    | some ⟨t, some x⟩ => some (.fptr t x)
    | _ => none
  | .func f => some (.fn f .unit)

def opnds (Γ : Ctx) (g : Nat → Option C) : List Operand → Option C
  | [] => some .unit
  | x :: r => match opnd Γ g x, opnds Γ g r with
    | some c, some d => some (.cons c d)
    | _, _ => none

def asInt64 : C → Option Int
  | .val (.int _) n => some n
  | _ => none

/-- The low and the high end of a slice expression. -/
def ends (Γ : Ctx) (g : Nat → Option C) (lo hi : Option Operand) (n : Nat) : Option (Int × Int) :=
  match lo, hi with
  | none, none => some (0, n)
  | some l, none => ((opnd Γ g l).bind asInt64).map fun i => (i, n)
  | none, some h => ((opnd Γ g h).bind asInt64).map fun k => (0, k)
  | some l, some h => match (opnd Γ g l).bind asInt64, (opnd Γ g h).bind asInt64 with
    | some i, some k => some (i, k)
    | _, _ => none

/-- Parts of a struct's literal. -/
def buildP (t : Ty) : t.den → List (Nat × C) → Option t.den
  | x, [] => some x
  | x, (i, c) :: r => match setP t [i] x c with
    | some y => buildP t y r
    | none => none

/-- The elements of a slice's literal, each given once and in order. -/
def buildE (e : Ty) : Nat → List (Nat × C) → Option (List e.den)
  | _, [] => some []
  | n, (i, c) :: r => if i = n then match asVal e c, buildE e (n + 1) r with
      | some x, some y => some (x :: y)
      | _, _ => none
    else none

def partsC (Γ : Ctx) (g : Nat → Option C) : List (Nat × Operand) → Option (List (Nat × C))
  | [] => some []
  | (i, x) :: r => match opnd Γ g x, partsC Γ g r with
    | some c, some d => some ((i, c) :: d)
    | _, _ => none

def C.ren (ρ : Nat → Nat) : C → C
  | .own o => .own (ρ o)
  | .ptr o off => .ptr (ρ o) off
  | .eptr o off t i p => .eptr (ρ o) off t i p
  | .aptr o off n t i p => .aptr (ρ o) off n t i p
  | .adr o T => .adr (ρ o) T
  | .brow o => .brow (ρ o)
  | .cons a b => .cons (a.ren ρ) (b.ren ρ)
  | .fn f c => .fn f (c.ren ρ)
  | .tup c => .tup (c.ren ρ)
  | .agg c => .agg (c.ren ρ)
  | .rsl o n k => .rsl (ρ o) n k
  | .rcd c => .rcd (c.ren ρ)
  | c => c


def Out1 (dst : Option Nat) (c : C) : St := match dst with
  | some d => [(d, c)]
  | none => []

def loadR (Γ : Ctx) (T : TypeId) (p : C) (g : Nat → Option C) (dst : Option Nat) : Option Res :=
  match p, Γ.tab T with
  | .ptr ob off, some t => match g (okey ob) with
    | some (.vec (some n) e xs) => if off = 0 ∧ t = .arr n e then some (.ok (Out1 dst (.val (.arr n e) xs))) else none
    | some (.rcd x) => match dropX x off with
      | some r => if t.agg then (gather t r).map fun v => .ok (Out1 dst (.val t v.1)) else match r with
        | .cons a _ => if a.lone = true ∧ a.cells = 1 ∧ a.aggV = false then some (.ok (Out1 dst a)) else none
        | _ => none
      | none => none
    | _ => none
  | .eptr ob 0 e i path, some t => match g (okey ob) with
    | some (.vec _ e' xs) => if h : e' = e then match getP e path ((h ▸ xs : List e.den).getD i.toNat e.zero) with
        | some (.val t' y) => if t' = t then some (.ok (Out1 dst (.val t' y))) else none
        | _ => none
      else none
    | _ => none
  | .aptr ob off n e i path, some t => match g (okey ob) with
    | some (.rcd x) => match dropX x off with
      | some (.cons (.val (.arr n' e') xs) _) => if h : e' = e then if n' = n then match getP e path ((h ▸ xs : List e.den).getD i.toNat e.zero) with
          | some (.val t' y) => if t' = t then some (.ok (Out1 dst (.val t' y))) else none
          | _ => none
        else none else none
      | _ => none
    | _ => none
  | .fptr t' x, some t => if t' = t then some (.ok (Out1 dst (.val t' x))) else none
  | _, _ => none

/-- Is a content an address that is not nil? -/
def C.addr : C → Bool
  | .ptr .. | .eptr .. | .aptr .. | .fptr .. => true
  | _ => false

/-- Is a content's value known? -/
def liveC (g : Nat → Option C) : C → Bool
  | .val .. | .fptr .. | .nil | .fn .. => true
  | .own o | .brow o => match g (okey o) with
    | some (.vec ..) => true
    | _ => false
  | .ptr o _ => match g (okey o) with
    | some c => c.isObj
    | _ => false
  | .eptr o _ t _ _ => match g (okey o) with
    | some (.vec _ t' _) => decide (t' = t)
    | _ => false
  | .aptr o .. => match g (okey o) with
    | some (.rcd _) => true
    | _ => false
  | _ => false

def storeR (Γ : Ctx) (T : TypeId) (p v : C) (g : Nat → Option C) : Option Res :=
  match p, Γ.tab T with
  | .ptr ob off, some t => match g (okey ob) with
    | some (.vec (some n) e _) => if off = 0 ∧ t = .arr n e then (asVal (.arr n e) v).map fun xs => .ok [(okey ob, .vec (some n) e xs)] else none
    | some (.rcd x) => if t.agg then match asVal t v with
        | some y => (putX x off (leaves t y)).bind fun x' => if x'.bty = none ∨ x'.bty = x.bty then some (.ok [(okey ob, .rcd x')]) else none
        | none => match v with
          | .agg c => if c.nilP = true ∧ c.len = t.size then (putX x off c).bind fun x' => if x'.bty = none ∨ x'.bty = x.bty then some (.ok [(okey ob, .rcd x')]) else none else none
          | _ => none
      else if v.lone = true ∧ v.cells = 1 ∧ v.aggV = false ∧ liveC g v = true then (putX x off (.cons v .unit)).bind fun x' => if x'.bty = none ∨ x'.bty = x.bty then some (.ok [(okey ob, .rcd x')]) else none else none
    | _ => none
  | .eptr ob 0 e i path, some t => match g (okey ob), e.at path with
    | some (.vec n e' xs), some (_, u) => if h : e' = e then if u = t then match setP e path ((h ▸ xs : List e.den).getD i.toNat e.zero) v with
        | some y => some (.ok [(okey ob, .vec n e ((h ▸ xs : List e.den).set i.toNat y))])
        | none => none
      else none else none
    | _, _ => none
  | .aptr ob off n e i path, some t => match g (okey ob), e.at path with
    | some (.rcd x), some (_, u) => match dropX x off with
      | some (.cons (.val (.arr n' e') xs) _) => if h : e' = e then if n' = n ∧ u = t then match setP e path ((h ▸ xs : List e.den).getD i.toNat e.zero) v with
          | some y => (putX x off (.cons (.val (.arr n e) ((h ▸ xs : List e.den).set i.toNat y)) .unit)).bind fun x' => if x'.bty = none ∨ x'.bty = x.bty then some (.ok [(okey ob, .rcd x')]) else none
          | none => none
        else none else none
      | _ => none
    | _, _ => none
  | _, _ => none

def allocR (h : OH) (t : Ty) (x : t.den) (dst : Option Nat) : Option Res :=
  match h.new with
  | [o] => match t, x with
    | .arr n e, xs => some (.ok ((okey o, .vec (some n) e xs) :: Out1 dst (.ptr o 0)))
    | t, x => some (.ok ((okey o, .rcd (leaves t x)) :: Out1 dst (.ptr o 0)))
  | _ => none

/-- A new builder: its own address (or none), and its row. -/
def bldR (h : OH) (T : TypeId) (dst : Option Nat) : Option Res :=
  match h.new with
  | [n, m] => some (.ok ((okey m, .vec none (.int .u8) []) :: (okey n, .rcd (.cons (.adr n T) (.cons (.brow m) .unit))) :: Out1 dst (.ptr n 0)))
  | _ => none
/-- The value of a builder that nothing was written to, and its store. -/
def zbC : C := .agg (.cons (.may true true) (.cons (.may false false) .unit))
def zstoreR (h : OH) (T : TypeId) (p v : C) (g : Nat → Option C) : Option Res :=
  match p, v, h.wr, h.new with
  | .ptr ob 0, .agg (.cons (.may true true) (.cons (.may false false) .unit)), [ob', m], [m2] => match g (okey ob), g (okey m) with
    | some (.rcd (.cons (.adr ob2 T') (.cons (.brow m') .unit))), some (.vec none (.int .u8) []) =>
      if ob' = ob ∧ ob2 = ob ∧ m' = m ∧ T' = T ∧ m ≠ ob then some (.ok [(okey m, .dead), (okey m2, .vec none (.int .u8) []), (okey ob, .rcd (.cons (.adr ob T) (.cons (.brow m2) .unit)))]) else none
    | _, _ => none
  | _, _, _, _ => none
def bldAddrR (x : C) (f : Nat) (g : Nat → Option C) (dst : Option Nat) : Option Res :=
  match x with
  | .ptr ob off => match g (okey ob) with
    | some (.rcd _) => if f < 2 then some (.ok (Out1 dst (.ptr ob (off + f)))) else none
    | _ => none
  | _ => none

def indexAddrR (Γ : Ctx) (T : TypeId) (x i : C) (g : Nat → Option C) (dst : Option Nat) : Option Res :=
  match Γ.tab T, x, asInt64 i with
  | some (.sl e), .val (.sl e') xs, some i => if e' = e then some (.bind (idx xs i) fun y => Out1 dst (.fptr e' y)) else none
  | some (.sl e), .own ob, some i => match g (okey ob) with
    | some (.vec _ e' xs) => if e' = e then some (.bind (chk (inb i xs.length)) fun _ => Out1 dst (.eptr ob 0 e' i [])) else none
    | _ => none
  | some (.arr n e), .ptr ob off, some i => match g (okey ob) with
    | some (.vec (some n') e' _) => if off = 0 ∧ e' = e ∧ n' = n then some (.bind (chk (inb i n)) fun _ => Out1 dst (.eptr ob 0 e' i [])) else none
    | some (.rcd x) => match dropX x off with
      | some (.cons (.val (.arr n' e') _) _) => if e' = e ∧ n' = n then some (.bind (chk (inb i n)) fun _ => Out1 dst (.aptr ob off n e i [])) else none
      | _ => none
    | _ => none
  | some (.arr n e), .fptr (.arr n' e') xs, some i => if e' = e ∧ n' = n then some (.bind (idx xs i) fun y => Out1 dst (.fptr e' y)) else none
  | _, _, _ => none

def indexR (Γ : Ctx) (T : TypeId) (x i : C) (dst : Option Nat) : Option Res :=
  match Γ.tab T, x, asInt64 i with
  | some .str, .val .str s, some i => some (.bind (idx s i) fun c => Out1 dst (.val (.int .u8) (ofByte c)))
  | some (.arr n e), .val (.arr n' e') xs, some i => if e' = e ∧ n' = n then some (.bind (idx xs i) fun y => Out1 dst (.val e' y)) else none
  | _, _, _ => none

def fieldAddrR (Γ : Ctx) (T : TypeId) (x : C) (f : Nat) (g : Nat → Option C) (dst : Option Nat) : Option Res :=
  match (Γ.tab T).bind fun t => (t.fld f).map fun p => (t, p), x with
  | some (_, d, u), .ptr ob off => match g (okey ob) with
    | some (.rcd _) => if 0 < u.size then some (.ok (Out1 dst (.ptr ob (off + d)))) else none
    | _ => none
  | some (t, _, u), .eptr ob off e i path => match g (okey ob), e.at path, e.at (path ++ [f]) with
    | some (.vec _ e' _), some (_, t'), some (_, u') => if e' = e ∧ t' = t ∧ u' = u ∧ 0 < u.size then some (.ok (Out1 dst (.eptr ob off e i (path ++ [f])))) else none
    | _, _, _ => none
  | some (t, _, u), .aptr ob off n e i path => match g (okey ob), e.at path, e.at (path ++ [f]) with
    | some (.rcd _), some (_, t'), some (_, u') => if t' = t ∧ u' = u ∧ 0 < u.size then some (.ok (Out1 dst (.aptr ob off n e i (path ++ [f])))) else none
    | _, _, _ => none
  | some (t, _, u), .fptr t' y => if t' = t ∧ 0 < u.size then match getP t' [f] y with
      | some (.val u' z) => if u' = u then some (.ok (Out1 dst (.fptr u' z))) else none
      | _ => none
    else none
  | _, _ => none

def fieldR (Γ : Ctx) (T : TypeId) (x : C) (f : Nat) (dst : Option Nat) : Option Res :=
  match Γ.tab T, x with
  | some t, .val t' y => if t' = t then match getP t' [f] y with
      | some (.val u z) => some (.ok (Out1 dst (.val u z)))
      | _ => none
    else none
  | _, _ => none

def sliceR (Γ : Ctx) (h : OH) (T : TypeId) (x : C) (e : Option (Nat → Option (Int × Int))) (g : Nat → Option C) (dst : Option Nat) : Option Res :=
  match Γ.tab T, x, e with
  | some .str, .val .str s, some e => (e s.length).map fun p => .bind (cut s p.1 p.2) fun r => Out1 dst (.val .str r)
  | some (.sl u), .val (.sl u') xs, some e => if u' = u then (e xs.length).map fun p => .bind (cut xs p.1 p.2) fun r => Out1 dst (.val (.sl u') r) else none
  | some (.sl u), .own ob, some e => match g (okey ob), h.new with
    | some (.vec none u' xs), [o] => if u' = u ∧ h.wr = [ob] then (e xs.length).map fun p => .bind (cut xs p.1 p.2) fun r =>
        (okey ob, .dead) :: (okey o, .vec none u' r) :: Out1 dst (.own o) else none
    | _, _ => none
  | some (.arr m u), .ptr ob off, some e => match g (okey ob), h.new with
    | some (.vec (some m') u' xs), [o] => if off = 0 ∧ u' = u ∧ m' = m ∧ 0 < m ∧ u ≠ .int .u8 ∧ h.wr = [ob] then (e m).map fun p => .bind (cut xs p.1 p.2) fun r =>
        (okey ob, .dead) :: (okey o, .vec none u' r) :: Out1 dst (.own o) else none
    | _, _ => none
  | _, _, _ => none

/-- A slice of no elements and no room. -/
def slice0R (Γ : Ctx) (T : TypeId) (x : C) (g : Nat → Option C) (dst : Option Nat) : Option Res :=
  match Γ.tab T, x with
  | some (.sl _), .val (.sl _) _ => some (.ok (Out1 dst .nil))
  | some (.sl _), .nil => some (.ok (Out1 dst .nil))
  | some (.sl _), .own ob => match g (okey ob) with
    | some (.vec none _ _) => some (.ok (Out1 dst .nil))
    | _ => none
  | _, _ => none

/-- A character as a text. -/
def runeStr (n : Int) : Str := (Utf8.encode n).data.toList
def convertR (Γ : Ctx) (h : OH) (S T : TypeId) (x : C) (g : Nat → Option C) (dst : Option Nat) : Option Res :=
  match Γ.tab S, Γ.tab T, x with
  | some (.int _), some (.int k), .val (.int _) n => some (.ok (Out1 dst (.val (.int k) (k.wrap n))))
  | some .str, some .str, .val .str s => some (.ok (Out1 dst (.val .str s)))
  | some (.sl (.int .u8)), some .str, .val (.sl (.int .u8)) xs => some (.ok (Out1 dst (.val .str (bytesStr xs))))
  | some (.sl (.int .u8)), some .str, .nil => some (.ok (Out1 dst (.val .str [])))
  | some (.sl (.int .u8)), some .str, .own ob => match g (okey ob) with
    | some (.vec _ (.int .u8) xs) => some (.ok (Out1 dst (.val .str (bytesStr xs))))
    | _ => none
  | some .str, some (.sl (.int .u8)), .val .str s => match h.new with
    | [o] => some (.bind (chk (decide (s.length ≤ lim))) fun _ => (okey o, .vec none (.int .u8) (strBytes s)) :: Out1 dst (.own o))
    | _ => none
  | some (.int _), some .str, .val (.int _) n => some (.ok (Out1 dst (.val .str (runeStr n))))
  | _, _, _ => none

def makeSliceR (Γ : Ctx) (h : OH) (T : TypeId) (l c : C) (dst : Option Nat) : Option Res :=
  match Γ.tab T, l, c, h.new with
  | some (.sl e), .val (.int .i64) n, .val (.int .i64) m, [o] =>
    some (.bind (mk n m e.zero) fun xs => (okey o, .vec none e xs) :: Out1 dst (.own o))
  | _, _, _, _ => none

def lenR (Γ : Ctx) (T : TypeId) (x : C) (g : Nat → Option C) (dst : Option Nat) : Option Res :=
  let say (n : Nat) : Option Res := some (.ok (Out1 dst (.val (.int .i64) (n : Int))))
  match Γ.tab T, x with
  | some .str, .val .str s => say s.length
  | some (.sl _), .val (.sl _) xs => say xs.length
  | some (.sl _), .nil => say 0
  | some (.sl _), .own ob => match g (okey ob) with
    | some (.vec _ _ xs) => say xs.length
    | _ => none
  | some (.sl _), .brow ob => match g (okey ob) with
    | some (.vec _ _ xs) => say xs.length
    | _ => none
  | some (.arr n _), _ => say n
  | _, _ => none

/-- What is appended, or copied from. -/
def srcE (e : Ty) (x : C) (g : Nat → Option C) : Option (List e.den) :=
  match x with
  | .val (.sl e') ys => if h : e' = e then some (h ▸ ys) else none
  | .val .str s => match e with
    | .int .u8 => some (strBytes s)
    | _ => none
  | .nil => some []
  | .own ob => match g (okey ob) with
    | some (.vec _ e' ys) => if h : e' = e then some (h ▸ ys) else none
    | _ => none
  | _ => none

def appendR (Γ : Ctx) (h : OH) (T : TypeId) (x y : C) (g : Nat → Option C) (dst : Option Nat) : Option Res :=
  match Γ.tab T, x, h.new with
  | some (.sl e), .own ob, [o] => match g (okey ob) with
    | some (.vec none e' xs) => if e' = e ∧ h.wr = [ob] then (srcE e' y g).map fun ys => .bind (cat xs ys) fun zs =>
        (okey ob, .dead) :: (okey o, .vec none e' zs) :: Out1 dst (.own o) else none
    | _ => none
  | some (.sl e), .brow ob, [o] => match g (okey ob) with
    | some (.vec none e' xs) => if e' = e ∧ h.wr = [ob] then (srcE e' y g).map fun ys => .bind (cat xs ys) fun zs =>
        (okey ob, .dead) :: (okey o, .vec none e' zs) :: Out1 dst (.brow o) else none
    | _ => none
  | some (.sl e), .nil, [o] => (srcE e y g).map fun ys => .bind (cat [] ys) fun zs => (okey o, .vec none e zs) :: Out1 dst (.own o)
  | _, _, _ => none

def copyR (Γ : Ctx) (T : TypeId) (x y : C) (g : Nat → Option C) (dst : Option Nat) : Option Res :=
  match Γ.tab T, x with
  | some (.sl e), .own ob => match g (okey ob) with
    | some (.vec n e' xs) => if e' = e then (srcE e' y g).map fun ys =>
        .ok ((okey ob, .vec n e' (over xs ys)) :: Out1 dst (.val (.int .i64) (min ys.length xs.length : Nat))) else none
    | _ => none
  | _, _ => none

def mn (a b : Int) : Int := if b < a then b else a
def mx (a b : Int) : Int := if b > a then b else a
def mnmxR (f : Int → Int → Int) : IntKind → Int → C → Option Int
  | _, a, .unit => some a
  | k, a, .cons (.val (.int k') b) r => if k' = k then mnmxR f k (f a b) r else none
  | _, _, _ => none
def mnmx (f : Int → Int → Int) (args : C) (dst : Option Nat) : Option Res :=
  match args with
  | .cons (.val (.int k) a) r => (mnmxR f k a r).map fun m => .ok (Out1 dst (.val (.int k) m))
  | _ => none

def callR (Γ : Ctx) (h : OH) (f : Nat) (args : C) (g : Nat → Option C) (dst : Option Nat) : Option Res :=
  match h.wr.mapM fun o => g (okey o) with
  | none => none
  | some objs =>
    let back (o : Nat) : Nat := h.wr.idxOf o
    if args.refs.all (h.wr.contains ·) && objs.all (fun c => c.isObj && c.refs.all (h.wr.contains ·)) && decide (h.wr.Nodup) then
      match Γ.fn f (args.ren back) (objs.map (C.ren back)) with
      | none => none
      | some (.mk k m r) =>
        let fore (i : Nat) : Nat := (h.wr ++ h.new).getD i 0
        if k = h.new.length then some (.bind m fun x => (((r x).objs ++ (r x).news).zip (h.wr ++ h.new)).map (fun p => (okey p.2, p.1.ren fore)) ++ Out1 dst ((r x).res.ren fore)) else none
      | some (.mkP ..) => none
      | some (.mkS ..) => none
    else none
/-- A call that may end in a panic: what it was handed is dead then. -/
def callP (Γ : Ctx) (h : OH) (f : Nat) (args : C) (g : Nat → Option C) (dst : Option Nat) : Option Rs :=
  match h.wr.mapM fun o => g (okey o) with
  | none => none
  | some objs =>
    let back (o : Nat) : Nat := h.wr.idxOf o
    if args.refs.all (h.wr.contains ·) && objs.all (fun c => c.isObj && c.refs.all (h.wr.contains ·)) && decide (h.wr.Nodup) then
      match Γ.fn f (args.ren back) (objs.map (C.ren back)) with
      | some (.mkP k T m r) =>
        let fore (i : Nat) : Nat := (h.wr ++ h.new).getD i 0
        if k = h.new.length then some (.pan T m (fun x => (((r x).objs ++ (r x).news).zip (h.wr ++ h.new)).map (fun p => (okey p.2, p.1.ren fore)) ++ Out1 dst ((r x).res.ren fore)) (h.wr.map fun o => (okey o, .dead))) else none
      | some (.mkS k m r r') =>
        let fore (i : Nat) : Nat := (h.wr ++ h.new).getD i 0
        if k = h.new.length then some (.sum m (fun x => (((r x).objs ++ (r x).news).zip (h.wr ++ h.new)).map (fun p => (okey p.2, p.1.ren fore)) ++ Out1 dst ((r x).res.ren fore))
          (fun x => (((r' x).objs ++ (r' x).news).zip (h.wr ++ h.new)).map (fun p => (okey p.2, p.1.ren fore)) ++ Out1 dst ((r' x).res.ren fore))) else none
      | _ => none
    else none

/-! ### Structs that a call only looks at -/
/-- Types whose data name no memory. -/
def Ty.solid : Ty → Bool
  | .int _ | .bool | .str | .unit => true
  | .pair a b => a.solid && b.solid
  | _ => false
/-- Parts, with their rows as data. -/
def ownD (g : Nat → Option C) : C → C
  | .cons a b => .cons (match a with
    | .own i => match g (okey i) with
      | some (.vec none e xs) => .val (.sl e) xs
      | _ => .own i
    | a => a) (ownD g b)
  | c => c
/-- Arguments, structs of objects as data behind an address. -/
def lendArg (Γ : Ctx) (lend : List (Nat × Nat)) (g : Nat → Option C) : C → Option C
  | .cons (.ptr o 0) b => match lend.lookup o, g (okey o) with
    | some T, some (.rcd c) => match Γ.tab T with
      | some t => match gather t (ownD g c) with
        | some (x, .unit) => (lendArg Γ lend g b).map (.cons (.fptr t x))
        | _ => none
      | none => none
    | _, _ => none
  | .cons (.val t x) b => (lendArg Γ lend g b).map (.cons (.val t x))
  | .unit => some .unit
  | _ => none
def lentOut (e : Ty) (r : Out) : Option (List e.den) := match r.res, r.objs, r.news with
  | .own 0, [], [.vec none e' ys] => if h : e' = e then some (h ▸ ys) else none
  | _, _, _ => none
/-- A call that only looks at the structs that it is handed, and makes a row. -/
def callL (Γ : Ctx) (h : OH) (f : Nat) (T : TypeId) (args : C) (g : Nat → Option C) (dst : Option Nat) : Option Res :=
  match lendArg Γ h.lend g args, Γ.tab T, h.new with
  | some args', some (.sl e), [n] => if e.solid = true then match Γ.fn f args' [] with
    | some (.mk k m r) => if k = 1 then some (.bind (m.bind fun x => lentOut e (r x)) fun ys => (okey n, .vec none e ys) :: Out1 dst (.own n)) else none
    | _ => none
    else none
  | _, _, _ => none

def builtinR (Γ : Ctx) (h : OH) (b : Builtin) (ts : List TypeId) (args : C) (g : Nat → Option C) (dst : Option Nat) : Option Res :=
  match b, ts, args with
  | .len, T :: _, .cons x .unit => lenR Γ T x g dst
  | .append, T :: U :: _, .cons x (.cons y .unit) => match Γ.tab U with
    | some (.sl _) => appendR Γ h T x y g dst
    | some .str => appendR Γ h T x y g dst
    | _ => none
  | .copy, T :: _, .cons x (.cons y .unit) => copyR Γ T x y g dst
  | .min, _, args => mnmx mn args dst
  | .max, _, args => mnmx mx args dst
  | _, _, _ => none

def evOp0 (Γ : Ctx) (h : OH) (o : Oper) (g : Nat → Option C) : Option Res :=
  match o.op with
  | .move x | .assign x => (opnd Γ g x).map fun c => .ok (Out1 o.dst c)
  | .pick c a b => match opnd Γ g c, opnd Γ g a, opnd Γ g b with
    | some (.val .bool p), some .dead, some y => some (.bind (chk (!p)) fun _ => Out1 o.dst y)
    | some (.val .bool p), some x, some .dead => some (.bind (chk p) fun _ => Out1 o.dst x)
    | some (.val .bool p), some (.tup .unit), some y => some (.bind (chk (!p)) fun _ => Out1 o.dst y)
    | some (.val .bool p), some x, some (.tup .unit) => some (.bind (chk p) fun _ => Out1 o.dst x)
    | some (.val .bool p), some (.val t x), some (.val t' y) => if e : t' = t then some (.ok (Out1 o.dst (.val t (cond p x (e ▸ y))))) else none
    | _, _, _ => none
  | .alloc T => if Γ.bld T = true then bldR h T o.dst else (Γ.tab T).bind fun t => if 0 < t.size ∨ t = .unit then allocR h t t.zero o.dst else none
  | .box T x => match Γ.tab T, opnd Γ g x with
    | some _, some (.agg c) => match h.new with
      | [n] => if c.bty = none ∧ c.noMay = true then some (.ok ((okey n, .rcd c) :: Out1 o.dst (.ptr n 0))) else none
      | _ => none
    | some t, some c => if 0 < t.size then match asVal t c with
      | some y => allocR h t y o.dst
      | none => match h.new with
        | [n] => if c.lone = true ∧ c.cells = 1 ∧ c.aggV = false ∧ liveC g c = true then some (.ok ((okey n, .rcd (.cons c .unit)) :: Out1 o.dst (.ptr n 0))) else none
        | _ => none
      else none
    | _, _ => none
  | .build T ps => if Γ.bld T = true then (if ps.size = 0 then some (.ok (Out1 o.dst zbC)) else none) else match Γ.tab T, partsC Γ g ps.toList with
    | some (.arr n e), some ps => match buildE e 0 ps with
      | some xs => if xs.length = n then some (.ok (Out1 o.dst (.val (.arr n e) xs))) else if ps = [] then some (.ok (Out1 o.dst (.val (.arr n e) (Ty.arr n e).zero))) else none
      | none => none
    | some t, some ps => if t.isRec then (if h.agg = true ∧ ps = [] then some (.ok (Out1 o.dst (.agg (zleaves t)))) else if h.agg = true then (zfill t 0 ps).map fun c => .ok (Out1 o.dst (.agg c)) else (buildP t t.zero ps).map fun x => .ok (Out1 o.dst (.val t x))) else none
    | _, _ => none
  | .buildSlice T n ps => match Γ.tab T, partsC Γ g ps.toList with
    | some (.sl e), some ps => match buildE e 0 ps with
      | some xs => if xs.length = n ∧ n * e.size ≤ 16777216 then match h.new with
          | [] => some (.ok (Out1 o.dst (.val (.sl e) xs)))
          | [m] => some (.ok ((okey m, .vec none e xs) :: Out1 o.dst (.own m)))
          | _ => none
        else none
      | none => none
    | _, _ => none
  | .load T p => (opnd Γ g p).bind fun c => loadR Γ T c g o.dst
  | .store T p v => match opnd Γ g p, opnd Γ g v, o.dst with
    | some c, some d, none => if Γ.bld T = true then zstoreR h T c d g else storeR Γ T c d g
    | _, _, _ => none
  | .nilCheck x => (opnd Γ g x).bind fun c => if c.addr = true ∧ liveC g c = true then some (.ok (Out1 o.dst c)) else none
  | .binOp op T x y _ => match opnd Γ g x, opnd Γ g y with
    | some (.val .err a), some (.val .err b) => if Γ.tab T = some .err ∧ (isNilC x = true ∨ isNilC y = true) then errR op a b (Out1 o.dst) else none
    | some (.val (.sl e) xs), some .nil => if Γ.tab T = some (.sl e) ∧ isNilS y = true then nilR op (List.isEmpty xs) (Out1 o.dst) else none
    | some c, some d => binR (Γ.tab T) (Γ.eqt T) op c d (Out1 o.dst)
    | _, _ => none
  | .unOp op _ x => (opnd Γ g x).bind fun c => unR op c (Out1 o.dst)
  | .convert S T x => (opnd Γ g x).bind fun c => convertR Γ h S T c g o.dst
  | .makeSlice T l c => match opnd Γ g l, opnd Γ g c with
    | some l, some c => makeSliceR Γ h T l c o.dst
    | _, _ => none
  | .slice T x (some (.const (.int .i64 0))) (some (.const (.int .i64 0))) (some (.const (.int .i64 0))) => (opnd Γ g x).bind fun c => slice0R Γ T c g o.dst
  | .slice T x lo hi none => (opnd Γ g x).bind fun c => sliceR Γ h T c (some fun n => ends Γ g lo hi n) g o.dst
  | .fieldAddr T x f => (opnd Γ g x).bind fun c => if Γ.bld T = true then bldAddrR c f g o.dst else fieldAddrR Γ T c f g o.dst
  | .field T x f => (opnd Γ g x).bind fun c => fieldR Γ T c f o.dst
  | .indexAddr T x i => match opnd Γ g x, opnd Γ g i with
    | some c, some d => indexAddrR Γ T c d g o.dst
    | _, _ => none
  | .index T x i => match opnd Γ g x, opnd Γ g i with
    | some c, some d => indexR Γ T c d o.dst
    | _, _ => none
  | .extract x i => match opnd Γ g x with
    | some (.tup c) => (nthC c i).map fun d => .ok (Out1 o.dst d)
    | _ => none
  | .makeFunc (.func f) first caps => if first.size = 0 then (opnds Γ g caps.toList).map fun c => .ok (Out1 o.dst (.fn f c)) else none
  | .call { callee := .builtin b, args := xs, argTypes := ts } => (opnds Γ g xs.toList).bind fun c => builtinR Γ h b ts.toList c g o.dst
  | .call { callee := .value f, args := xs, .. } => match opnd Γ g f, opnds Γ g xs.toList with
    | some (.fn f caps), some c => (appC c caps).bind fun c => if h.lend = [] then callR Γ h f c g o.dst else callL Γ h f o.type c g o.dst
    | _, _ => none
  | _ => none

/-! ### Structs with pointers -/
def C.part : C → Bool
  | .ptr .. | .dead => true
  | .fn _ .unit => true
  | .val t _ => !t.agg
  | _ => false
def C.flatP : C → Bool
  | .cons a b => a.part && b.flatP
  | .unit => true
  | _ => false
def C.count : C → Nat
  | .cons _ b => b.count + 1
  | _ => 0
def liveP (g : Nat → Option C) : C → Bool
  | .cons a b => liveC g a && liveP g b
  | _ => true
def takeP : Nat → C → Option C
  | 0, _ => some .unit
  | n + 1, .cons a b => if a.part = true then (takeP n b).map (.cons a) else none
  | _, _ => none
/-- Parts in their order. -/
def seqP : Nat → List (Nat × C) → Option C
  | _, [] => some .unit
  | i, (j, c) :: r => if j = i ∧ c.part = true then (seqP (i + 1) r).map (.cons c) else none
/-- Structs in their order. -/
def seqA (k : Nat) : Nat → List (Nat × C) → Option C
  | _, [] => some .unit
  | i, (j, .agg c) :: r => if j = i ∧ c.flatP = true ∧ c.count = k then (seqA k (i + 1) r).map (appX c) else none
  | _, _ => none
def deadP : Nat → C
  | 0 => .unit
  | n + 1 => .cons .dead (deadP n)

def pLoadR (Γ : Ctx) (T : TypeId) (p : C) (g : Nat → Option C) (dst : Option Nat) : Option Res := match p with
  | .ptr ob off => match g (okey ob) with
    | some (.rcd x) => match dropX x off with
      | some r => match Γ.pst T with
        | some k => (takeP k r).map fun c => .ok (Out1 dst (.agg c))
        | none => if Γ.pp T = true then match r with
          | .cons a _ => if a.part = true then some (.ok (Out1 dst a)) else none
          | _ => none
          else none
      | none => none
    | _ => none
  | _ => none
def pStoreR (Γ : Ctx) (T : TypeId) (p v : C) (g : Nat → Option C) : Option Res := match p, v, Γ.pst T with
  | .ptr ob off, .agg c, some k => match g (okey ob) with
    | some (.rcd x) => if c.flatP = true ∧ c.count = k ∧ liveP g c = true then (putX x off c).bind fun x' => if x'.bty = none then some (.ok [(okey ob, .rcd x')]) else none else none
    | _ => none
  | _, _, _ => none
def pFieldR (Γ : Ctx) (T : TypeId) (x : C) (f : Nat) (g : Nat → Option C) (dst : Option Nat) : Option Res := match x, Γ.pst T with
  | .ptr ob off, some k => match g (okey ob) with
    | some (.rcd _) => if f < k then some (.ok (Out1 dst (.ptr ob (off + f)))) else none
    | _ => none
  | _, _ => none
def pIndexR (Γ : Ctx) (T : TypeId) (x i : C) (g : Nat → Option C) (dst : Option Nat) : Option Res := match x, asInt64 i, Γ.psl T with
  | .rsl ob n k, some i, some k' => if k' = k then match g (okey ob) with
    | some (.rcd _) => some (.bind (chk (inb i n)) fun _ => Out1 dst (.ptr ob (i.toNat * k)))
    | _ => none
    else none
  | _, _, _ => none
def pBuildR (Γ : Ctx) (T : TypeId) (qs : List (Nat × C)) (g : Nat → Option C) (dst : Option Nat) : Option Res := match Γ.pst T, seqP 0 qs with
  | some k, some c => if c.count = k ∧ liveP g c = true then some (.ok (Out1 dst (.agg c))) else none
  | _, _ => none
def faBuildR (Γ : Ctx) (T : TypeId) (qs : List (Nat × C)) (g : Nat → Option C) (dst : Option Nat) : Option Res := match Γ.fa T, seqP 0 qs with
  | some k, some c => if c.count = k ∧ liveP g c = true then some (.ok (Out1 dst (.agg c))) else none
  | _, _ => none
def faIndexR (Γ : Ctx) (T : TypeId) (x i : C) (dst : Option Nat) : Option Res := match x, asInt64 i, Γ.fa T with
  | .agg c, some i, some k => if 0 ≤ i ∧ c.flatP = true ∧ c.count = k then (nthC c i.toNat).map fun d => .ok (Out1 dst d) else none
  | _, _, _ => none
def pSliceR (Γ : Ctx) (h : OH) (T : TypeId) (n : Nat) (qs : List (Nat × C)) (dst : Option Nat) : Option Res := match Γ.psl T, h.new with
  | some k, [m] => match seqA k 0 qs with
    | some c => if qs.length = n ∧ 0 < n * k ∧ n * k ≤ 16777216 then some (.ok ((okey m, .rcd c) :: Out1 dst (.rsl m n k))) else none
    | none => none
  | _, _ => none
def pAllocR (Γ : Ctx) (h : OH) (T : TypeId) (dst : Option Nat) : Option Res := match Γ.pst T, h.new with
  | some k, [m] => some (.ok ((okey m, .rcd (deadP k)) :: Out1 dst (.ptr m 0)))
  | _, _ => none
def pLenR (Γ : Ctx) (T : TypeId) (x : C) (g : Nat → Option C) (dst : Option Nat) : Option Res := match x, Γ.psl T with
  | .rsl o n _, some _ => match g (okey o) with
    | some (.rcd _) => some (.ok (Out1 dst (.val (.int .i64) (n : Int))))
    | _ => none
  | _, _ => none

def pstOp (Γ : Ctx) (h : OH) (o : Oper) (g : Nat → Option C) : Option Res :=
  match o.op with
  | .build T ps => (partsC Γ g ps.toList).bind fun qs => match Γ.fa T with
    | some _ => faBuildR Γ T qs g o.dst
    | none => pBuildR Γ T qs g o.dst
  | .index T x i => match opnd Γ g x, opnd Γ g i with
    | some c, some d => faIndexR Γ T c d o.dst
    | _, _ => none
  | .buildSlice T n ps => (partsC Γ g ps.toList).bind fun qs => pSliceR Γ h T n qs o.dst
  | .load T p => (opnd Γ g p).bind fun c => pLoadR Γ T c g o.dst
  | .alloc T => pAllocR Γ h T o.dst
  | .store T p v => match opnd Γ g p, opnd Γ g v, o.dst with
    | some c, some d, none => pStoreR Γ T c d g
    | _, _, _ => none
  | .fieldAddr T x f => (opnd Γ g x).bind fun c => pFieldR Γ T c f g o.dst
  | .indexAddr T x i => match opnd Γ g x, opnd Γ g i with
    | some c, some d => pIndexR Γ T c d g o.dst
    | _, _ => none
  | .call { callee := .builtin .len, args := xs, argTypes := ts } => match (opnds Γ g xs.toList), ts.toList with
    | some (.cons x .unit), T :: _ => pLenR Γ T x g o.dst
    | _, _ => none
  | _ => none

def evOp1 (Γ : Ctx) (h : OH) (o : Oper) (g : Nat → Option C) : Option Res := match evOp0 Γ h o g with
  | some r => some r
  | none => pstOp Γ h o g
/-- A call that may end in a panic. -/
def panOp (Γ : Ctx) (h : OH) (o : Oper) (g : Nat → Option C) : Option Rs := match o.op with
  | .call { callee := .value f, args := xs, .. } => match opnd Γ g f, opnds Γ g xs.toList with
    | some (.fn f caps), some c => (appC c caps).bind fun c => callP Γ h f c g o.dst
    | _, _ => none
  | _ => none
/-- The rune that begins at a place of a text, and how long it is. -/
def runeAt (x : Str) (pos : Nat) : Nat × Nat := Utf8.decode ⟨x.toArray⟩ pos
def isAlloc : Op → Bool
  | .alloc _ => true
  | _ => false
/-- Ranges over texts; structs of one builder. -/
def rngOp (Γ : Ctx) (h : OH) (o : Oper) (g : Nat → Option C) : Option Rs := match o.op with
  | .range T x => match Γ.tab T, opnd Γ g x, h.new with
    | some .str, some (.val .str y), [n] => some (.of (.ok ((okey n, .iter y 0) :: Out1 o.dst (.ptr n 0))))
    | _, _, _ => none
  | .next p true => match opnd Γ g p with
    | some (.ptr ob 0) => match g (okey ob) with
      | some (.iter y pos) => some (.br (decide (pos < y.length))
          ((okey ob, .iter y (pos + (runeAt y pos).2)) :: Out1 o.dst (.tup (.cons (.val .bool true) (.cons (.val (.int .i64) (pos : Int)) (.cons (.val (.int .i32) ((runeAt y pos).1 : Int)) .unit)))))
          ((okey ob, .iter y pos) :: Out1 o.dst (.tup (.cons (.val .bool false) .unit))))
      | _ => none
    | _ => none
  | .build T ps => if Γ.bw T = true ∧ ps.size = 0 then some (.of (.ok (Out1 o.dst zbC))) else none
  | .box T x => if Γ.bw T = true then match opnd Γ g x with
    | some (.agg (.cons (.may true true) (.cons (.may false false) .unit))) => (bldR h T o.dst).map .of
    | _ => none
    else none
  | .fieldAddr T x f => if Γ.bw T = true ∧ f = 0 then (opnd Γ g x).bind fun c => (bldAddrR c 0 g o.dst).map .of else none
  | _ => none
/-- A variable to whose rows is appended. -/
def zallocR (Γ : Ctx) (h : OH) (T : TypeId) (dst : Option Nat) : Option Res := match Γ.tab T, h.new with
  | some t, [n] => if (zleaves t).bty = none ∧ (zleaves t).noMay = true then some (.ok ((okey n, .rcd (zleaves t)) :: Out1 dst (.ptr n 0))) else none
  | _, _ => none
def zallocOp (Γ : Ctx) (h : OH) (o : Oper) : Option Rs := match o.op with
  | .alloc T => (zallocR Γ h T o.dst).map .of
  | _ => none
def evOp2 (Γ : Ctx) (h : OH) (o : Oper) (g : Nat → Option C) : Option Rs := if h.pan = true then panOp Γ h o g else if h.agg = true ∧ isAlloc o.op = true then zallocOp Γ h o else match evOp1 Γ h o g with
  | some r => some (.of r)
  | none => rngOp Γ h o g

def patch (g : Nat → Option C) (u : St) : Nat → Option C := fun k => match u.get k with
  | some c => some c
  | none => g k

/-- Own rows that become data ahead of an operation: slot k, object o. -/
def frzK (g : Nat → Option C) : List (Nat × Nat) → Option St
  | [] => some []
  | (k, o) :: r => match frzK g r with
    | none => none
    | some u => match patch g u k, patch g u (okey o) with
      | some (.own o'), some (.vec _ t xs) => if o' = o ∧ k < 100000 then some ((k, .val (.sl t) xs) :: (okey o, .dead) :: u.filter fun p => decide (p.1 ≠ k) && decide (p.1 ≠ okey o)) else none
      | some (.rcd x), some (.vec _ t xs) => if 100000 ≤ k then some ((k, .rcd (frzX o t xs x)) :: (okey o, .dead) :: u.filter fun p => decide (p.1 ≠ k) && decide (p.1 ≠ okey o)) else none
      | _, _ => none

def tmpsOf (l : List Operand) : List Nat := l.filterMap fun | .tmp t => some t | _ => none
def OH.ins (h : OH) (o : Oper) : List Nat := tmpsOf o.op.operands.toList ++ (h.rd ++ h.wr ++ h.new).map okey ++ h.fz.map (okey ·.2) ++ h.lend.map (okey ·.2)
def OH.outs (h : OH) (o : Oper) : List Nat := o.dst.toList ++ (h.wr ++ h.new).map okey ++ h.fz.map (·.1) ++ h.fz.map (okey ·.2)

def restr (s : St) (ks : List Nat) : Nat → Option C := fun k => if ks.contains k then s.get k else none

/-- The operation, with all that is asked ahead of it. -/
def evOp (Γ : Ctx) (n : Nat) (h : OH) (o : Oper) (s : St) : Option (St × Rs) :=
  if o.dst.all (fun d => decide (d < n) && decide (d < 100000)) && h.new.all (fun m => (s.get (okey m)).isNone) && decide (h.new.Nodup) then
    let g := restr s (h.ins o)
    match frzK g h.fz with
    | none => none
    | some u => (evOp2 Γ h o (patch g u)).map fun r => (u, r)
  else none

def gslot (ops : Array Oper) (j : Nat) : Option Nat := (ops[j]?).bind (·.dst)

def keysIn (u : St) (ks : List Nat) : Bool := u.all fun p => ks.contains p.1

/-- What one operation of a region writes. -/
def evU (Γ : Ctx) (n : Nat) (ops : Array Oper) (hs : List OH) (i : Nat) (s : St) : Option St :=
  match ops[i]? with
  | none => none
  | some o =>
    let h := hs.getD i {}
    let go (_ : Unit) : Option St := match evOp Γ n h o s with
      | none => none
      | some (u, r) => r.run.bind fun v => if keysIn (u ++ v) (h.outs o) then some (u ++ v) else none
    match o.guard with
    | none => go ()
    | some (j, want) => match gslot ops j with
      | none => none
      | some d => if d < 100000 then match s.get d with
        | some (.val .bool b) => if b = want then go () else if o.dst.all (fun d => decide (d < n) && decide (d < 100000)) then some (Out1 o.dst (.tup .unit)) else none
        | some (.tup .unit) => if o.dst.all (fun d => decide (d < n) && decide (d < 100000)) then some (Out1 o.dst (.tup .unit)) else none
        | _ => none
        else none

def evStep (Γ : Ctx) (n : Nat) (ops : Array Oper) (hs : List OH) (i : Nat) (s : St) : Option St := (evU Γ n ops hs i s).map s.upd

def evSteps (Γ : Ctx) (n : Nat) (ops : Array Oper) (hs : List OH) : List Nat → St → Option St
  | [], s => some s
  | i :: r, s => (evStep Γ n ops hs i s).bind (evSteps Γ n ops hs r)

/-- What one operation of a region leaves that ends in a panic, and the panic's type and value. -/
def evP (Γ : Ctx) (n : Nat) (ops : Array Oper) (hs : List OH) (i : Nat) (s : St) : Option (Nat × St × (t : Ty) × t.den) :=
  match ops[i]? with
  | none => none
  | some o =>
    let h := hs.getD i {}
    let go (_ : Unit) : Option (Nat × St × (t : Ty) × t.den) := match evOp Γ n h o s with
      | none => none
      | some (u, r) => r.fall.bind fun v => if keysIn (u ++ v.2.1) (h.outs o) then some (v.1, u ++ v.2.1, v.2.2) else none
    match o.guard with
    | none => go ()
    | some (j, want) => match gslot ops j with
      | none => none
      | some d => if d < 100000 then match s.get d with
        | some (.val .bool b) => if b = want then go () else none
        | _ => none
        else none

/-- The operations of a region in the text's order, then k; kp behind a panic. -/
def evOpsK {X : Type} (Γ : Ctx) (n : Nat) (ops : Array Oper) (hs : List OH) (k : St → Option X) (kp : Nat → (t : Ty) → t.den → Option X) : List Nat → St → Option X
  | [], s => k s
  | i :: rest, s =>
    match ops[i]? with
    | none => none
    | some o =>
      let h := hs.getD i {}
      let go (s : St) : Option X := match evOp Γ n h o s with
        | none => none
        | some (u, r) => r.k (fun v => if keysIn (u ++ v) (h.outs o) then evOpsK Γ n ops hs k kp rest (s.upd (u ++ v)) else none)
            fun T v t p => if keysIn (u ++ v) (h.outs o) then kp T t p else none
      match o.guard with
      | none => go s
      | some (j, want) => match gslot ops j with
        | none => none
        | some d => if d < 100000 then match s.get d with
          | some (.val .bool b) =>
            let skip (s : St) : Option X := if o.dst.all (fun d => decide (d < n) && decide (d < 100000)) then evOpsK Γ n ops hs k kp rest (s.upd (Out1 o.dst (.tup .unit))) else none
            cond b (if want then go (s.set d (.val .bool true)) else skip (s.set d (.val .bool true)))
              (if want then skip (s.set d (.val .bool false)) else go (s.set d (.val .bool false)))
          | some (.tup .unit) => if o.dst.all (fun d => decide (d < n) && decide (d < 100000)) then evOpsK Γ n ops hs k kp rest (s.upd (Out1 o.dst (.tup .unit))) else none
          | _ => none
          else none

end Go.Fe
