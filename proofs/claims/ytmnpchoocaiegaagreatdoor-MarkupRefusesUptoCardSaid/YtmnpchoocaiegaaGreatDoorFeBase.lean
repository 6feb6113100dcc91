/- The plain side of memory: types, contents, and how they are read off the machine's cells. -/
import Derived.Orders
import Derived.KernelRfl
namespace Go.Fe
open Go

abbrev Str := List UInt8

/-- A value with values of its own kind behind it. -/
inductive Tree (α : Type) where
  | node (data : α) (kids : List (Tree α))
def Tree.data {α : Type} : Tree α → α
  | .node x _ => x
def Tree.kids {α : Type} : Tree α → List (Tree α)
  | .node _ k => k

/-- Types of data without state. mu a: a struct of the fields of a, and a row of such structs as its last field. -/
inductive Ty where
  | int (k : IntKind) | bool | str | err
  | sl (e : Ty) | arr (n : Nat) (e : Ty) | unit | pair (a b : Ty) | mu (a : Ty)
  deriving DecidableEq, Inhabited

@[reducible] def Ty.den : Ty → Type
  | .int _ => Int | .bool => Bool | .str => Str | .err => Bool
  | .sl e => List e.den | .arr _ e => List e.den
  | .unit => Unit | .pair a b => a.den × b.den | .mu a => Tree a.den

def Ty.size : Ty → Nat
  | .int _ | .bool | .str | .err | .sl _ => 1
  | .arr n e => n * e.size | .unit => 0 | .pair a b => a.size + b.size | .mu a => a.size + 1

def Ty.agg : Ty → Bool
  | .arr .. | .unit | .pair .. | .mu _ => true
  | _ => false

def Ty.zero : (t : Ty) → t.den
  | .int _ => (0 : Int) | .bool => false | .str => ([] : List UInt8) | .err => false
  | .sl _ => [] | .arr n e => List.replicate n e.zero
  | .unit => () | .pair a b => (a.zero, b.zero) | .mu a => .node a.zero []

/-- What a place among the slots, or an object, holds. -/
inductive C where
  | val (t : Ty) (x : t.den)
  | own (o : Nat)
  | ptr (o off : Nat)
  | eptr (o off : Nat) (t : Ty) (i : Int) (path : List Nat)
  | aptr (o off n : Nat) (t : Ty) (i : Int) (path : List Nat)
  | adr (o T : Nat)
  | brow (o : Nat)
  | may (p q : Bool)
  | fptr (t : Ty) (x : t.den)
  | fn (f : Nat) (caps : C)
  | tup (c : C)
  | agg (c : C)
  | rsl (o n k : Nat)
  | cons (a b : C)
  | unit
  | nil
  | dead
  | vec (n : Option Nat) (t : Ty) (xs : List t.den)
  | rcd (c : C)
  | iter (x : Str) (pos : Nat)

abbrev St := List (Nat × C)

def St.get (s : St) (k : Nat) : Option C :=
  match s with
  | [] => none
  | (j, c) :: r => if j = k then some c else St.get r k

def St.set (s : St) (k : Nat) (c : C) : St :=
  match s with
  | [] => [(k, c)]
  | (j, d) :: r => if j = k then (k, c) :: r else (j, d) :: St.set r k c

def St.upd (s : St) : St → St
  | [] => s
  | (k, c) :: r => St.upd (St.set s k c) r

theorem St.get_set (s : St) (k : Nat) (c : C) (j : Nat) : (s.set k c).get j = if k = j then some c else s.get j := by
  induction s with
  | nil => simp only [St.set, St.get]
  | cons p r ih =>
    obtain ⟨i, d⟩ := p
    simp only [St.set]
    by_cases h : i = k
    · subst h
      simp only [if_true, St.get]
      split <;> rfl
    · simp only [h, if_false, St.get, ih]
      by_cases hj : i = j
      · subst hj
        simp only [if_true]
        rw [if_neg (fun e => h e.symm)]
      · simp only [hj, if_false]

/-- Objects stand behind the slots. -/
def okey (o : Nat) : Nat := o + 100000

/-! ### How data are read -/
abbrev Froz := Nat → Option Obj

/-- An error's value: nil, or not. -/
def ErrV : Bool → Value → Prop
  | false, v => v = .nilIface
  | true, v => ∃ t u, v = .iface t u

/-- The cells of a value with values of its own kind behind it. -/
inductive RepM (F : Froz) {α : Type} (R : α → List Value → Prop) (n : Nat) : Tree α → List Value → Prop
  | leaf {x : α} {c1 : List Value} {a : Option Addr} {cap : Nat} : R x c1 → RepM F R n (.node x []) (c1 ++ [.slice a 0 cap])
  | node {x : α} {ks : List (Tree α)} {c1 : List Value} {cap b off : Nat} {c : Array Value} {T : TypeId} {fr : Nat × Nat} : R x c1 → ks.length ≤ cap → F b = some (.cells c T fr) →
      (∀ i (h : i < ks.length), RepM F R n ks[i] ((c.toList.drop (off + i * (n + 1))).take (n + 1))) → RepM F R n (.node x ks) (c1 ++ [.slice (some ⟨b, off, none⟩) ks.length cap])

def RepT (F : Froz) : (t : Ty) → t.den → List Value → Prop
  | .int k, x, cs => cs = [.int k x]
  | .bool, b, cs => cs = [.bool b]
  | .str, s, cs => cs = [.string ⟨s.toArray⟩]
  | .err, b, cs => ∃ v, cs = [v] ∧ ErrV b v
  | .sl e, xs, cs => ∃ a cap, cs = [.slice a xs.length cap] ∧ xs.length ≤ cap ∧
      (xs = [] ∨ ∃ b off c T fr, a = some ⟨b, off, none⟩ ∧ F b = some (.cells c T fr) ∧
        ∀ i (h : i < xs.length), RepT F e xs[i] ((c.toList.drop (off + i * e.size)).take e.size))
  | .arr n e, xs, cs => xs.length = n ∧ cs.length = n * e.size ∧ ∀ i (h : i < xs.length), RepT F e xs[i] ((cs.drop (i * e.size)).take e.size)
  | .unit, _, cs => cs = []
  | .pair a b, x, cs => ∃ c1 c2, cs = c1 ++ c2 ∧ RepT F a x.1 c1 ∧ RepT F b x.2 c2
  | .mu a, x, cs => RepM F (fun y c => RepT F a y c) a.size x cs

theorem RepT.mu {F : Froz} {a : Ty} {x : Tree a.den} {cs : List Value} : RepT F (.mu a) x cs ↔ ∃ c1 c2, cs = c1 ++ c2 ∧ RepT F a x.data c1 ∧ RepT F (.sl (.mu a)) x.kids c2 := by
  constructor
  · intro h
    rw [RepT] at h
    cases h with
    | leaf h => exact ⟨_, _, rfl, h, by simp only [RepT]; exact ⟨_, _, rfl, Nat.zero_le _, .inl rfl⟩⟩
    | node h hc hb hk =>
      refine ⟨_, _, rfl, h, ?_⟩
      simp only [RepT]
      exact ⟨_, _, rfl, hc, .inr ⟨_, _, _, _, _, rfl, hb, fun i hi => hk i hi⟩⟩
  · rintro ⟨c1, c2, rfl, h1, h2⟩
    obtain ⟨y, ks⟩ := x
    simp only [RepT] at h2 ⊢
    obtain ⟨a', cap, rfl, hc, h⟩ := h2
    rcases h with h | ⟨b, off, c, T, fr, rfl, hb, hk⟩
    · simp only [Tree.kids] at h
      subst h
      exact .leaf h1
    · exact .node h1 hc hb (fun i hi => hk i hi)

theorem RepT.length {F : Froz} : ∀ {t : Ty} {x : t.den} {cs : List Value}, RepT F t x cs → cs.length = t.size
  | .int _, _, _, h => by rw [RepT] at h; subst h; rfl
  | .bool, _, _, h => by rw [RepT] at h; subst h; rfl
  | .str, _, _, h => by rw [RepT] at h; subst h; rfl
  | .err, _, _, h => by rw [RepT] at h; obtain ⟨v, h, _⟩ := h; subst h; rfl
  | .sl _, _, _, h => by rw [RepT] at h; obtain ⟨a, cap, h, _⟩ := h; subst h; rfl
  | .arr _ _, _, _, h => by rw [RepT] at h; exact h.2.1
  | .unit, _, _, h => by rw [RepT] at h; subst h; rfl
  | .pair a b, x, _, h => by
    rw [RepT] at h
    obtain ⟨c1, c2, h, h1, h2⟩ := h
    subst h
    rw [List.length_append, RepT.length h1, RepT.length h2]; rfl
  | .mu a, x, cs, h => by
    rw [RepT.mu] at h
    obtain ⟨c1, c2, h, h1, h2⟩ := h
    subst h
    rw [RepT] at h2
    obtain ⟨_, _, h2, _⟩ := h2
    subst h2
    rw [List.length_append, RepT.length h1]; rfl

def Froz.le (F G : Froz) : Prop := ∀ b o, F b = some o → G b = some o
theorem Froz.le_refl (F : Froz) : F.le F := fun _ _ h => h
theorem Froz.le_trans {F G H : Froz} (h : F.le G) (h' : G.le H) : F.le H := fun b o e => h' b o (h b o e)

theorem RepT.mono {F G : Froz} (hFG : F.le G) : ∀ {t : Ty} {x : t.den} {cs : List Value}, RepT F t x cs → RepT G t x cs
  | .int _, _, _, h => by rw [RepT] at h ⊢; exact h
  | .bool, _, _, h => by rw [RepT] at h ⊢; exact h
  | .str, _, _, h => by rw [RepT] at h ⊢; exact h
  | .err, _, _, h => by rw [RepT] at h ⊢; exact h
  | .sl _, _, _, h => by
    rw [RepT] at h ⊢
    obtain ⟨a, cap, h, hc, h'⟩ := h
    refine ⟨a, cap, h, hc, h'.imp id ?_⟩
    rintro ⟨b, off, c, T, fr, ha, hb, hi⟩
    exact ⟨b, off, c, T, fr, ha, hFG _ _ hb, fun i hi' => RepT.mono hFG (hi i hi')⟩
  | .arr _ _, _, _, h => by
    rw [RepT] at h ⊢
    exact ⟨h.1, h.2.1, fun i hi => RepT.mono hFG (h.2.2 i hi)⟩
  | .unit, _, _, h => by rw [RepT] at h ⊢; exact h
  | .pair _ _, _, _, h => by
    rw [RepT] at h ⊢
    obtain ⟨c1, c2, h, h1, h2⟩ := h
    exact ⟨c1, c2, h, RepT.mono hFG h1, RepT.mono hFG h2⟩
  | .mu a, _, _, h => by
    rw [RepT] at h ⊢
    induction h with
    | leaf h => exact .leaf (RepT.mono hFG h)
    | node h hc hb _ ih => exact .node (RepT.mono hFG h) hc (hFG _ _ hb) ih

/-- What is known of the program's variables: a type, and maybe a value. -/
abbrev Glob := Nat → Option ((t : Ty) × Option t.den)
def GlobF (glob : Glob) (F : Froz) : Prop := ∀ i p, glob i = some p → ∃ c T fr x, F i = some (.cells c T fr) ∧ RepT F p.1 x ((c.toList.drop 0).take p.1.size) ∧ (∀ y, p.2 = some y → x = y) ∧ c.size = p.1.size

def globOf : List (Nat × ((t : Ty) × Option t.den)) → Glob
  | [], _ => none
  | (j, p) :: r, i => if j = i then some p else globOf r i

/-- One value out of a type's cells. -/
def pack (t : Ty) (cs : List Value) : Value := if t.agg then .agg cs.toArray else cs.headD (.tuple #[])
def RepV (F : Froz) (t : Ty) (x : t.den) (v : Value) : Prop := ∃ cs, RepT F t x cs ∧ v = pack t cs


/-- Where an object lies: its block, the place where it begins, its capacity. -/
abbrev Conc := Nat → Option (Nat × Nat × Nat)

def sliceAt (p : Option (Nat × Nat × Nat)) (n : Nat) : Value := .slice (p.map fun q => ⟨q.1, q.2.1, none⟩) n ((p.map fun q => q.2.2).getD 0)

/-- A row's slice; one that has no place is empty. -/
def SlAt (p : Option (Nat × Nat × Nat)) (n : Nat) (v : Value) : Prop := match p with
  | none => ∃ a, v = .slice a n 0
  | some q => v = .slice (some ⟨q.1, q.2.1, none⟩) n q.2.2

theorem SlAt.mk (p : Option (Nat × Nat × Nat)) (n : Nat) : SlAt p n (sliceAt p n) := by
  cases p with
  | none => exact ⟨none, rfl⟩
  | some q => rfl

/-- How many fields a struct has. -/
def Ty.nf : Ty → Nat
  | .pair _ b => b.nf + 1
  | .mu a => a.nf + 1
  | _ => 0

/-- Where a part of a type's value begins, and its type. -/
def Ty.at : Ty → List Nat → Option (Nat × Ty)
  | t, [] => some (0, t)
  | .pair a _, 0 :: p => a.at p
  | .pair a b, (n + 1) :: p => (b.at (n :: p)).map fun q => (a.size + q.1, q.2)
  | .mu a, n :: p => if n = a.nf then (if p = [] then some (a.size, .sl (.mu a)) else none) else a.at (n :: p)
  | _, _ => none

/-- The cells of a struct's value, part by part. -/
def RepG (F : Froz) (κ : Conc) (s : St) : C → List Value → Prop
  | .cons a b, cs => ∃ c1 c2, cs = c1 ++ c2 ∧ RepG F κ s a c1 ∧ RepG F κ s b c2
  | .unit, cs => cs = []
  | .val t x, cs => RepT F t x cs
  | .ptr o off, vs => ∃ v, vs = [v] ∧ ∀ c, s.get (okey o) = some c → c ≠ .dead → ∃ b p q, κ o = some (b, p, q) ∧ v = .pointer (some ⟨b, p + off, none⟩)
  | .fn f c, vs => c = .unit ∧ vs = [.func (.func f) #[] #[]]
  | .nil, vs => ∃ a, vs = [.slice a 0 0]
  | .dead, vs => ∃ v, vs = [v]
  | .may p _, vs => vs = [if p = true then .pointer none else .slice none 0 0]   -- the parts of a builder that nothing was written to
  | _, _ => False

/-- How a list of contents reads as a list of values; a single content is a list of one. -/
def RepL (F : Froz) (κ : Conc) (s : St) : C → List Value → Prop
  | .cons a b, vs => ∃ v r, vs = v :: r ∧ RepL F κ s a [v] ∧ RepL F κ s b r
  | .unit, vs => vs = []
  | .val t x, vs => ∃ v, vs = [v] ∧ RepV F t x v
  | .own o, vs => ∃ v, vs = [v] ∧ ∀ n t xs, s.get (okey o) = some (.vec n t xs) → SlAt (κ o) xs.length v
  | .ptr o off, vs => ∃ v, vs = [v] ∧ ∀ c, s.get (okey o) = some c → c ≠ .dead → ∃ b p q, κ o = some (b, p, q) ∧ v = .pointer (some ⟨b, p + off, none⟩)
  | .eptr o off t i path, vs => ∃ v, vs = [v] ∧ ∀ n xs, s.get (okey o) = some (.vec n t xs) → 0 ≤ i ∧ i < xs.length ∧
      ∃ b p q d u, κ o = some (b, p, q) ∧ t.at path = some (d, u) ∧ v = .pointer (some ⟨b, p + off + i.toNat * t.size + d, none⟩)
  | .aptr o off n t i path, vs => ∃ v, vs = [v] ∧ 0 ≤ i ∧ i < n ∧ ∀ c, s.get (okey o) = some c → c ≠ .dead →
      ∃ b p q d u, κ o = some (b, p, q) ∧ t.at path = some (d, u) ∧ v = .pointer (some ⟨b, p + off + i.toNat * t.size + d, none⟩)
  | .adr o _, vs => ∃ v, vs = [v] ∧ ∀ c, s.get (okey o) = some c → c ≠ .dead → v = .pointer none ∨ ∃ b p q, κ o = some (b, p, q) ∧ v = .pointer (some ⟨b, p, none⟩)
  | .brow o, vs => ∃ v, vs = [v] ∧ ∀ n t xs, s.get (okey o) = some (.vec n t xs) → v = sliceAt (κ o) xs.length
  | .may p q, vs => ∃ b, vs = [.bool b] ∧ (b = p → q = true)
  | .fptr t x, vs => ∃ v, vs = [v] ∧ ∃ b off c T fr, F b = some (.cells c T fr) ∧ v = .pointer (some ⟨b, off, none⟩) ∧ RepT F t x ((c.toList.drop off).take t.size)
  | .fn f caps, vs => ∃ us, vs = [.func (.func f) #[] us.toArray] ∧ RepL F κ s caps us
  | .tup c, vs => ∃ us, vs = [.tuple us.toArray] ∧ RepL F κ s c us
  | .agg c, vs => ∃ us, vs = [.agg us.toArray] ∧ RepG F κ s c us
  | .rsl o n _, vs => ∃ v, vs = [v] ∧ ∀ c, s.get (okey o) = some c → c ≠ .dead → ∃ b p q, κ o = some (b, p, q) ∧ v = .slice (some ⟨b, p, none⟩) n n
  | .nil, vs => ∃ a, vs = [.slice a 0 0]
  | .dead, vs => ∃ v, vs = [v]
  | .vec .., _ => False
  | .iter .., _ => False
  | .rcd _, _ => False

abbrev RepC (F : Froz) (κ : Conc) (s : St) (c : C) (v : Value) : Prop := RepL F κ s c [v]

/-- The cells of an object of several parts. -/
def RepX (F : Froz) (κ : Conc) (s : St) : C → List Value → Prop
  | .cons a b, cs => ∃ c1 c2, cs = c1 ++ c2 ∧ RepX F κ s a c1 ∧ RepX F κ s b c2
  | .unit, cs => cs = []
  | .val t x, cs => RepT F t x cs
  | c, cs => RepL F κ s c cs ∧ cs.length = 1

/-- The type of a variable that holds its own address first. -/
def C.bty : C → Option Nat
  | .cons (.adr _ T) _ => some T
  | _ => none

/-- No part of a builder's value among the parts? -/
def C.noMay : C → Bool
  | .cons a b => a.noMay && b.noMay
  | .may .. => false
  | _ => true

def RepO (F : Froz) (κ : Conc) (s : St) (w : World) (o : Nat) : C → Prop
  | .vec n t xs => (∀ m, n = some m → xs.length = m ∧ ∃ b p, κ o = some (b, p, m)) ∧ match κ o with
    | none => xs = []
    | some (b, p, q) => ∃ c T fr, w.heap[b]? = some (.cells c T fr) ∧ (c.size ≤ fr.1 ∨ fr.2 ≤ fr.1) ∧ (xs.length ≤ q ∧ (n = none → 0 < q ∧ (t = .int .u8 → T = 5))) ∧ p + q * t.size ≤ c.size ∧
        ∀ i (h : i < xs.length), RepT F t xs[i] ((c.toList.drop (p + i * t.size)).take t.size)
  | .rcd x => ∃ b c T fr, κ o = some (b, 0, 0) ∧ w.heap[b]? = some (.cells c T fr) ∧ (c.size ≤ fr.1 ∨ fr.2 ≤ fr.1) ∧ RepX F κ s x c.toList ∧ ∀ T0, x.bty = some T0 → T = T0
  | .iter x pos => ∃ b, κ o = some (b, 0, 0) ∧ w.heap[b]? = some (.stringIter ⟨x.toArray⟩ pos)
  | _ => True

/-- The objects that a content names. -/
def C.refs : C → List Nat
  | .own o | .ptr o _ | .eptr o _ _ _ _ | .aptr o _ _ _ _ _ | .adr o _ | .brow o | .rsl o _ _ => [o]
  | .cons a b => a.refs ++ b.refs
  | .fn _ c | .tup c | .agg c | .rcd c => c.refs
  | _ => []

def C.isObj : C → Bool
  | .vec .. | .rcd _ | .iter .. => true
  | _ => false

/-- What a function is told: its world when it began, and the blocks of it that it may change. -/
structure Frame0 where
  w : World
  may : Nat → Prop
  F0 : Froz
  ds : List Deferred

structure Kept (f : Frame0) (w : World) : Prop where
  size : f.w.heap.size ≤ w.heap.size
  same : ∀ b, b < f.w.heap.size → ¬ f.may b → w.heap[b]? = f.w.heap[b]?
  rest : w.os = f.w.os ∧ w.output = f.w.output

structure Inv (n : Nat) (f : Frame0) (F : Froz) (κ : Conc) (s : St) (a : Act) (w : World) : Prop where
  tmps : a.tmps.size = n
  defers : a.defers = f.ds
  frozen : ∀ b o, F b = some o → w.heap[b]? = some o
  slots : ∀ k c, s.get k = some c → k < 100000 → RepC F κ s c (a.tmps.getD k undef)
  objs : ∀ o c, s.get (okey o) = some c → RepO F κ s w o c
  free : ∀ o c b p q, s.get (okey o) = some c → c.isObj = true → κ o = some (b, p, q) → F b = none ∧ (f.w.heap.size ≤ b ∨ f.may b)
  apart : ∀ o c b p q o' c' p' q', s.get (okey o) = some c → c.isObj = true → κ o = some (b, p, q) →
    s.get (okey o') = some c' → c'.isObj = true → κ o' = some (b, p', q') → o = o'
  closed : ∀ k c, s.get k = some c → ∀ o ∈ c.refs, (s.get (okey o)).isSome = true
  kept : Kept f w
  grown : ∀ b o, F b = some o → f.F0 b = some o ∨ f.w.heap.size ≤ b ∨ f.may b

end Go.Fe
