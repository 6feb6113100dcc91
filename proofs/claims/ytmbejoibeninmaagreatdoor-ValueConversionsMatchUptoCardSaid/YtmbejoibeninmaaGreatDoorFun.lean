/- Plain functions that the program's functions come to. Printed by a program (fegen.py). -/
import Derived.Test.YtmbejoibeninmaaGreatDoorFeLib
import Derived.Test.YtmbejoibeninmaaGreatDoorFeLaw
namespace Go.Proofs.YtmbejoibeninmaaGreatDoor
open Go Go.Fe
noncomputable section
abbrev TA3 : Type := ((List Int) × Unit)
abbrev TA4 : Type := (Str × (Str × Unit))
abbrev TA5 : Type := (Bool × Unit)
abbrev TA6 : Type := (Unit × (Int × (Int × TA3)))
abbrev TA8 : Type := (Unit × (Int × TA3))
abbrev TA9 : Type := (Int × (Int × Unit))
abbrev TA0 : Type := (Tree (Int × (TA4 × (Str × (Bool × (Int × TA9))))))
abbrev TA2 : Type := ((Int × (Str × (Str × (Str × (Bool × (Int × (Int × (Int × ((List TA0) × Unit))))))))) × Unit)
abbrev TA10 : Type := ((List Int) × (Int × Unit))
abbrev TA11 : Type := (Unit × (Bool × (TA4 × Unit)))
abbrev TA12 : Type := (Str × (Unit × ((List Bool) × Unit)))
abbrev TA14 : Type := (Unit × (Bool × TA2))
abbrev TA16 : Type := ((List Int) × TA3)
abbrev TA1 : Type := (Bool × TA16)
abbrev TA7 : Type := (Unit × (Bool × (TA1 × Unit)))
abbrev TA13 : Type := (Unit × (Int × (TA1 × Unit)))
abbrev TA15 : Type := (Unit × (Str × (TA1 × Unit)))
abbrev TA17 : Type := (TA4 × (TA4 × Unit))
abbrev TA18 : Type := (Unit ⊕ (Int × Unit))
abbrev TA19 : Type := ((List Str) × Unit)
abbrev TA20 : Type := (TA4 × (Int × Unit))
abbrev TA21 : Type := (Unit × ((List Int) × (Int × TA3)))
abbrev TA22 : Type := (Unit × (Int × Unit))
abbrev TA23 : Type := (TA1 × (TA1 × Unit))
def flow_Char (a0 : Int) : Option TA5 :=
 cond (decide (a0 = 9))
 (some (true, ()))
 (cond ((decide (a0 = 10)))
 (some (true, ()))
 (cond (decide (32 <= a0))
 (cond (((decide (a0 < 127))))
 (some (true, ()))
 (cond (decide (160 <= a0))
 (cond (((decide (a0 < 55296))))
 (some (true, ()))
 (cond (decide (57343 < a0))
 (some (((decide (a0 <= 1114111))), ()))
 (some (false, ()))))
 (cond (false)
 (some (true, ()))
 (cond (decide (57343 < a0))
 (some (((decide (a0 <= 1114111))), ()))
 (some (false, ()))))))
 (cond (false)
 (some (true, ()))
 (cond (decide (160 <= a0))
 (cond (((decide (a0 < 55296))))
 (some (true, ()))
 (cond (decide (57343 < a0))
 (some (((decide (a0 <= 1114111))), ()))
 (some (false, ()))))
 (cond (false)
 (some (true, ()))
 (cond (decide (57343 < a0))
 (some (((decide (a0 <= 1114111))), ()))
 (some (false, ()))))))))
def value_text_l1 (p1 : (Str × Unit)) : Option ((Str × Unit) ⊕ TA18) :=
 cond (!decide (p1.1 = []))
 ((sRune p1).bind fun v1 =>
 (cond (decide (v1.1 = 65533))
 (cond ((decide (v1.2.1 = 1)))
 (some (true, ()))
 ((flow_Char (IntKind.i64.wrap v1.1)).bind fun v2 =>
 some ((!v2.1), ())))
 ((flow_Char (IntKind.i64.wrap v1.1)).bind fun v3 =>
 some ((!v3.1), ())) : Option TA5).bind fun r4 =>
 cond r4.1
 (some (.inr (.inr (23, ()))))
 ((cut p1.1 v1.2.1 (p1.1.length : Int)).bind fun v5 =>
 some (.inl (v5, ()))))
 (some (.inr (.inl (()))))
def value_text (a0 : Str) : Option (Int × Unit) :=
 cond (decide (32767 < (a0.length : Int)))
 (some (3, ()))
 ((loop value_text_l1 (a0, ())).bind fun r6 =>
 (match r6 with
 | .inl _ => (some (0, ()))
 | .inr z8 => (some z8)))
def value_zeros (a0 : TA0) : Option (Int × Unit) :=
 (cond (!decide (a0.data.1 = 1))
 (let v1 : Bool := (!Ty.beq (.pair .str (.pair .str .unit)) (a0.data.2.1.1, (a0.data.2.1.2.1, ())) ([], [], ()))
 cond v1
 (some (true, ()))
 (cond (!decide (a0.data.1 = 2))
 (let v2 : Bool := ((!decide (a0.data.2.2.1 = [])))
 cond v2
 (some (true, ()))
 (cond (!decide (a0.data.1 = 3))
 (cond ((a0.data.2.2.2.1))
 (some (true, ()))
 (cond (!decide (a0.data.1 = 4))
 (let v3 : Bool := ((!decide (a0.data.2.2.2.2.1 = 0)))
 cond v3
 (some (true, ()))
 (cond (!decide (a0.data.1 = 5))
 (cond (!decide (a0.data.2.2.2.2.2.1 = 0))
 (some ((true), ()))
 (cond ((!decide (a0.data.2.2.2.2.2.2.1 = 0)))
 (some ((true), ()))
 (let v4 : Bool := ((decide (0 < (a0.kids.length : Int))))
 some (v4, ()))))
 (some (false, ()))))
 (cond (false)
 (some (true, ()))
 (cond (!decide (a0.data.1 = 5))
 (cond (!decide (a0.data.2.2.2.2.2.1 = 0))
 (some ((true), ()))
 (cond ((!decide (a0.data.2.2.2.2.2.2.1 = 0)))
 (some ((true), ()))
 (let v5 : Bool := ((decide (0 < (a0.kids.length : Int))))
 some (v5, ()))))
 (some (false, ()))))))
 (cond (false)
 (some (true, ()))
 (cond (!decide (a0.data.1 = 4))
 (let v6 : Bool := ((!decide (a0.data.2.2.2.2.1 = 0)))
 cond v6
 (some (true, ()))
 (cond (!decide (a0.data.1 = 5))
 (cond (!decide (a0.data.2.2.2.2.2.1 = 0))
 (some ((true), ()))
 (cond ((!decide (a0.data.2.2.2.2.2.2.1 = 0)))
 (some ((true), ()))
 (let v7 : Bool := ((decide (0 < (a0.kids.length : Int))))
 some (v7, ()))))
 (some (false, ()))))
 (cond (false)
 (some (true, ()))
 (cond (!decide (a0.data.1 = 5))
 (cond (!decide (a0.data.2.2.2.2.2.1 = 0))
 (some ((true), ()))
 (cond ((!decide (a0.data.2.2.2.2.2.2.1 = 0)))
 (some ((true), ()))
 (let v8 : Bool := ((decide (0 < (a0.kids.length : Int))))
 some (v8, ()))))
 (some (false, ()))))))))
 (cond (false)
 (some (true, ()))
 (cond (!decide (a0.data.1 = 3))
 (cond ((a0.data.2.2.2.1))
 (some (true, ()))
 (cond (!decide (a0.data.1 = 4))
 (let v9 : Bool := ((!decide (a0.data.2.2.2.2.1 = 0)))
 cond v9
 (some (true, ()))
 (cond (!decide (a0.data.1 = 5))
 (cond (!decide (a0.data.2.2.2.2.2.1 = 0))
 (some ((true), ()))
 (cond ((!decide (a0.data.2.2.2.2.2.2.1 = 0)))
 (some ((true), ()))
 (let v10 : Bool := ((decide (0 < (a0.kids.length : Int))))
 some (v10, ()))))
 (some (false, ()))))
 (cond (false)
 (some (true, ()))
 (cond (!decide (a0.data.1 = 5))
 (cond (!decide (a0.data.2.2.2.2.2.1 = 0))
 (some ((true), ()))
 (cond ((!decide (a0.data.2.2.2.2.2.2.1 = 0)))
 (some ((true), ()))
 (let v11 : Bool := ((decide (0 < (a0.kids.length : Int))))
 some (v11, ()))))
 (some (false, ()))))))
 (cond (false)
 (some (true, ()))
 (cond (!decide (a0.data.1 = 4))
 (let v12 : Bool := ((!decide (a0.data.2.2.2.2.1 = 0)))
 cond v12
 (some (true, ()))
 (cond (!decide (a0.data.1 = 5))
 (cond (!decide (a0.data.2.2.2.2.2.1 = 0))
 (some ((true), ()))
 (cond ((!decide (a0.data.2.2.2.2.2.2.1 = 0)))
 (some ((true), ()))
 (let v13 : Bool := ((decide (0 < (a0.kids.length : Int))))
 some (v13, ()))))
 (some (false, ()))))
 (cond (false)
 (some (true, ()))
 (cond (!decide (a0.data.1 = 5))
 (cond (!decide (a0.data.2.2.2.2.2.1 = 0))
 (some ((true), ()))
 (cond ((!decide (a0.data.2.2.2.2.2.2.1 = 0)))
 (some ((true), ()))
 (let v14 : Bool := ((decide (0 < (a0.kids.length : Int))))
 some (v14, ()))))
 (some (false, ()))))))))))
 (cond (!decide (a0.data.1 = 2))
 (let v15 : Bool := ((!decide (a0.data.2.2.1 = [])))
 cond v15
 (some (true, ()))
 (cond (!decide (a0.data.1 = 3))
 (cond ((a0.data.2.2.2.1))
 (some (true, ()))
 (cond (!decide (a0.data.1 = 4))
 (let v16 : Bool := ((!decide (a0.data.2.2.2.2.1 = 0)))
 cond v16
 (some (true, ()))
 (cond (!decide (a0.data.1 = 5))
 (cond (!decide (a0.data.2.2.2.2.2.1 = 0))
 (some ((true), ()))
 (cond ((!decide (a0.data.2.2.2.2.2.2.1 = 0)))
 (some ((true), ()))
 (let v17 : Bool := ((decide (0 < (a0.kids.length : Int))))
 some (v17, ()))))
 (some (false, ()))))
 (cond (false)
 (some (true, ()))
 (cond (!decide (a0.data.1 = 5))
 (cond (!decide (a0.data.2.2.2.2.2.1 = 0))
 (some ((true), ()))
 (cond ((!decide (a0.data.2.2.2.2.2.2.1 = 0)))
 (some ((true), ()))
 (let v18 : Bool := ((decide (0 < (a0.kids.length : Int))))
 some (v18, ()))))
 (some (false, ()))))))
 (cond (false)
 (some (true, ()))
 (cond (!decide (a0.data.1 = 4))
 (let v19 : Bool := ((!decide (a0.data.2.2.2.2.1 = 0)))
 cond v19
 (some (true, ()))
 (cond (!decide (a0.data.1 = 5))
 (cond (!decide (a0.data.2.2.2.2.2.1 = 0))
 (some ((true), ()))
 (cond ((!decide (a0.data.2.2.2.2.2.2.1 = 0)))
 (some ((true), ()))
 (let v20 : Bool := ((decide (0 < (a0.kids.length : Int))))
 some (v20, ()))))
 (some (false, ()))))
 (cond (false)
 (some (true, ()))
 (cond (!decide (a0.data.1 = 5))
 (cond (!decide (a0.data.2.2.2.2.2.1 = 0))
 (some ((true), ()))
 (cond ((!decide (a0.data.2.2.2.2.2.2.1 = 0)))
 (some ((true), ()))
 (let v21 : Bool := ((decide (0 < (a0.kids.length : Int))))
 some (v21, ()))))
 (some (false, ()))))))))
 (cond (false)
 (some (true, ()))
 (cond (!decide (a0.data.1 = 3))
 (cond ((a0.data.2.2.2.1))
 (some (true, ()))
 (cond (!decide (a0.data.1 = 4))
 (let v22 : Bool := ((!decide (a0.data.2.2.2.2.1 = 0)))
 cond v22
 (some (true, ()))
 (cond (!decide (a0.data.1 = 5))
 (cond (!decide (a0.data.2.2.2.2.2.1 = 0))
 (some ((true), ()))
 (cond ((!decide (a0.data.2.2.2.2.2.2.1 = 0)))
 (some ((true), ()))
 (let v23 : Bool := ((decide (0 < (a0.kids.length : Int))))
 some (v23, ()))))
 (some (false, ()))))
 (cond (false)
 (some (true, ()))
 (cond (!decide (a0.data.1 = 5))
 (cond (!decide (a0.data.2.2.2.2.2.1 = 0))
 (some ((true), ()))
 (cond ((!decide (a0.data.2.2.2.2.2.2.1 = 0)))
 (some ((true), ()))
 (let v24 : Bool := ((decide (0 < (a0.kids.length : Int))))
 some (v24, ()))))
 (some (false, ()))))))
 (cond (false)
 (some (true, ()))
 (cond (!decide (a0.data.1 = 4))
 (let v25 : Bool := ((!decide (a0.data.2.2.2.2.1 = 0)))
 cond v25
 (some (true, ()))
 (cond (!decide (a0.data.1 = 5))
 (cond (!decide (a0.data.2.2.2.2.2.1 = 0))
 (some ((true), ()))
 (cond ((!decide (a0.data.2.2.2.2.2.2.1 = 0)))
 (some ((true), ()))
 (let v26 : Bool := ((decide (0 < (a0.kids.length : Int))))
 some (v26, ()))))
 (some (false, ()))))
 (cond (false)
 (some (true, ()))
 (cond (!decide (a0.data.1 = 5))
 (cond (!decide (a0.data.2.2.2.2.2.1 = 0))
 (some ((true), ()))
 (cond ((!decide (a0.data.2.2.2.2.2.2.1 = 0)))
 (some ((true), ()))
 (let v27 : Bool := ((decide (0 < (a0.kids.length : Int))))
 some (v27, ()))))
 (some (false, ()))))))))) : Option TA5).bind fun r28 =>
 cond r28.1
 (some (4, ()))
 (some (0, ()))
def strings_trimRightByte_l1 (a1 : Int) (p1 : (Str × Unit)) : Option ((Str × Unit) ⊕ (Str × Unit)) :=
 (cond (decide (0 < (p1.1.length : Int)))
 ((idx p1.1 (IntKind.i64.wrap ((p1.1.length : Int) - 1))).bind fun v1 =>
 some ((decide ((ofByte v1) = a1)), ()))
 (some (false, ())) : Option TA5).bind fun r2 =>
 cond r2.1
 ((cut p1.1 0 (IntKind.i64.wrap ((p1.1.length : Int) - 1))).bind fun v3 =>
 some (.inl (v3, ())))
 (some (.inr p1))
def strings_trimRightByte (a0 : Str) (a1 : Int) : Option (Str × Unit) :=
 (loop (strings_trimRightByte_l1 a1) (a0, ())).bind fun r4 =>
 some r4
def strings_trimLeftByte_l1 (a1 : Int) (p1 : (Str × Unit)) : Option ((Str × Unit) ⊕ (Str × Unit)) :=
 (cond (decide (0 < (p1.1.length : Int)))
 ((idx p1.1 0).bind fun v1 =>
 some ((decide ((ofByte v1) = a1)), ()))
 (some (false, ())) : Option TA5).bind fun r2 =>
 cond r2.1
 ((cut p1.1 1 (p1.1.length : Int)).bind fun v3 =>
 some (.inl (v3, ())))
 (some (.inr p1))
def strings_trimLeftByte (a0 : Str) (a1 : Int) : Option (Str × Unit) :=
 (loop (strings_trimLeftByte_l1 a1) (a0, ())).bind fun r4 =>
 some r4
def strings_makeASCIISet_l1 (a0 : Str) (p1 : (Unit × (Int × ((List Bool) × Unit)))) : Option ((Unit × (Int × ((List Bool) × Unit))) ⊕ ((Unit × ((List Bool) × Unit)) ⊕ (Unit × (Bool × ((List Bool) × Unit))))) :=
 cond (decide (p1.2.1 < (a0.length : Int)))
 ((idx a0 p1.2.1).bind fun v1 =>
 cond (decide (128 <= (ofByte v1)))
 (some (.inr (.inr ((), false, p1.2.2.1, ()))))
 ((chk (inb (ofByte v1) 256)).bind fun _ =>
 let v2 : List Bool := p1.2.2.1.set (ofByte v1).toNat true
 some (.inl ((), IntKind.i64.wrap (p1.2.1 + 1), v2, ()))))
 (some (.inr (.inl ((), p1.2.2.1, ()))))
def strings_makeASCIISet (a0 : Str) : Option ((List Bool) × TA5) :=
 (loop (strings_makeASCIISet_l1 a0) ((), 0, (List.replicate 256 false), ())).bind fun r3 =>
 (match r3 with
 | .inl z4 => (some (z4.2.1, true, ()))
 | .inr z5 => (some (z5.2.2.1, z5.2.1, ())))
def _strings_asciiSet__contains (a1 : Int) (o0 : (List Bool)) : Option (Bool × (Unit × ((List Bool) × Unit))) :=
 (chk (inb a1 256)).bind fun _ =>
 some ((o0.getD a1.toNat false), (), o0, ())
def strings_trimRightASCII_l1 (p1 : TA12) : Option (TA12 ⊕ TA12) :=
 cond (decide (0 < (p1.1.length : Int)))
 ((idx p1.1 (IntKind.i64.wrap ((p1.1.length : Int) - 1))).bind fun v1 =>
 (_strings_asciiSet__contains (ofByte v1) p1.2.2.1).bind fun v2 =>
 cond (!v2.1)
 (some (.inr (p1.1, (), v2.2.2.1, ())))
 ((cut p1.1 0 (IntKind.i64.wrap ((p1.1.length : Int) - 1))).bind fun v3 =>
 some (.inl (v3, (), v2.2.2.1, ()))))
 (some (.inr (p1.1, (), p1.2.2.1, ())))
def strings_trimRightASCII (a0 : Str) (o0 : (List Bool)) : Option TA12 :=
 (loop strings_trimRightASCII_l1 (a0, (), o0, ())).bind fun r4 =>
 some (r4.1, (), r4.2.2.1, ())
def strings_trimLeftASCII_l1 (p1 : TA12) : Option (TA12 ⊕ TA12) :=
 cond (decide (0 < (p1.1.length : Int)))
 ((idx p1.1 0).bind fun v1 =>
 (_strings_asciiSet__contains (ofByte v1) p1.2.2.1).bind fun v2 =>
 cond (!v2.1)
 (some (.inr (p1.1, (), v2.2.2.1, ())))
 ((cut p1.1 1 (p1.1.length : Int)).bind fun v3 =>
 some (.inl (v3, (), v2.2.2.1, ()))))
 (some (.inr (p1.1, (), p1.2.2.1, ())))
def strings_trimLeftASCII (a0 : Str) (o0 : (List Bool)) : Option TA12 :=
 (loop strings_trimLeftASCII_l1 (a0, (), o0, ())).bind fun r4 =>
 some (r4.1, (), r4.2.2.1, ())
def strings_Trim (a0 : Str) (a1 : Str) : Option (Str × Unit) :=
 (cond (decide (a0 = []))
 (some (true, ()))
 (some ((decide (a1 = [])), ())) : Option TA5).bind fun r1 =>
 cond r1.1
 (some (a0, ()))
 ((cond (decide ((a1.length : Int) = 1))
 ((idx a1 0).bind fun v2 =>
 some ((decide ((ofByte v2) < 128)), ()))
 (some (false, ())) : Option TA5).bind fun r3 =>
 cond r3.1
 ((idx a1 0).bind fun v4 =>
 (strings_trimRightByte a0 (ofByte v4)).bind fun v5 =>
 (idx a1 0).bind fun v6 =>
 (strings_trimLeftByte v5.1 (ofByte v6)).bind fun v7 =>
 some v7)
 ((strings_makeASCIISet a1).bind fun v8 =>
 cond v8.2.1
 ((strings_trimRightASCII a0 v8.1).bind fun v9 =>
 (strings_trimLeftASCII v9.1 v9.2.2.1).bind fun v10 =>
 some (v10.1, ()))
 (((sNever [Ty.str, Ty.str] [Ty.str]) (a0, a1, ())).bind fun v11 =>
 ((sNever [Ty.str, Ty.str] [Ty.str]) (v11.1, a1, ())).bind fun v12 =>
 some v12)))
def exact_digits (a0 : Str) : Option TA5 :=
 (cond (decide (a0 = []))
 (some (true, ()))
 ((idx a0 0).bind fun v1 =>
 cond (decide ((ofByte v1) = 48))
 (let v2 : Bool := ((decide (1 < (a0.length : Int))))
 some (v2, ()))
 (some (false, ()))) : Option TA5).bind fun r3 =>
 cond r3.1
 (some (false, ()))
 ((strings_Trim a0 [48, 49, 50, 51, 52, 53, 54, 55, 56, 57]).bind fun v4 =>
 some (decide (v4.1 = []), ()))
def exact_nat__trim_l1 (p1 : TA3) : Option (TA3 ⊕ TA3) :=
 (cond (decide (0 < (p1.1.length : Int)))
 ((idx p1.1 (IntKind.i64.wrap ((p1.1.length : Int) - 1))).bind fun v1 =>
 some ((decide (v1 = 0)), ()))
 (some (false, ())) : Option TA5).bind fun r2 =>
 cond r2.1
 ((cut p1.1 0 (IntKind.i64.wrap ((p1.1.length : Int) - 1))).bind fun v3 =>
 some (.inl (v3, ())))
 (some (.inr p1))
def exact_nat__trim (a0 : (List Int)) : Option TA3 :=
 (loop exact_nat__trim_l1 (a0, ())).bind fun r4 =>
 some r4
def exact_parse_l1 (p1 : (Str × (Unit × TA3))) : Option ((Str × (Unit × TA3)) ⊕ (Unit × TA3)) :=
 cond (decide (0 < (p1.1.length : Int)))
 ((cut p1.1 (mx 0 (IntKind.i64.wrap ((p1.1.length : Int) - 9))) (p1.1.length : Int)).bind fun v1 =>
 (sAtoi (v1, ())).bind fun v2 =>
 (cat p1.2.2.1 [IntKind.u32.wrap v2.1]).bind fun v3 =>
 (cut p1.1 0 (mx 0 (IntKind.i64.wrap ((p1.1.length : Int) - 9)))).bind fun v4 =>
 some (.inl (v4, (), v3, ())))
 (some (.inr ((), p1.2.2.1, ())))
def exact_parse (a0 : Str) : Option TA3 :=
 (loop exact_parse_l1 (a0, (), [], ())).bind fun r5 =>
 (exact_nat__trim r5.2.1).bind fun v6 =>
 some v6
def exact_nat__zero (a0 : (List Int)) : Option TA5 :=
 some (decide ((a0.length : Int) = 0), ())
def exact_nat__compare_l1 (a0 : (List Int)) (a1 : (List Int)) (p1 : (Int × Unit)) : Option ((Int × Unit) ⊕ TA18) :=
 cond (decide (0 <= p1.1))
 ((idx a0 p1.1).bind fun v1 =>
 (idx a1 p1.1).bind fun v2 =>
 cond (!decide (v1 = v2))
 ((idx a0 p1.1).bind fun v3 =>
 (idx a1 p1.1).bind fun v4 =>
 cond (decide (v3 < v4))
 (some (.inr (.inr ((-1), ()))))
 (some (.inr (.inr (1, ())))))
 (some (.inl (IntKind.i64.wrap (p1.1 - 1), ()))))
 (some (.inr (.inl (()))))
def exact_nat__compare (a0 : (List Int)) (a1 : (List Int)) : Option (Int × Unit) :=
 cond (!decide ((a0.length : Int) = (a1.length : Int)))
 (some (IntKind.i64.wrap ((a0.length : Int) - (a1.length : Int)), ()))
 ((loop (exact_nat__compare_l1 a0 a1) (IntKind.i64.wrap ((a0.length : Int) - 1), ())).bind fun r5 =>
 (match r5 with
 | .inl _ => (some (0, ()))
 | .inr z7 => (some z7)))
def exact_nat__times_l1 (a1 : (List Int)) (v2 : Int) (p2 : TA8) (p1 : TA6) : Option (TA6 ⊕ TA8) :=
 cond (decide (p1.2.2.1 < (a1.length : Int)))
 ((idx a1 p1.2.2.1).bind fun v3 =>
 let v4 : Int := IntKind.u64.wrap ((IntKind.u64.wrap v2) * (IntKind.u64.wrap v3))
 (chk (inb (IntKind.i64.wrap (p2.2.1 + p1.2.2.1)) p1.2.2.2.1.length)).bind fun _ =>
 let v5 : Int := (p1.2.2.2.1.getD (IntKind.i64.wrap (p2.2.1 + p1.2.2.1)).toNat 0)
 let v6 : Int := IntKind.u64.wrap ((IntKind.u64.wrap (v4 + (IntKind.u64.wrap v5))) + p1.2.1)
 (rem v6 1000000000).bind fun v7 =>
 (chk (inb (IntKind.i64.wrap (p2.2.1 + p1.2.2.1)) p1.2.2.2.1.length)).bind fun _ =>
 let v8 : List Int := p1.2.2.2.1.set (IntKind.i64.wrap (p2.2.1 + p1.2.2.1)).toNat (IntKind.u32.wrap v7)
 (quo .u64 v6 1000000000).bind fun v9 =>
 some (.inl ((), v9, IntKind.i64.wrap (p1.2.2.1 + 1), v8, ())))
 (some (.inr ((), p1.2.1, p1.2.2.2.1, ())))
def exact_nat__times_l2 (a0 : (List Int)) (a1 : (List Int)) (p2 : TA8) : Option (TA8 ⊕ (Unit × TA3)) :=
 cond (decide (p2.2.1 < (a0.length : Int)))
 ((idx a0 p2.2.1).bind fun v2 =>
 (loop (exact_nat__times_l1 a1 v2 p2) ((), 0, 0, p2.2.2.1, ())).bind fun r10 =>
 (chk (inb (IntKind.i64.wrap (p2.2.1 + (a1.length : Int))) r10.2.2.1.length)).bind fun _ =>
 let v11 : List Int := r10.2.2.1.set (IntKind.i64.wrap (p2.2.1 + (a1.length : Int))).toNat (IntKind.u32.wrap r10.2.1)
 some (.inl ((), IntKind.i64.wrap (p2.2.1 + 1), v11, ())))
 (some (.inr ((), p2.2.2.1, ())))
def exact_nat__times (a0 : (List Int)) (a1 : (List Int)) : Option TA3 :=
 (mk (IntKind.i64.wrap ((a0.length : Int) + (a1.length : Int))) (IntKind.i64.wrap ((a0.length : Int) + (a1.length : Int))) 0).bind fun v1 =>
 (loop (exact_nat__times_l2 a0 a1) ((), 0, v1, ())).bind fun r12 =>
 (exact_nat__trim r12.2.1).bind fun v13 =>
 some v13
def exact_digit_l1 (a1 : (List Int)) (a0 : (List Int)) (p1 : TA9) : Option (TA9 ⊕ (Int × Unit)) :=
 cond (decide ((IntKind.i64.wrap ((a1.length : Int) - 1)) <= p1.2.1))
 ((idx a0 p1.2.1).bind fun v2 =>
 let v3 : Int := IntKind.u64.wrap ((IntKind.u64.wrap (p1.1 * 1000000000)) + (IntKind.u64.wrap v2))
 some (.inl (v3, IntKind.i64.wrap (p1.2.1 - 1), ())))
 (some (.inr (p1.1, ())))
def exact_digit_l2 (a1 : (List Int)) (a0 : (List Int)) (p2 : TA9) : Option (TA9 ⊕ (Int × Unit)) :=
 cond (decide (p2.1 < p2.2.1))
 (let v9 : Int := IntKind.u64.wrap ((IntKind.u64.wrap (p2.1 + p2.2.1)) + 1)
 (quo .u64 v9 2).bind fun v10 =>
 (exact_nat__trim [IntKind.u32.wrap v10]).bind fun v11 =>
 (exact_nat__times a1 v11.1).bind fun v12 =>
 (exact_nat__compare v12.1 a0).bind fun v13 =>
 cond (decide (v13.1 <= 0))
 (some (.inl (v10, p2.2.1, ())))
 (some (.inl (p2.1, IntKind.u64.wrap (v10 - 1), ()))))
 (some (.inr (p2.1, ())))
def exact_digit (a0 : (List Int)) (a1 : (List Int)) : Option (Int × Unit) :=
 (exact_nat__compare a0 a1).bind fun v1 =>
 cond (decide (v1.1 < 0))
 (some (0, ()))
 ((loop (exact_digit_l1 a1 a0) (0, IntKind.i64.wrap ((a0.length : Int) - 1), ())).bind fun r4 =>
 (idx a1 (IntKind.i64.wrap ((a1.length : Int) - 1))).bind fun v5 =>
 (quo .u64 r4.1 (IntKind.u64.wrap ((IntKind.u64.wrap v5) + 1))).bind fun v6 =>
 (idx a1 (IntKind.i64.wrap ((a1.length : Int) - 1))).bind fun v7 =>
 (quo .u64 r4.1 (IntKind.u64.wrap v7)).bind fun v8 =>
 (loop (exact_digit_l2 a1 a0) (v6, mn v8 999999999, ())).bind fun r14 =>
 some (IntKind.u32.wrap r14.1, ()))
def exact_nat_uint32_ (a0 : (List Int)) : Option (Unit × TA3) :=
 cond (List.isEmpty a0)
 (agree
 (some ((), [], ()))
 ((cat [] a0).bind fun v1 =>
 some ((), v1, ())))
 ((cat [] a0).bind fun v1 =>
 some ((), v1, ()))
def exact_nat__minus_l1 (v1 : (Unit × TA3)) (a1 : (List Int)) (p1 : TA6) : Option (TA6 ⊕ (Unit × TA3)) :=
 cond (decide (p1.2.2.1 < (v1.2.1.length : Int)))
 ((cond (decide (p1.2.2.1 < (a1.length : Int)))
 ((idx a1 p1.2.2.1).bind fun v2 =>
 some ((), IntKind.u32.wrap (p1.2.1 + v2), p1.2.2.2.1, ()))
 (some ((), p1.2.1, p1.2.2.2.1, ())) : Option TA8).bind fun r3 =>
 ((chk (inb p1.2.2.1 r3.2.2.1.length)).bind fun _ =>
 cond (decide ((r3.2.2.1.getD p1.2.2.1.toNat 0) < r3.2.1))
 ((chk (inb p1.2.2.1 r3.2.2.1.length)).bind fun _ =>
 let v4 : Int := IntKind.u32.wrap ((r3.2.2.1.getD p1.2.2.1.toNat 0) + 1000000000)
 (chk (inb p1.2.2.1 r3.2.2.1.length)).bind fun _ =>
 let v5 : List Int := r3.2.2.1.set p1.2.2.1.toNat v4
 some ((), 1, v5, ()))
 (some ((), 0, r3.2.2.1, ())) : Option TA8).bind fun r6 =>
 (chk (inb p1.2.2.1 r6.2.2.1.length)).bind fun _ =>
 let v7 : Int := IntKind.u32.wrap ((r6.2.2.1.getD p1.2.2.1.toNat 0) - r3.2.1)
 (chk (inb p1.2.2.1 r6.2.2.1.length)).bind fun _ =>
 let v8 : List Int := r6.2.2.1.set p1.2.2.1.toNat v7
 some (.inl ((), r6.2.1, IntKind.i64.wrap (p1.2.2.1 + 1), v8, ())))
 (some (.inr ((), p1.2.2.2.1, ())))
def exact_nat__minus (a0 : (List Int)) (a1 : (List Int)) : Option TA3 :=
 (exact_nat_uint32_ a0).bind fun v1 =>
 (loop (exact_nat__minus_l1 v1 a1) ((), 0, 0, v1.2.1, ())).bind fun r9 =>
 (exact_nat__trim r9.2.1).bind fun v10 =>
 some v10
def exact_divide_l1 (a0 : (List Int)) (a1 : (List Int)) (p1 : TA21) : Option (TA21 ⊕ (Unit × TA16)) :=
 cond (decide (0 <= p1.2.2.1))
 ((idx a0 p1.2.2.1).bind fun v2 =>
 (cat [v2] p1.2.1).bind fun v3 =>
 (exact_nat__trim v3).bind fun v4 =>
 (exact_digit v4.1 a1).bind fun v5 =>
 (chk (inb p1.2.2.1 p1.2.2.2.1.length)).bind fun _ =>
 let v6 : List Int := p1.2.2.2.1.set p1.2.2.1.toNat v5.1
 (chk (inb p1.2.2.1 v6.length)).bind fun _ =>
 (exact_nat__trim [(v6.getD p1.2.2.1.toNat 0)]).bind fun v7 =>
 (exact_nat__times a1 v7.1).bind fun v8 =>
 (exact_nat__minus v4.1 v8.1).bind fun v9 =>
 some (.inl ((), v9.1, IntKind.i64.wrap (p1.2.2.1 - 1), v6, ())))
 (some (.inr ((), p1.2.1, p1.2.2.2.1, ())))
def exact_divide (a0 : (List Int)) (a1 : (List Int)) : Option TA16 :=
 (mk (a0.length : Int) (a0.length : Int) 0).bind fun v1 =>
 (loop (exact_divide_l1 a0 a1) ((), [], IntKind.i64.wrap ((a0.length : Int) - 1), v1, ())).bind fun r10 =>
 (exact_nat__trim r10.2.2.1).bind fun v11 =>
 some (v11.1, r10.2.1, ())
def exact_common_l1 (p1 : TA16) : Option (TA16 ⊕ TA3) :=
 (exact_nat__zero p1.2.1).bind fun v1 =>
 cond (!v1.1)
 ((exact_divide p1.1 p1.2.1).bind fun v2 =>
 some (.inl (p1.2.1, v2.2.1, ())))
 (some (.inr (p1.1, ())))
def exact_common (a0 : (List Int)) (a1 : (List Int)) : Option TA3 :=
 (loop exact_common_l1 (a0, a1, ())).bind fun r3 =>
 some r3
def exact_nat__one (a0 : (List Int)) : Option TA5 :=
 cond (decide ((a0.length : Int) = 1))
 ((idx a0 0).bind fun v1 =>
 some ((decide (v1 = 1)), ()))
 (some (false, ()))
def exact_read (a0 : TA4) : Option (TA1 × (Int × Unit)) :=
 (sCutPrefix (a0.1, [45], ())).bind fun v1 =>
 ((exact_digits v1.1).bind fun v2 =>
 cond (!v2.1)
 (some ((), (), true, a0, (false, ([], ([], ()))), ()))
 ((exact_digits a0.2.1).bind fun v3 =>
 cond ((!v3.1))
 (some ((), (), true, a0, (false, ([], ([], ()))), ()))
 (cond ((decide (a0.2.1 = [48])))
 (some ((), (), true, a0, (false, ([], ([], ()))), ()))
 (cond (decide (v1.1 = [48]))
 (some ((), (), (v1.2.1), a0, (false, ([], ([], ()))), ()))
 (some ((), (), false, a0, (false, ([], ([], ()))), ()))))) : Option (Unit × (Unit × (Bool × (TA4 × (TA1 × Unit)))))).bind fun r4 =>
 cond r4.2.2.1
 (some ((false, ([], ([], ()))), 4, ()))
 ((cond (decide (300 < (v1.1.length : Int)))
 (some ((), (), true, r4.2.2.2.1, r4.2.2.2.2.1, ()))
 (let v5 : Bool := (decide (300 < (r4.2.2.2.1.2.1.length : Int)))
 some ((), (), v5, r4.2.2.2.1, r4.2.2.2.2.1, ())) : Option (Unit × (Unit × (Bool × (TA4 × (TA1 × Unit)))))).bind fun r6 =>
 cond r6.2.2.1
 (some ((false, ([], ([], ()))), 3, ()))
 ((exact_parse v1.1).bind fun v7 =>
 (exact_parse r6.2.2.2.1.2.1).bind fun v8 =>
 (exact_common v7.1 v8.1).bind fun v9 =>
 (exact_nat__one v9.1).bind fun v10 =>
 cond (!v10.1)
 (some ((false, ([], ([], ()))), 4, ()))
 (some ((v1.2.1, (v7.1, v8)), 0, ()))))
def exact_Check (a0 : TA4) : Option (Int × Unit) :=
 (exact_read a0).bind fun v1 =>
 some v1.2
def value_FaultText (a0 : Int) : Option (Str × Unit) :=
 (cond (decide (a0 < 1))
 (some (true, ()))
 (some ((decide (9 <= a0)), ())) : Option TA5).bind fun r1 =>
 cond r1.1
 (some ([], ()))
 ((idx ([[], [35, 68, 73, 86, 47, 48, 33], [35, 86, 65, 76, 85, 69, 33], [35, 82, 69, 70, 33], [35, 78, 65, 77, 69, 63], [35, 78, 85, 77, 33], [35, 78, 47, 65], [35, 83, 80, 73, 76, 76, 33], [35, 67, 89, 67, 76, 69, 33]] : (List Str)) a0).bind fun v2 =>
 some (v2, ()))
def value_array_l1 (r1 : TA14) (rec : TA0 -> Option (Int × Unit)) (p1 : (Int × Unit)) : Option ((Int × Unit) ⊕ TA18) :=
 cond (decide (p1.1 < (r1.2.2.1.2.2.2.2.2.2.2.2.1.length : Int)))
 ((idx r1.2.2.1.2.2.2.2.2.2.2.2.1 p1.1).bind fun v4 =>
 cond (decide (v4.data.1 = 5))
 (some (.inr (.inr (8, ()))))
 (let v5 : TA0 := (tn v4)
 (rec v5).bind fun v6 =>
 cond (!decide (v6.1 = 0))
 (some (.inr (.inr v6)))
 (some (.inl (IntKind.i64.wrap (p1.1 + 1), ())))))
 (some (.inr (.inl (()))))
def value_array (rec : TA0 -> Option (Int × Unit)) (a0 : TA0) : Option (Int × Unit) :=
 (cond (decide (a0.data.2.2.2.2.2.1 < 1))
 (some ((), true, (a0.data.1, (a0.data.2.1.1, (a0.data.2.1.2.1, (a0.data.2.2.1, (a0.data.2.2.2.1, (a0.data.2.2.2.2.1, (a0.data.2.2.2.2.2.1, (a0.data.2.2.2.2.2.2.1, (a0.kids, ()))))))))), ()))
 (cond ((decide (100000 < a0.data.2.2.2.2.2.1)))
 (some ((), true, (a0.data.1, (a0.data.2.1.1, (a0.data.2.1.2.1, (a0.data.2.2.1, (a0.data.2.2.2.1, (a0.data.2.2.2.2.1, (a0.data.2.2.2.2.2.1, (a0.data.2.2.2.2.2.2.1, (a0.kids, ()))))))))), ()))
 (cond ((decide (a0.data.2.2.2.2.2.2.1 < 1)))
 (some ((), true, (a0.data.1, (a0.data.2.1.1, (a0.data.2.1.2.1, (a0.data.2.2.1, (a0.data.2.2.2.1, (a0.data.2.2.2.2.1, (a0.data.2.2.2.2.2.1, (a0.data.2.2.2.2.2.2.1, (a0.kids, ()))))))))), ()))
 (some ((), (decide (100000 < a0.data.2.2.2.2.2.2.1)), (a0.data.1, (a0.data.2.1.1, (a0.data.2.1.2.1, (a0.data.2.2.1, (a0.data.2.2.2.1, (a0.data.2.2.2.2.1, (a0.data.2.2.2.2.2.1, (a0.data.2.2.2.2.2.2.1, (a0.kids, ()))))))))), ())))) : Option TA14).bind fun r1 =>
 cond r1.2.1
 (some (2, ()))
 (let v2 : Int := IntKind.i64.wrap (r1.2.2.1.2.2.2.2.2.2.1 * r1.2.2.1.2.2.2.2.2.2.2.1)
 cond (decide (100000 < v2))
 (some (3, ()))
 (let v3 : Int := IntKind.i64.wrap (r1.2.2.1.2.2.2.2.2.2.1 * r1.2.2.1.2.2.2.2.2.2.2.1)
 cond (!decide ((r1.2.2.1.2.2.2.2.2.2.2.2.1.length : Int) = v3))
 (some (4, ()))
 ((loop (value_array_l1 r1 rec) (0, ())).bind fun r7 =>
 (match r7 with
 | .inl _ => (some (0, ()))
 | .inr z9 => (some z9)))))
def value_Check_s (rec : TA0 -> Option (Int × Unit)) (a0 : TA0) : Option (Int × Unit) :=
 (cond (decide (a0.data.1 < 0))
 (some ((), true, (a0.data.1, (a0.data.2.1.1, (a0.data.2.1.2.1, (a0.data.2.2.1, (a0.data.2.2.2.1, (a0.data.2.2.2.2.1, (a0.data.2.2.2.2.2.1, (a0.data.2.2.2.2.2.2.1, (a0.kids, ()))))))))), ()))
 (some ((), (decide (5 < a0.data.1)), (a0.data.1, (a0.data.2.1.1, (a0.data.2.1.2.1, (a0.data.2.2.1, (a0.data.2.2.2.1, (a0.data.2.2.2.2.1, (a0.data.2.2.2.2.2.1, (a0.data.2.2.2.2.2.2.1, (a0.kids, ()))))))))), ())) : Option TA14).bind fun r1 =>
 cond r1.2.1
 (some (8, ()))
 (let v2 : TA0 := (Tree.node (r1.2.2.1.1, ((r1.2.2.1.2.1, (r1.2.2.1.2.2.1, ())), (r1.2.2.1.2.2.2.1, (r1.2.2.1.2.2.2.2.1, (r1.2.2.1.2.2.2.2.2.1, (r1.2.2.1.2.2.2.2.2.2.1, (r1.2.2.1.2.2.2.2.2.2.2.1, ()))))))) r1.2.2.1.2.2.2.2.2.2.2.2.1)
 (value_zeros v2).bind fun v3 =>
 cond (!decide (v3.1 = 0))
 (some v3)
 ((cond (decide (r1.2.2.1.1 = 1))
 ((exact_Check (r1.2.2.1.2.1, (r1.2.2.1.2.2.1, ()))).bind fun v4 =>
 some (.inr v4))
 (cond (decide (r1.2.2.1.1 = 2))
 ((value_text r1.2.2.1.2.2.2.1).bind fun v5 =>
 some (.inr v5))
 (cond (decide (r1.2.2.1.1 = 4))
 ((value_FaultText r1.2.2.1.2.2.2.2.2.1).bind fun v6 =>
 cond (decide (v6.1 = []))
 (some (.inr (2, ())))
 (some (.inl (()))))
 (cond (decide (r1.2.2.1.1 = 5))
 (let v7 : TA0 := (Tree.node (r1.2.2.1.1, ((r1.2.2.1.2.1, (r1.2.2.1.2.2.1, ())), (r1.2.2.1.2.2.2.1, (r1.2.2.1.2.2.2.2.1, (r1.2.2.1.2.2.2.2.2.1, (r1.2.2.1.2.2.2.2.2.2.1, (r1.2.2.1.2.2.2.2.2.2.2.1, ()))))))) r1.2.2.1.2.2.2.2.2.2.2.2.1)
 (value_array rec v7).bind fun v8 =>
 some (.inr v8))
 (some (.inl (())))))) : Option TA18).bind fun r9 =>
 (match r9 with
 | .inl _ => (some (0, ()))
 | .inr z11 => (some z11))))
def value_Check_f : Nat -> TA0 -> Option (Int × Unit)
 | 0 => fun _ => none
 | n + 1 => value_Check_s (value_Check_f n)
def value_Check (a0 : TA0) : Option (Int × Unit) := value_Check_f rounds a0
def value_valid (a0 : TA0) : Option (TA0 × Unit) :=
 let v1 : TA0 := (tn a0)
 (value_Check v1).bind fun v2 =>
 cond (!decide (v2.1 = 0))
 (some ((Tree.node (4, (([], ([], ())), ([], (false, (2, (0, (0, ()))))))) []), ()))
 (let v3 : TA0 := (tn a0)
 some ((tn v3), ()))
def value_Fault (a0 : Int) : Option (TA0 × Unit) :=
 (value_valid (Tree.node (4, ([], ([], ())), [], false, a0, 0, 0, ()) [])).bind fun v1 =>
 some ((tn v1.1), ())
def value_Text (a0 : Str) : Option (TA0 × Unit) :=
 (value_valid (Tree.node (2, ([], ([], ())), a0, false, 0, 0, 0, ()) [])).bind fun v1 =>
 some ((tn v1.1), ())
def value_Lower_l1 (a0 : Str) (p1 : (Unit × TA8)) : Option ((Unit × TA8) ⊕ (Unit × TA3)) :=
 cond (decide (p1.2.2.1 < ((strBytes a0).length : Int)))
 (((chk (inb p1.2.2.1 p1.2.2.2.1.length)).bind fun _ =>
 (cond (decide ((65 : Int) <= (p1.2.2.2.1.getD p1.2.2.1.toNat 0)))
 (let v1 : Bool := (decide ((p1.2.2.2.1.getD p1.2.2.1.toNat 0) <= 90))
 some ((), (), v1, p1.2.2.2.1, ()))
 (some ((), (), false, p1.2.2.2.1, ())) : Option (Unit × (Unit × (Bool × TA3)))).bind fun r2 =>
 cond r2.2.2.1
 ((chk (inb p1.2.2.1 r2.2.2.2.1.length)).bind fun _ =>
 (chk (inb p1.2.2.1 r2.2.2.2.1.length)).bind fun _ =>
 let v3 : List Int := r2.2.2.2.1.set p1.2.2.1.toNat (IntKind.u8.wrap ((r2.2.2.2.1.getD p1.2.2.1.toNat 0) + 32))
 some ((), (), v3, ()))
 (some ((), (), r2.2.2.2.1, ())) : Option (Unit × (Unit × TA3))).bind fun r4 =>
 some (.inl ((), (), IntKind.i64.wrap (p1.2.2.1 + 1), r4.2.2.1, ())))
 (some (.inr ((), p1.2.2.2.1, ())))
def value_Lower (a0 : Str) : Option (Str × Unit) :=
 (chk (decide (a0.length <= lim))).bind fun _ =>
 (loop (value_Lower_l1 a0) ((), (), 0, strBytes a0, ())).bind fun r5 =>
 some (bytesStr r5.2.1, ())
def value_Bool (a0 : Bool) : Option (TA0 × Unit) :=
 some ((Tree.node (3, (([], ([], ())), ([], (a0, (0, (0, (0, ()))))))) []), ())
def strings_TrimLeft (a0 : Str) (a1 : Str) : Option (Str × Unit) :=
 (cond (decide (a0 = []))
 (some (true, ()))
 (some ((decide (a1 = [])), ())) : Option TA5).bind fun r1 =>
 cond r1.1
 (some (a0, ()))
 ((cond (decide ((a1.length : Int) = 1))
 ((idx a1 0).bind fun v2 =>
 some ((decide ((ofByte v2) < 128)), ()))
 (some (false, ())) : Option TA5).bind fun r3 =>
 cond r3.1
 ((idx a1 0).bind fun v4 =>
 (strings_trimLeftByte a0 (ofByte v4)).bind fun v5 =>
 some v5)
 ((strings_makeASCIISet a1).bind fun v6 =>
 cond v6.2.1
 ((strings_trimLeftASCII a0 v6.1).bind fun v7 =>
 some (v7.1, ()))
 (((sNever [Ty.str, Ty.str] [Ty.str]) (a0, a1, ())).bind fun v8 =>
 some v8)))
def value_digits (a0 : Str) : Option TA4 :=
 (strings_TrimLeft a0 [48, 49, 50, 51, 52, 53, 54, 55, 56, 57]).bind fun v1 =>
 (cut a0 0 (IntKind.i64.wrap ((a0.length : Int) - (v1.1.length : Int)))).bind fun v2 =>
 some (v2, v1.1, ())
def value_grouped_l1 (p1 : TA4) : Option (TA4 ⊕ TA4) :=
 (sHasPrefix (p1.2.1, [44], ())).bind fun v3 =>
 cond v3.1
 ((cut p1.2.1 1 (p1.2.1.length : Int)).bind fun v4 =>
 (value_digits v4).bind fun v5 =>
 cond (!decide ((v5.1.length : Int) = 3))
 (some (.inr p1))
 ((cat p1.1 v5.1).bind fun v6 =>
 some (.inl (v6, v5.2.1, ()))))
 (some (.inr p1))
def value_grouped (a0 : Str) : Option TA4 :=
 (value_digits a0).bind fun v1 =>
 (cond (decide ((v1.1.length : Int) < 1))
 (some (true, ()))
 (some ((decide (3 < (v1.1.length : Int))), ())) : Option TA5).bind fun r2 =>
 cond r2.1
 (some v1)
 ((loop value_grouped_l1 v1).bind fun r7 =>
 some r7)
def exact_run (a0 : Str) : Option TA4 :=
 (strings_TrimLeft a0 [48, 49, 50, 51, 52, 53, 54, 55, 56, 57]).bind fun v1 =>
 (cut a0 0 (IntKind.i64.wrap ((a0.length : Int) - (v1.1.length : Int)))).bind fun v2 =>
 some (v2, v1.1, ())
def exact_exponent (a0 : Str) : Option (Int × TA5) :=
 cond (decide (a0 = []))
 (some (0, true, ()))
 (((idx a0 0).bind fun v1 =>
 cond (!decide ((ofByte v1) = 101))
 ((idx a0 0).bind fun v2 =>
 some ((!decide ((ofByte v2) = 69)), ()))
 (some (false, ())) : Option TA5).bind fun r3 =>
 cond r3.1
 (some (0, false, ()))
 ((cut a0 1 (a0.length : Int)).bind fun v4 =>
 (sHasPrefix (v4, [45], ())).bind fun v5 =>
 ((cond v5.1
 (some (true, ()))
 ((sHasPrefix (v4, [43], ())).bind fun v6 =>
 some (v6.1, ())) : Option TA5).bind fun r7 =>
 cond r7.1
 ((cut v4 1 (v4.length : Int)).bind fun v8 =>
 some (v8, ()))
 (some (v4, ())) : Option (Str × Unit)).bind fun r9 =>
 (exact_run r9.1).bind fun v10 =>
 (cond (decide (v10.1 = []))
 (some (true, ()))
 (cond ((decide (3 < (v10.1.length : Int))))
 (some (true, ()))
 (some ((!decide (v10.2.1 = [])), ()))) : Option TA5).bind fun r11 =>
 cond r11.1
 (some (0, false, ()))
 ((sAtoi (v10.1, ())).bind fun v12 =>
 (cond v5.1
 (some (IntKind.i64.wrap (0 - v12.1), ()))
 (some (v12.1, ())) : Option (Int × Unit)).bind fun r13 =>
 some (r13.1, true, ()))))
def exact_ten (a0 : Int) : Option TA3 :=
 (sRepeat ([48], a0, ())).bind fun v1 =>
 (cat [49] v1.1).bind fun v2 =>
 (exact_parse v2).bind fun v3 =>
 some v3
def exact_number__write (a0 : TA1) : Option TA20 :=
 (exact_nat__zero a0.2.1).bind fun v1 =>
 cond v1.1
 (some (([48], ([49], ())), 0, ()))
 ((exact_common a0.2.1 a0.2.2.1).bind fun v2 =>
 (exact_divide a0.2.1 v2.1).bind fun v3 =>
 (exact_divide a0.2.2.1 v2.1).bind fun v4 =>
 (sNatText (v3.1, ())).bind fun v5 =>
 (sNatText (v4.1, ())).bind fun v6 =>
 (cond (decide (300 < (v5.1.length : Int)))
 (some ((), (), (), true, a0, ([], ([], ())), (v5.1, v6), ()))
 (some ((), (), (), (decide (300 < (v6.1.length : Int))), a0, ([], ([], ())), (v5.1, v6), ())) : Option (Unit × (Unit × (Unit × (Bool × (TA1 × TA17)))))).bind fun r7 =>
 cond r7.2.2.2.1
 (some (([], ([], ())), 19, ()))
 ((cond r7.2.2.2.2.1.1
 ((cat [45] r7.2.2.2.2.2.2.1.1).bind fun v8 =>
 some ((), (), r7.2.2.2.2.2.1, (v8, r7.2.2.2.2.2.2.1.2), ()))
 (some ((), (), r7.2.2.2.2.2.1, r7.2.2.2.2.2.2.1, ())) : Option (Unit × (Unit × TA17))).bind fun r9 =>
 some (r9.2.2.2.1, 0, ())))
def exact_Parse (a0 : Str) : Option TA20 :=
 cond (decide (1000 < (a0.length : Int)))
 (some (([], ([], ())), 3, ()))
 ((sCutPrefix (a0, [45], ())).bind fun v1 =>
 (exact_run v1.1).bind fun v2 =>
 ((sCutPrefix (v2.2.1, [46], ())).bind fun v3 =>
 cond v3.2.1
 ((exact_run v3.1).bind fun v4 =>
 cond (decide (v4.1 = []))
 (some (.inr ((), 10, ([], ([], ())), ())))
 (some (.inl ((), v4.2.1, v4.1, ([], ([], ())), ()))))
 (some (.inl ((), v2.2.1, [], ([], ([], ())), ()))) : Option ((Unit × (Str × (Str × (TA4 × Unit)))) ⊕ (Unit × (Int × (TA4 × Unit))))).bind fun r5 =>
 (match r5 with
 | .inl z6 => ((exact_exponent z6.2.1).bind fun v7 =>
 (cond (decide (v2.1 = []))
 (some ((), true, z6.2.2.2.1, ()))
 (some ((), (!v7.2.1), z6.2.2.2.1, ())) : Option TA11).bind fun r8 =>
 cond r8.2.1
 (some (([], ([], ())), 10, ()))
 ((cat v2.1 z6.2.2.1).bind fun v9 =>
 (exact_parse v9).bind fun v10 =>
 (cond (decide ((IntKind.i64.wrap (v7.1 - (z6.2.2.1.length : Int))) < 0))
 (let v11 : Int := IntKind.i64.wrap (0 - (IntKind.i64.wrap (v7.1 - (z6.2.2.1.length : Int))))
 (exact_ten v11).bind fun v12 =>
 some ((), (), r8.2.2.1, (v1.2.1, (v10.1, v12)), ()))
 ((exact_ten (IntKind.i64.wrap (v7.1 - (z6.2.2.1.length : Int)))).bind fun v13 =>
 (exact_nat__times v10.1 v13.1).bind fun v14 =>
 some ((), (), r8.2.2.1, (v1.2.1, (v14.1, ([1], ()))), ())) : Option (Unit × (Unit × (TA4 × (TA1 × Unit))))).bind fun r15 =>
 (exact_number__write r15.2.2.2.1).bind fun v16 =>
 some (v16.1, v16.2.1, ())))
 | .inr z17 => (some (z17.2.2.1, z17.2.1, ()))))
def exact_Of (a0 : Int) : Option (TA4 × Unit) :=
 (sItoa (a0, ())).bind fun v1 =>
 some ((v1.1, ([49], ())), ())
def exact_both (a0 : TA4) (a1 : TA4) : Option (TA1 × (TA1 × (Int × Unit))) :=
 (exact_read a0).bind fun v1 =>
 cond (!decide (v1.2.1 = 0))
 (some (v1.1, v1.1, v1.2.1, ()))
 ((exact_read a1).bind fun v2 =>
 some (v1.1, v2.1, v2.2.1, ()))
def exact_Div_1 (a0 : TA1) (a1 : TA1) : Option (TA1 × (Int × Unit)) :=
 (exact_nat__zero a1.2.1).bind fun v1 =>
 cond v1.1
 (some ((false, ([], ([], ()))), 1, ()))
 ((exact_nat__times a0.2.1 a1.2.2.1).bind fun v2 =>
 (exact_nat__times a0.2.2.1 a1.2.1).bind fun v3 =>
 some ((!(a0.1 == a1.1), (v2.1, v3)), 0, ()))
def exact_two_Div_1 (a0 : TA4) (a1 : TA4) : Option TA20 :=
 (exact_both a0 a1).bind fun v1 =>
 cond (!decide (v1.2.2.1 = 0))
 (some (([], ([], ())), v1.2.2.1, ()))
 ((exact_Div_1 v1.1 v1.2.1).bind fun v2 =>
 cond (!decide (v2.2.1 = 0))
 (some (([], ([], ())), v2.2.1, ()))
 ((exact_number__write v2.1).bind fun v3 =>
 some (v3.1, v3.2.1, ())))
def exact_Div (a0 : TA4) (a1 : TA4) : Option TA20 :=
 (exact_two_Div_1 a0 a1).bind fun v1 =>
 some (v1.1, v1.2.1, ())
def value_number (a0 : Str) : Option (TA4 × TA5) :=
 (((idx a0 0).bind fun v1 =>
 cond (decide ((ofByte v1) = 43))
 (some ((), true, ([], ([], ())), ()))
 ((idx a0 0).bind fun v2 =>
 some ((), (decide ((ofByte v2) = 45)), ([], ([], ())), ())) : Option TA11).bind fun r3 =>
 cond r3.2.1
 ((cut a0 0 1).bind fun v4 =>
 (sTrimPrefix (v4, [43], ())).bind fun v5 =>
 (cut a0 1 (a0.length : Int)).bind fun v6 =>
 some (v6, (), v5.1, r3.2.2.1, ()))
 (some (a0, (), [], r3.2.2.1, ())) : Option (Str × (Unit × (Str × (TA4 × Unit))))).bind fun r7 =>
 (value_grouped r7.1).bind fun v8 =>
 (sCutSuffix (v8.2.1, [37], ())).bind fun v9 =>
 cond (decide (v8.1 = []))
 (some (([], ([], ())), false, ()))
 ((cat r7.2.2.1 v8.1).bind fun v10 =>
 (cat v10 v9.1).bind fun v11 =>
 (exact_Parse v11).bind fun v12 =>
 ((cond (decide (v12.2.1 = 0))
 (some ((), (), v9.2.1, r7.2.2.2.1, v12.1, ()))
 (some ((), (), false, r7.2.2.2.1, v12.1, ())) : Option (Unit × (Unit × (Bool × TA17)))).bind fun r13 =>
 cond r13.2.2.1
 ((exact_Of 100).bind fun v14 =>
 (exact_Div r13.2.2.2.2.1 v14.1).bind fun v15 =>
 some ((), (), v15.2.1, r13.2.2.2.1, v15.1, ()))
 (some ((), (), v12.2.1, r13.2.2.2.1, r13.2.2.2.2.1, ())) : Option (Unit × (Unit × (Int × TA17)))).bind fun r16 =>
 some (r16.2.2.2.2.1, decide (r16.2.2.1 = 0), ()))
def value_Number (a0 : TA4) : Option (TA0 × Unit) :=
 let v1 : TA0 := (Tree.node (1, a0, [], false, 0, 0, 0, ()) [])
 (value_valid v1).bind fun v2 =>
 some ((tn v2.1), ())
def stringslite_Cut (a0 : Str) (a1 : Str) : Option (Str × (Str × TA5)) :=
 (sIndex (a0, a1, ())).bind fun v1 =>
 cond (decide (0 <= v1.1))
 ((cut a0 0 v1.1).bind fun v2 =>
 (cut a0 (IntKind.i64.wrap (v1.1 + (a1.length : Int))) (a0.length : Int)).bind fun v3 =>
 some (v2, v3, true, ()))
 (some (a0, [], false, ()))
def strings_Cut (a0 : Str) (a1 : Str) : Option (Str × (Str × TA5)) :=
 (stringslite_Cut a0 a1).bind fun v1 =>
 some v1
def value_whole (a0 : Str) : Option (TA4 × TA5) :=
 (value_digits a0).bind fun v1 =>
 (cond (decide (v1.1 = []))
 (some ((), true, ([], ([], ())), ()))
 (cond ((!decide (v1.2.1 = [])))
 (some ((), true, ([], ([], ())), ()))
 (some ((), (decide (100 < (v1.1.length : Int))), ([], ([], ())), ()))) : Option TA11).bind fun r2 =>
 cond r2.2.1
 (some (([], ([], ())), false, ()))
 ((exact_Parse a0).bind fun v3 =>
 some (v3.1, decide (v3.2.1 = 0), ()))
def exact_nat__plus_l1 (a0 : (List Int)) (a1 : (List Int)) (p1 : TA6) : Option (TA6 ⊕ (Unit × TA3)) :=
 (cond (decide (p1.2.2.1 < (a0.length : Int)))
 (some ((), true, p1.2.2.2.1, ()))
 (cond ((decide (p1.2.2.1 < (a1.length : Int))))
 (some ((), true, p1.2.2.2.1, ()))
 (some ((), (decide (0 < p1.2.1)), p1.2.2.2.1, ()))) : Option (Unit × (Bool × TA3))).bind fun r3 =>
 cond r3.2.1
 ((cond (decide (p1.2.2.1 < (a0.length : Int)))
 ((idx a0 p1.2.2.1).bind fun v4 =>
 some ((), IntKind.u32.wrap (p1.2.1 + v4), r3.2.2.1, ()))
 (some ((), p1.2.1, r3.2.2.1, ())) : Option TA8).bind fun r5 =>
 (cond (decide (p1.2.2.1 < (a1.length : Int)))
 ((idx a1 p1.2.2.1).bind fun v6 =>
 some ((), IntKind.u32.wrap (r5.2.1 + v6), r5.2.2.1, ()))
 (some ((), r5.2.1, r5.2.2.1, ())) : Option TA8).bind fun r7 =>
 (rem r7.2.1 1000000000).bind fun v8 =>
 (cat r7.2.2.1 [v8]).bind fun v9 =>
 (quo .u32 r7.2.1 1000000000).bind fun v10 =>
 some (.inl ((), v10, IntKind.i64.wrap (p1.2.2.1 + 1), v9, ())))
 (some (.inr ((), r3.2.2.1, ())))
def exact_nat__plus (a0 : (List Int)) (a1 : (List Int)) : Option TA3 :=
 let v1 : Int := IntKind.i64.wrap ((mx (a0.length : Int) (a1.length : Int)) + 1)
 (mk 0 v1 0).bind fun v2 =>
 (loop (exact_nat__plus_l1 a0 a1) ((), 0, 0, v2, ())).bind fun r11 =>
 some r11.2
def exact_sum (a0 : TA1) (a1 : TA1) : Option (TA1 × Unit) :=
 (exact_nat__times a0.2.1 a1.2.2.1).bind fun v1 =>
 (exact_nat__times a1.2.1 a0.2.2.1).bind fun v2 =>
 (exact_nat__times a0.2.2.1 a1.2.2.1).bind fun v3 =>
 cond (a0.1 == a1.1)
 ((exact_nat__plus v1.1 v2.1).bind fun v4 =>
 some ((a0.1, (v4.1, v3)), ()))
 ((exact_nat__compare v1.1 v2.1).bind fun v5 =>
 cond (decide (0 <= v5.1))
 ((exact_nat__minus v1.1 v2.1).bind fun v6 =>
 some ((a0.1, (v6.1, v3)), ()))
 ((exact_nat__minus v2.1 v1.1).bind fun v7 =>
 some ((a1.1, (v7.1, v3)), ())))
def exact_Add_1 (a0 : TA1) (a1 : TA1) : Option (TA1 × (Int × Unit)) :=
 (exact_sum a0 a1).bind fun v1 =>
 some (v1.1, 0, ())
def exact_two_Add_1 (a0 : TA4) (a1 : TA4) : Option TA20 :=
 (exact_both a0 a1).bind fun v1 =>
 cond (!decide (v1.2.2.1 = 0))
 (some (([], ([], ())), v1.2.2.1, ()))
 ((exact_Add_1 v1.1 v1.2.1).bind fun v2 =>
 cond (!decide (v2.2.1 = 0))
 (some (([], ([], ())), v2.2.1, ()))
 ((exact_number__write v2.1).bind fun v3 =>
 some (v3.1, v3.2.1, ())))
def exact_Add (a0 : TA4) (a1 : TA4) : Option TA20 :=
 (exact_two_Add_1 a0 a1).bind fun v1 =>
 some (v1.1, v1.2.1, ())
def exact_Neg (a0 : TA4) : Option TA20 :=
 (exact_read a0).bind fun v1 =>
 cond (!decide (v1.2.1 = 0))
 (some (([], ([], ())), v1.2.1, ()))
 ((exact_number__write (!v1.1.1, v1.1.2)).bind fun v2 =>
 some (v2.1, v2.2.1, ()))
def value_mixed (a0 : Str) : Option (TA4 × TA5) :=
 (sCutPrefix (a0, [45], ())).bind fun v1 =>
 (strings_Cut v1.1 [32]).bind fun v2 =>
 (strings_Cut v2.2.1 [47]).bind fun v3 =>
 (value_whole v2.1).bind fun v4 =>
 (value_whole v3.1).bind fun v5 =>
 (value_whole v3.2.1).bind fun v6 =>
 (cond (!v2.2.2.1)
 (some ((), (), (), (), true, ([], ([], ())), v4.1, v5.1, v6.1, ()))
 (cond ((!v3.2.2.1))
 (some ((), (), (), (), true, ([], ([], ())), v4.1, v5.1, v6.1, ()))
 (cond ((!v4.2.1))
 (some ((), (), (), (), true, ([], ([], ())), v4.1, v5.1, v6.1, ()))
 (cond ((!v5.2.1))
 (some ((), (), (), (), true, ([], ([], ())), v4.1, v5.1, v6.1, ()))
 (some ((), (), (), (), (!v6.2.1), ([], ([], ())), v4.1, v5.1, v6.1, ()))))) : Option (Unit × (Unit × (Unit × (Unit × (Bool × (TA4 × (TA4 × TA17)))))))).bind fun r7 =>
 cond r7.2.2.2.2.1
 (some (([], ([], ())), false, ()))
 ((exact_Div r7.2.2.2.2.2.2.2.1 r7.2.2.2.2.2.2.2.2.1).bind fun v8 =>
 (exact_Add r7.2.2.2.2.2.2.1 v8.1).bind fun v9 =>
 (cond (!decide (v8.2.1 = 0))
 (some ((), (), true, r7.2.2.2.2.2.1, v9.1, ()))
 (some ((), (), (!decide (v9.2.1 = 0)), r7.2.2.2.2.2.1, v9.1, ())) : Option (Unit × (Unit × (Bool × TA17)))).bind fun r10 =>
 cond r10.2.2.1
 (some (([], ([], ())), false, ()))
 ((cond v1.2.1
 ((exact_Neg r10.2.2.2.2.1).bind fun v11 =>
 some ((), (), r10.2.2.2.1, v11.1, ()))
 (some ((), (), r10.2.2.2.1, r10.2.2.2.2.1, ())) : Option (Unit × (Unit × TA17))).bind fun r12 =>
 some (r12.2.2.2.1, true, ())))
def strings_Index (a0 : Str) (a1 : Str) : Option (Int × Unit) :=
 (sIndex (a0, a1, ())).bind fun v1 =>
 some v1
def strings_genSplit_l1 (v5 : Int) (a1 : Str) (a2 : Int) (p1 : (Str × (Unit × (Int × TA19)))) : Option ((Str × (Unit × (Int × TA19))) ⊕ (Str × (Unit × (Int × TA19)))) :=
 cond (decide (p1.2.2.1 < v5))
 ((strings_Index p1.1 a1).bind fun v6 =>
 cond (decide (v6.1 < 0))
 (some (.inr (p1.1, (), p1.2.2.1, p1.2.2.2.1, ())))
 ((cut p1.1 0 (IntKind.i64.wrap (v6.1 + a2))).bind fun v7 =>
 (chk (inb p1.2.2.1 p1.2.2.2.1.length)).bind fun _ =>
 let v8 : List Str := p1.2.2.2.1.set p1.2.2.1.toNat v7
 (cut p1.1 (IntKind.i64.wrap (v6.1 + (a1.length : Int))) (p1.1.length : Int)).bind fun v9 =>
 some (.inl (v9, (), IntKind.i64.wrap (p1.2.2.1 + 1), v8, ()))))
 (some (.inr (p1.1, (), p1.2.2.1, p1.2.2.2.1, ())))
def strings_genSplit (a0 : Str) (a1 : Str) (a2 : Int) (a3 : Int) : Option TA19 :=
 cond (decide (a3 = 0))
 (some ([], ()))
 (cond (decide (a1 = []))
 (((sNever [Ty.str, (Ty.int .i64)] [(Ty.sl .str)]) (a0, a3, ())).bind fun v1 =>
 some v1)
 ((cond (decide (a3 < 0))
 ((sCount (a0, a1, ())).bind fun v2 =>
 some (IntKind.i64.wrap (v2.1 + 1), ()))
 (some (a3, ())) : Option (Int × Unit)).bind fun r3 =>
 (mk (mn r3.1 (IntKind.i64.wrap ((a0.length : Int) + 1))) (mn r3.1 (IntKind.i64.wrap ((a0.length : Int) + 1))) []).bind fun v4 =>
 let v5 : Int := IntKind.i64.wrap ((mn r3.1 (IntKind.i64.wrap ((a0.length : Int) + 1))) - 1)
 (loop (strings_genSplit_l1 v5 a1 a2) (a0, (), 0, v4, ())).bind fun r10 =>
 (chk (inb r10.2.2.1 r10.2.2.2.1.length)).bind fun _ =>
 let v11 : List Str := r10.2.2.2.1.set r10.2.2.1.toNat r10.1
 (cut v11 0 (IntKind.i64.wrap (r10.2.2.1 + 1))).bind fun v12 =>
 some (v12, ())))
def strings_Split (a0 : Str) (a1 : Str) : Option TA19 :=
 (strings_genSplit a0 a1 0 (-1)).bind fun v1 =>
 some v1
def value_count (a0 : Str) (a1 : Int) : Option (Int × TA5) :=
 (value_digits a0).bind fun v1 =>
 (sAtoi (v1.1, ())).bind fun v2 =>
 cond (decide ((v1.1.length : Int) = a1))
 (cond ((decide (v1.2.1 = [])))
 (some (v2.1, (v2.2.1 == false), ()))
 (some (v2.1, false, ())))
 (some (v2.1, false, ()))
def value_lengths (a0 : Int) : Option TA3 :=
 (((rem a0 4).bind fun v1 =>
 cond (decide (v1 = 0))
 ((rem a0 100).bind fun v2 =>
 cond (!decide (v2 = 0))
 (some ((), (), true, (List.replicate 12 0), [31, 28, 31, 30, 31, 30, 31, 31, 30, 31, 30, 31], ()))
 ((rem a0 400).bind fun v3 =>
 some ((), (), ((decide (v3 = 0))), (List.replicate 12 0), [31, 28, 31, 30, 31, 30, 31, 31, 30, 31, 30, 31], ())))
 (some ((), (), false, (List.replicate 12 0), [31, 28, 31, 30, 31, 30, 31, 31, 30, 31, 30, 31], ())) : Option (Unit × (Unit × TA1))).bind fun r4 =>
 cond r4.2.2.1
 ((chk (inb 1 12)).bind fun _ =>
 let v5 : List Int := r4.2.2.2.2.1.set (1 : Int).toNat 29
 some ((), (), r4.2.2.2.1, v5, ()))
 (some ((), (), r4.2.2.2.1, r4.2.2.2.2.1, ())) : Option (Unit × (Unit × TA16))).bind fun r6 =>
 some r6.2.2.2
def value_before (a0 : Int) : Option (Int × Unit) :=
 (quo .i64 (IntKind.i64.wrap (a0 - 1)) 4).bind fun v1 =>
 let v2 : Int := IntKind.i64.wrap ((IntKind.i64.wrap (365 * (IntKind.i64.wrap (a0 - 1900)))) + v1)
 (quo .i64 (IntKind.i64.wrap (a0 - 1)) 100).bind fun v3 =>
 (quo .i64 (IntKind.i64.wrap (a0 - 1)) 400).bind fun v4 =>
 let v5 : Int := IntKind.i64.wrap ((IntKind.i64.wrap ((IntKind.i64.wrap (v2 - v3)) + v4)) - 460)
 some (v5, ())
def value_Day_l1 (v6 : (List Int)) (p1 : (Int × TA8)) : Option ((Int × TA8) ⊕ (Int × Unit)) :=
 cond (decide (p1.2.2.1 < (v6.length : Int)))
 ((chk (inb p1.2.2.1 p1.2.2.2.1.length)).bind fun _ =>
 let v7 : Int := IntKind.i64.wrap (p1.1 + (p1.2.2.2.1.getD p1.2.2.1.toNat 0))
 some (.inl (v7, (), IntKind.i64.wrap (p1.2.2.1 + 1), p1.2.2.2.1, ())))
 (some (.inr (p1.1, ())))
def value_Day (a0 : Int) (a1 : Int) (a2 : Int) : Option (Int × TA5) :=
 (cond (decide (a0 < 1900))
 (some (true, ()))
 (cond ((decide (9999 < a0)))
 (some (true, ()))
 (cond ((decide (a1 < 1)))
 (some (true, ()))
 (some ((decide (12 < a1)), ())))) : Option TA5).bind fun r1 =>
 cond r1.1
 (some (0, false, ()))
 ((value_lengths a0).bind fun v2 =>
 (cond (decide (a2 < 1))
 (some ((), true, v2.1, ()))
 ((chk (inb (IntKind.i64.wrap (a1 - 1)) 12)).bind fun _ =>
 let v3 : Bool := (decide ((v2.1.getD (IntKind.i64.wrap (a1 - 1)).toNat 0) < a2))
 some ((), v3, v2.1, ())) : Option (Unit × (Bool × TA3))).bind fun r4 =>
 cond r4.2.1
 (some (0, false, ()))
 ((value_before a0).bind fun v5 =>
 (cut r4.2.2.1 0 (IntKind.i64.wrap (a1 - 1))).bind fun v6 =>
 (loop (value_Day_l1 v6) (IntKind.i64.wrap (v5.1 + a2), (), 0, v6, ())).bind fun r8 =>
 some (r8.1, true, ())))
def value_date (a0 : Str) : Option (TA4 × TA5) :=
 (strings_Split a0 [45]).bind fun v1 =>
 cond (!decide ((v1.1.length : Int) = 3))
 (some (([], ([], ())), false, ()))
 ((idx v1.1 0).bind fun v2 =>
 (value_count v2 4).bind fun v3 =>
 (idx v1.1 1).bind fun v4 =>
 (value_count v4 2).bind fun v5 =>
 (idx v1.1 2).bind fun v6 =>
 (value_count v6 2).bind fun v7 =>
 (value_Day v3.1 v5.1 v7.1).bind fun v8 =>
 (exact_Of v8.1).bind fun v9 =>
 cond v3.2.1
 (cond (v5.2.1)
 (cond (v7.2.1)
 (some (v9.1, v8.2.1, ()))
 (some (v9.1, false, ())))
 (some (v9.1, false, ())))
 (some (v9.1, false, ())))
def value_clock (a0 : Str) : Option (TA4 × TA5) :=
 (strings_Split a0 [58]).bind fun v1 =>
 (cond (decide ((v1.1.length : Int) < 2))
 (some ((), true, ([], ([], ())), ()))
 (some ((), (decide (3 < (v1.1.length : Int))), ([], ([], ())), ())) : Option TA11).bind fun r2 =>
 cond r2.2.1
 (some (([], ([], ())), false, ()))
 ((idx v1.1 0).bind fun v3 =>
 (idx v1.1 0).bind fun v4 =>
 (value_count v3 (v4.length : Int)).bind fun v5 =>
 (idx v1.1 1).bind fun v6 =>
 (value_count v6 2).bind fun v7 =>
 (cond (!v5.2.1)
 (some ((), true, r2.2.2.1, ()))
 (cond ((!v7.2.1))
 (some ((), true, r2.2.2.1, ()))
 ((idx v1.1 0).bind fun v8 =>
 cond ((decide (2 < (v8.length : Int))))
 (some ((), true, r2.2.2.1, ()))
 (cond ((decide (23 < v5.1)))
 (some ((), true, r2.2.2.1, ()))
 (some ((), (decide (59 < v7.1)), r2.2.2.1, ()))))) : Option TA11).bind fun r9 =>
 cond r9.2.1
 (some (([], ([], ())), false, ()))
 (let v10 : Int := IntKind.i64.wrap ((IntKind.i64.wrap (3600 * v5.1)) + (IntKind.i64.wrap (60 * v7.1)))
 (exact_Of v10).bind fun v11 =>
 (cond (decide ((v1.1.length : Int) = 3))
 ((idx v1.1 2).bind fun v12 =>
 (strings_Cut v12 [46]).bind fun v13 =>
 (value_count v13.1 2).bind fun v14 =>
 (value_digits v13.2.1).bind fun v15 =>
 (cond (!v14.2.1)
 (some ((), (), true, r9.2.2.1, v11.1, ()))
 (cond ((decide (59 < v14.1)))
 (some ((), (), true, r9.2.2.1, v11.1, ()))
 (cond v13.2.2.1
 (cond (decide (v15.1 = []))
 (some ((), (), (true), r9.2.2.1, v11.1, ()))
 (cond ((!decide (v15.2.1 = [])))
 (some ((), (), (true), r9.2.2.1, v11.1, ()))
 (let v16 : Bool := ((decide (9 < (v15.1.length : Int))))
 some ((), (), v16, r9.2.2.1, v11.1, ()))))
 (some ((), (), false, r9.2.2.1, v11.1, ())))) : Option (Unit × (Unit × (Bool × TA17)))).bind fun r17 =>
 cond r17.2.2.1
 (some (.inr ((), false, ([], ([], ())), ())))
 ((idx v1.1 2).bind fun v18 =>
 (exact_Parse v18).bind fun v19 =>
 (exact_Add r17.2.2.2.2.1 v19.1).bind fun v20 =>
 some (.inl ((), (), r17.2.2.2.1, v20.1, ()))))
 (some (.inl ((), (), r9.2.2.1, v11.1, ()))) : Option ((Unit × (Unit × TA17)) ⊕ TA11)).bind fun r21 =>
 (match r21 with
 | .inl z22 => ((exact_Of 86400).bind fun v23 =>
 (exact_Div z22.2.2.2.1 v23.1).bind fun v24 =>
 some (v24.1, decide (v24.2.1 = 0), ()))
 | .inr z25 => (some (z25.2.2.1, z25.2.1, ())))))
def value_instant (a0 : Str) : Option (TA4 × TA5) :=
 (strings_Cut a0 [32]).bind fun v1 =>
 (value_date v1.1).bind fun v2 =>
 (value_clock v1.2.1).bind fun v3 =>
 (exact_Add v2.1 v3.1).bind fun v4 =>
 cond v1.2.2.1
 (cond (v2.2.1)
 (cond (v3.2.1)
 (some (v4.1, (decide (v4.2.1 = 0)), ()))
 (some (v4.1, false, ())))
 (some (v4.1, false, ())))
 (some (v4.1, false, ()))
def value_Enter_l1 (a0 : Str) (p1 : (Unit × (Int × TA2))) : Option ((Unit × (Int × TA2)) ⊕ ((Unit × TA2) ⊕ (Unit × TA2))) :=
 cond (decide (p1.2.1 < 9))
 ((idx ([[], [35, 68, 73, 86, 47, 48, 33], [35, 86, 65, 76, 85, 69, 33], [35, 82, 69, 70, 33], [35, 78, 65, 77, 69, 63], [35, 78, 85, 77, 33], [35, 78, 47, 65], [35, 83, 80, 73, 76, 76, 33], [35, 67, 89, 67, 76, 69, 33]] : (List Str)) p1.2.1).bind fun v8 =>
 (cond (decide (0 < p1.2.1))
 (some ((), (decide (a0 = v8)), p1.2.2.1, ()))
 (some ((), false, p1.2.2.1, ())) : Option TA14).bind fun r9 =>
 cond r9.2.1
 ((value_Fault p1.2.1).bind fun v10 =>
 some (.inr (.inr ((), (v10.1.data.1, (v10.1.data.2.1.1, (v10.1.data.2.1.2.1, (v10.1.data.2.2.1, (v10.1.data.2.2.2.1, (v10.1.data.2.2.2.2.1, (v10.1.data.2.2.2.2.2.1, (v10.1.data.2.2.2.2.2.2.1, (v10.1.kids, ()))))))))), ()))))
 (some (.inl ((), IntKind.i64.wrap (p1.2.1 + 1), r9.2.2.1, ()))))
 (some (.inr (.inl ((), p1.2.2.1, ()))))
def value_Enter (a0 : Str) : Option (TA0 × Unit) :=
 cond (decide (a0 = []))
 (some ((Tree.node (0, (([], ([], ())), ([], (false, (0, (0, (0, ()))))))) []), ()))
 ((value_text a0).bind fun v1 =>
 cond (!decide (v1.1 = 0))
 ((value_Fault 2).bind fun v2 =>
 some ((tn v2.1), ()))
 ((sCutPrefix (a0, [39], ())).bind fun v3 =>
 cond v3.2.1
 ((value_Text v3.1).bind fun v4 =>
 some ((tn v4.1), ()))
 ((value_Lower a0).bind fun v5 =>
 (cond (decide (v5.1 = [116, 114, 117, 101]))
 (some ((), true, (0, ([], ([], ([], (false, (0, (0, (0, ([], ()))))))))), ()))
 (some ((), (decide (v5.1 = [102, 97, 108, 115, 101])), (0, ([], ([], ([], (false, (0, (0, (0, ([], ()))))))))), ())) : Option TA14).bind fun r6 =>
 cond r6.2.1
 ((value_Bool (decide (v5.1 = [116, 114, 117, 101]))).bind fun v7 =>
 some ((tn v7.1), ()))
 ((loop (value_Enter_l1 a0) ((), 0, r6.2.2.1, ())).bind fun r11 =>
 (match r11 with
 | .inl _ => ((value_number a0).bind fun v13 =>
 cond v13.2.1
 ((value_Number v13.1).bind fun v14 =>
 some ((tn v14.1), ()))
 ((value_mixed a0).bind fun v15 =>
 cond v15.2.1
 ((value_Number v15.1).bind fun v16 =>
 some ((tn v16.1), ()))
 ((value_date a0).bind fun v17 =>
 cond v17.2.1
 ((value_Number v17.1).bind fun v18 =>
 some ((tn v18.1), ()))
 ((value_clock a0).bind fun v19 =>
 cond v19.2.1
 ((value_Number v19.1).bind fun v20 =>
 some ((tn v20.1), ()))
 ((value_instant a0).bind fun v21 =>
 cond v21.2.1
 ((value_Number v21.1).bind fun v22 =>
 some ((tn v22.1), ()))
 ((value_Text a0).bind fun v23 =>
 some ((tn v23.1), ())))))))
 | .inr z24 => (some ((Tree.node (z24.2.1.1, ((z24.2.1.2.1, (z24.2.1.2.2.1, ())), (z24.2.1.2.2.2.1, (z24.2.1.2.2.2.2.1, (z24.2.1.2.2.2.2.2.1, (z24.2.1.2.2.2.2.2.2.1, (z24.2.1.2.2.2.2.2.2.2.1, ()))))))) z24.2.1.2.2.2.2.2.2.2.2.1), ())))))))
def api_Value__Same_l1 (a0 : (List TA0)) (a1 : (List TA0)) (rec : TA0 -> TA0 -> Option TA5) (p1 : TA22) : Option (TA22 ⊕ (Unit ⊕ TA5)) :=
 cond (decide (p1.2.1 < (a0.length : Int)))
 ((idx a0 p1.2.1).bind fun v1 =>
 (idx a1 p1.2.1).bind fun v2 =>
 let v3 : TA0 := (tn v1)
 let v4 : TA0 := (tn v2)
 (rec v3 v4).bind fun v5 =>
 cond (!v5.1)
 (some (.inr (.inr (false, ()))))
 (some (.inl ((), IntKind.i64.wrap (p1.2.1 + 1), ()))))
 (some (.inr (.inl (()))))
def api_Value__Same (rec : TA0 -> TA0 -> Option TA5) (a0 : (List TA0)) (a1 : (List TA0)) : Option TA5 :=
 cond (!decide ((a0.length : Int) = (a1.length : Int)))
 (some (false, ()))
 ((loop (api_Value__Same_l1 a0 a1 rec) ((), 0, ())).bind fun r6 =>
 (match r6 with
 | .inl _ => (some (true, ()))
 | .inr z8 => (some z8)))
def value_Same_s (rec : TA0 -> TA0 -> Option TA5) (a0 : TA0) (a1 : TA0) : Option TA5 :=
 let v1 : TA0 := (tn a0)
 let v2 : TA0 := (tn a1)
 cond (decide (v1.data.1 = v2.data.1))
 (let v3 : Bool := (Ty.beq (.pair .str (.pair .str .unit)) (v1.data.2.1.1, (v1.data.2.1.2.1, ())) (v2.data.2.1.1, (v2.data.2.1.2.1, ())))
 cond v3
 (cond ((decide (v1.data.2.2.1 = v2.data.2.2.1)))
 (cond ((v1.data.2.2.2.1 == v2.data.2.2.2.1))
 (let v4 : Bool := (decide (v1.data.2.2.2.2.1 = v2.data.2.2.2.2.1))
 cond v4
 (let v5 : Bool := (decide (v1.data.2.2.2.2.2.1 = v2.data.2.2.2.2.2.1))
 cond v5
 (let v6 : Bool := (decide (v1.data.2.2.2.2.2.2.1 = v2.data.2.2.2.2.2.2.1))
 cond v6
 ((api_Value__Same rec a0.kids a1.kids).bind fun v7 =>
 some (v7.1, ()))
 (some (false, ())))
 (some (false, ())))
 (some (false, ())))
 (some (false, ())))
 (some (false, ())))
 (some (false, ())))
 (some (false, ()))
def value_Same_f : Nat -> TA0 -> TA0 -> Option TA5
 | 0 => fun _ _ => none
 | n + 1 => value_Same_s (value_Same_f n)
def value_Same (a0 : TA0) (a1 : TA0) : Option TA5 := value_Same_f rounds a0 a1
def chancerylaw2_values : Option TA5 :=
 (value_Enter [50, 53, 37]).bind fun v1 =>
 (value_Same v1.1 (Tree.node (1, ([49], [52], ()), [], false, 0, 0, 0, ()) [])).bind fun v2 =>
 some v2
def exact_number__decimal (a0 : TA1) (a1 : Int) : Option (Str × Unit) :=
 (sNatText (a0.2.1, ())).bind fun v1 =>
 let v2 : Int := IntKind.i64.wrap ((IntKind.i64.wrap (a1 + 1)) - (v1.1.length : Int))
 (sRepeat ([48], mx 0 v2, ())).bind fun v3 =>
 (cat v3.1 v1.1).bind fun v4 =>
 (cond (decide (0 < a1))
 ((cut v4 0 (IntKind.i64.wrap ((v4.length : Int) - a1))).bind fun v5 =>
 (cat v5 [46]).bind fun v6 =>
 (cut v4 (IntKind.i64.wrap ((v4.length : Int) - a1)) (v4.length : Int)).bind fun v7 =>
 (cat v6 v7).bind fun v8 =>
 some ((), v8, a0, ()))
 (some ((), v4, a0, ())) : Option TA15).bind fun r9 =>
 ((cond r9.2.2.1.1
 ((exact_nat__zero r9.2.2.1.2.1).bind fun v10 =>
 some ((!v10.1), ()))
 (some (false, ())) : Option TA5).bind fun r11 =>
 cond r11.1
 ((cat [45] r9.2.1).bind fun v12 =>
 some (v12, ()))
 (some (r9.2.1, ())) : Option (Str × Unit)).bind fun r13 =>
 some r13
def exact_Shortest_l1 (p1 : (Unit × (Int × ((List Int) × (TA1 × Unit))))) : Option ((Unit × (Int × ((List Int) × (TA1 × Unit)))) ⊕ (TA13 ⊕ (Str × (Bool × (Int × Unit))))) :=
 (exact_nat__one p1.2.2.1).bind fun v2 =>
 cond (!v2.1)
 ((exact_divide p1.2.2.1 [10]).bind fun v3 =>
 ((exact_nat__zero v3.2.1).bind fun v4 =>
 cond (!v4.1)
 ((exact_common p1.2.2.1 [10]).bind fun v5 =>
 (exact_nat__one v5.1).bind fun v6 =>
 cond v6.1
 (some (.inr ([], false, 0, ())))
 ((exact_divide p1.2.2.1 v5.1).bind fun v7 =>
 some (.inl ((), v7.1, p1.2.2.2.1, ()))))
 (some (.inl ((), v3.1, p1.2.2.2.1, ()))) : Option ((Unit × ((List Int) × (TA1 × Unit))) ⊕ (Str × (Bool × (Int × Unit))))).bind fun r8 =>
 (match r8 with
 | .inl z9 => (some (.inl ((), IntKind.i64.wrap (p1.2.1 + 1), z9.2.1, z9.2.2.1, ())))
 | .inr z10 => (some (.inr (.inr z10)))))
 (some (.inr (.inl ((), p1.2.1, p1.2.2.2.1, ()))))
def exact_Shortest (a0 : TA4) : Option (Str × (Bool × (Int × Unit))) :=
 (exact_read a0).bind fun v1 =>
 cond (!decide (v1.2.1 = 0))
 (some ([], false, v1.2.1, ()))
 ((loop exact_Shortest_l1 ((), 0, v1.1.2.2.1, v1.1, ())).bind fun r11 =>
 (match r11 with
 | .inl z12 => ((exact_ten z12.2.1).bind fun v13 =>
 (exact_nat__times z12.2.2.1.2.1 v13.1).bind fun v14 =>
 (exact_divide v14.1 z12.2.2.1.2.2.1).bind fun v15 =>
 (exact_number__decimal (z12.2.2.1.1, v15.1, [1], ()) z12.2.1).bind fun v16 =>
 some (v16.1, true, 0, ()))
 | .inr z17 => (some z17)))
def exact_number__scaled (a0 : TA1) (a1 : Int) : Option (TA1 × Unit) :=
 (cond (decide (a1 < 0))
 ((exact_ten (IntKind.i64.wrap (0 - a1))).bind fun v1 =>
 (exact_nat__times a0.2.2.1 v1.1).bind fun v2 =>
 some ((), (), (a0.1, (a0.2.1, v2)), (false, ([], ([], ()))), ()))
 ((exact_ten a1).bind fun v3 =>
 (exact_nat__times a0.2.1 v3.1).bind fun v4 =>
 some ((), (), (a0.1, (v4.1, a0.2.2)), (false, ([], ([], ()))), ())) : Option (Unit × (Unit × TA23))).bind fun r5 =>
 some (r5.2.2.1, ())
def exact_number__rounded (a0 : TA1) : Option (TA1 × Unit) :=
 (exact_nat__plus a0.2.1 a0.2.1).bind fun v1 =>
 (exact_nat__plus v1.1 a0.2.2.1).bind fun v2 =>
 (exact_nat__plus a0.2.2.1 a0.2.2.1).bind fun v3 =>
 (exact_divide v2.1 v3.1).bind fun v4 =>
 some ((a0.1, (v4.1, ([1], ()))), ())
def exact_Fixed (a0 : TA4) (a1 : Int) : Option (Str × (Int × Unit)) :=
 (exact_read a0).bind fun v1 =>
 cond (!decide (v1.2.1 = 0))
 (some ([], v1.2.1, ()))
 ((cond (decide (a1 < 0))
 (some ((), true, v1.1, ()))
 (some ((), (decide (100 < a1)), v1.1, ())) : Option TA7).bind fun r2 =>
 cond r2.2.1
 (some ([], 2, ()))
 ((exact_number__scaled r2.2.2.1 a1).bind fun v3 =>
 (exact_number__rounded v3.1).bind fun v4 =>
 (exact_number__scaled v4.1 (IntKind.i64.wrap (0 - a1))).bind fun v5 =>
 (exact_number__write v5.1).bind fun v6 =>
 cond (!decide (v6.2.1 = 0))
 (some ([], v6.2.1, ()))
 ((exact_number__decimal v4.1 a1).bind fun v7 =>
 some (v7.1, 0, ()))))
def strings_TrimRight (a0 : Str) (a1 : Str) : Option (Str × Unit) :=
 (cond (decide (a0 = []))
 (some (true, ()))
 (some ((decide (a1 = [])), ())) : Option TA5).bind fun r1 =>
 cond r1.1
 (some (a0, ()))
 ((cond (decide ((a1.length : Int) = 1))
 ((idx a1 0).bind fun v2 =>
 some ((decide ((ofByte v2) < 128)), ()))
 (some (false, ())) : Option TA5).bind fun r3 =>
 cond r3.1
 ((idx a1 0).bind fun v4 =>
 (strings_trimRightByte a0 (ofByte v4)).bind fun v5 =>
 some v5)
 ((strings_makeASCIISet a1).bind fun v6 =>
 cond v6.2.1
 ((strings_trimRightASCII a0 v6.1).bind fun v7 =>
 some (v7.1, ()))
 (((sNever [Ty.str, Ty.str] [Ty.str]) (a0, a1, ())).bind fun v8 =>
 some v8)))
def value_decimal (a0 : TA4) : Option (Str × Unit) :=
 (exact_Shortest a0).bind fun v1 =>
 (cond v1.2.1
 (some ((), (decide ((v1.1.length : Int) <= 40)), a0, ()))
 (some ((), false, a0, ())) : Option TA11).bind fun r2 =>
 cond r2.2.1
 (some (v1.1, ()))
 ((exact_Fixed r2.2.2.1 12).bind fun v3 =>
 cond (!decide (v3.2.1 = 0))
 ((value_FaultText 5).bind fun v4 =>
 some v4)
 ((strings_TrimRight v3.1 [48]).bind fun v5 =>
 (sTrimSuffix (v5.1, [46], ())).bind fun v6 =>
 some v6))
def value_shown_s (rec : TA0 -> Option (Str × Unit)) (a0 : TA0) : Option (Str × Unit) :=
 cond (decide (a0.data.1 = 1))
 ((value_decimal (a0.data.2.1.1, (a0.data.2.1.2.1, ()))).bind fun v1 =>
 some v1)
 (cond (decide (a0.data.1 = 2))
 (some (a0.data.2.2.1, ()))
 (cond (decide (a0.data.1 = 3))
 (cond a0.data.2.2.2.1
 (some ([84, 82, 85, 69], ()))
 (some ([70, 65, 76, 83, 69], ())))
 (cond (decide (a0.data.1 = 4))
 ((value_FaultText a0.data.2.2.2.2.1).bind fun v2 =>
 some v2)
 (cond (decide (a0.data.1 = 5))
 ((idx a0.kids 0).bind fun v3 =>
 (rec v3).bind fun v4 =>
 some v4)
 (some ([], ()))))))
def value_shown_f : Nat -> TA0 -> Option (Str × Unit)
 | 0 => fun _ => none
 | n + 1 => value_shown_s (value_shown_f n)
def value_shown (a0 : TA0) : Option (Str × Unit) := value_shown_f rounds a0
def value_Show (a0 : TA0) : Option (Str × (Int × Unit)) :=
 let v1 : TA0 := (tn a0)
 (value_Check v1).bind fun v2 =>
 cond (!decide (v2.1 = 0))
 (some ([], v2.1, ()))
 (let v3 : TA0 := (tn a0)
 (value_shown v3).bind fun v4 =>
 some (v4.1, 0, ()))
def chanceryref2_ValueError_1 (a0 : Int) (a1 : Bool) (o0 : Int) (o0_1 : Str) (o0_2 : Str) (o0_3 : Str) (o0_4 : Bool) (o0_5 : Int) (o0_6 : Int) (o0_7 : Int) (o0_8 : (List TA0)) : Option (Bool × (Unit × TA2)) :=
 cond (decide (o0 = a0))
 (some (true, (), (o0, (o0_1, (o0_2, (o0_3, (o0_4, (o0_5, (o0_6, (o0_7, (o0_8, ()))))))))), ()))
 (some (a1, (), (o0, (o0_1, (o0_2, (o0_3, (o0_4, (o0_5, (o0_6, (o0_7, (o0_8, ()))))))))), ()))
def chanceryref2_Digits_l1 (a0 : Str) (p1 : (Int × Unit)) : Option ((Int × Unit) ⊕ (Unit ⊕ TA5)) :=
 cond (decide (p1.1 < (a0.length : Int)))
 (((idx a0 p1.1).bind fun v1 =>
 cond (decide ((ofByte v1) < 48))
 (some (true, ()))
 ((idx a0 p1.1).bind fun v2 =>
 some ((decide (57 < (ofByte v2))), ())) : Option TA5).bind fun r3 =>
 cond r3.1
 (some (.inr (.inr (false, ()))))
 (some (.inl (IntKind.i64.wrap (p1.1 + 1), ()))))
 (some (.inr (.inl (()))))
def chanceryref2_Digits (a0 : Str) : Option TA5 :=
 (loop (chanceryref2_Digits_l1 a0) (0, ())).bind fun r4 =>
 (match r4 with
 | .inl _ => (cond (!decide (a0 = []))
 ((idx a0 0).bind fun v6 =>
 cond (!decide ((ofByte v6) = 48))
 (some (true, ()))
 (some (((decide (a0 = [48]))), ())))
 (some (false, ())))
 | .inr z7 => (some z7))
def chanceryref2_Nat__trim_l1 (p1 : TA3) : Option (TA3 ⊕ TA3) :=
 (cond (decide (0 < (p1.1.length : Int)))
 ((idx p1.1 (IntKind.i64.wrap ((p1.1.length : Int) - 1))).bind fun v1 =>
 some ((decide (v1 = 0)), ()))
 (some (false, ())) : Option TA5).bind fun r2 =>
 cond r2.1
 ((cut p1.1 0 (IntKind.i64.wrap ((p1.1.length : Int) - 1))).bind fun v3 =>
 some (.inl (v3, ())))
 (some (.inr p1))
def chanceryref2_Nat__trim (a0 : (List Int)) : Option TA3 :=
 (loop chanceryref2_Nat__trim_l1 (a0, ())).bind fun r4 =>
 some r4
def chanceryref2_NatOf_l1 (a0 : Str) (p1 : TA8) : Option (TA8 ⊕ (Unit × TA3)) :=
 cond (decide (0 <= p1.2.1))
 ((idx a0 p1.2.1).bind fun v1 =>
 (cat p1.2.2.1 [IntKind.i64.wrap (IntKind.u8.wrap ((ofByte v1) - 48))]).bind fun v2 =>
 some (.inl ((), IntKind.i64.wrap (p1.2.1 - 1), v2, ())))
 (some (.inr ((), p1.2.2.1, ())))
def chanceryref2_NatOf (a0 : Str) : Option TA3 :=
 (loop (chanceryref2_NatOf_l1 a0) ((), IntKind.i64.wrap ((a0.length : Int) - 1), [], ())).bind fun r3 =>
 (chanceryref2_Nat__trim r3.2.1).bind fun v4 =>
 some v4
def chanceryref2_Nat__half_l1 (a0 : (List Int)) (p1 : TA6) : Option (TA6 ⊕ (Unit × TA3)) :=
 cond (decide (0 <= p1.2.2.1))
 ((idx a0 p1.2.2.1).bind fun v2 =>
 (quo .i64 (IntKind.i64.wrap ((IntKind.i64.wrap (10 * p1.2.1)) + v2)) 2).bind fun v3 =>
 (chk (inb p1.2.2.1 p1.2.2.2.1.length)).bind fun _ =>
 let v4 : List Int := p1.2.2.2.1.set p1.2.2.1.toNat v3
 (rem (IntKind.i64.wrap ((IntKind.i64.wrap (10 * p1.2.1)) + v2)) 2).bind fun v5 =>
 some (.inl ((), v5, IntKind.i64.wrap (p1.2.2.1 - 1), v4, ())))
 (some (.inr ((), p1.2.2.2.1, ())))
def chanceryref2_Nat__half (a0 : (List Int)) : Option TA3 :=
 (mk (a0.length : Int) (a0.length : Int) 0).bind fun v1 =>
 (loop (chanceryref2_Nat__half_l1 a0) ((), 0, IntKind.i64.wrap ((a0.length : Int) - 1), v1, ())).bind fun r6 =>
 (chanceryref2_Nat__trim r6.2.1).bind fun v7 =>
 some v7
def chanceryref2_Nat__Compare_l1 (a0 : (List Int)) (a1 : (List Int)) (p1 : (Int × Unit)) : Option ((Int × Unit) ⊕ TA18) :=
 cond (decide (0 <= p1.1))
 ((idx a0 p1.1).bind fun v1 =>
 (idx a1 p1.1).bind fun v2 =>
 cond (decide (v1 < v2))
 (some (.inr (.inr ((-1), ()))))
 ((idx a0 p1.1).bind fun v3 =>
 (idx a1 p1.1).bind fun v4 =>
 cond (decide (v4 < v3))
 (some (.inr (.inr (1, ()))))
 (some (.inl (IntKind.i64.wrap (p1.1 - 1), ())))))
 (some (.inr (.inl (()))))
def chanceryref2_Nat__Compare (a0 : (List Int)) (a1 : (List Int)) : Option (Int × Unit) :=
 cond (!decide ((a0.length : Int) = (a1.length : Int)))
 (cond (decide ((a0.length : Int) < (a1.length : Int)))
 (some ((-1), ()))
 (some (1, ())))
 ((loop (chanceryref2_Nat__Compare_l1 a0 a1) (IntKind.i64.wrap ((a0.length : Int) - 1), ())).bind fun r5 =>
 (match r5 with
 | .inl _ => (some (0, ()))
 | .inr z7 => (some z7)))
def chanceryref2_digitAt (a0 : (List Int)) (a1 : Int) : Option (Int × Unit) :=
 cond (decide (a1 < (a0.length : Int)))
 ((idx a0 a1).bind fun v1 =>
 some (v1, ()))
 (some (0, ()))
def chanceryref2_Nat__Less_l1 (a0 : (List Int)) (a1 : (List Int)) (p1 : TA6) : Option (TA6 ⊕ (Unit × TA3)) :=
 cond (decide (p1.2.2.1 < (a0.length : Int)))
 ((idx a0 p1.2.2.1).bind fun v1 =>
 (chanceryref2_digitAt a1 p1.2.2.1).bind fun v2 =>
 let v3 : Int := IntKind.i64.wrap ((IntKind.i64.wrap (v1 - v2.1)) - p1.2.1)
 (cond (decide (v3 < 0))
 (some ((), 1, IntKind.i64.wrap (v3 + 10), p1.2.2.2.1, ()))
 (some ((), 0, v3, p1.2.2.2.1, ())) : Option TA6).bind fun r4 =>
 (cat r4.2.2.2.1 [r4.2.2.1]).bind fun v5 =>
 some (.inl ((), r4.2.1, IntKind.i64.wrap (p1.2.2.1 + 1), v5, ())))
 (some (.inr ((), p1.2.2.2.1, ())))
def chanceryref2_Nat__Less (a0 : (List Int)) (a1 : (List Int)) : Option TA3 :=
 (loop (chanceryref2_Nat__Less_l1 a0 a1) ((), 0, 0, [], ())).bind fun r6 =>
 (chanceryref2_Nat__trim r6.2.1).bind fun v7 =>
 some v7
def chanceryref2_Nat__Plus_l1 (a0 : (List Int)) (a1 : (List Int)) (p1 : TA6) : Option (TA6 ⊕ (Unit × TA3)) :=
 (cond (decide (p1.2.2.1 < (a0.length : Int)))
 (some ((), true, p1.2.2.2.1, ()))
 (cond ((decide (p1.2.2.1 < (a1.length : Int))))
 (some ((), true, p1.2.2.2.1, ()))
 (some ((), (decide (0 < p1.2.1)), p1.2.2.2.1, ()))) : Option (Unit × (Bool × TA3))).bind fun r1 =>
 cond r1.2.1
 ((chanceryref2_digitAt a0 p1.2.2.1).bind fun v2 =>
 (chanceryref2_digitAt a1 p1.2.2.1).bind fun v3 =>
 let v4 : Int := IntKind.i64.wrap ((IntKind.i64.wrap (v2.1 + v3.1)) + p1.2.1)
 (rem v4 10).bind fun v5 =>
 (cat r1.2.2.1 [v5]).bind fun v6 =>
 (quo .i64 v4 10).bind fun v7 =>
 some (.inl ((), v7, IntKind.i64.wrap (p1.2.2.1 + 1), v6, ())))
 (some (.inr ((), r1.2.2.1, ())))
def chanceryref2_Nat__Plus (a0 : (List Int)) (a1 : (List Int)) : Option TA3 :=
 (loop (chanceryref2_Nat__Plus_l1 a0 a1) ((), 0, 0, [], ())).bind fun r8 =>
 some r8.2
def chanceryref2_Gcd_l1 (p1 : ((List Int) × TA10)) : Option (((List Int) × TA10) ⊕ ((List Int) × TA10)) :=
 ((idx p1.1 0).bind fun v1 =>
 (rem v1 2).bind fun v2 =>
 cond (decide (v2 = 0))
 ((idx p1.2.1 0).bind fun v3 =>
 (rem v3 2).bind fun v4 =>
 some ((decide (v4 = 0)), ()))
 (some (false, ())) : Option TA5).bind fun r5 =>
 cond r5.1
 ((chanceryref2_Nat__half p1.1).bind fun v6 =>
 (chanceryref2_Nat__half p1.2.1).bind fun v7 =>
 some (.inl (v6.1, v7.1, IntKind.i64.wrap (p1.2.2.1 + 1), ())))
 (some (.inr p1))
def chanceryref2_Gcd_l2 (p2 : TA3) : Option (TA3 ⊕ TA3) :=
 (cond (decide (0 < (p2.1.length : Int)))
 ((idx p2.1 0).bind fun v9 =>
 (rem v9 2).bind fun v10 =>
 some ((decide (v10 = 0)), ()))
 (some (false, ())) : Option TA5).bind fun r11 =>
 cond r11.1
 ((chanceryref2_Nat__half p2.1).bind fun v12 =>
 some (.inl v12))
 (some (.inr p2))
def chanceryref2_Gcd_l3 (p3 : TA3) : Option (TA3 ⊕ TA3) :=
 (idx p3.1 0).bind fun v14 =>
 (rem v14 2).bind fun v15 =>
 cond (decide (v15 = 0))
 ((chanceryref2_Nat__half p3.1).bind fun v16 =>
 some (.inl v16))
 (some (.inr p3))
def chanceryref2_Gcd_l4 (p4 : TA16) : Option (TA16 ⊕ TA3) :=
 cond (decide (0 < (p4.1.length : Int)))
 ((loop chanceryref2_Gcd_l2 (p4.1, ())).bind fun r13 =>
 (loop chanceryref2_Gcd_l3 p4.2).bind fun r17 =>
 ((chanceryref2_Nat__Compare r13.1 r17.1).bind fun v18 =>
 cond (decide (v18.1 < 0))
 (some (r17.1, r13.1, ()))
 (some (r13.1, r17.1, ())) : Option TA16).bind fun r19 =>
 (chanceryref2_Nat__Less r19.1 r19.2.1).bind fun v20 =>
 some (.inl (v20.1, r19.2.1, ())))
 (some (.inr p4.2))
def chanceryref2_Gcd_l5 (r8 : ((List Int) × TA10)) (p5 : TA10) : Option (TA10 ⊕ TA3) :=
 cond (decide (p5.2.1 < r8.2.2.1))
 ((chanceryref2_Nat__Plus p5.1 p5.1).bind fun v22 =>
 some (.inl (v22.1, IntKind.i64.wrap (p5.2.1 + 1), ())))
 (some (.inr (p5.1, ())))
def chanceryref2_Gcd (a0 : (List Int)) (a1 : (List Int)) : Option TA3 :=
 cond (decide ((a0.length : Int) = 0))
 (some (a1, ()))
 (cond (decide ((a1.length : Int) = 0))
 (some (a0, ()))
 ((loop chanceryref2_Gcd_l1 (a0, a1, 0, ())).bind fun r8 =>
 (loop chanceryref2_Gcd_l4 (r8.1, r8.2.1, ())).bind fun r21 =>
 (loop (chanceryref2_Gcd_l5 r8) (r21.1, 0, ())).bind fun r23 =>
 some r23))
def chanceryref2_Nat__Text_l1 (a0 : (List Int)) (p1 : TA8) : Option (TA8 ⊕ (Unit × TA3)) :=
 cond (decide (0 <= p1.2.1))
 ((idx a0 p1.2.1).bind fun v1 =>
 (cat p1.2.2.1 [IntKind.u8.wrap (IntKind.i64.wrap (48 + v1))]).bind fun v2 =>
 some (.inl ((), IntKind.i64.wrap (p1.2.1 - 1), v2, ())))
 (some (.inr ((), p1.2.2.1, ())))
def chanceryref2_Nat__Text (a0 : (List Int)) : Option (Str × Unit) :=
 cond (decide ((a0.length : Int) = 0))
 (some ([48], ()))
 ((loop (chanceryref2_Nat__Text_l1 a0) ((), IntKind.i64.wrap ((a0.length : Int) - 1), [], ())).bind fun r3 =>
 some (bytesStr r3.2.1, ()))
def chanceryref2_FracError (a0 : TA4) : Option (Int × Unit) :=
 ((cond (!decide (a0.1 = []))
 ((idx a0.1 0).bind fun v1 =>
 some ((), (decide ((ofByte v1) = 45)), a0, ()))
 (some ((), false, a0, ())) : Option TA11).bind fun r2 =>
 cond r2.2.1
 ((cut a0.1 1 (a0.1.length : Int)).bind fun v3 =>
 some ((), v3, true, r2.2.2.1, ()))
 (some ((), a0.1, false, r2.2.2.1, ())) : Option (Unit × (Str × (Bool × (TA4 × Unit))))).bind fun r4 =>
 ((chanceryref2_Digits r4.2.1).bind fun v5 =>
 cond (!v5.1)
 (some ((), true, r4.2.2.2.1, ()))
 ((chanceryref2_Digits r4.2.2.2.1.2.1).bind fun v6 =>
 cond ((!v6.1))
 (some ((), true, r4.2.2.2.1, ()))
 (cond ((decide (r4.2.2.2.1.2.1 = [48])))
 (some ((), true, r4.2.2.2.1, ()))
 (cond r4.2.2.1
 (some ((), ((decide (r4.2.1 = [48]))), r4.2.2.2.1, ()))
 (some ((), false, r4.2.2.2.1, ()))))) : Option TA11).bind fun r7 =>
 cond r7.2.1
 (some (4, ()))
 ((cond (decide (300 < (r4.2.1.length : Int)))
 (some ((), true, r7.2.2.1, ()))
 (some ((), (decide (300 < (r7.2.2.1.2.1.length : Int))), r7.2.2.1, ())) : Option TA11).bind fun r8 =>
 cond r8.2.1
 (some (3, ()))
 ((chanceryref2_NatOf r4.2.1).bind fun v9 =>
 (chanceryref2_NatOf r8.2.2.1.2.1).bind fun v10 =>
 (chanceryref2_Gcd v9.1 v10.1).bind fun v11 =>
 (chanceryref2_Nat__Text v11.1).bind fun v12 =>
 cond (!decide (v12.1 = [49]))
 (some (4, ()))
 (some (0, ()))))
def chanceryref2_Rune_l1 (z9 : (Int × TA9)) (a0 : Str) (p1 : TA9) : Option (TA9 ⊕ ((Int × Unit) ⊕ TA9)) :=
 cond (decide (p1.2.1 < z9.2.1))
 ((idx a0 p1.2.1).bind fun v10 =>
 cond (!decide ((band .u8 (ofByte v10) 192) = 128))
 (some (.inr (.inr (0, 0, ()))))
 ((shc 6).bind fun v11 =>
 (idx a0 p1.2.1).bind fun v12 =>
 let v13 : Int := bor .i64 (shl .i64 p1.1 v11) (IntKind.i64.wrap (band .u8 (ofByte v12) 63))
 some (.inl (v13, IntKind.i64.wrap (p1.2.1 + 1), ()))))
 (some (.inr (.inl (p1.1, ()))))
def chanceryref2_Rune (a0 : Str) : Option TA9 :=
 (idx a0 0).bind fun v1 =>
 (cond (decide ((IntKind.i64.wrap (ofByte v1)) < 128))
 (some (.inr (IntKind.i64.wrap (ofByte v1), 1, ())))
 ((cond (decide (194 <= (IntKind.i64.wrap (ofByte v1))))
 (let v2 : Bool := (decide ((IntKind.i64.wrap (ofByte v1)) < 224))
 some (v2, ()))
 (some (false, ())) : Option TA5).bind fun r3 =>
 cond r3.1
 (some (.inl (band .i64 (IntKind.i64.wrap (ofByte v1)) 31, 2, 128, ())))
 ((cond (decide (224 <= (IntKind.i64.wrap (ofByte v1))))
 (let v4 : Bool := (decide ((IntKind.i64.wrap (ofByte v1)) < 240))
 some (v4, ()))
 (some (false, ())) : Option TA5).bind fun r5 =>
 cond r5.1
 (some (.inl (band .i64 (IntKind.i64.wrap (ofByte v1)) 15, 3, 2048, ())))
 ((cond (decide (240 <= (IntKind.i64.wrap (ofByte v1))))
 (let v6 : Bool := (decide ((IntKind.i64.wrap (ofByte v1)) < 245))
 some (v6, ()))
 (some (false, ())) : Option TA5).bind fun r7 =>
 cond r7.1
 (some (.inl (band .i64 (IntKind.i64.wrap (ofByte v1)) 7, 4, 65536, ())))
 (some (.inr (0, 0, ())))))) : Option ((Int × TA9) ⊕ TA9)).bind fun r8 =>
 (match r8 with
 | .inl z9 => (cond (decide ((a0.length : Int) < z9.2.1))
 (some (0, 0, ()))
 ((loop (chanceryref2_Rune_l1 z9 a0) (z9.1, 1, ())).bind fun r14 =>
 (match r14 with
 | .inl z15 => ((cond (decide (z15.1 < z9.2.2.1))
 (some (true, ()))
 (cond (decide (55296 <= z15.1))
 (cond (((decide (z15.1 < 57344))))
 (some (true, ()))
 (some ((decide (1114111 < z15.1)), ())))
 (cond (false)
 (some (true, ()))
 (some ((decide (1114111 < z15.1)), ())))) : Option TA5).bind fun r16 =>
 cond r16.1
 (some (0, 0, ()))
 (some (z15.1, z9.2.1, ())))
 | .inr z17 => (some z17))))
 | .inr z18 => (some z18))
def chanceryref2_Char (a0 : Int) : Option TA5 :=
 cond (decide (a0 = 9))
 (some (true, ()))
 (cond ((decide (a0 = 10)))
 (some (true, ()))
 (cond (decide (32 <= a0))
 (cond (((decide (a0 <= 126))))
 (some (true, ()))
 (cond (decide (160 <= a0))
 (cond (((decide (a0 < 55296))))
 (some (true, ()))
 (cond (decide (57344 <= a0))
 (some (((decide (a0 <= 1114111))), ()))
 (some (false, ()))))
 (cond (false)
 (some (true, ()))
 (cond (decide (57344 <= a0))
 (some (((decide (a0 <= 1114111))), ()))
 (some (false, ()))))))
 (cond (false)
 (some (true, ()))
 (cond (decide (160 <= a0))
 (cond (((decide (a0 < 55296))))
 (some (true, ()))
 (cond (decide (57344 <= a0))
 (some (((decide (a0 <= 1114111))), ()))
 (some (false, ()))))
 (cond (false)
 (some (true, ()))
 (cond (decide (57344 <= a0))
 (some (((decide (a0 <= 1114111))), ()))
 (some (false, ()))))))))
def chanceryref2_TextError_l1 (p1 : (Str × Unit)) : Option ((Str × Unit) ⊕ TA18) :=
 cond (!decide (p1.1 = []))
 ((chanceryref2_Rune p1.1).bind fun v1 =>
 (cond (decide (v1.2.1 = 0))
 (some (true, ()))
 ((chanceryref2_Char v1.1).bind fun v2 =>
 some ((!v2.1), ())) : Option TA5).bind fun r3 =>
 cond r3.1
 (some (.inr (.inr (23, ()))))
 ((cut p1.1 v1.2.1 (p1.1.length : Int)).bind fun v4 =>
 some (.inl (v4, ()))))
 (some (.inr (.inl (()))))
def chanceryref2_TextError (a0 : Str) : Option (Int × Unit) :=
 cond (decide (32767 < (a0.length : Int)))
 (some (3, ()))
 ((loop chanceryref2_TextError_l1 (a0, ())).bind fun r5 =>
 (match r5 with
 | .inl _ => (some (0, ()))
 | .inr z7 => (some z7)))
def chanceryref2_FaultText (a0 : Int) : Option (Str × Unit) :=
 (cond (decide (a0 < 1))
 (some (true, ()))
 (some ((decide (8 < a0)), ())) : Option TA5).bind fun r1 =>
 cond r1.1
 (some ([], ()))
 ((idx ([[], [35, 68, 73, 86, 47, 48, 33], [35, 86, 65, 76, 85, 69, 33], [35, 82, 69, 70, 33], [35, 78, 65, 77, 69, 63], [35, 78, 85, 77, 33], [35, 78, 47, 65], [35, 83, 80, 73, 76, 76, 33], [35, 67, 89, 67, 76, 69, 33]] : (List Str)) a0).bind fun v2 =>
 some (v2, ()))
def chanceryref2_ValueError_l1 (r16 : TA14) (rec : TA0 -> Option (Int × Unit)) (p1 : (Int × Unit)) : Option ((Int × Unit) ⊕ TA18) :=
 cond (decide (p1.1 < (r16.2.2.1.2.2.2.2.2.2.2.2.1.length : Int)))
 ((idx r16.2.2.1.2.2.2.2.2.2.2.2.1 p1.1).bind fun v19 =>
 cond (decide (v19.data.1 = 5))
 (some (.inr (.inr (8, ()))))
 (let v20 : TA0 := (tn v19)
 (rec v20).bind fun v21 =>
 cond (!decide (v21.1 = 0))
 (some (.inr (.inr v21)))
 (some (.inl (IntKind.i64.wrap (p1.1 + 1), ())))))
 (some (.inr (.inl (()))))
def chanceryref2_ValueError_s (rec : TA0 -> Option (Int × Unit)) (a0 : TA0) : Option (Int × Unit) :=
 (cond (decide (a0.data.1 < 0))
 (some ((), true, (a0.data.1, (a0.data.2.1.1, (a0.data.2.1.2.1, (a0.data.2.2.1, (a0.data.2.2.2.1, (a0.data.2.2.2.2.1, (a0.data.2.2.2.2.2.1, (a0.data.2.2.2.2.2.2.1, (a0.kids, ()))))))))), ()))
 (some ((), (decide (5 < a0.data.1)), (a0.data.1, (a0.data.2.1.1, (a0.data.2.1.2.1, (a0.data.2.2.1, (a0.data.2.2.2.1, (a0.data.2.2.2.2.1, (a0.data.2.2.2.2.2.1, (a0.data.2.2.2.2.2.2.1, (a0.kids, ()))))))))), ())) : Option TA14).bind fun r1 =>
 cond r1.2.1
 (some (8, ()))
 (((chanceryref2_ValueError_1 1 (Ty.beq (.pair .str (.pair .str .unit)) (r1.2.2.1.2.1, (r1.2.2.1.2.2.1, ())) ([], [], ())) r1.2.2.1.1 r1.2.2.1.2.1 r1.2.2.1.2.2.1 r1.2.2.1.2.2.2.1 r1.2.2.1.2.2.2.2.1 r1.2.2.1.2.2.2.2.2.1 r1.2.2.1.2.2.2.2.2.2.1 r1.2.2.1.2.2.2.2.2.2.2.1 r1.2.2.1.2.2.2.2.2.2.2.2.1).bind fun v2 =>
 cond (!v2.1)
 (some ((), true, v2.2.2.1, ()))
 ((chanceryref2_ValueError_1 2 (decide (v2.2.2.1.2.2.2.1 = [])) v2.2.2.1.1 v2.2.2.1.2.1 v2.2.2.1.2.2.1 v2.2.2.1.2.2.2.1 v2.2.2.1.2.2.2.2.1 v2.2.2.1.2.2.2.2.2.1 v2.2.2.1.2.2.2.2.2.2.1 v2.2.2.1.2.2.2.2.2.2.2.1 v2.2.2.1.2.2.2.2.2.2.2.2.1).bind fun v3 =>
 cond ((!v3.1))
 (some ((), true, v3.2.2.1, ()))
 ((chanceryref2_ValueError_1 3 (!v3.2.2.1.2.2.2.2.1) v3.2.2.1.1 v3.2.2.1.2.1 v3.2.2.1.2.2.1 v3.2.2.1.2.2.2.1 v3.2.2.1.2.2.2.2.1 v3.2.2.1.2.2.2.2.2.1 v3.2.2.1.2.2.2.2.2.2.1 v3.2.2.1.2.2.2.2.2.2.2.1 v3.2.2.1.2.2.2.2.2.2.2.2.1).bind fun v4 =>
 cond ((!v4.1))
 (some ((), true, v4.2.2.1, ()))
 ((chanceryref2_ValueError_1 4 (decide (v4.2.2.1.2.2.2.2.2.1 = 0)) v4.2.2.1.1 v4.2.2.1.2.1 v4.2.2.1.2.2.1 v4.2.2.1.2.2.2.1 v4.2.2.1.2.2.2.2.1 v4.2.2.1.2.2.2.2.2.1 v4.2.2.1.2.2.2.2.2.2.1 v4.2.2.1.2.2.2.2.2.2.2.1 v4.2.2.1.2.2.2.2.2.2.2.2.1).bind fun v5 =>
 cond ((!v5.1))
 (some ((), true, v5.2.2.1, ()))
 (cond (decide (v5.2.2.1.2.2.2.2.2.2.1 = 0))
 (cond ((decide (v5.2.2.1.2.2.2.2.2.2.2.1 = 0)))
 (let v6 : Bool := (decide ((v5.2.2.1.2.2.2.2.2.2.2.2.1.length : Int) = 0))
 (chanceryref2_ValueError_1 5 v6 v5.2.2.1.1 v5.2.2.1.2.1 v5.2.2.1.2.2.1 v5.2.2.1.2.2.2.1 v5.2.2.1.2.2.2.2.1 v5.2.2.1.2.2.2.2.2.1 v5.2.2.1.2.2.2.2.2.2.1 v5.2.2.1.2.2.2.2.2.2.2.1 v5.2.2.1.2.2.2.2.2.2.2.2.1).bind fun v7 =>
 some ((), (!v7.1), v7.2.2.1, ()))
 ((chanceryref2_ValueError_1 5 false v5.2.2.1.1 v5.2.2.1.2.1 v5.2.2.1.2.2.1 v5.2.2.1.2.2.2.1 v5.2.2.1.2.2.2.2.1 v5.2.2.1.2.2.2.2.2.1 v5.2.2.1.2.2.2.2.2.2.1 v5.2.2.1.2.2.2.2.2.2.2.1 v5.2.2.1.2.2.2.2.2.2.2.2.1).bind fun v8 =>
 some ((), (!v8.1), v8.2.2.1, ())))
 ((chanceryref2_ValueError_1 5 false v5.2.2.1.1 v5.2.2.1.2.1 v5.2.2.1.2.2.1 v5.2.2.1.2.2.2.1 v5.2.2.1.2.2.2.2.1 v5.2.2.1.2.2.2.2.2.1 v5.2.2.1.2.2.2.2.2.2.1 v5.2.2.1.2.2.2.2.2.2.2.1 v5.2.2.1.2.2.2.2.2.2.2.2.1).bind fun v9 =>
 some ((), (!v9.1), v9.2.2.1, ())))))) : Option TA14).bind fun r10 =>
 cond r10.2.1
 (some (4, ()))
 (cond (decide (r10.2.2.1.1 = 1))
 ((chanceryref2_FracError (r10.2.2.1.2.1, (r10.2.2.1.2.2.1, ()))).bind fun v11 =>
 some v11)
 (cond (decide (r10.2.2.1.1 = 2))
 ((chanceryref2_TextError r10.2.2.1.2.2.2.1).bind fun v12 =>
 some v12)
 ((cond (decide (r10.2.2.1.1 = 4))
 ((chanceryref2_FaultText r10.2.2.1.2.2.2.2.2.1).bind fun v13 =>
 some ((), (decide (v13.1 = [])), r10.2.2.1, ()))
 (some ((), false, r10.2.2.1, ())) : Option TA14).bind fun r14 =>
 cond r14.2.1
 (some (2, ()))
 (cond (decide (r14.2.2.1.1 < 5))
 (some (0, ()))
 ((cond (decide (r14.2.2.1.2.2.2.2.2.2.1 < 1))
 (some ((), true, r14.2.2.1, ()))
 (cond ((decide (r14.2.2.1.2.2.2.2.2.2.2.1 < 1)))
 (some ((), true, r14.2.2.1, ()))
 (cond ((decide (100000 < r14.2.2.1.2.2.2.2.2.2.1)))
 (some ((), true, r14.2.2.1, ()))
 (let v15 : Bool := (decide (100000 < r14.2.2.1.2.2.2.2.2.2.2.1))
 some ((), v15, r14.2.2.1, ())))) : Option TA14).bind fun r16 =>
 cond r16.2.1
 (some (2, ()))
 (let v17 : Int := IntKind.i64.wrap (r16.2.2.1.2.2.2.2.2.2.1 * r16.2.2.1.2.2.2.2.2.2.2.1)
 cond (decide (100000 < v17))
 (some (3, ()))
 (let v18 : Int := IntKind.i64.wrap (r16.2.2.1.2.2.2.2.2.2.1 * r16.2.2.1.2.2.2.2.2.2.2.1)
 cond (!decide (v18 = (r16.2.2.1.2.2.2.2.2.2.2.2.1.length : Int)))
 (some (4, ()))
 ((loop (chanceryref2_ValueError_l1 r16 rec) (0, ())).bind fun r22 =>
 (match r22 with
 | .inl _ => (some (0, ()))
 | .inr z24 => (some z24)))))))))))
def chanceryref2_ValueError_f : Nat -> TA0 -> Option (Int × Unit)
 | 0 => fun _ => none
 | n + 1 => chanceryref2_ValueError_s (chanceryref2_ValueError_f n)
def chanceryref2_ValueError (a0 : TA0) : Option (Int × Unit) := chanceryref2_ValueError_f rounds a0
def chanceryref2_RatOf (a0 : TA4) : Option (TA1 × Unit) :=
 (idx a0.1 0).bind fun v1 =>
 cond (decide ((ofByte v1) = 45))
 ((cut a0.1 1 (a0.1.length : Int)).bind fun v2 =>
 (chanceryref2_NatOf v2).bind fun v3 =>
 (chanceryref2_NatOf a0.2.1).bind fun v4 =>
 some ((true, (v3.1, v4)), ()))
 ((chanceryref2_NatOf a0.1).bind fun v5 =>
 (chanceryref2_NatOf a0.2.1).bind fun v6 =>
 some ((false, (v5.1, v6)), ()))
def chanceryref2_Nat__Divide_l1 (a1 : (List Int)) (p2 : TA21) (p1 : (Unit × TA16)) : Option ((Unit × TA16) ⊕ (Unit × TA16)) :=
 (chanceryref2_Nat__Compare p1.2.1 a1).bind fun v5 =>
 cond (decide (0 <= v5.1))
 ((chanceryref2_Nat__Less p1.2.1 a1).bind fun v6 =>
 (chk (inb p2.2.2.1 p1.2.2.1.length)).bind fun _ =>
 let v7 : Int := IntKind.i64.wrap ((p1.2.2.1.getD p2.2.2.1.toNat 0) + 1)
 (chk (inb p2.2.2.1 p1.2.2.1.length)).bind fun _ =>
 let v8 : List Int := p1.2.2.1.set p2.2.2.1.toNat v7
 some (.inl ((), v6.1, v8, ())))
 (some (.inr ((), p1.2.1, p1.2.2.1, ())))
def chanceryref2_Nat__Divide_l2 (a0 : (List Int)) (a1 : (List Int)) (p2 : TA21) : Option (TA21 ⊕ (Unit × TA16)) :=
 cond (decide (0 <= p2.2.2.1))
 ((idx a0 p2.2.2.1).bind fun v2 =>
 (cat [v2] p2.2.1).bind fun v3 =>
 (chanceryref2_Nat__trim v3).bind fun v4 =>
 (loop (chanceryref2_Nat__Divide_l1 a1 p2) ((), v4.1, p2.2.2.2.1, ())).bind fun r9 =>
 some (.inl ((), r9.2.1, IntKind.i64.wrap (p2.2.2.1 - 1), r9.2.2.1, ())))
 (some (.inr ((), p2.2.1, p2.2.2.2.1, ())))
def chanceryref2_Nat__Divide (a0 : (List Int)) (a1 : (List Int)) : Option TA16 :=
 (mk (a0.length : Int) (a0.length : Int) 0).bind fun v1 =>
 (loop (chanceryref2_Nat__Divide_l2 a0 a1) ((), [], IntKind.i64.wrap ((a0.length : Int) - 1), v1, ())).bind fun r10 =>
 (chanceryref2_Nat__trim r10.2.2.1).bind fun v11 =>
 some (v11.1, r10.2.1, ())
def chanceryref2_Rat__Frac (a0 : TA1) : Option TA20 :=
 cond (decide ((a0.2.1.length : Int) = 0))
 (some (([48], ([49], ())), 0, ()))
 ((chanceryref2_Gcd a0.2.1 a0.2.2.1).bind fun v1 =>
 (chanceryref2_Nat__Divide a0.2.1 v1.1).bind fun v2 =>
 (chanceryref2_Nat__Divide a0.2.2.1 v1.1).bind fun v3 =>
 (cond (decide (300 < (v2.1.length : Int)))
 (some ((), (), true, a0, ([], ([], ())), ()))
 (some ((), (), (decide (300 < (v3.1.length : Int))), a0, ([], ([], ())), ())) : Option (Unit × (Unit × (Bool × (TA1 × (TA4 × Unit)))))).bind fun r4 =>
 cond r4.2.2.1
 (some (([], ([], ())), 19, ()))
 ((chanceryref2_Nat__Text v2.1).bind fun v5 =>
 (chanceryref2_Nat__Text v3.1).bind fun v6 =>
 (cond r4.2.2.2.1.1
 ((cat [45] v5.1).bind fun v7 =>
 some ((), (), r4.2.2.2.2.1, (v7, v6), ()))
 (some ((), (), r4.2.2.2.2.1, (v5.1, v6), ())) : Option (Unit × (Unit × TA17))).bind fun r8 =>
 some (r8.2.2.2.1, 0, ())))
def chanceryref2_Rat__Places_l1 (p1 : TA10) : Option (TA10 ⊕ TA10) :=
 (idx p1.1 0).bind fun v3 =>
 (rem v3 2).bind fun v4 =>
 cond (decide (v4 = 0))
 ((chanceryref2_Nat__half p1.1).bind fun v5 =>
 some (.inl (v5.1, IntKind.i64.wrap (p1.2.1 + 1), ())))
 (some (.inr p1))
def chanceryref2_Rat__Places_l2 (p2 : TA10) : Option (TA10 ⊕ TA10) :=
 (chanceryref2_Nat__Divide p2.1 [5]).bind fun v7 =>
 cond (decide (0 < (v7.2.1.length : Int)))
 (some (.inr p2))
 (some (.inl (v7.1, IntKind.i64.wrap (p2.2.1 + 1), ())))
def chanceryref2_Rat__Places (a0 : TA1) : Option (Int × Unit) :=
 (chanceryref2_Rat__Frac a0).bind fun v1 =>
 cond (!decide (v1.2.1 = 0))
 (some ((-1), ()))
 ((chanceryref2_NatOf v1.1.2.1).bind fun v2 =>
 (loop chanceryref2_Rat__Places_l1 (v2.1, 0, ())).bind fun r6 =>
 (loop chanceryref2_Rat__Places_l2 (r6.1, 0, ())).bind fun r8 =>
 (chanceryref2_Nat__Text r8.1).bind fun v9 =>
 cond (!decide (v9.1 = [49]))
 (some ((-1), ()))
 (some (mx r6.2.1 r8.2.1, ())))
def chanceryref2_Ten (a0 : Int) : Option TA3 :=
 (mk (IntKind.i64.wrap (a0 + 1)) (IntKind.i64.wrap (a0 + 1)) 0).bind fun v1 =>
 (chk (inb a0 v1.length)).bind fun _ =>
 let v2 : List Int := v1.set a0.toNat 1
 some (v2, ())
def chanceryref2_Nat__Times_l1 (a1 : (List Int)) (p3 : TA8) (a0 : (List Int)) (p1 : TA8) : Option (TA8 ⊕ (Unit × TA3)) :=
 cond (decide (p1.2.1 < (a1.length : Int)))
 ((chk (inb (IntKind.i64.wrap (p3.2.1 + p1.2.1)) p1.2.2.1.length)).bind fun _ =>
 let v2 : Int := (p1.2.2.1.getD (IntKind.i64.wrap (p3.2.1 + p1.2.1)).toNat 0)
 (idx a0 p3.2.1).bind fun v3 =>
 (idx a1 p1.2.1).bind fun v4 =>
 (chk (inb (IntKind.i64.wrap (p3.2.1 + p1.2.1)) p1.2.2.1.length)).bind fun _ =>
 let v5 : List Int := p1.2.2.1.set (IntKind.i64.wrap (p3.2.1 + p1.2.1)).toNat (IntKind.i64.wrap (v2 + (IntKind.i64.wrap (v3 * v4))))
 some (.inl ((), IntKind.i64.wrap (p1.2.1 + 1), v5, ())))
 (some (.inr ((), p1.2.2.1, ())))
def chanceryref2_Nat__Times_l2 (p2 : TA6) : Option (TA6 ⊕ (Unit × TA3)) :=
 cond (decide (p2.2.2.1 < (p2.2.2.2.1.length : Int)))
 ((chk (inb p2.2.2.1 p2.2.2.2.1.length)).bind fun _ =>
 let v7 : Int := IntKind.i64.wrap ((p2.2.2.2.1.getD p2.2.2.1.toNat 0) + p2.2.1)
 (rem v7 10).bind fun v8 =>
 (chk (inb p2.2.2.1 p2.2.2.2.1.length)).bind fun _ =>
 let v9 : List Int := p2.2.2.2.1.set p2.2.2.1.toNat v8
 (quo .i64 v7 10).bind fun v10 =>
 some (.inl ((), v10, IntKind.i64.wrap (p2.2.2.1 + 1), v9, ())))
 (some (.inr ((), p2.2.2.2.1, ())))
def chanceryref2_Nat__Times_l3 (a0 : (List Int)) (a1 : (List Int)) (p3 : TA8) : Option (TA8 ⊕ (Unit × TA3)) :=
 cond (decide (p3.2.1 < (a0.length : Int)))
 ((loop (chanceryref2_Nat__Times_l1 a1 p3 a0) ((), 0, p3.2.2.1, ())).bind fun r6 =>
 (loop chanceryref2_Nat__Times_l2 ((), 0, p3.2.1, r6.2.1, ())).bind fun r11 =>
 some (.inl ((), IntKind.i64.wrap (p3.2.1 + 1), r11.2.1, ())))
 (some (.inr ((), p3.2.2.1, ())))
def chanceryref2_Nat__Times (a0 : (List Int)) (a1 : (List Int)) : Option TA3 :=
 (mk (IntKind.i64.wrap ((a0.length : Int) + (a1.length : Int))) (IntKind.i64.wrap ((a0.length : Int) + (a1.length : Int))) 0).bind fun v1 =>
 (loop (chanceryref2_Nat__Times_l3 a0 a1) ((), 0, v1, ())).bind fun r12 =>
 (chanceryref2_Nat__trim r12.2.1).bind fun v13 =>
 some v13
def chanceryref2_Rat__Scaled (a0 : TA1) (a1 : Int) : Option (TA1 × Unit) :=
 cond (decide (a1 < 0))
 ((chanceryref2_Ten (IntKind.i64.wrap (0 - a1))).bind fun v1 =>
 (chanceryref2_Nat__Times a0.2.2.1 v1.1).bind fun v2 =>
 some ((a0.1, (a0.2.1, v2)), ()))
 ((chanceryref2_Ten a1).bind fun v3 =>
 (chanceryref2_Nat__Times a0.2.1 v3.1).bind fun v4 =>
 some ((a0.1, (v4.1, a0.2.2)), ()))
def chanceryref2_Rat__Negative (a0 : TA1) : Option (TA1 × Unit) :=
 some ((!a0.1, a0.2), ())
def chanceryref2_Half : Option (TA1 × Unit) :=
 some ((false, ([1], ([2], ()))), ())
def chanceryref2_Rat__Add (a0 : TA1) (a1 : TA1) : Option (TA1 × Unit) :=
 (chanceryref2_Nat__Times a0.2.1 a1.2.2.1).bind fun v1 =>
 (chanceryref2_Nat__Times a1.2.1 a0.2.2.1).bind fun v2 =>
 (chanceryref2_Nat__Times a0.2.2.1 a1.2.2.1).bind fun v3 =>
 (cond (a0.1 == a1.1)
 ((chanceryref2_Nat__Plus v1.1 v2.1).bind fun v4 =>
 some ((), (), (false, ([], ([], ()))), (a0.1, (v4.1, v3)), ()))
 ((chanceryref2_Nat__Compare v1.1 v2.1).bind fun v5 =>
 cond (decide (0 <= v5.1))
 ((chanceryref2_Nat__Less v1.1 v2.1).bind fun v6 =>
 some ((), (), (false, ([], ([], ()))), (a0.1, (v6.1, v3)), ()))
 ((chanceryref2_Nat__Less v2.1 v1.1).bind fun v7 =>
 some ((), (), (false, ([], ([], ()))), (a1.1, (v7.1, v3)), ()))) : Option (Unit × (Unit × TA23))).bind fun r8 =>
 some (r8.2.2.2.1, ())
def chanceryref2_Rat__Floor (a0 : TA1) : Option (TA1 × Unit) :=
 (chanceryref2_Nat__Divide a0.2.1 a0.2.2.1).bind fun v1 =>
 ((cond a0.1
 (some ((), (), (decide (0 < (v1.2.1.length : Int))), a0, (false, ([], ([], ()))), ()))
 (some ((), (), false, a0, (false, ([], ([], ()))), ())) : Option (Unit × (Unit × (Bool × TA23)))).bind fun r2 =>
 cond r2.2.2.1
 ((chanceryref2_Nat__Plus v1.1 [1]).bind fun v3 =>
 some ((), (), v3.1, r2.2.2.2.1, r2.2.2.2.2.1, ()))
 (some ((), (), v1.1, r2.2.2.2.1, r2.2.2.2.2.1, ())) : Option (Unit × (Unit × ((List Int) × TA23)))).bind fun r4 =>
 some ((r4.2.2.2.1.1, (r4.2.2.1, ([1], ()))), ())
def chanceryref2_Rat__Nearest_s (rec : TA1 -> Option (TA1 × Unit)) (a0 : TA1) : Option (TA1 × Unit) :=
 cond a0.1
 ((chanceryref2_Rat__Negative a0).bind fun v1 =>
 (rec v1.1).bind fun v2 =>
 (chanceryref2_Rat__Negative v2.1).bind fun v3 =>
 some (v3.1, ()))
 ((chanceryref2_Half).bind fun v4 =>
 (chanceryref2_Rat__Add a0 v4.1).bind fun v5 =>
 (chanceryref2_Rat__Floor v5.1).bind fun v6 =>
 some (v6.1, ()))
def chanceryref2_Rat__Nearest_f : Nat -> TA1 -> Option (TA1 × Unit)
 | 0 => fun _ => none
 | n + 1 => chanceryref2_Rat__Nearest_s (chanceryref2_Rat__Nearest_f n)
def chanceryref2_Rat__Nearest (a0 : TA1) : Option (TA1 × Unit) := chanceryref2_Rat__Nearest_f rounds a0
def chanceryref2_Rat__Sign (a0 : TA1) : Option (Int × Unit) :=
 cond (decide ((a0.2.1.length : Int) = 0))
 (some (0, ()))
 (cond a0.1
 (some ((-1), ()))
 (some (1, ())))
def chanceryref2_Rat__Fixed_l1 (a1 : Int) (p1 : TA15) : Option (TA15 ⊕ TA15) :=
 cond (decide ((p1.2.1.length : Int) <= a1))
 ((cat [48] p1.2.1).bind fun v4 =>
 some (.inl ((), v4, p1.2.2.1, ())))
 (some (.inr ((), p1.2.1, p1.2.2.1, ())))
def chanceryref2_Rat__Fixed (a0 : TA1) (a1 : Int) : Option (Str × Unit) :=
 (chanceryref2_Rat__Scaled a0 a1).bind fun v1 =>
 (chanceryref2_Rat__Nearest v1.1).bind fun v2 =>
 (chanceryref2_Nat__Text v2.1.2.1).bind fun v3 =>
 (loop (chanceryref2_Rat__Fixed_l1 a1) ((), v3.1, v2.1, ())).bind fun r5 =>
 (cond (decide (0 < a1))
 ((cut r5.2.1 0 (IntKind.i64.wrap ((r5.2.1.length : Int) - a1))).bind fun v6 =>
 (cat v6 [46]).bind fun v7 =>
 (cut r5.2.1 (IntKind.i64.wrap ((r5.2.1.length : Int) - a1)) (r5.2.1.length : Int)).bind fun v8 =>
 (cat v7 v8).bind fun v9 =>
 some ((), v9, r5.2.2.1, ()))
 (some ((), r5.2.1, r5.2.2.1, ())) : Option TA15).bind fun r10 =>
 ((chanceryref2_Rat__Sign r10.2.2.1).bind fun v11 =>
 cond (decide (v11.1 < 0))
 ((cat [45] r10.2.1).bind fun v12 =>
 some (v12, ()))
 (some (r10.2.1, ())) : Option (Str × Unit)).bind fun r13 =>
 some r13
def chanceryref2_Rat__Round (a0 : TA1) (a1 : Int) : Option (TA1 × Unit) :=
 (chanceryref2_Rat__Scaled a0 a1).bind fun v1 =>
 (chanceryref2_Rat__Nearest v1.1).bind fun v2 =>
 (chanceryref2_Rat__Scaled v2.1 (IntKind.i64.wrap (0 - a1))).bind fun v3 =>
 some (v3.1, ())
def chanceryref2_Show_l1 (p1 : (Str × Unit)) : Option ((Str × Unit) ⊕ (Str × Unit)) :=
 (idx p1.1 (IntKind.i64.wrap ((p1.1.length : Int) - 1))).bind fun v9 =>
 cond (decide ((ofByte v9) = 48))
 ((cut p1.1 0 (IntKind.i64.wrap ((p1.1.length : Int) - 1))).bind fun v10 =>
 some (.inl (v10, ())))
 (some (.inr p1))
def chanceryref2_Show_s (rec : TA0 -> Option (Str × Unit)) (a0 : TA0) : Option (Str × Unit) :=
 cond (decide (a0.data.1 = 1))
 ((chanceryref2_RatOf (a0.data.2.1.1, (a0.data.2.1.2.1, ()))).bind fun v1 =>
 ((chanceryref2_Rat__Places v1.1).bind fun v2 =>
 cond (decide (0 <= v2.1))
 ((chanceryref2_Rat__Fixed v1.1 v2.1).bind fun v3 =>
 cond (decide ((v3.1.length : Int) <= 40))
 (some (.inr v3))
 (some (.inl ((), v1.1, ()))))
 (some (.inl ((), v1.1, ()))) : Option ((Unit × (TA1 × Unit)) ⊕ (Str × Unit))).bind fun r4 =>
 (match r4 with
 | .inl z5 => ((chanceryref2_Rat__Round z5.2.1 12).bind fun v6 =>
 (chanceryref2_Rat__Frac v6.1).bind fun v7 =>
 cond (!decide (v7.2.1 = 0))
 (some ([35, 78, 85, 77, 33], ()))
 ((chanceryref2_Rat__Fixed z5.2.1 12).bind fun v8 =>
 (loop chanceryref2_Show_l1 v8).bind fun r11 =>
 ((idx r11.1 (IntKind.i64.wrap ((r11.1.length : Int) - 1))).bind fun v12 =>
 cond (decide ((ofByte v12) = 46))
 ((cut r11.1 0 (IntKind.i64.wrap ((r11.1.length : Int) - 1))).bind fun v13 =>
 some (v13, ()))
 (some r11) : Option (Str × Unit)).bind fun r14 =>
 some r14))
 | .inr z15 => (some z15)))
 (cond (decide (a0.data.1 = 2))
 (some (a0.data.2.2.1, ()))
 (cond (decide (a0.data.1 = 3))
 (cond a0.data.2.2.2.1
 (some ([84, 82, 85, 69], ()))
 (some ([70, 65, 76, 83, 69], ())))
 (cond (decide (a0.data.1 = 4))
 ((chanceryref2_FaultText a0.data.2.2.2.2.1).bind fun v16 =>
 some v16)
 (cond (decide (a0.data.1 = 5))
 ((idx a0.kids 0).bind fun v17 =>
 (rec v17).bind fun v18 =>
 some v18)
 (some ([], ()))))))
def chanceryref2_Show_f : Nat -> TA0 -> Option (Str × Unit)
 | 0 => fun _ => none
 | n + 1 => chanceryref2_Show_s (chanceryref2_Show_f n)
def chanceryref2_Show (a0 : TA0) : Option (Str × Unit) := chanceryref2_Show_f rounds a0
def value_scalar (a0 : TA0) : Option (TA0 × Unit) :=
 let v1 : TA0 := (tn a0)
 (value_valid v1).bind fun v2 =>
 cond (decide (v2.1.data.1 = 5))
 ((idx v2.1.kids 0).bind fun v3 =>
 some ((tn v3), ()))
 (let v4 : TA0 := (tn v2.1)
 some ((tn v4), ()))
def value_ToNumber (a0 : TA0) : Option TA20 :=
 let v1 : TA0 := (tn a0)
 (value_scalar v1).bind fun v2 =>
 (cond (decide (v2.1.data.1 = 2))
 ((value_Enter v2.1.data.2.2.1).bind fun v3 =>
 cond (!decide (v3.1.data.1 = 1))
 (some (.inr ((), 2, ([], ([], ())), ())))
 (some (.inl ((), (), (v3.1.data.1, (v3.1.data.2.1.1, (v3.1.data.2.1.2.1, (v3.1.data.2.2.1, (v3.1.data.2.2.2.1, (v3.1.data.2.2.2.2.1, (v3.1.data.2.2.2.2.2.1, (v3.1.data.2.2.2.2.2.2.1, (v3.1.kids, ()))))))))), ([], ([], ())), ()))))
 (some (.inl ((), (), (v2.1.data.1, (v2.1.data.2.1.1, (v2.1.data.2.1.2.1, (v2.1.data.2.2.1, (v2.1.data.2.2.2.1, (v2.1.data.2.2.2.2.1, (v2.1.data.2.2.2.2.2.1, (v2.1.data.2.2.2.2.2.2.1, (v2.1.kids, ()))))))))), ([], ([], ())), ()))) : Option ((Unit × (Unit × ((Int × (Str × (Str × (Str × (Bool × (Int × (Int × (Int × ((List TA0) × Unit))))))))) × (TA4 × Unit)))) ⊕ (Unit × (Int × (TA4 × Unit))))).bind fun r4 =>
 (match r4 with
 | .inl z5 => (cond (decide (z5.2.2.1.1 = 1))
 (some ((z5.2.2.1.2.1, (z5.2.2.1.2.2.1, ())), 0, ()))
 (cond (decide (z5.2.2.1.1 = 4))
 (some (([], ([], ())), z5.2.2.1.2.2.2.2.2.1, ()))
 (cond z5.2.2.1.2.2.2.2.1
 ((exact_Of 1).bind fun v6 =>
 some (v6.1, 0, ()))
 ((exact_Of 0).bind fun v7 =>
 some (v7.1, 0, ())))))
 | .inr z8 => (some (z8.2.2.1, z8.2.1, ())))
def value_ToText (a0 : TA0) : Option (Str × (Int × Unit)) :=
 let v1 : TA0 := (tn a0)
 (value_scalar v1).bind fun v2 =>
 cond (decide (v2.1.data.1 = 4))
 (some ([], v2.1.data.2.2.2.2.1, ()))
 (let v3 : TA0 := (tn v2.1)
 (value_shown v3).bind fun v4 =>
 some (v4.1, 0, ()))
def value_ToBool (a0 : TA0) : Option (Bool × (Int × Unit)) :=
 let v1 : TA0 := (tn a0)
 (value_scalar v1).bind fun v2 =>
 (cond (decide (v2.1.data.1 = 2))
 ((value_Enter v2.1.data.2.2.1).bind fun v3 =>
 cond (!decide (v3.1.data.1 = 3))
 (some (.inr (false, 2, ())))
 (some (.inl ((), (v3.1.data.1, (v3.1.data.2.1.1, (v3.1.data.2.1.2.1, (v3.1.data.2.2.1, (v3.1.data.2.2.2.1, (v3.1.data.2.2.2.2.1, (v3.1.data.2.2.2.2.2.1, (v3.1.data.2.2.2.2.2.2.1, (v3.1.kids, ()))))))))), ()))))
 (some (.inl ((), (v2.1.data.1, (v2.1.data.2.1.1, (v2.1.data.2.1.2.1, (v2.1.data.2.2.1, (v2.1.data.2.2.2.1, (v2.1.data.2.2.2.2.1, (v2.1.data.2.2.2.2.2.1, (v2.1.data.2.2.2.2.2.2.1, (v2.1.kids, ()))))))))), ()))) : Option ((Unit × TA2) ⊕ (Bool × (Int × Unit)))).bind fun r4 =>
 (match r4 with
 | .inl z5 => (cond (decide (z5.2.1.1 = 1))
 (some (!decide (z5.2.1.2.1 = [48]), 0, ()))
 (cond (decide (z5.2.1.1 = 4))
 (some (false, z5.2.1.2.2.2.2.2.1, ()))
 (some (z5.2.1.2.2.2.2.1, 0, ()))))
 | .inr z6 => (some z6))
def chanceryref2_Fault (a0 : Int) : Option (TA0 × Unit) :=
 some ((Tree.node (4, (([], ([], ())), ([], (false, (a0, (0, (0, ()))))))) []), ())
def chanceryref2_scalar (a0 : TA0) : Option (TA0 × Unit) :=
 let v1 : TA0 := (tn a0)
 (chanceryref2_ValueError v1).bind fun v2 =>
 cond (!decide (v2.1 = 0))
 ((chanceryref2_Fault 2).bind fun v3 =>
 some ((tn v3.1), ()))
 (cond (decide (a0.data.1 = 5))
 ((idx a0.kids 0).bind fun v4 =>
 some ((tn v4), ()))
 (let v5 : TA0 := (tn a0)
 some ((tn v5), ())))
def chanceryref2_Text (a0 : Str) : Option (TA0 × Unit) :=
 (chanceryref2_TextError a0).bind fun v1 =>
 cond (!decide (v1.1 = 0))
 ((chanceryref2_Fault 2).bind fun v2 =>
 some ((tn v2.1), ()))
 (some ((Tree.node (2, (([], ([], ())), (a0, (false, (0, (0, (0, ()))))))) []), ()))
def chanceryref2_Lower_l1 (a0 : Str) (p1 : (Str × (Int × Unit))) : Option ((Str × (Int × Unit)) ⊕ (Str × Unit)) :=
 cond (decide (p1.2.1 < (a0.length : Int)))
 ((idx a0 p1.2.1).bind fun v1 =>
 ((cond (decide (65 <= (ofByte v1)))
 (some ((decide ((ofByte v1) <= 90)), ()))
 (some (false, ())) : Option TA5).bind fun r2 =>
 cond r2.1
 (some (IntKind.u8.wrap ((ofByte v1) + 32), ()))
 (some (ofByte v1, ())) : Option (Int × Unit)).bind fun r3 =>
 (cat p1.1 (bytesStr [r3.1])).bind fun v4 =>
 some (.inl (v4, IntKind.i64.wrap (p1.2.1 + 1), ())))
 (some (.inr (p1.1, ())))
def chanceryref2_Lower (a0 : Str) : Option (Str × Unit) :=
 (loop (chanceryref2_Lower_l1 a0) ([], 0, ())).bind fun r5 =>
 some r5
def chanceryref2_Bool (a0 : Bool) : Option (TA0 × Unit) :=
 some ((Tree.node (3, (([], ([], ())), ([], (a0, (0, (0, (0, ()))))))) []), ())
def chanceryref2_Has (a0 : Str) (a1 : Str) : Option TA5 :=
 cond (decide ((a1.length : Int) <= (a0.length : Int)))
 ((cut a0 0 (a1.length : Int)).bind fun v1 =>
 some ((decide (v1 = a1)), ()))
 (some (false, ()))
def chanceryref2_Digit (a0 : Int) : Option TA5 :=
 cond (decide (48 <= a0))
 (some ((decide (a0 <= 57)), ()))
 (some (false, ()))
def chanceryref2_enteredNumber_1 (a0 : Int) : Option TA5 :=
 (chanceryref2_Digit a0).bind fun v1 =>
 cond v1.1
 (some (true, ()))
 (some ((decide (a0 = 44)), ()))
def chanceryref2_span_enteredNumber_1_l1 (a0 : Str) (p1 : TA22) : Option (TA22 ⊕ TA18) :=
 cond (decide (p1.2.1 < (a0.length : Int)))
 ((idx a0 p1.2.1).bind fun v1 =>
 (chanceryref2_enteredNumber_1 (ofByte v1)).bind fun v2 =>
 cond (!v2.1)
 (some (.inr (.inr p1.2)))
 (some (.inl ((), IntKind.i64.wrap (p1.2.1 + 1), ()))))
 (some (.inr (.inl (()))))
def chanceryref2_span_enteredNumber_1 (a0 : Str) : Option (Int × Unit) :=
 (loop (chanceryref2_span_enteredNumber_1_l1 a0) ((), 0, ())).bind fun r3 =>
 (match r3 with
 | .inl _ => (some ((a0.length : Int), ()))
 | .inr z5 => (some z5))
def chanceryref2_Split_l1 (a0 : Str) (a1 : Int) (p1 : (Unit × (Int × (Int × TA19)))) : Option ((Unit × (Int × (Int × TA19))) ⊕ (Unit × (Int × TA19))) :=
 cond (decide (p1.2.2.1 < (a0.length : Int)))
 (((idx a0 p1.2.2.1).bind fun v1 =>
 cond (decide ((ofByte v1) = a1))
 ((cut a0 p1.2.1 p1.2.2.1).bind fun v2 =>
 (cat p1.2.2.2.1 [v2]).bind fun v3 =>
 some ((), IntKind.i64.wrap (p1.2.2.1 + 1), v3, ()))
 (some ((), p1.2.1, p1.2.2.2.1, ())) : Option (Unit × (Int × TA19))).bind fun r4 =>
 some (.inl ((), r4.2.1, IntKind.i64.wrap (p1.2.2.1 + 1), r4.2.2.1, ())))
 (some (.inr ((), p1.2.1, p1.2.2.2.1, ())))
def chanceryref2_Split (a0 : Str) (a1 : Int) : Option TA19 :=
 (loop (chanceryref2_Split_l1 a0 a1) ((), 0, 0, [], ())).bind fun r5 =>
 (cut a0 r5.2.1 (a0.length : Int)).bind fun v6 =>
 (cat r5.2.2.1 [v6]).bind fun v7 =>
 some (v7, ())
def chanceryref2_All_Digit_l1 (a0 : Str) (p1 : TA22) : Option (TA22 ⊕ (Unit ⊕ TA5)) :=
 cond (decide (p1.2.1 < (a0.length : Int)))
 ((idx a0 p1.2.1).bind fun v1 =>
 (chanceryref2_Digit (ofByte v1)).bind fun v2 =>
 cond (!v2.1)
 (some (.inr (.inr (false, ()))))
 (some (.inl ((), IntKind.i64.wrap (p1.2.1 + 1), ()))))
 (some (.inr (.inl (()))))
def chanceryref2_All_Digit (a0 : Str) : Option TA5 :=
 (loop (chanceryref2_All_Digit_l1 a0) ((), 0, ())).bind fun r3 =>
 (match r3 with
 | .inl _ => (some (true, ()))
 | .inr z5 => (some z5))
def chanceryref2_allDigits (a0 : Str) : Option TA5 :=
 cond (!decide (a0 = []))
 ((chanceryref2_All_Digit a0).bind fun v1 =>
 some (v1.1, ()))
 (some (false, ()))
def chanceryref2_span_Digit_l1 (a0 : Str) (p1 : TA22) : Option (TA22 ⊕ TA18) :=
 cond (decide (p1.2.1 < (a0.length : Int)))
 ((idx a0 p1.2.1).bind fun v1 =>
 (chanceryref2_Digit (ofByte v1)).bind fun v2 =>
 cond (!v2.1)
 (some (.inr (.inr p1.2)))
 (some (.inl ((), IntKind.i64.wrap (p1.2.1 + 1), ()))))
 (some (.inr (.inl (()))))
def chanceryref2_span_Digit (a0 : Str) : Option (Int × Unit) :=
 (loop (chanceryref2_span_Digit_l1 a0) ((), 0, ())).bind fun r3 =>
 (match r3 with
 | .inl _ => (some ((a0.length : Int), ()))
 | .inr z5 => (some z5))
def chanceryref2_small_l1 (a0 : Str) (p1 : TA9) : Option (TA9 ⊕ (Int × Unit)) :=
 cond (decide (p1.2.1 < (a0.length : Int)))
 ((idx a0 p1.2.1).bind fun v1 =>
 let v2 : Int := IntKind.i64.wrap ((IntKind.i64.wrap (10 * p1.1)) + (IntKind.i64.wrap (IntKind.u8.wrap ((ofByte v1) - 48))))
 some (.inl (v2, IntKind.i64.wrap (p1.2.1 + 1), ())))
 (some (.inr (p1.1, ())))
def chanceryref2_small (a0 : Str) : Option (Int × Unit) :=
 (loop (chanceryref2_small_l1 a0) (0, 0, ())).bind fun r3 =>
 some r3
def chanceryref2_ReadDecimal (a0 : Str) : Option (TA1 × (Int × Unit)) :=
 cond (decide (1000 < (a0.length : Int)))
 (some ((false, ([], ([], ()))), 3, ()))
 (((chanceryref2_Has a0 [45]).bind fun v1 =>
 cond v1.1
 ((cut a0 1 (a0.length : Int)).bind fun v2 =>
 some ((), v2, true, (false, ([], ([], ()))), ()))
 (some ((), a0, false, (false, ([], ([], ()))), ())) : Option (Unit × (Str × (Bool × (TA1 × Unit))))).bind fun r3 =>
 (chanceryref2_span_Digit r3.2.1).bind fun v4 =>
 (cut r3.2.1 0 v4.1).bind fun v5 =>
 (cut r3.2.1 v4.1 (r3.2.1.length : Int)).bind fun v6 =>
 ((chanceryref2_Has v6 [46]).bind fun v7 =>
 cond v7.1
 ((cut v6 1 (v6.length : Int)).bind fun v8 =>
 (chanceryref2_span_Digit v8).bind fun v9 =>
 (cut v6 1 (IntKind.i64.wrap (1 + v9.1))).bind fun v10 =>
 (cut v6 (IntKind.i64.wrap (1 + v9.1)) (v6.length : Int)).bind fun v11 =>
 cond (decide (v10 = []))
 (some (.inr ((), 10, (false, ([], ([], ()))), ())))
 (some (.inl ((), v11, v10, r3.2.2.2.1, ()))))
 (some (.inl ((), v6, [], r3.2.2.2.1, ()))) : Option ((Unit × (Str × (Str × (TA1 × Unit)))) ⊕ TA13)).bind fun r12 =>
 (match r12 with
 | .inl z13 => ((cond (!decide (z13.2.1 = []))
 (((idx z13.2.1 0).bind fun v14 =>
 cond (!decide ((ofByte v14) = 101))
 ((idx z13.2.1 0).bind fun v15 =>
 some ((), (!decide ((ofByte v15) = 69)), z13.2.2.2.1, ()))
 (some ((), false, z13.2.2.2.1, ())) : Option TA7).bind fun r16 =>
 cond r16.2.1
 (some (.inr ((), 10, (false, ([], ([], ()))), ())))
 ((cut z13.2.1 1 (z13.2.1.length : Int)).bind fun v17 =>
 (((chanceryref2_Has v17 [43]).bind fun v18 =>
 cond v18.1
 (some ((), true, r16.2.2.1, ()))
 ((chanceryref2_Has v17 [45]).bind fun v19 =>
 some ((), v19.1, r16.2.2.1, ())) : Option TA7).bind fun r20 =>
 cond r20.2.1
 (((idx v17 0).bind fun v21 =>
 cond (decide ((ofByte v21) = 45))
 (some ((), (-1), r20.2.2.1, ()))
 (some ((), 1, r20.2.2.1, ())) : Option TA13).bind fun r22 =>
 (cut v17 1 (v17.length : Int)).bind fun v23 =>
 some ((), v23, r22.2.1, r22.2.2.1, ()))
 (some ((), v17, 1, r20.2.2.1, ())) : Option (Unit × (Str × (Int × (TA1 × Unit))))).bind fun r24 =>
 ((chanceryref2_allDigits r24.2.1).bind fun v25 =>
 cond (!v25.1)
 (some ((), true, r24.2.2.2.1, ()))
 (some ((), (decide (3 < (r24.2.1.length : Int))), r24.2.2.2.1, ())) : Option TA7).bind fun r26 =>
 cond r26.2.1
 (some (.inr ((), 10, (false, ([], ([], ()))), ())))
 ((chanceryref2_small r24.2.1).bind fun v27 =>
 some (.inl ((), IntKind.i64.wrap (r24.2.2.1 * v27.1), r26.2.2.1, ())))))
 (some (.inl ((), 0, z13.2.2.2.1, ()))) : Option (TA13 ⊕ TA13)).bind fun r28 =>
 (match r28 with
 | .inl z29 => (cond (decide (v5 = []))
 (some ((false, ([], ([], ()))), 10, ()))
 ((cat v5 z13.2.2.1).bind fun v30 =>
 (chanceryref2_NatOf v30).bind fun v31 =>
 (chanceryref2_Rat__Scaled (r3.2.2.1, v31.1, [1], ()) (IntKind.i64.wrap (z29.2.1 - (z13.2.2.1.length : Int)))).bind fun v32 =>
 (chanceryref2_Rat__Frac v32.1).bind fun v33 =>
 some (v32.1, v33.2.1, ())))
 | .inr z34 => (some (z34.2.2.1, z34.2.1, ()))))
 | .inr z35 => (some (z35.2.2.1, z35.2.1, ()))))
def chanceryref2_enteredNumber_l1 (v14 : TA19) (p1 : (Unit × (Str × (Int × (TA1 × Unit))))) : Option ((Unit × (Str × (Int × (TA1 × Unit)))) ⊕ (TA15 ⊕ TA7)) :=
 cond (decide (p1.2.2.1 < (v14.1.length : Int)))
 ((idx v14.1 p1.2.2.1).bind fun v15 =>
 ((chanceryref2_allDigits v15).bind fun v16 =>
 cond (!v16.1)
 (some ((), true, p1.2.2.2.1, ()))
 (cond (decide (1 < (v14.1.length : Int)))
 (cond (decide (p1.2.2.1 = 0))
 (cond ((decide (3 < (v15.length : Int))))
 (some ((), (true), p1.2.2.2.1, ()))
 (cond (decide (0 < p1.2.2.1))
 (let v17 : Bool := ((!decide ((v15.length : Int) = 3)))
 some ((), (v17), p1.2.2.2.1, ()))
 (some ((), ((false)), p1.2.2.2.1, ()))))
 (cond (decide (0 < p1.2.2.1))
 (let v18 : Bool := ((!decide ((v15.length : Int) = 3)))
 some ((), (v18), p1.2.2.2.1, ()))
 (some ((), ((false)), p1.2.2.2.1, ()))))
 (some ((), false, p1.2.2.2.1, ()))) : Option TA7).bind fun r19 =>
 cond r19.2.1
 (some (.inr (.inr ((), false, (false, ([], ([], ()))), ()))))
 ((cat p1.2.1 v15).bind fun v20 =>
 some (.inl ((), v20, IntKind.i64.wrap (p1.2.2.1 + 1), r19.2.2.1, ()))))
 (some (.inr (.inl ((), p1.2.1, p1.2.2.2.1, ()))))
def chanceryref2_enteredNumber (a0 : Str) : Option (TA1 × TA5) :=
 (((chanceryref2_Has a0 [45]).bind fun v1 =>
 cond v1.1
 (some ((), true, (false, ([], ([], ()))), ()))
 ((chanceryref2_Has a0 [43]).bind fun v2 =>
 some ((), v2.1, (false, ([], ([], ()))), ())) : Option TA7).bind fun r3 =>
 cond r3.2.1
 (((idx a0 0).bind fun v4 =>
 cond (decide ((ofByte v4) = 45))
 (some ((), [45], r3.2.2.1, ()))
 (some ((), [], r3.2.2.1, ())) : Option TA15).bind fun r5 =>
 (cut a0 1 (a0.length : Int)).bind fun v6 =>
 some (v6, (), r5.2.1, r5.2.2.1, ()))
 (some (a0, (), [], r3.2.2.1, ())) : Option (Str × TA15)).bind fun r7 =>
 (cond (!decide (r7.1 = []))
 ((idx r7.1 (IntKind.i64.wrap ((r7.1.length : Int) - 1))).bind fun v8 =>
 some ((), (decide ((ofByte v8) = 37)), r7.2.2.2.1, ()))
 (some ((), false, r7.2.2.2.1, ())) : Option TA7).bind fun r9 =>
 (cond r9.2.1
 ((cut r7.1 0 (IntKind.i64.wrap ((r7.1.length : Int) - 1))).bind fun v10 =>
 some (v10, (), r9.2.2.1, ()))
 (some (r7.1, (), r9.2.2.1, ())) : Option (Str × (Unit × (TA1 × Unit)))).bind fun r11 =>
 (chanceryref2_span_enteredNumber_1 r11.1).bind fun v12 =>
 (cut r11.1 0 v12.1).bind fun v13 =>
 (chanceryref2_Split v13 44).bind fun v14 =>
 (loop (chanceryref2_enteredNumber_l1 v14) ((), [], 0, r11.2.2.1, ())).bind fun r21 =>
 (match r21 with
 | .inl z22 => ((cat r7.2.2.1 z22.2.1).bind fun v23 =>
 (cut r11.1 v12.1 (r11.1.length : Int)).bind fun v24 =>
 (cat v23 v24).bind fun v25 =>
 (chanceryref2_ReadDecimal v25).bind fun v26 =>
 cond (!decide (v26.2.1 = 0))
 (some ((false, ([], ([], ()))), false, ()))
 ((cond r9.2.1
 ((chanceryref2_Rat__Scaled v26.1 (-2)).bind fun v27 =>
 some ((), (), z22.2.2.1, v27.1, ()))
 (some ((), (), z22.2.2.1, v26.1, ())) : Option (Unit × (Unit × TA23))).bind fun r28 =>
 (chanceryref2_Rat__Frac r28.2.2.2.1).bind fun v29 =>
 some (r28.2.2.2.1, decide (v29.2.1 = 0), ())))
 | .inr z30 => (some (z30.2.2.1, z30.2.1, ())))
def chanceryref2_Number (a0 : TA1) : Option (TA0 × Unit) :=
 (chanceryref2_Rat__Frac a0).bind fun v1 =>
 cond (!decide (v1.2.1 = 0))
 ((chanceryref2_Fault 5).bind fun v2 =>
 some ((tn v2.1), ()))
 (let v3 : TA0 := (Tree.node (1, v1.1, [], false, 0, 0, 0, ()) [])
 some ((tn v3), ()))
def chanceryref2_enteredMixed_l1 (v7 : Str) (v8 : Str) (v9 : Str) (p1 : TA13) : Option (TA13 ⊕ ((Unit × (TA1 × Unit)) ⊕ TA7)) :=
 cond (decide (p1.2.1 < 3))
 ((idx [v7, v8, v9] p1.2.1).bind fun v10 =>
 ((chanceryref2_allDigits v10).bind fun v11 =>
 cond (!v11.1)
 (some ((), true, p1.2.2.1, ()))
 (some ((), (decide (100 < (v10.length : Int))), p1.2.2.1, ())) : Option TA7).bind fun r12 =>
 cond r12.2.1
 (some (.inr (.inr ((), false, (false, ([], ([], ()))), ()))))
 (some (.inl ((), IntKind.i64.wrap (p1.2.1 + 1), r12.2.2.1, ()))))
 (some (.inr (.inl ((), p1.2.2.1, ()))))
def chanceryref2_enteredMixed (a0 : Str) : Option (TA1 × TA5) :=
 (chanceryref2_Has a0 [45]).bind fun v1 =>
 (cond v1.1
 ((cut a0 1 (a0.length : Int)).bind fun v2 =>
 some (v2, (), (false, ([], ([], ()))), ()))
 (some (a0, (), (false, ([], ([], ()))), ())) : Option (Str × (Unit × (TA1 × Unit)))).bind fun r3 =>
 (chanceryref2_Split r3.1 32).bind fun v4 =>
 cond (!decide ((v4.1.length : Int) = 2))
 (some ((false, ([], ([], ()))), false, ()))
 ((idx v4.1 1).bind fun v5 =>
 (chanceryref2_Split v5 47).bind fun v6 =>
 cond (!decide ((v6.1.length : Int) = 2))
 (some ((false, ([], ([], ()))), false, ()))
 ((idx v4.1 0).bind fun v7 =>
 (idx v6.1 0).bind fun v8 =>
 (idx v6.1 1).bind fun v9 =>
 (loop (chanceryref2_enteredMixed_l1 v7 v8 v9) ((), 0, r3.2.2.1, ())).bind fun r13 =>
 (match r13 with
 | .inl _ => ((idx v6.1 1).bind fun v15 =>
 (chanceryref2_NatOf v15).bind fun v16 =>
 cond (decide ((v16.1.length : Int) = 0))
 (some ((false, ([], ([], ()))), false, ()))
 ((idx v4.1 0).bind fun v17 =>
 (chanceryref2_NatOf v17).bind fun v18 =>
 (idx v6.1 0).bind fun v19 =>
 (chanceryref2_NatOf v19).bind fun v20 =>
 (chanceryref2_Rat__Add (false, v18.1, [1], ()) (false, v20.1, v16.1, ())).bind fun v21 =>
 some ((v1.1, v21.1.2), true, ())))
 | .inr z22 => (some (z22.2.2.1, z22.2.1, ())))))
def chanceryref2_Leap (a0 : Int) : Option TA5 :=
 (rem a0 4).bind fun v1 =>
 cond (decide (v1 = 0))
 ((rem a0 100).bind fun v2 =>
 cond ((!decide (v2 = 0)))
 (some (true, ()))
 ((rem a0 400).bind fun v3 =>
 some ((decide (v3 = 0)), ())))
 ((rem a0 400).bind fun v4 =>
 some ((decide (v4 = 0)), ()))
def chanceryref2_MonthDays (a0 : Int) (a1 : Int) : Option (Int × Unit) :=
 cond (decide (a1 = 2))
 ((chanceryref2_Leap a0).bind fun v1 =>
 cond v1.1
 (some (29, ()))
 (some (28, ())))
 ((cond (decide (a1 = 4))
 (some (true, ()))
 (cond ((decide (a1 = 6)))
 (some (true, ()))
 (cond ((decide (a1 = 9)))
 (some (true, ()))
 (some ((decide (a1 = 11)), ())))) : Option TA5).bind fun r2 =>
 cond r2.1
 (some (30, ()))
 (some (31, ())))
def chanceryref2_Day_l1 (a0 : Int) (p1 : TA9) : Option (TA9 ⊕ (Int × Unit)) :=
 cond (decide (p1.2.1 < a0))
 (((chanceryref2_Leap p1.2.1).bind fun v3 =>
 cond v3.1
 (some (IntKind.i64.wrap ((IntKind.i64.wrap (p1.1 + 365)) + 1), ()))
 (some (IntKind.i64.wrap (p1.1 + 365), ())) : Option (Int × Unit)).bind fun r4 =>
 some (.inl (r4.1, IntKind.i64.wrap (p1.2.1 + 1), ())))
 (some (.inr (p1.1, ())))
def chanceryref2_Day_l2 (a1 : Int) (a0 : Int) (p2 : TA9) : Option (TA9 ⊕ (Int × Unit)) :=
 cond (decide (p2.2.1 < a1))
 ((chanceryref2_MonthDays a0 p2.2.1).bind fun v6 =>
 some (.inl (IntKind.i64.wrap (p2.1 + v6.1), IntKind.i64.wrap (p2.2.1 + 1), ())))
 (some (.inr (p2.1, ())))
def chanceryref2_Day (a0 : Int) (a1 : Int) (a2 : Int) : Option (Int × Unit) :=
 (cond (decide (a0 < 1900))
 (some (true, ()))
 (cond ((decide (9999 < a0)))
 (some (true, ()))
 (cond ((decide (a1 < 1)))
 (some (true, ()))
 (cond ((decide (12 < a1)))
 (some (true, ()))
 (cond ((decide (a2 < 1)))
 (some (true, ()))
 ((chanceryref2_MonthDays a0 a1).bind fun v1 =>
 some ((decide (v1.1 < a2)), ())))))) : Option TA5).bind fun r2 =>
 cond r2.1
 (some (0, ()))
 ((loop (chanceryref2_Day_l1 a0) (a2, 1900, ())).bind fun r5 =>
 (loop (chanceryref2_Day_l2 a1 a0) (r5.1, 1, ())).bind fun r7 =>
 some r7)
def chanceryref2_Decimal_s (rec : Int -> Option (Str × Unit)) (a0 : Int) : Option (Str × Unit) :=
 cond (decide (a0 <= (-10)))
 ((quo .i64 a0 10).bind fun v1 =>
 (rec v1).bind fun v2 =>
 (rem a0 10).bind fun v3 =>
 (cat v2.1 (bytesStr [IntKind.u8.wrap (IntKind.i64.wrap (48 - v3))])).bind fun v4 =>
 some (v4, ()))
 (cond (decide (a0 < 0))
 ((cat [45] (bytesStr [IntKind.u8.wrap (IntKind.i64.wrap (48 - a0))])).bind fun v5 =>
 some (v5, ()))
 (cond (decide (10 <= a0))
 ((quo .i64 a0 10).bind fun v6 =>
 (rec v6).bind fun v7 =>
 (rem a0 10).bind fun v8 =>
 (cat v7.1 (bytesStr [IntKind.u8.wrap (IntKind.i64.wrap (48 + v8))])).bind fun v9 =>
 some (v9, ()))
 (some (bytesStr [IntKind.u8.wrap (IntKind.i64.wrap (48 + a0))], ()))))
def chanceryref2_Decimal_f : Nat -> Int -> Option (Str × Unit)
 | 0 => fun _ => none
 | n + 1 => chanceryref2_Decimal_s (chanceryref2_Decimal_f n)
def chanceryref2_Decimal (a0 : Int) : Option (Str × Unit) := chanceryref2_Decimal_f rounds a0
def chanceryref2_unsigned (a0 : Int) : Option (Str × Unit) :=
 (chanceryref2_Decimal a0).bind fun v1 =>
 (cut v1.1 1 (v1.1.length : Int)).bind fun v2 =>
 some (v2, ())
def chanceryref2_Whole (a0 : Int) : Option (TA1 × Unit) :=
 cond (decide (a0 < 0))
 ((chanceryref2_unsigned a0).bind fun v1 =>
 (chanceryref2_NatOf v1.1).bind fun v2 =>
 some ((true, (v2.1, ([1], ()))), ()))
 ((chanceryref2_Decimal a0).bind fun v3 =>
 (chanceryref2_NatOf v3.1).bind fun v4 =>
 some ((false, (v4.1, ([1], ()))), ()))
def chanceryref2_enteredDate (a0 : Str) : Option (TA1 × TA5) :=
 (chanceryref2_Split a0 45).bind fun v1 =>
 (cond (!decide ((v1.1.length : Int) = 3))
 (some ((), true, (false, ([], ([], ()))), ()))
 ((idx v1.1 0).bind fun v2 =>
 cond ((!decide ((v2.length : Int) = 4)))
 (some ((), true, (false, ([], ([], ()))), ()))
 ((idx v1.1 1).bind fun v3 =>
 cond ((!decide ((v3.length : Int) = 2)))
 (some ((), true, (false, ([], ([], ()))), ()))
 ((idx v1.1 2).bind fun v4 =>
 cond ((!decide ((v4.length : Int) = 2)))
 (some ((), true, (false, ([], ([], ()))), ()))
 ((idx v1.1 0).bind fun v5 =>
 (chanceryref2_allDigits v5).bind fun v6 =>
 cond ((!v6.1))
 (some ((), true, (false, ([], ([], ()))), ()))
 ((idx v1.1 1).bind fun v7 =>
 (chanceryref2_allDigits v7).bind fun v8 =>
 cond ((!v8.1))
 (some ((), true, (false, ([], ([], ()))), ()))
 ((idx v1.1 2).bind fun v9 =>
 (chanceryref2_allDigits v9).bind fun v10 =>
 some ((), (!v10.1), (false, ([], ([], ()))), ()))))))) : Option TA7).bind fun r11 =>
 cond r11.2.1
 (some ((false, ([], ([], ()))), false, ()))
 ((idx v1.1 0).bind fun v12 =>
 (chanceryref2_small v12).bind fun v13 =>
 (idx v1.1 1).bind fun v14 =>
 (chanceryref2_small v14).bind fun v15 =>
 (idx v1.1 2).bind fun v16 =>
 (chanceryref2_small v16).bind fun v17 =>
 (chanceryref2_Day v13.1 v15.1 v17.1).bind fun v18 =>
 (chanceryref2_Whole v18.1).bind fun v19 =>
 some (v19.1, decide (0 < v18.1), ()))
def chanceryref2_Rat__Inverse (a0 : TA1) : Option (TA1 × Unit) :=
 some ((a0.1, (a0.2.2.1, (a0.2.1, ()))), ())
def chanceryref2_Rat__Mul (a0 : TA1) (a1 : TA1) : Option (TA1 × Unit) :=
 (chanceryref2_Nat__Times a0.2.1 a1.2.1).bind fun v1 =>
 (chanceryref2_Nat__Times a0.2.2.1 a1.2.2.1).bind fun v2 =>
 some ((!(a0.1 == a1.1), (v1.1, v2)), ())
def chanceryref2_enteredTime (a0 : Str) : Option (TA1 × TA5) :=
 (chanceryref2_Split a0 58).bind fun v1 =>
 (cond (decide ((v1.1.length : Int) < 2))
 (some ((), true, (false, ([], ([], ()))), ()))
 (cond ((decide (3 < (v1.1.length : Int))))
 (some ((), true, (false, ([], ([], ()))), ()))
 ((idx v1.1 0).bind fun v2 =>
 (chanceryref2_allDigits v2).bind fun v3 =>
 cond ((!v3.1))
 (some ((), true, (false, ([], ([], ()))), ()))
 ((idx v1.1 0).bind fun v4 =>
 cond ((decide (2 < (v4.length : Int))))
 (some ((), true, (false, ([], ([], ()))), ()))
 ((idx v1.1 1).bind fun v5 =>
 (chanceryref2_allDigits v5).bind fun v6 =>
 cond ((!v6.1))
 (some ((), true, (false, ([], ([], ()))), ()))
 ((idx v1.1 1).bind fun v7 =>
 cond ((!decide ((v7.length : Int) = 2)))
 (some ((), true, (false, ([], ([], ()))), ()))
 ((idx v1.1 0).bind fun v8 =>
 (chanceryref2_small v8).bind fun v9 =>
 cond ((decide (23 < v9.1)))
 (some ((), true, (false, ([], ([], ()))), ()))
 ((idx v1.1 1).bind fun v10 =>
 (chanceryref2_small v10).bind fun v11 =>
 some ((), (decide (59 < v11.1)), (false, ([], ([], ()))), ())))))))) : Option TA7).bind fun r12 =>
 cond r12.2.1
 (some ((false, ([], ([], ()))), false, ()))
 ((idx v1.1 0).bind fun v13 =>
 (chanceryref2_small v13).bind fun v14 =>
 (idx v1.1 1).bind fun v15 =>
 (chanceryref2_small v15).bind fun v16 =>
 let v17 : Int := IntKind.i64.wrap ((IntKind.i64.wrap (3600 * v14.1)) + (IntKind.i64.wrap (60 * v16.1)))
 (chanceryref2_Whole v17).bind fun v18 =>
 (cond (decide ((v1.1.length : Int) = 3))
 ((idx v1.1 2).bind fun v19 =>
 (chanceryref2_Split v19 46).bind fun v20 =>
 (cond (decide (2 < (v20.1.length : Int)))
 (some ((), (), true, r12.2.2.1, v18.1, ()))
 ((idx v20.1 0).bind fun v21 =>
 cond ((!decide ((v21.length : Int) = 2)))
 (some ((), (), true, r12.2.2.1, v18.1, ()))
 ((idx v20.1 0).bind fun v22 =>
 (chanceryref2_allDigits v22).bind fun v23 =>
 cond ((!v23.1))
 (some ((), (), true, r12.2.2.1, v18.1, ()))
 ((idx v20.1 0).bind fun v24 =>
 (chanceryref2_small v24).bind fun v25 =>
 cond ((decide (59 < v25.1)))
 (some ((), (), true, r12.2.2.1, v18.1, ()))
 (cond (decide ((v20.1.length : Int) = 2))
 ((idx v20.1 1).bind fun v26 =>
 (chanceryref2_allDigits v26).bind fun v27 =>
 cond (!v27.1)
 (some ((), (), (true), r12.2.2.1, v18.1, ()))
 ((idx v20.1 1).bind fun v28 =>
 let v29 : Bool := ((decide (9 < (v28.length : Int))))
 some ((), (), v29, r12.2.2.1, v18.1, ())))
 (some ((), (), false, r12.2.2.1, v18.1, ())))))) : Option (Unit × (Unit × (Bool × TA23)))).bind fun r30 =>
 cond r30.2.2.1
 (some (.inr ((), false, (false, ([], ([], ()))), ())))
 (let v31 : TA1 := r30.2.2.2.2.1
 (idx v20.1 0).bind fun v32 =>
 (chanceryref2_small v32).bind fun v33 =>
 (chanceryref2_Whole v33.1).bind fun v34 =>
 (chanceryref2_Rat__Add v31 v34.1).bind fun v35 =>
 cond (decide ((v20.1.length : Int) = 2))
 ((idx v20.1 1).bind fun v36 =>
 (chanceryref2_NatOf v36).bind fun v37 =>
 (idx v20.1 1).bind fun v38 =>
 (chanceryref2_Rat__Scaled (false, v37.1, [1], ()) (IntKind.i64.wrap (0 - (v38.length : Int)))).bind fun v39 =>
 (chanceryref2_Rat__Add v35.1 v39.1).bind fun v40 =>
 some (.inl ((), (), r30.2.2.2.1, v40.1, ())))
 (some (.inl ((), (), r30.2.2.2.1, v35.1, ())))))
 (some (.inl ((), (), r12.2.2.1, v18.1, ()))) : Option ((Unit × (Unit × TA23)) ⊕ TA7)).bind fun r41 =>
 (match r41 with
 | .inl z42 => ((chanceryref2_Whole 86400).bind fun v43 =>
 (chanceryref2_Rat__Inverse v43.1).bind fun v44 =>
 (chanceryref2_Rat__Mul z42.2.2.2.1 v44.1).bind fun v45 =>
 some (v45.1, true, ()))
 | .inr z46 => (some (z46.2.2.1, z46.2.1, ()))))
def chanceryref2_enteredMoment_l1 (a0 : Str) (p1 : TA13) : Option (TA13 ⊕ ((Unit × (TA1 × Unit)) ⊕ TA7)) :=
 cond (decide (p1.2.1 < (a0.length : Int)))
 ((idx a0 p1.2.1).bind fun v1 =>
 cond (decide ((ofByte v1) = 32))
 ((cut a0 0 p1.2.1).bind fun v2 =>
 (chanceryref2_enteredDate v2).bind fun v3 =>
 (cut a0 (IntKind.i64.wrap (p1.2.1 + 1)) (a0.length : Int)).bind fun v4 =>
 (chanceryref2_enteredTime v4).bind fun v5 =>
 (cond (!v3.2.1)
 (some ((), (), (), true, p1.2.2.1, v3.1, v5.1, ()))
 (some ((), (), (), (!v5.2.1), p1.2.2.1, v3.1, v5.1, ())) : Option (Unit × (Unit × (Unit × (Bool × (TA1 × TA23)))))).bind fun r6 =>
 cond r6.2.2.2.1
 (some (.inr (.inr ((), false, (false, ([], ([], ()))), ()))))
 (let v7 : TA1 := r6.2.2.2.2.2.1
 let v8 : TA1 := r6.2.2.2.2.2.2.1
 (chanceryref2_Rat__Add v7 v8).bind fun v9 =>
 some (.inr (.inr ((), true, v9.1, ())))))
 (some (.inl ((), IntKind.i64.wrap (p1.2.1 + 1), p1.2.2.1, ()))))
 (some (.inr (.inl ((), p1.2.2.1, ()))))
def chanceryref2_enteredMoment (a0 : Str) : Option (TA1 × TA5) :=
 (loop (chanceryref2_enteredMoment_l1 a0) ((), 0, (false, ([], ([], ()))), ())).bind fun r10 =>
 (match r10 with
 | .inl _ => (some ((false, ([], ([], ()))), false, ()))
 | .inr z12 => (some (z12.2.2.1, z12.2.1, ())))
def chanceryref2_Enter_l1 (a0 : Str) (p1 : (Unit × (Int × TA2))) : Option ((Unit × (Int × TA2)) ⊕ ((Unit × TA2) ⊕ (Unit × TA2))) :=
 cond (decide (p1.2.1 <= 8))
 ((idx ([[], [35, 68, 73, 86, 47, 48, 33], [35, 86, 65, 76, 85, 69, 33], [35, 82, 69, 70, 33], [35, 78, 65, 77, 69, 63], [35, 78, 85, 77, 33], [35, 78, 47, 65], [35, 83, 80, 73, 76, 76, 33], [35, 67, 89, 67, 76, 69, 33]] : (List Str)) p1.2.1).bind fun v11 =>
 cond (decide (a0 = v11))
 ((chanceryref2_Fault p1.2.1).bind fun v12 =>
 some (.inr (.inr ((), (v12.1.data.1, (v12.1.data.2.1.1, (v12.1.data.2.1.2.1, (v12.1.data.2.2.1, (v12.1.data.2.2.2.1, (v12.1.data.2.2.2.2.1, (v12.1.data.2.2.2.2.2.1, (v12.1.data.2.2.2.2.2.2.1, (v12.1.kids, ()))))))))), ()))))
 (some (.inl ((), IntKind.i64.wrap (p1.2.1 + 1), p1.2.2.1, ()))))
 (some (.inr (.inl ((), p1.2.2.1, ()))))
def chanceryref2_Enter (a0 : Str) : Option (TA0 × Unit) :=
 cond (decide (a0 = []))
 (some ((Tree.node (0, (([], ([], ())), ([], (false, (0, (0, (0, ()))))))) []), ()))
 ((chanceryref2_TextError a0).bind fun v1 =>
 cond (!decide (v1.1 = 0))
 ((chanceryref2_Fault 2).bind fun v2 =>
 some ((tn v2.1), ()))
 ((idx a0 0).bind fun v3 =>
 cond (decide ((ofByte v3) = 39))
 ((cut a0 1 (a0.length : Int)).bind fun v4 =>
 (chanceryref2_Text v4).bind fun v5 =>
 some ((tn v5.1), ()))
 (((chanceryref2_Lower a0).bind fun v6 =>
 cond (decide (v6.1 = [116, 114, 117, 101]))
 (some ((), true, (0, ([], ([], ([], (false, (0, (0, (0, ([], ()))))))))), ()))
 ((chanceryref2_Lower a0).bind fun v7 =>
 some ((), (decide (v7.1 = [102, 97, 108, 115, 101])), (0, ([], ([], ([], (false, (0, (0, (0, ([], ()))))))))), ())) : Option TA14).bind fun r8 =>
 cond r8.2.1
 ((chanceryref2_Lower a0).bind fun v9 =>
 (chanceryref2_Bool (decide (v9.1 = [116, 114, 117, 101]))).bind fun v10 =>
 some ((tn v10.1), ()))
 ((loop (chanceryref2_Enter_l1 a0) ((), 1, r8.2.2.1, ())).bind fun r13 =>
 (match r13 with
 | .inl _ => ((chanceryref2_enteredNumber a0).bind fun v15 =>
 cond v15.2.1
 ((chanceryref2_Number v15.1).bind fun v16 =>
 some ((tn v16.1), ()))
 ((chanceryref2_enteredMixed a0).bind fun v17 =>
 cond v17.2.1
 ((chanceryref2_Number v17.1).bind fun v18 =>
 some ((tn v18.1), ()))
 ((chanceryref2_enteredDate a0).bind fun v19 =>
 cond v19.2.1
 ((chanceryref2_Number v19.1).bind fun v20 =>
 some ((tn v20.1), ()))
 ((chanceryref2_enteredTime a0).bind fun v21 =>
 cond v21.2.1
 ((chanceryref2_Number v21.1).bind fun v22 =>
 some ((tn v22.1), ()))
 ((chanceryref2_enteredMoment a0).bind fun v23 =>
 cond v23.2.1
 ((chanceryref2_Number v23.1).bind fun v24 =>
 some ((tn v24.1), ()))
 ((chanceryref2_Text a0).bind fun v25 =>
 some ((tn v25.1), ())))))))
 | .inr z26 => (some ((Tree.node (z26.2.1.1, ((z26.2.1.2.1, (z26.2.1.2.2.1, ())), (z26.2.1.2.2.2.1, (z26.2.1.2.2.2.2.1, (z26.2.1.2.2.2.2.2.1, (z26.2.1.2.2.2.2.2.2.1, (z26.2.1.2.2.2.2.2.2.2.1, ()))))))) z26.2.1.2.2.2.2.2.2.2.2.1), ())))))))
def chanceryref2_ToNumber (a0 : TA0) : Option (TA1 × (Int × Unit)) :=
 let v1 : TA0 := (tn a0)
 (chanceryref2_scalar v1).bind fun v2 =>
 (cond (decide (v2.1.data.1 = 2))
 ((chanceryref2_Enter v2.1.data.2.2.1).bind fun v3 =>
 cond (!decide (v3.1.data.1 = 1))
 (some (.inr ((), 2, (false, ([], ([], ()))), ())))
 (some (.inl ((), (), (v3.1.data.1, (v3.1.data.2.1.1, (v3.1.data.2.1.2.1, (v3.1.data.2.2.1, (v3.1.data.2.2.2.1, (v3.1.data.2.2.2.2.1, (v3.1.data.2.2.2.2.2.1, (v3.1.data.2.2.2.2.2.2.1, (v3.1.kids, ()))))))))), (false, ([], ([], ()))), ()))))
 (some (.inl ((), (), (v2.1.data.1, (v2.1.data.2.1.1, (v2.1.data.2.1.2.1, (v2.1.data.2.2.1, (v2.1.data.2.2.2.1, (v2.1.data.2.2.2.2.1, (v2.1.data.2.2.2.2.2.1, (v2.1.data.2.2.2.2.2.2.1, (v2.1.kids, ()))))))))), (false, ([], ([], ()))), ()))) : Option ((Unit × (Unit × ((Int × (Str × (Str × (Str × (Bool × (Int × (Int × (Int × ((List TA0) × Unit))))))))) × (TA1 × Unit)))) ⊕ TA13)).bind fun r4 =>
 (match r4 with
 | .inl z5 => (cond (decide (z5.2.2.1.1 = 4))
 (some ((false, ([], ([], ()))), z5.2.2.1.2.2.2.2.2.1, ()))
 (cond (decide (z5.2.2.1.1 = 1))
 ((chanceryref2_RatOf (z5.2.2.1.2.1, (z5.2.2.1.2.2.1, ()))).bind fun v6 =>
 some (v6.1, 0, ()))
 (cond z5.2.2.1.2.2.2.2.1
 ((chanceryref2_Whole 1).bind fun v7 =>
 some (v7.1, 0, ()))
 ((chanceryref2_Whole 0).bind fun v8 =>
 some (v8.1, 0, ())))))
 | .inr z9 => (some (z9.2.2.1, z9.2.1, ())))
def chanceryref2_ToText (a0 : TA0) : Option (Str × (Int × Unit)) :=
 let v1 : TA0 := (tn a0)
 (chanceryref2_scalar v1).bind fun v2 =>
 cond (decide (v2.1.data.1 = 4))
 (some ([], v2.1.data.2.2.2.2.1, ()))
 (let v3 : TA0 := (tn v2.1)
 (chanceryref2_Show v3).bind fun v4 =>
 some (v4.1, 0, ()))
def chanceryref2_ToBool (a0 : TA0) : Option (Bool × (Int × Unit)) :=
 let v1 : TA0 := (tn a0)
 (chanceryref2_scalar v1).bind fun v2 =>
 (cond (decide (v2.1.data.1 = 2))
 ((chanceryref2_Enter v2.1.data.2.2.1).bind fun v3 =>
 cond (!decide (v3.1.data.1 = 3))
 (some (.inr (false, 2, ())))
 (some (.inl ((), (v3.1.data.1, (v3.1.data.2.1.1, (v3.1.data.2.1.2.1, (v3.1.data.2.2.1, (v3.1.data.2.2.2.1, (v3.1.data.2.2.2.2.1, (v3.1.data.2.2.2.2.2.1, (v3.1.data.2.2.2.2.2.2.1, (v3.1.kids, ()))))))))), ()))))
 (some (.inl ((), (v2.1.data.1, (v2.1.data.2.1.1, (v2.1.data.2.1.2.1, (v2.1.data.2.2.1, (v2.1.data.2.2.2.1, (v2.1.data.2.2.2.2.1, (v2.1.data.2.2.2.2.2.1, (v2.1.data.2.2.2.2.2.2.1, (v2.1.kids, ()))))))))), ()))) : Option ((Unit × TA2) ⊕ (Bool × (Int × Unit)))).bind fun r4 =>
 (match r4 with
 | .inl z5 => (cond (decide (z5.2.1.1 = 4))
 (some (false, z5.2.1.2.2.2.2.2.1, ()))
 (cond z5.2.1.2.2.2.2.1
 (some (true, 0, ()))
 (cond (decide (z5.2.1.1 = 1))
 (let v6 : Bool := ((!decide (z5.2.1.2.1 = [48])))
 some (v6, 0, ()))
 (some (false, 0, ())))))
 | .inr z7 => (some z7))
def chancerylaw2_frac (a0 : TA4) (a1 : Int) (a2 : TA1) : Option TA5 :=
 (chanceryref2_Rat__Frac a2).bind fun v1 =>
 cond (Ty.beq (.pair .str (.pair .str .unit)) a0 v1.1)
 (some ((decide (a1 = v1.2.1)), ()))
 (some (false, ()))
def chancerylaw2_ValueConversionsMatch (a0 : TA0) : Option TA5 :=
 (chancerylaw2_values).bind fun v1 =>
 cond (!v1.1)
 (some (false, ()))
 (let v2 : TA0 := (tn a0)
 (value_Show v2).bind fun v3 =>
 let v4 : TA0 := (tn a0)
 (chanceryref2_ValueError v4).bind fun v5 =>
 (cond (!decide (v3.2.1 = v5.1))
 (some ((), true, (a0.data.1, (a0.data.2.1.1, (a0.data.2.1.2.1, (a0.data.2.2.1, (a0.data.2.2.2.1, (a0.data.2.2.2.2.1, (a0.data.2.2.2.2.2.1, (a0.data.2.2.2.2.2.2.1, (a0.kids, ()))))))))), ()))
 (cond (!decide (v5.1 = 0))
 (cond (((!decide (v3.1 = []))))
 (some ((), true, (a0.data.1, (a0.data.2.1.1, (a0.data.2.1.2.1, (a0.data.2.2.1, (a0.data.2.2.2.1, (a0.data.2.2.2.2.1, (a0.data.2.2.2.2.2.1, (a0.data.2.2.2.2.2.2.1, (a0.kids, ()))))))))), ()))
 (cond (decide (v5.1 = 0))
 (let v6 : TA0 := (tn a0)
 (chanceryref2_Show v6).bind fun v7 =>
 some ((), ((!decide (v3.1 = v7.1))), (a0.data.1, (a0.data.2.1.1, (a0.data.2.1.2.1, (a0.data.2.2.1, (a0.data.2.2.2.1, (a0.data.2.2.2.2.1, (a0.data.2.2.2.2.2.1, (a0.data.2.2.2.2.2.2.1, (a0.kids, ()))))))))), ()))
 (some ((), false, (a0.data.1, (a0.data.2.1.1, (a0.data.2.1.2.1, (a0.data.2.2.1, (a0.data.2.2.2.1, (a0.data.2.2.2.2.1, (a0.data.2.2.2.2.2.1, (a0.data.2.2.2.2.2.2.1, (a0.kids, ()))))))))), ()))))
 (cond (false)
 (some ((), true, (a0.data.1, (a0.data.2.1.1, (a0.data.2.1.2.1, (a0.data.2.2.1, (a0.data.2.2.2.1, (a0.data.2.2.2.2.1, (a0.data.2.2.2.2.2.1, (a0.data.2.2.2.2.2.2.1, (a0.kids, ()))))))))), ()))
 (cond (decide (v5.1 = 0))
 (let v8 : TA0 := (tn a0)
 (chanceryref2_Show v8).bind fun v9 =>
 some ((), ((!decide (v3.1 = v9.1))), (a0.data.1, (a0.data.2.1.1, (a0.data.2.1.2.1, (a0.data.2.2.1, (a0.data.2.2.2.1, (a0.data.2.2.2.2.1, (a0.data.2.2.2.2.2.1, (a0.data.2.2.2.2.2.2.1, (a0.kids, ()))))))))), ()))
 (some ((), false, (a0.data.1, (a0.data.2.1.1, (a0.data.2.1.2.1, (a0.data.2.2.1, (a0.data.2.2.2.1, (a0.data.2.2.2.2.1, (a0.data.2.2.2.2.2.1, (a0.data.2.2.2.2.2.2.1, (a0.kids, ()))))))))), ()))))) : Option TA14).bind fun r10 =>
 cond r10.2.1
 (some (false, ()))
 (let v11 : TA0 := (Tree.node (r10.2.2.1.1, ((r10.2.2.1.2.1, (r10.2.2.1.2.2.1, ())), (r10.2.2.1.2.2.2.1, (r10.2.2.1.2.2.2.2.1, (r10.2.2.1.2.2.2.2.2.1, (r10.2.2.1.2.2.2.2.2.2.1, (r10.2.2.1.2.2.2.2.2.2.2.1, ()))))))) r10.2.2.1.2.2.2.2.2.2.2.2.1)
 (value_ToNumber v11).bind fun v12 =>
 let v13 : TA0 := (Tree.node (r10.2.2.1.1, ((r10.2.2.1.2.1, (r10.2.2.1.2.2.1, ())), (r10.2.2.1.2.2.2.1, (r10.2.2.1.2.2.2.2.1, (r10.2.2.1.2.2.2.2.2.1, (r10.2.2.1.2.2.2.2.2.2.1, (r10.2.2.1.2.2.2.2.2.2.2.1, ()))))))) r10.2.2.1.2.2.2.2.2.2.2.2.1)
 (value_ToText v13).bind fun v14 =>
 let v15 : TA0 := (Tree.node (r10.2.2.1.1, ((r10.2.2.1.2.1, (r10.2.2.1.2.2.1, ())), (r10.2.2.1.2.2.2.1, (r10.2.2.1.2.2.2.2.1, (r10.2.2.1.2.2.2.2.2.1, (r10.2.2.1.2.2.2.2.2.2.1, (r10.2.2.1.2.2.2.2.2.2.2.1, ()))))))) r10.2.2.1.2.2.2.2.2.2.2.2.1)
 (value_ToBool v15).bind fun v16 =>
 let v17 : TA0 := (Tree.node (r10.2.2.1.1, ((r10.2.2.1.2.1, (r10.2.2.1.2.2.1, ())), (r10.2.2.1.2.2.2.1, (r10.2.2.1.2.2.2.2.1, (r10.2.2.1.2.2.2.2.2.1, (r10.2.2.1.2.2.2.2.2.2.1, (r10.2.2.1.2.2.2.2.2.2.2.1, ()))))))) r10.2.2.1.2.2.2.2.2.2.2.2.1)
 (chanceryref2_ToNumber v17).bind fun v18 =>
 let v19 : TA0 := (Tree.node (r10.2.2.1.1, ((r10.2.2.1.2.1, (r10.2.2.1.2.2.1, ())), (r10.2.2.1.2.2.2.1, (r10.2.2.1.2.2.2.2.1, (r10.2.2.1.2.2.2.2.2.1, (r10.2.2.1.2.2.2.2.2.2.1, (r10.2.2.1.2.2.2.2.2.2.2.1, ()))))))) r10.2.2.1.2.2.2.2.2.2.2.2.1)
 (chanceryref2_ToText v19).bind fun v20 =>
 let v21 : TA0 := (Tree.node (r10.2.2.1.1, ((r10.2.2.1.2.1, (r10.2.2.1.2.2.1, ())), (r10.2.2.1.2.2.2.1, (r10.2.2.1.2.2.2.2.1, (r10.2.2.1.2.2.2.2.2.1, (r10.2.2.1.2.2.2.2.2.2.1, (r10.2.2.1.2.2.2.2.2.2.2.1, ()))))))) r10.2.2.1.2.2.2.2.2.2.2.2.1)
 (chanceryref2_ToBool v21).bind fun v22 =>
 (cond (decide (v18.2.1 = 0))
 ((chancerylaw2_frac v12.1 0 v18.1).bind fun v23 =>
 cond ((!v23.1))
 (some (true, ()))
 (cond (!decide (v18.2.1 = 0))
 (let v24 : Bool := (!Ty.beq (.pair .str (.pair .str .unit)) v12.1 ([], [], ()))
 some (v24, ()))
 (some (false, ()))))
 (cond (!decide (v18.2.1 = 0))
 (let v25 : Bool := (!Ty.beq (.pair .str (.pair .str .unit)) v12.1 ([], [], ()))
 some (v25, ()))
 (some (false, ()))) : Option TA5).bind fun r26 =>
 cond r26.1
 (some (false, ()))
 (cond (decide (v12.2.1 = v18.2.1))
 (cond ((decide (v14.2.1 = v20.2.1)))
 (cond ((decide (v14.1 = v20.1)))
 (cond ((decide (v16.2.1 = v22.2.1)))
 (some ((v16.1 == v22.1), ()))
 (some (false, ())))
 (some (false, ())))
 (some (false, ())))
 (some (false, ())))))
end
end Go.Proofs.YtmbejoibeninmaaGreatDoor
