/- Plain functions that the program's functions come to. Printed by a program (fegen.py). -/
import Derived.Test.YtmkpdineahbfkaaGreatDoorFeLib
import Derived.Test.YtmkpdineahbfkaaGreatDoorFeLaw
namespace Go.Proofs.YtmkpdineahbfkaaGreatDoor
open Go Go.Fe

abbrev TA3 : Type := ((List Int) × Unit)
abbrev TA5 : Type := (Bool × Unit)
abbrev TA8 : Type := (Int × (Int × Unit))
abbrev TA11 : Type := (List (Int × TA5))
abbrev TA12 : Type := (Unit × (Int × (Int × TA3)))
abbrev TA13 : Type := (Unit × (Int × TA3))
abbrev TA15 : Type := (Str × (Str × Unit))
abbrev TA1 : Type := (Tree (Int × (TA15 × (Str × (Bool × (Int × TA8))))))
abbrev TA0 : Type := (Int × (Str × (Str × (Str × (Bool × (Int × (Int × (Int × ((List TA1) × Unit)))))))))
abbrev TA2 : Type := ((List Int) × ((TA11 × Unit) × (TA0 × Unit)))
abbrev TA10 : Type := (Unit × (Bool × (TA0 × Unit)))
abbrev TA16 : Type := (Str × (Unit × ((List Bool) × Unit)))
abbrev TA17 : Type := ((Int × Unit) ⊕ (Unit ⊕ (Int × Unit)))
abbrev TA18 : Type := (Int × (TA0 × Unit))
abbrev TA19 : Type := ((List Int) × (Int × Unit))
abbrev TA20 : Type := (Unit × Unit)
abbrev TA4 : Type := (Unit × TA20)
abbrev TA7 : Type := (Unit × (TA4 × (Int × TA2)))
abbrev TA9 : Type := (Unit × (TA4 × (Int × (Int × TA2))))
abbrev TA14 : Type := (Unit × (TA4 × TA2))
abbrev TA21 : Type := ((List Int) × TA3)
abbrev TA6 : Type := (Bool × TA21)
abbrev TA22 : Type := (Unit × (Unit × (Int × (TA0 × (TA0 × Unit)))))
abbrev TA23 : Type := (Unit × ((List Int) × (Int × TA3)))
abbrev TA24 : Type := (Unit × (Unit × (Int × ((TA11 × Unit) × (TA0 × Unit)))))

noncomputable def chanceryref2_Decimal_s (rec : Int → Option (Str × Unit)) (a0 : Int) : Option (Str × Unit) :=
  cond (decide (a0 ≤ (-10)))
  ((quo .i64 a0 10).bind fun v1 =>
  (rec v1).bind fun v2 =>
  (rem a0 10).bind fun v3 =>
  (cat v2.1 (bytesStr [IntKind.u8.wrap (IntKind.i64.wrap (48 - v3))])).bind fun v4 =>
  some (v4, ()))
  (cond (decide (a0 < 0))
  ((cat [45] (bytesStr [IntKind.u8.wrap (IntKind.i64.wrap (48 - a0))])).bind fun v5 =>
  some (v5, ()))
  (cond (decide (10 ≤ a0))
  ((quo .i64 a0 10).bind fun v6 =>
  (rec v6).bind fun v7 =>
  (rem a0 10).bind fun v8 =>
  (cat v7.1 (bytesStr [IntKind.u8.wrap (IntKind.i64.wrap (48 + v8))])).bind fun v9 =>
  some (v9, ()))
  (some (bytesStr [IntKind.u8.wrap (IntKind.i64.wrap (48 + a0))], ()))))

noncomputable def chanceryref2_Decimal_f : Nat → Int → Option (Str × Unit)
  | 0 => fun _ => none
  | n + 1 => chanceryref2_Decimal_s (chanceryref2_Decimal_f n)

noncomputable def chanceryref2_Decimal (a0 : Int) : Option (Str × Unit) := chanceryref2_Decimal_f rounds a0

noncomputable def chanceryref2_unsigned (a0 : Int) : Option (Str × Unit) :=
  (chanceryref2_Decimal a0).bind fun v1 =>
  (cut v1.1 1 (v1.1.length : Int)).bind fun v2 =>
  some (v2, ())

noncomputable def chanceryref2_Nat__trim_l1 (p1 : TA3) : Option (TA3 ⊕ TA3) :=
  (cond (decide (0 < (p1.1.length : Int)))
  ((idx p1.1 (IntKind.i64.wrap ((p1.1.length : Int) - 1))).bind fun v1 =>
  some ((decide (v1 = 0)), ()))
  (some (false, ())) : Option TA5).bind fun r2 =>
  cond r2.1
  ((cut p1.1 0 (IntKind.i64.wrap ((p1.1.length : Int) - 1))).bind fun v3 =>
  some (.inl (v3, ())))
  (some (.inr p1))

noncomputable def chanceryref2_Nat__trim (a0 : (List Int)) : Option TA3 :=
  (loop chanceryref2_Nat__trim_l1 (a0, ())).bind fun r4 =>
  some r4

noncomputable def chanceryref2_NatOf_l1 (a0 : Str) (p1 : TA13) : Option (TA13 ⊕ (Unit × TA3)) :=
  cond (decide (0 ≤ p1.2.1))
  ((idx a0 p1.2.1).bind fun v1 =>
  (cat p1.2.2.1 [IntKind.i64.wrap (IntKind.u8.wrap ((ofByte v1) - 48))]).bind fun v2 =>
  some (.inl ((), IntKind.i64.wrap (p1.2.1 - 1), v2, ())))
  (some (.inr ((), p1.2.2.1, ())))

noncomputable def chanceryref2_NatOf (a0 : Str) : Option TA3 :=
  (loop (chanceryref2_NatOf_l1 a0) ((), IntKind.i64.wrap ((a0.length : Int) - 1), [], ())).bind fun r3 =>
  (chanceryref2_Nat__trim r3.2.1).bind fun v4 =>
  some v4

noncomputable def chanceryref2_Whole (a0 : Int) : Option (TA6 × Unit) :=
  cond (decide (a0 < 0))
  ((chanceryref2_unsigned a0).bind fun v1 =>
  (chanceryref2_NatOf v1.1).bind fun v2 =>
  some ((true, (v2.1, ([1], ()))), ()))
  ((chanceryref2_Decimal a0).bind fun v3 =>
  (chanceryref2_NatOf v3.1).bind fun v4 =>
  some ((false, (v4.1, ([1], ()))), ()))

noncomputable def chanceryref2_Nat__half_l1 (a0 : (List Int)) (p1 : TA12) : Option (TA12 ⊕ (Unit × TA3)) :=
  cond (decide (0 ≤ p1.2.2.1))
  ((idx a0 p1.2.2.1).bind fun v2 =>
  (quo .i64 (IntKind.i64.wrap ((IntKind.i64.wrap (10 * p1.2.1)) + v2)) 2).bind fun v3 =>
  (chk (inb p1.2.2.1 p1.2.2.2.1.length)).bind fun _ =>
  let v4 : List Int := p1.2.2.2.1.set p1.2.2.1.toNat v3
  (rem (IntKind.i64.wrap ((IntKind.i64.wrap (10 * p1.2.1)) + v2)) 2).bind fun v5 =>
  some (.inl ((), v5, IntKind.i64.wrap (p1.2.2.1 - 1), v4, ())))
  (some (.inr ((), p1.2.2.2.1, ())))

noncomputable def chanceryref2_Nat__half (a0 : (List Int)) : Option TA3 :=
  (mk (a0.length : Int) (a0.length : Int) 0).bind fun v1 =>
  (loop (chanceryref2_Nat__half_l1 a0) ((), 0, IntKind.i64.wrap ((a0.length : Int) - 1), v1, ())).bind fun r6 =>
  (chanceryref2_Nat__trim r6.2.1).bind fun v7 =>
  some v7

noncomputable def chanceryref2_Nat__Compare_l1 (a0 : (List Int)) (a1 : (List Int)) (p1 : (Int × Unit)) : Option TA17 :=
  cond (decide (0 ≤ p1.1))
  ((idx a0 p1.1).bind fun v1 =>
  (idx a1 p1.1).bind fun v2 =>
  cond (decide (v1 < v2))
  (some (.inr (.inr ((-1), ()))))
  ((idx a0 p1.1).bind fun v3 =>
  (idx a1 p1.1).bind fun v4 =>
  cond (decide (v4 < v3))
  (some (.inr (.inr (1, ()))))
  (some (.inl (IntKind.i64.wrap (p1.1 - 1), ())))))
  (some (.inr (.inl (()))))

noncomputable def chanceryref2_Nat__Compare (a0 : (List Int)) (a1 : (List Int)) : Option (Int × Unit) :=
  cond (!decide ((a0.length : Int) = (a1.length : Int)))
  (cond (decide ((a0.length : Int) < (a1.length : Int)))
  (some ((-1), ()))
  (some (1, ())))
  ((loop (chanceryref2_Nat__Compare_l1 a0 a1) (IntKind.i64.wrap ((a0.length : Int) - 1), ())).bind fun r5 =>
  (match r5 with
  | .inl _ => (some (0, ()))
  | .inr z7 => (some z7)))

noncomputable def chanceryref2_digitAt (a0 : (List Int)) (a1 : Int) : Option (Int × Unit) :=
  cond (decide (a1 < (a0.length : Int)))
  ((idx a0 a1).bind fun v1 =>
  some (v1, ()))
  (some (0, ()))

noncomputable def chanceryref2_Nat__Less_l1 (a0 : (List Int)) (a1 : (List Int)) (p1 : TA12) : Option (TA12 ⊕ (Unit × TA3)) :=
  cond (decide (p1.2.2.1 < (a0.length : Int)))
  ((idx a0 p1.2.2.1).bind fun v1 =>
  (chanceryref2_digitAt a1 p1.2.2.1).bind fun v2 =>
  let v3 : Int := IntKind.i64.wrap ((IntKind.i64.wrap (v1 - v2.1)) - p1.2.1)
  (cond (decide (v3 < 0))
  (some ((), 1, IntKind.i64.wrap (v3 + 10), p1.2.2.2.1, ()))
  (some ((), 0, v3, p1.2.2.2.1, ())) : Option TA12).bind fun r4 =>
  (cat r4.2.2.2.1 [r4.2.2.1]).bind fun v5 =>
  some (.inl ((), r4.2.1, IntKind.i64.wrap (p1.2.2.1 + 1), v5, ())))
  (some (.inr ((), p1.2.2.2.1, ())))

noncomputable def chanceryref2_Nat__Less (a0 : (List Int)) (a1 : (List Int)) : Option TA3 :=
  (loop (chanceryref2_Nat__Less_l1 a0 a1) ((), 0, 0, [], ())).bind fun r6 =>
  (chanceryref2_Nat__trim r6.2.1).bind fun v7 =>
  some v7

noncomputable def chanceryref2_Nat__Plus_l1 (a0 : (List Int)) (a1 : (List Int)) (p1 : TA12) : Option (TA12 ⊕ (Unit × TA3)) :=
  (cond (decide (p1.2.2.1 < (a0.length : Int)))
  (some ((), true, p1.2.2.2.1, ()))
  (cond ((decide (p1.2.2.1 < (a1.length : Int))))
  (some ((), true, p1.2.2.2.1, ()))
  (some ((), (decide (0 < p1.2.1)), p1.2.2.2.1, ()))) : Option (Unit × (Bool × TA3))).bind fun r1 =>
  cond r1.2.1
  ((chanceryref2_digitAt a0 p1.2.2.1).bind fun v2 =>
  (chanceryref2_digitAt a1 p1.2.2.1).bind fun v3 =>
  let v4 : Int := IntKind.i64.wrap ((IntKind.i64.wrap (v2.1 + v3.1)) + p1.2.1)
  (rem v4 10).bind fun v5 =>
  (cat r1.2.2.1 [v5]).bind fun v6 =>
  (quo .i64 v4 10).bind fun v7 =>
  some (.inl ((), v7, IntKind.i64.wrap (p1.2.2.1 + 1), v6, ())))
  (some (.inr ((), r1.2.2.1, ())))

noncomputable def chanceryref2_Nat__Plus (a0 : (List Int)) (a1 : (List Int)) : Option TA3 :=
  (loop (chanceryref2_Nat__Plus_l1 a0 a1) ((), 0, 0, [], ())).bind fun r8 =>
  some r8.2

noncomputable def chanceryref2_Gcd_l1 (p1 : ((List Int) × TA19)) : Option (((List Int) × TA19) ⊕ ((List Int) × TA19)) :=
  ((idx p1.1 0).bind fun v1 =>
  (rem v1 2).bind fun v2 =>
  cond (decide (v2 = 0))
  ((idx p1.2.1 0).bind fun v3 =>
  (rem v3 2).bind fun v4 =>
  some ((decide (v4 = 0)), ()))
  (some (false, ())) : Option TA5).bind fun r5 =>
  cond r5.1
  ((chanceryref2_Nat__half p1.1).bind fun v6 =>
  (chanceryref2_Nat__half p1.2.1).bind fun v7 =>
  some (.inl (v6.1, v7.1, IntKind.i64.wrap (p1.2.2.1 + 1), ())))
  (some (.inr p1))

noncomputable def chanceryref2_Gcd_l2 (p2 : TA3) : Option (TA3 ⊕ TA3) :=
  (cond (decide (0 < (p2.1.length : Int)))
  ((idx p2.1 0).bind fun v9 =>
  (rem v9 2).bind fun v10 =>
  some ((decide (v10 = 0)), ()))
  (some (false, ())) : Option TA5).bind fun r11 =>
  cond r11.1
  ((chanceryref2_Nat__half p2.1).bind fun v12 =>
  some (.inl v12))
  (some (.inr p2))

noncomputable def chanceryref2_Gcd_l3 (p3 : TA3) : Option (TA3 ⊕ TA3) :=
  (idx p3.1 0).bind fun v14 =>
  (rem v14 2).bind fun v15 =>
  cond (decide (v15 = 0))
  ((chanceryref2_Nat__half p3.1).bind fun v16 =>
  some (.inl v16))
  (some (.inr p3))

noncomputable def chanceryref2_Gcd_l4 (p4 : TA21) : Option (TA21 ⊕ TA3) :=
  cond (decide (0 < (p4.1.length : Int)))
  ((loop chanceryref2_Gcd_l2 (p4.1, ())).bind fun r13 =>
  (loop chanceryref2_Gcd_l3 p4.2).bind fun r17 =>
  ((chanceryref2_Nat__Compare r13.1 r17.1).bind fun v18 =>
  cond (decide (v18.1 < 0))
  (some (r17.1, r13.1, ()))
  (some (r13.1, r17.1, ())) : Option TA21).bind fun r19 =>
  (chanceryref2_Nat__Less r19.1 r19.2.1).bind fun v20 =>
  some (.inl (v20.1, r19.2.1, ())))
  (some (.inr p4.2))

noncomputable def chanceryref2_Gcd_l5 (r8 : ((List Int) × TA19)) (p5 : TA19) : Option (TA19 ⊕ TA3) :=
  cond (decide (p5.2.1 < r8.2.2.1))
  ((chanceryref2_Nat__Plus p5.1 p5.1).bind fun v22 =>
  some (.inl (v22.1, IntKind.i64.wrap (p5.2.1 + 1), ())))
  (some (.inr (p5.1, ())))

noncomputable def chanceryref2_Gcd (a0 : (List Int)) (a1 : (List Int)) : Option TA3 :=
  cond (decide ((a0.length : Int) = 0))
  (some (a1, ()))
  (cond (decide ((a1.length : Int) = 0))
  (some (a0, ()))
  ((loop chanceryref2_Gcd_l1 (a0, a1, 0, ())).bind fun r8 =>
  (loop chanceryref2_Gcd_l4 (r8.1, r8.2.1, ())).bind fun r21 =>
  (loop (chanceryref2_Gcd_l5 r8) (r21.1, 0, ())).bind fun r23 =>
  some r23))

noncomputable def chanceryref2_Nat__Divide_l1 (a1 : (List Int)) (p2 : TA23) (p1 : (Unit × TA21)) : Option ((Unit × TA21) ⊕ (Unit × TA21)) :=
  (chanceryref2_Nat__Compare p1.2.1 a1).bind fun v5 =>
  cond (decide (0 ≤ v5.1))
  ((chanceryref2_Nat__Less p1.2.1 a1).bind fun v6 =>
  (chk (inb p2.2.2.1 p1.2.2.1.length)).bind fun _ =>
  let v7 : Int := IntKind.i64.wrap ((p1.2.2.1.getD p2.2.2.1.toNat 0) + 1)
  (chk (inb p2.2.2.1 p1.2.2.1.length)).bind fun _ =>
  let v8 : List Int := p1.2.2.1.set p2.2.2.1.toNat v7
  some (.inl ((), v6.1, v8, ())))
  (some (.inr ((), p1.2.1, p1.2.2.1, ())))

noncomputable def chanceryref2_Nat__Divide_l2 (a0 : (List Int)) (a1 : (List Int)) (p2 : TA23) : Option (TA23 ⊕ (Unit × TA21)) :=
  cond (decide (0 ≤ p2.2.2.1))
  ((idx a0 p2.2.2.1).bind fun v2 =>
  (cat [v2] p2.2.1).bind fun v3 =>
  (chanceryref2_Nat__trim v3).bind fun v4 =>
  (loop (chanceryref2_Nat__Divide_l1 a1 p2) ((), v4.1, p2.2.2.2.1, ())).bind fun r9 =>
  some (.inl ((), r9.2.1, IntKind.i64.wrap (p2.2.2.1 - 1), r9.2.2.1, ())))
  (some (.inr ((), p2.2.1, p2.2.2.2.1, ())))

noncomputable def chanceryref2_Nat__Divide (a0 : (List Int)) (a1 : (List Int)) : Option TA21 :=
  (mk (a0.length : Int) (a0.length : Int) 0).bind fun v1 =>
  (loop (chanceryref2_Nat__Divide_l2 a0 a1) ((), [], IntKind.i64.wrap ((a0.length : Int) - 1), v1, ())).bind fun r10 =>
  (chanceryref2_Nat__trim r10.2.2.1).bind fun v11 =>
  some (v11.1, r10.2.1, ())

noncomputable def chanceryref2_Nat__Text_l1 (a0 : (List Int)) (p1 : TA13) : Option (TA13 ⊕ (Unit × TA3)) :=
  cond (decide (0 ≤ p1.2.1))
  ((idx a0 p1.2.1).bind fun v1 =>
  (cat p1.2.2.1 [IntKind.u8.wrap (IntKind.i64.wrap (48 + v1))]).bind fun v2 =>
  some (.inl ((), IntKind.i64.wrap (p1.2.1 - 1), v2, ())))
  (some (.inr ((), p1.2.2.1, ())))

noncomputable def chanceryref2_Nat__Text (a0 : (List Int)) : Option (Str × Unit) :=
  cond (decide ((a0.length : Int) = 0))
  (some ([48], ()))
  ((loop (chanceryref2_Nat__Text_l1 a0) ((), IntKind.i64.wrap ((a0.length : Int) - 1), [], ())).bind fun r3 =>
  some (bytesStr r3.2.1, ()))

noncomputable def chanceryref2_Rat__Frac (a0 : TA6) : Option (TA15 × (Int × Unit)) :=
  cond (decide ((a0.2.1.length : Int) = 0))
  (some (([48], ([49], ())), 0, ()))
  ((chanceryref2_Gcd a0.2.1 a0.2.2.1).bind fun v1 =>
  (chanceryref2_Nat__Divide a0.2.1 v1.1).bind fun v2 =>
  (chanceryref2_Nat__Divide a0.2.2.1 v1.1).bind fun v3 =>
  (cond (decide (300 < (v2.1.length : Int)))
  (some ((), (), true, a0, ([], ([], ())), ()))
  (some ((), (), (decide (300 < (v3.1.length : Int))), a0, ([], ([], ())), ())) : Option (Unit × (Unit × (Bool × (TA6 × (TA15 × Unit)))))).bind fun r4 =>
  cond r4.2.2.1
  (some (([], ([], ())), 19, ()))
  ((chanceryref2_Nat__Text v2.1).bind fun v5 =>
  (chanceryref2_Nat__Text v3.1).bind fun v6 =>
  (cond r4.2.2.2.1.1
  ((cat [45] v5.1).bind fun v7 =>
  some ((), (), r4.2.2.2.2.1, (v7, v6), ()))
  (some ((), (), r4.2.2.2.2.1, (v5.1, v6), ())) : Option (Unit × (Unit × (TA15 × (TA15 × Unit))))).bind fun r8 =>
  some (r8.2.2.2.1, 0, ())))

noncomputable def chanceryref2_Fault (a0 : Int) : Option (TA1 × Unit) :=
  some ((Tree.node (4, (([], ([], ())), ([], (false, (a0, (0, (0, ()))))))) []), ())

noncomputable def chanceryref2_Number (a0 : TA6) : Option (TA1 × Unit) :=
  (chanceryref2_Rat__Frac a0).bind fun v1 =>
  cond (!decide (v1.2.1 = 0))
  ((chanceryref2_Fault 5).bind fun v2 =>
  some ((tn v2.1), ()))
  (let v3 : TA1 := (Tree.node (1, v1.1, [], false, 0, 0, 0, ()) [])
  some ((tn v3), ()))

noncomputable def chanceryref2_Int (a0 : Int) : Option (TA1 × Unit) :=
  (chanceryref2_Whole a0).bind fun v1 =>
  (chanceryref2_Number v1.1).bind fun v2 =>
  some ((tn v2.1), ())

noncomputable def value_zeros (a0 : TA1) : Option (Int × Unit) :=
  (cond (!decide (a0.data.1 = 1))
  (let v1 : Bool := (!Ty.beq (.pair .str (.pair .str .unit)) (a0.data.2.1.1, (a0.data.2.1.2.1, ())) ([], [], ()))
  cond v1
  (some (true, ()))
  (cond (!decide (a0.data.1 = 2))
  (let v2 : Bool := ((!decide (a0.data.2.2.1 = [])))
  cond v2
  (some (true, ()))
  (cond (!decide (a0.data.1 = 3))
  (cond ((a0.data.2.2.2.1))
  (some (true, ()))
  (cond (!decide (a0.data.1 = 4))
  (let v3 : Bool := ((!decide (a0.data.2.2.2.2.1 = 0)))
  cond v3
  (some (true, ()))
  (cond (!decide (a0.data.1 = 5))
  (cond (!decide (a0.data.2.2.2.2.2.1 = 0))
  (some ((true), ()))
  (cond ((!decide (a0.data.2.2.2.2.2.2.1 = 0)))
  (some ((true), ()))
  (let v4 : Bool := ((decide (0 < (a0.kids.length : Int))))
  some (v4, ()))))
  (some (false, ()))))
  (cond (false)
  (some (true, ()))
  (cond (!decide (a0.data.1 = 5))
  (cond (!decide (a0.data.2.2.2.2.2.1 = 0))
  (some ((true), ()))
  (cond ((!decide (a0.data.2.2.2.2.2.2.1 = 0)))
  (some ((true), ()))
  (let v5 : Bool := ((decide (0 < (a0.kids.length : Int))))
  some (v5, ()))))
  (some (false, ()))))))
  (cond (false)
  (some (true, ()))
  (cond (!decide (a0.data.1 = 4))
  (let v6 : Bool := ((!decide (a0.data.2.2.2.2.1 = 0)))
  cond v6
  (some (true, ()))
  (cond (!decide (a0.data.1 = 5))
  (cond (!decide (a0.data.2.2.2.2.2.1 = 0))
  (some ((true), ()))
  (cond ((!decide (a0.data.2.2.2.2.2.2.1 = 0)))
  (some ((true), ()))
  (let v7 : Bool := ((decide (0 < (a0.kids.length : Int))))
  some (v7, ()))))
  (some (false, ()))))
  (cond (false)
  (some (true, ()))
  (cond (!decide (a0.data.1 = 5))
  (cond (!decide (a0.data.2.2.2.2.2.1 = 0))
  (some ((true), ()))
  (cond ((!decide (a0.data.2.2.2.2.2.2.1 = 0)))
  (some ((true), ()))
  (let v8 : Bool := ((decide (0 < (a0.kids.length : Int))))
  some (v8, ()))))
  (some (false, ()))))))))
  (cond (false)
  (some (true, ()))
  (cond (!decide (a0.data.1 = 3))
  (cond ((a0.data.2.2.2.1))
  (some (true, ()))
  (cond (!decide (a0.data.1 = 4))
  (let v9 : Bool := ((!decide (a0.data.2.2.2.2.1 = 0)))
  cond v9
  (some (true, ()))
  (cond (!decide (a0.data.1 = 5))
  (cond (!decide (a0.data.2.2.2.2.2.1 = 0))
  (some ((true), ()))
  (cond ((!decide (a0.data.2.2.2.2.2.2.1 = 0)))
  (some ((true), ()))
  (let v10 : Bool := ((decide (0 < (a0.kids.length : Int))))
  some (v10, ()))))
  (some (false, ()))))
  (cond (false)
  (some (true, ()))
  (cond (!decide (a0.data.1 = 5))
  (cond (!decide (a0.data.2.2.2.2.2.1 = 0))
  (some ((true), ()))
  (cond ((!decide (a0.data.2.2.2.2.2.2.1 = 0)))
  (some ((true), ()))
  (let v11 : Bool := ((decide (0 < (a0.kids.length : Int))))
  some (v11, ()))))
  (some (false, ()))))))
  (cond (false)
  (some (true, ()))
  (cond (!decide (a0.data.1 = 4))
  (let v12 : Bool := ((!decide (a0.data.2.2.2.2.1 = 0)))
  cond v12
  (some (true, ()))
  (cond (!decide (a0.data.1 = 5))
  (cond (!decide (a0.data.2.2.2.2.2.1 = 0))
  (some ((true), ()))
  (cond ((!decide (a0.data.2.2.2.2.2.2.1 = 0)))
  (some ((true), ()))
  (let v13 : Bool := ((decide (0 < (a0.kids.length : Int))))
  some (v13, ()))))
  (some (false, ()))))
  (cond (false)
  (some (true, ()))
  (cond (!decide (a0.data.1 = 5))
  (cond (!decide (a0.data.2.2.2.2.2.1 = 0))
  (some ((true), ()))
  (cond ((!decide (a0.data.2.2.2.2.2.2.1 = 0)))
  (some ((true), ()))
  (let v14 : Bool := ((decide (0 < (a0.kids.length : Int))))
  some (v14, ()))))
  (some (false, ()))))))))))
  (cond (!decide (a0.data.1 = 2))
  (let v15 : Bool := ((!decide (a0.data.2.2.1 = [])))
  cond v15
  (some (true, ()))
  (cond (!decide (a0.data.1 = 3))
  (cond ((a0.data.2.2.2.1))
  (some (true, ()))
  (cond (!decide (a0.data.1 = 4))
  (let v16 : Bool := ((!decide (a0.data.2.2.2.2.1 = 0)))
  cond v16
  (some (true, ()))
  (cond (!decide (a0.data.1 = 5))
  (cond (!decide (a0.data.2.2.2.2.2.1 = 0))
  (some ((true), ()))
  (cond ((!decide (a0.data.2.2.2.2.2.2.1 = 0)))
  (some ((true), ()))
  (let v17 : Bool := ((decide (0 < (a0.kids.length : Int))))
  some (v17, ()))))
  (some (false, ()))))
  (cond (false)
  (some (true, ()))
  (cond (!decide (a0.data.1 = 5))
  (cond (!decide (a0.data.2.2.2.2.2.1 = 0))
  (some ((true), ()))
  (cond ((!decide (a0.data.2.2.2.2.2.2.1 = 0)))
  (some ((true), ()))
  (let v18 : Bool := ((decide (0 < (a0.kids.length : Int))))
  some (v18, ()))))
  (some (false, ()))))))
  (cond (false)
  (some (true, ()))
  (cond (!decide (a0.data.1 = 4))
  (let v19 : Bool := ((!decide (a0.data.2.2.2.2.1 = 0)))
  cond v19
  (some (true, ()))
  (cond (!decide (a0.data.1 = 5))
  (cond (!decide (a0.data.2.2.2.2.2.1 = 0))
  (some ((true), ()))
  (cond ((!decide (a0.data.2.2.2.2.2.2.1 = 0)))
  (some ((true), ()))
  (let v20 : Bool := ((decide (0 < (a0.kids.length : Int))))
  some (v20, ()))))
  (some (false, ()))))
  (cond (false)
  (some (true, ()))
  (cond (!decide (a0.data.1 = 5))
  (cond (!decide (a0.data.2.2.2.2.2.1 = 0))
  (some ((true), ()))
  (cond ((!decide (a0.data.2.2.2.2.2.2.1 = 0)))
  (some ((true), ()))
  (let v21 : Bool := ((decide (0 < (a0.kids.length : Int))))
  some (v21, ()))))
  (some (false, ()))))))))
  (cond (false)
  (some (true, ()))
  (cond (!decide (a0.data.1 = 3))
  (cond ((a0.data.2.2.2.1))
  (some (true, ()))
  (cond (!decide (a0.data.1 = 4))
  (let v22 : Bool := ((!decide (a0.data.2.2.2.2.1 = 0)))
  cond v22
  (some (true, ()))
  (cond (!decide (a0.data.1 = 5))
  (cond (!decide (a0.data.2.2.2.2.2.1 = 0))
  (some ((true), ()))
  (cond ((!decide (a0.data.2.2.2.2.2.2.1 = 0)))
  (some ((true), ()))
  (let v23 : Bool := ((decide (0 < (a0.kids.length : Int))))
  some (v23, ()))))
  (some (false, ()))))
  (cond (false)
  (some (true, ()))
  (cond (!decide (a0.data.1 = 5))
  (cond (!decide (a0.data.2.2.2.2.2.1 = 0))
  (some ((true), ()))
  (cond ((!decide (a0.data.2.2.2.2.2.2.1 = 0)))
  (some ((true), ()))
  (let v24 : Bool := ((decide (0 < (a0.kids.length : Int))))
  some (v24, ()))))
  (some (false, ()))))))
  (cond (false)
  (some (true, ()))
  (cond (!decide (a0.data.1 = 4))
  (let v25 : Bool := ((!decide (a0.data.2.2.2.2.1 = 0)))
  cond v25
  (some (true, ()))
  (cond (!decide (a0.data.1 = 5))
  (cond (!decide (a0.data.2.2.2.2.2.1 = 0))
  (some ((true), ()))
  (cond ((!decide (a0.data.2.2.2.2.2.2.1 = 0)))
  (some ((true), ()))
  (let v26 : Bool := ((decide (0 < (a0.kids.length : Int))))
  some (v26, ()))))
  (some (false, ()))))
  (cond (false)
  (some (true, ()))
  (cond (!decide (a0.data.1 = 5))
  (cond (!decide (a0.data.2.2.2.2.2.1 = 0))
  (some ((true), ()))
  (cond ((!decide (a0.data.2.2.2.2.2.2.1 = 0)))
  (some ((true), ()))
  (let v27 : Bool := ((decide (0 < (a0.kids.length : Int))))
  some (v27, ()))))
  (some (false, ()))))))))) : Option TA5).bind fun r28 =>
  cond r28.1
  (some (4, ()))
  (some (0, ()))

noncomputable def strings_trimRightByte_l1 (a1 : Int) (p1 : (Str × Unit)) : Option ((Str × Unit) ⊕ (Str × Unit)) :=
  (cond (decide (0 < (p1.1.length : Int)))
  ((idx p1.1 (IntKind.i64.wrap ((p1.1.length : Int) - 1))).bind fun v1 =>
  some ((decide ((ofByte v1) = a1)), ()))
  (some (false, ())) : Option TA5).bind fun r2 =>
  cond r2.1
  ((cut p1.1 0 (IntKind.i64.wrap ((p1.1.length : Int) - 1))).bind fun v3 =>
  some (.inl (v3, ())))
  (some (.inr p1))

noncomputable def strings_trimRightByte (a0 : Str) (a1 : Int) : Option (Str × Unit) :=
  (loop (strings_trimRightByte_l1 a1) (a0, ())).bind fun r4 =>
  some r4

noncomputable def strings_trimLeftByte_l1 (a1 : Int) (p1 : (Str × Unit)) : Option ((Str × Unit) ⊕ (Str × Unit)) :=
  (cond (decide (0 < (p1.1.length : Int)))
  ((idx p1.1 0).bind fun v1 =>
  some ((decide ((ofByte v1) = a1)), ()))
  (some (false, ())) : Option TA5).bind fun r2 =>
  cond r2.1
  ((cut p1.1 1 (p1.1.length : Int)).bind fun v3 =>
  some (.inl (v3, ())))
  (some (.inr p1))

noncomputable def strings_trimLeftByte (a0 : Str) (a1 : Int) : Option (Str × Unit) :=
  (loop (strings_trimLeftByte_l1 a1) (a0, ())).bind fun r4 =>
  some r4

noncomputable def strings_makeASCIISet_l1 (a0 : Str) (p1 : (Unit × (Int × ((List Bool) × Unit)))) : Option ((Unit × (Int × ((List Bool) × Unit))) ⊕ ((Unit × ((List Bool) × Unit)) ⊕ (Unit × (Bool × ((List Bool) × Unit))))) :=
  cond (decide (p1.2.1 < (a0.length : Int)))
  ((idx a0 p1.2.1).bind fun v1 =>
  cond (decide (128 ≤ (ofByte v1)))
  (some (.inr (.inr ((), false, p1.2.2.1, ()))))
  ((chk (inb (ofByte v1) 256)).bind fun _ =>
  let v2 : List Bool := p1.2.2.1.set (ofByte v1).toNat true
  some (.inl ((), IntKind.i64.wrap (p1.2.1 + 1), v2, ()))))
  (some (.inr (.inl ((), p1.2.2.1, ()))))

noncomputable def strings_makeASCIISet (a0 : Str) : Option ((List Bool) × TA5) :=
  (loop (strings_makeASCIISet_l1 a0) ((), 0, (List.replicate 256 false), ())).bind fun r3 =>
  (match r3 with
  | .inl z4 => (some (z4.2.1, true, ()))
  | .inr z5 => (some (z5.2.2.1, z5.2.1, ())))

noncomputable def _strings_asciiSet__contains (a1 : Int) (o0 : (List Bool)) : Option (Bool × (Unit × ((List Bool) × Unit))) :=
  (chk (inb a1 256)).bind fun _ =>
  some ((o0.getD a1.toNat false), (), o0, ())

noncomputable def strings_trimRightASCII_l1 (p1 : TA16) : Option (TA16 ⊕ TA16) :=
  cond (decide (0 < (p1.1.length : Int)))
  ((idx p1.1 (IntKind.i64.wrap ((p1.1.length : Int) - 1))).bind fun v1 =>
  (_strings_asciiSet__contains (ofByte v1) p1.2.2.1).bind fun v2 =>
  cond (!v2.1)
  (some (.inr (p1.1, (), v2.2.2.1, ())))
  ((cut p1.1 0 (IntKind.i64.wrap ((p1.1.length : Int) - 1))).bind fun v3 =>
  some (.inl (v3, (), v2.2.2.1, ()))))
  (some (.inr (p1.1, (), p1.2.2.1, ())))

noncomputable def strings_trimRightASCII (a0 : Str) (o0 : (List Bool)) : Option TA16 :=
  (loop strings_trimRightASCII_l1 (a0, (), o0, ())).bind fun r4 =>
  some (r4.1, (), r4.2.2.1, ())

noncomputable def strings_trimLeftASCII_l1 (p1 : TA16) : Option (TA16 ⊕ TA16) :=
  cond (decide (0 < (p1.1.length : Int)))
  ((idx p1.1 0).bind fun v1 =>
  (_strings_asciiSet__contains (ofByte v1) p1.2.2.1).bind fun v2 =>
  cond (!v2.1)
  (some (.inr (p1.1, (), v2.2.2.1, ())))
  ((cut p1.1 1 (p1.1.length : Int)).bind fun v3 =>
  some (.inl (v3, (), v2.2.2.1, ()))))
  (some (.inr (p1.1, (), p1.2.2.1, ())))

noncomputable def strings_trimLeftASCII (a0 : Str) (o0 : (List Bool)) : Option TA16 :=
  (loop strings_trimLeftASCII_l1 (a0, (), o0, ())).bind fun r4 =>
  some (r4.1, (), r4.2.2.1, ())

noncomputable def strings_Trim (a0 : Str) (a1 : Str) : Option (Str × Unit) :=
  (cond (decide (a0 = []))
  (some (true, ()))
  (some ((decide (a1 = [])), ())) : Option TA5).bind fun r1 =>
  cond r1.1
  (some (a0, ()))
  ((cond (decide ((a1.length : Int) = 1))
  ((idx a1 0).bind fun v2 =>
  some ((decide ((ofByte v2) < 128)), ()))
  (some (false, ())) : Option TA5).bind fun r3 =>
  cond r3.1
  ((idx a1 0).bind fun v4 =>
  (strings_trimRightByte a0 (ofByte v4)).bind fun v5 =>
  (idx a1 0).bind fun v6 =>
  (strings_trimLeftByte v5.1 (ofByte v6)).bind fun v7 =>
  some v7)
  ((strings_makeASCIISet a1).bind fun v8 =>
  cond v8.2.1
  ((strings_trimRightASCII a0 v8.1).bind fun v9 =>
  (strings_trimLeftASCII v9.1 v9.2.2.1).bind fun v10 =>
  some (v10.1, ()))
  (((sNever [Ty.str, Ty.str] [Ty.str]) (a0, a1, ())).bind fun v11 =>
  ((sNever [Ty.str, Ty.str] [Ty.str]) (v11.1, a1, ())).bind fun v12 =>
  some v12)))

noncomputable def exact_digits (a0 : Str) : Option TA5 :=
  (cond (decide (a0 = []))
  (some (true, ()))
  ((idx a0 0).bind fun v1 =>
  cond (decide ((ofByte v1) = 48))
  (let v2 : Bool := ((decide (1 < (a0.length : Int))))
  some (v2, ()))
  (some (false, ()))) : Option TA5).bind fun r3 =>
  cond r3.1
  (some (false, ()))
  ((strings_Trim a0 [48, 49, 50, 51, 52, 53, 54, 55, 56, 57]).bind fun v4 =>
  some (decide (v4.1 = []), ()))

noncomputable def exact_nat__trim_l1 (p1 : TA3) : Option (TA3 ⊕ TA3) :=
  (cond (decide (0 < (p1.1.length : Int)))
  ((idx p1.1 (IntKind.i64.wrap ((p1.1.length : Int) - 1))).bind fun v1 =>
  some ((decide (v1 = 0)), ()))
  (some (false, ())) : Option TA5).bind fun r2 =>
  cond r2.1
  ((cut p1.1 0 (IntKind.i64.wrap ((p1.1.length : Int) - 1))).bind fun v3 =>
  some (.inl (v3, ())))
  (some (.inr p1))

noncomputable def exact_nat__trim (a0 : (List Int)) : Option TA3 :=
  (loop exact_nat__trim_l1 (a0, ())).bind fun r4 =>
  some r4

noncomputable def exact_parse_l1 (p1 : (Str × (Unit × TA3))) : Option ((Str × (Unit × TA3)) ⊕ (Unit × TA3)) :=
  cond (decide (0 < (p1.1.length : Int)))
  ((cut p1.1 (mx 0 (IntKind.i64.wrap ((p1.1.length : Int) - 9))) (p1.1.length : Int)).bind fun v1 =>
  (sAtoi (v1, ())).bind fun v2 =>
  (cat p1.2.2.1 [IntKind.u32.wrap v2.1]).bind fun v3 =>
  (cut p1.1 0 (mx 0 (IntKind.i64.wrap ((p1.1.length : Int) - 9)))).bind fun v4 =>
  some (.inl (v4, (), v3, ())))
  (some (.inr ((), p1.2.2.1, ())))

noncomputable def exact_parse (a0 : Str) : Option TA3 :=
  (loop exact_parse_l1 (a0, (), [], ())).bind fun r5 =>
  (exact_nat__trim r5.2.1).bind fun v6 =>
  some v6

noncomputable def exact_nat__zero (a0 : (List Int)) : Option TA5 :=
  some (decide ((a0.length : Int) = 0), ())

noncomputable def exact_nat__compare_l1 (a0 : (List Int)) (a1 : (List Int)) (p1 : (Int × Unit)) : Option TA17 :=
  cond (decide (0 ≤ p1.1))
  ((idx a0 p1.1).bind fun v1 =>
  (idx a1 p1.1).bind fun v2 =>
  cond (!decide (v1 = v2))
  ((idx a0 p1.1).bind fun v3 =>
  (idx a1 p1.1).bind fun v4 =>
  cond (decide (v3 < v4))
  (some (.inr (.inr ((-1), ()))))
  (some (.inr (.inr (1, ())))))
  (some (.inl (IntKind.i64.wrap (p1.1 - 1), ()))))
  (some (.inr (.inl (()))))

noncomputable def exact_nat__compare (a0 : (List Int)) (a1 : (List Int)) : Option (Int × Unit) :=
  cond (!decide ((a0.length : Int) = (a1.length : Int)))
  (some (IntKind.i64.wrap ((a0.length : Int) - (a1.length : Int)), ()))
  ((loop (exact_nat__compare_l1 a0 a1) (IntKind.i64.wrap ((a0.length : Int) - 1), ())).bind fun r5 =>
  (match r5 with
  | .inl _ => (some (0, ()))
  | .inr z7 => (some z7)))

noncomputable def exact_nat__times_l1 (a1 : (List Int)) (v2 : Int) (p2 : TA13) (p1 : TA12) : Option (TA12 ⊕ TA13) :=
  cond (decide (p1.2.2.1 < (a1.length : Int)))
  ((idx a1 p1.2.2.1).bind fun v3 =>
  let v4 : Int := IntKind.u64.wrap ((IntKind.u64.wrap v2) * (IntKind.u64.wrap v3))
  (chk (inb (IntKind.i64.wrap (p2.2.1 + p1.2.2.1)) p1.2.2.2.1.length)).bind fun _ =>
  let v5 : Int := (p1.2.2.2.1.getD (IntKind.i64.wrap (p2.2.1 + p1.2.2.1)).toNat 0)
  let v6 : Int := IntKind.u64.wrap ((IntKind.u64.wrap (v4 + (IntKind.u64.wrap v5))) + p1.2.1)
  (rem v6 1000000000).bind fun v7 =>
  (chk (inb (IntKind.i64.wrap (p2.2.1 + p1.2.2.1)) p1.2.2.2.1.length)).bind fun _ =>
  let v8 : List Int := p1.2.2.2.1.set (IntKind.i64.wrap (p2.2.1 + p1.2.2.1)).toNat (IntKind.u32.wrap v7)
  (quo .u64 v6 1000000000).bind fun v9 =>
  some (.inl ((), v9, IntKind.i64.wrap (p1.2.2.1 + 1), v8, ())))
  (some (.inr ((), p1.2.1, p1.2.2.2.1, ())))

noncomputable def exact_nat__times_l2 (a0 : (List Int)) (a1 : (List Int)) (p2 : TA13) : Option (TA13 ⊕ (Unit × TA3)) :=
  cond (decide (p2.2.1 < (a0.length : Int)))
  ((idx a0 p2.2.1).bind fun v2 =>
  (loop (exact_nat__times_l1 a1 v2 p2) ((), 0, 0, p2.2.2.1, ())).bind fun r10 =>
  (chk (inb (IntKind.i64.wrap (p2.2.1 + (a1.length : Int))) r10.2.2.1.length)).bind fun _ =>
  let v11 : List Int := r10.2.2.1.set (IntKind.i64.wrap (p2.2.1 + (a1.length : Int))).toNat (IntKind.u32.wrap r10.2.1)
  some (.inl ((), IntKind.i64.wrap (p2.2.1 + 1), v11, ())))
  (some (.inr ((), p2.2.2.1, ())))

noncomputable def exact_nat__times (a0 : (List Int)) (a1 : (List Int)) : Option TA3 :=
  (mk (IntKind.i64.wrap ((a0.length : Int) + (a1.length : Int))) (IntKind.i64.wrap ((a0.length : Int) + (a1.length : Int))) 0).bind fun v1 =>
  (loop (exact_nat__times_l2 a0 a1) ((), 0, v1, ())).bind fun r12 =>
  (exact_nat__trim r12.2.1).bind fun v13 =>
  some v13

noncomputable def exact_digit_l1 (a1 : (List Int)) (a0 : (List Int)) (p1 : TA8) : Option (TA8 ⊕ (Int × Unit)) :=
  cond (decide ((IntKind.i64.wrap ((a1.length : Int) - 1)) ≤ p1.2.1))
  ((idx a0 p1.2.1).bind fun v2 =>
  let v3 : Int := IntKind.u64.wrap ((IntKind.u64.wrap (p1.1 * 1000000000)) + (IntKind.u64.wrap v2))
  some (.inl (v3, IntKind.i64.wrap (p1.2.1 - 1), ())))
  (some (.inr (p1.1, ())))

noncomputable def exact_digit_l2 (a1 : (List Int)) (a0 : (List Int)) (p2 : TA8) : Option (TA8 ⊕ (Int × Unit)) :=
  cond (decide (p2.1 < p2.2.1))
  (let v9 : Int := IntKind.u64.wrap ((IntKind.u64.wrap (p2.1 + p2.2.1)) + 1)
  (quo .u64 v9 2).bind fun v10 =>
  (exact_nat__trim [IntKind.u32.wrap v10]).bind fun v11 =>
  (exact_nat__times a1 v11.1).bind fun v12 =>
  (exact_nat__compare v12.1 a0).bind fun v13 =>
  cond (decide (v13.1 ≤ 0))
  (some (.inl (v10, p2.2.1, ())))
  (some (.inl (p2.1, IntKind.u64.wrap (v10 - 1), ()))))
  (some (.inr (p2.1, ())))

noncomputable def exact_digit (a0 : (List Int)) (a1 : (List Int)) : Option (Int × Unit) :=
  (exact_nat__compare a0 a1).bind fun v1 =>
  cond (decide (v1.1 < 0))
  (some (0, ()))
  ((loop (exact_digit_l1 a1 a0) (0, IntKind.i64.wrap ((a0.length : Int) - 1), ())).bind fun r4 =>
  (idx a1 (IntKind.i64.wrap ((a1.length : Int) - 1))).bind fun v5 =>
  (quo .u64 r4.1 (IntKind.u64.wrap ((IntKind.u64.wrap v5) + 1))).bind fun v6 =>
  (idx a1 (IntKind.i64.wrap ((a1.length : Int) - 1))).bind fun v7 =>
  (quo .u64 r4.1 (IntKind.u64.wrap v7)).bind fun v8 =>
  (loop (exact_digit_l2 a1 a0) (v6, mn v8 999999999, ())).bind fun r14 =>
  some (IntKind.u32.wrap r14.1, ()))

noncomputable def exact_nat_uint32_ (a0 : (List Int)) : Option (Unit × TA3) :=
  cond (List.isEmpty a0)
  (agree
  (some ((), [], ()))
  ((cat [] a0).bind fun v1 =>
  some ((), v1, ())))
  ((cat [] a0).bind fun v1 =>
  some ((), v1, ()))

noncomputable def exact_nat__minus_l1 (v1 : (Unit × TA3)) (a1 : (List Int)) (p1 : TA12) : Option (TA12 ⊕ (Unit × TA3)) :=
  cond (decide (p1.2.2.1 < (v1.2.1.length : Int)))
  ((cond (decide (p1.2.2.1 < (a1.length : Int)))
  ((idx a1 p1.2.2.1).bind fun v2 =>
  some ((), IntKind.u32.wrap (p1.2.1 + v2), p1.2.2.2.1, ()))
  (some ((), p1.2.1, p1.2.2.2.1, ())) : Option TA13).bind fun r3 =>
  ((chk (inb p1.2.2.1 r3.2.2.1.length)).bind fun _ =>
  cond (decide ((r3.2.2.1.getD p1.2.2.1.toNat 0) < r3.2.1))
  ((chk (inb p1.2.2.1 r3.2.2.1.length)).bind fun _ =>
  let v4 : Int := IntKind.u32.wrap ((r3.2.2.1.getD p1.2.2.1.toNat 0) + 1000000000)
  (chk (inb p1.2.2.1 r3.2.2.1.length)).bind fun _ =>
  let v5 : List Int := r3.2.2.1.set p1.2.2.1.toNat v4
  some ((), 1, v5, ()))
  (some ((), 0, r3.2.2.1, ())) : Option TA13).bind fun r6 =>
  (chk (inb p1.2.2.1 r6.2.2.1.length)).bind fun _ =>
  let v7 : Int := IntKind.u32.wrap ((r6.2.2.1.getD p1.2.2.1.toNat 0) - r3.2.1)
  (chk (inb p1.2.2.1 r6.2.2.1.length)).bind fun _ =>
  let v8 : List Int := r6.2.2.1.set p1.2.2.1.toNat v7
  some (.inl ((), r6.2.1, IntKind.i64.wrap (p1.2.2.1 + 1), v8, ())))
  (some (.inr ((), p1.2.2.2.1, ())))

noncomputable def exact_nat__minus (a0 : (List Int)) (a1 : (List Int)) : Option TA3 :=
  (exact_nat_uint32_ a0).bind fun v1 =>
  (loop (exact_nat__minus_l1 v1 a1) ((), 0, 0, v1.2.1, ())).bind fun r9 =>
  (exact_nat__trim r9.2.1).bind fun v10 =>
  some v10

noncomputable def exact_divide_l1 (a0 : (List Int)) (a1 : (List Int)) (p1 : TA23) : Option (TA23 ⊕ (Unit × TA21)) :=
  cond (decide (0 ≤ p1.2.2.1))
  ((idx a0 p1.2.2.1).bind fun v2 =>
  (cat [v2] p1.2.1).bind fun v3 =>
  (exact_nat__trim v3).bind fun v4 =>
  (exact_digit v4.1 a1).bind fun v5 =>
  (chk (inb p1.2.2.1 p1.2.2.2.1.length)).bind fun _ =>
  let v6 : List Int := p1.2.2.2.1.set p1.2.2.1.toNat v5.1
  (chk (inb p1.2.2.1 v6.length)).bind fun _ =>
  (exact_nat__trim [(v6.getD p1.2.2.1.toNat 0)]).bind fun v7 =>
  (exact_nat__times a1 v7.1).bind fun v8 =>
  (exact_nat__minus v4.1 v8.1).bind fun v9 =>
  some (.inl ((), v9.1, IntKind.i64.wrap (p1.2.2.1 - 1), v6, ())))
  (some (.inr ((), p1.2.1, p1.2.2.2.1, ())))

noncomputable def exact_divide (a0 : (List Int)) (a1 : (List Int)) : Option TA21 :=
  (mk (a0.length : Int) (a0.length : Int) 0).bind fun v1 =>
  (loop (exact_divide_l1 a0 a1) ((), [], IntKind.i64.wrap ((a0.length : Int) - 1), v1, ())).bind fun r10 =>
  (exact_nat__trim r10.2.2.1).bind fun v11 =>
  some (v11.1, r10.2.1, ())

noncomputable def exact_common_l1 (p1 : TA21) : Option (TA21 ⊕ TA3) :=
  (exact_nat__zero p1.2.1).bind fun v1 =>
  cond (!v1.1)
  ((exact_divide p1.1 p1.2.1).bind fun v2 =>
  some (.inl (p1.2.1, v2.2.1, ())))
  (some (.inr (p1.1, ())))

noncomputable def exact_common (a0 : (List Int)) (a1 : (List Int)) : Option TA3 :=
  (loop exact_common_l1 (a0, a1, ())).bind fun r3 =>
  some r3

noncomputable def exact_nat__one (a0 : (List Int)) : Option TA5 :=
  cond (decide ((a0.length : Int) = 1))
  ((idx a0 0).bind fun v1 =>
  some ((decide (v1 = 1)), ()))
  (some (false, ()))

noncomputable def exact_read (a0 : TA15) : Option (TA6 × (Int × Unit)) :=
  (sCutPrefix (a0.1, [45], ())).bind fun v1 =>
  ((exact_digits v1.1).bind fun v2 =>
  cond (!v2.1)
  (some ((), (), true, a0, (false, ([], ([], ()))), ()))
  ((exact_digits a0.2.1).bind fun v3 =>
  cond ((!v3.1))
  (some ((), (), true, a0, (false, ([], ([], ()))), ()))
  (cond ((decide (a0.2.1 = [48])))
  (some ((), (), true, a0, (false, ([], ([], ()))), ()))
  (cond (decide (v1.1 = [48]))
  (some ((), (), (v1.2.1), a0, (false, ([], ([], ()))), ()))
  (some ((), (), false, a0, (false, ([], ([], ()))), ()))))) : Option (Unit × (Unit × (Bool × (TA15 × (TA6 × Unit)))))).bind fun r4 =>
  cond r4.2.2.1
  (some ((false, ([], ([], ()))), 4, ()))
  ((cond (decide (300 < (v1.1.length : Int)))
  (some ((), (), true, r4.2.2.2.1, r4.2.2.2.2.1, ()))
  (let v5 : Bool := (decide (300 < (r4.2.2.2.1.2.1.length : Int)))
  some ((), (), v5, r4.2.2.2.1, r4.2.2.2.2.1, ())) : Option (Unit × (Unit × (Bool × (TA15 × (TA6 × Unit)))))).bind fun r6 =>
  cond r6.2.2.1
  (some ((false, ([], ([], ()))), 3, ()))
  ((exact_parse v1.1).bind fun v7 =>
  (exact_parse r6.2.2.2.1.2.1).bind fun v8 =>
  (exact_common v7.1 v8.1).bind fun v9 =>
  (exact_nat__one v9.1).bind fun v10 =>
  cond (!v10.1)
  (some ((false, ([], ([], ()))), 4, ()))
  (some ((v1.2.1, (v7.1, v8)), 0, ()))))

noncomputable def exact_Check (a0 : TA15) : Option (Int × Unit) :=
  (exact_read a0).bind fun v1 =>
  some v1.2

noncomputable def flow_Char (a0 : Int) : Option TA5 :=
  cond (decide (a0 = 9))
  (some (true, ()))
  (cond ((decide (a0 = 10)))
  (some (true, ()))
  (cond (decide (32 ≤ a0))
  (cond (((decide (a0 < 127))))
  (some (true, ()))
  (cond (decide (160 ≤ a0))
  (cond (((decide (a0 < 55296))))
  (some (true, ()))
  (cond (decide (57343 < a0))
  (some (((decide (a0 ≤ 1114111))), ()))
  (some (false, ()))))
  (cond (false)
  (some (true, ()))
  (cond (decide (57343 < a0))
  (some (((decide (a0 ≤ 1114111))), ()))
  (some (false, ()))))))
  (cond (false)
  (some (true, ()))
  (cond (decide (160 ≤ a0))
  (cond (((decide (a0 < 55296))))
  (some (true, ()))
  (cond (decide (57343 < a0))
  (some (((decide (a0 ≤ 1114111))), ()))
  (some (false, ()))))
  (cond (false)
  (some (true, ()))
  (cond (decide (57343 < a0))
  (some (((decide (a0 ≤ 1114111))), ()))
  (some (false, ()))))))))

noncomputable def value_text_l1 (p1 : (Str × Unit)) : Option ((Str × Unit) ⊕ (Unit ⊕ (Int × Unit))) :=
  cond (!decide (p1.1 = []))
  ((sRune p1).bind fun v1 =>
  (cond (decide (v1.1 = 65533))
  (cond ((decide (v1.2.1 = 1)))
  (some (true, ()))
  ((flow_Char (IntKind.i64.wrap v1.1)).bind fun v2 =>
  some ((!v2.1), ())))
  ((flow_Char (IntKind.i64.wrap v1.1)).bind fun v3 =>
  some ((!v3.1), ())) : Option TA5).bind fun r4 =>
  cond r4.1
  (some (.inr (.inr (23, ()))))
  ((cut p1.1 v1.2.1 (p1.1.length : Int)).bind fun v5 =>
  some (.inl (v5, ()))))
  (some (.inr (.inl (()))))

noncomputable def value_text (a0 : Str) : Option (Int × Unit) :=
  cond (decide (32767 < (a0.length : Int)))
  (some (3, ()))
  ((loop value_text_l1 (a0, ())).bind fun r6 =>
  (match r6 with
  | .inl _ => (some (0, ()))
  | .inr z8 => (some z8)))

noncomputable def value_FaultText (a0 : Int) : Option (Str × Unit) :=
  (cond (decide (a0 < 1))
  (some (true, ()))
  (some ((decide (9 ≤ a0)), ())) : Option TA5).bind fun r1 =>
  cond r1.1
  (some ([], ()))
  ((idx ([[], [35, 68, 73, 86, 47, 48, 33], [35, 86, 65, 76, 85, 69, 33], [35, 82, 69, 70, 33], [35, 78, 65, 77, 69, 63], [35, 78, 85, 77, 33], [35, 78, 47, 65], [35, 83, 80, 73, 76, 76, 33], [35, 67, 89, 67, 76, 69, 33]] : (List Str)) a0).bind fun v2 =>
  some (v2, ()))

noncomputable def value_array_l1 (r1 : TA10) (rec : TA1 → Option (Int × Unit)) (p1 : (Int × Unit)) : Option TA17 :=
  cond (decide (p1.1 < (r1.2.2.1.2.2.2.2.2.2.2.2.1.length : Int)))
  ((idx r1.2.2.1.2.2.2.2.2.2.2.2.1 p1.1).bind fun v4 =>
  cond (decide (v4.data.1 = 5))
  (some (.inr (.inr (8, ()))))
  (let v5 : TA1 := (tn v4)
  (rec v5).bind fun v6 =>
  cond (!decide (v6.1 = 0))
  (some (.inr (.inr v6)))
  (some (.inl (IntKind.i64.wrap (p1.1 + 1), ())))))
  (some (.inr (.inl (()))))

noncomputable def value_array (rec : TA1 → Option (Int × Unit)) (a0 : TA1) : Option (Int × Unit) :=
  (cond (decide (a0.data.2.2.2.2.2.1 < 1))
  (some ((), true, (a0.data.1, (a0.data.2.1.1, (a0.data.2.1.2.1, (a0.data.2.2.1, (a0.data.2.2.2.1, (a0.data.2.2.2.2.1, (a0.data.2.2.2.2.2.1, (a0.data.2.2.2.2.2.2.1, (a0.kids, ()))))))))), ()))
  (cond ((decide (100000 < a0.data.2.2.2.2.2.1)))
  (some ((), true, (a0.data.1, (a0.data.2.1.1, (a0.data.2.1.2.1, (a0.data.2.2.1, (a0.data.2.2.2.1, (a0.data.2.2.2.2.1, (a0.data.2.2.2.2.2.1, (a0.data.2.2.2.2.2.2.1, (a0.kids, ()))))))))), ()))
  (cond ((decide (a0.data.2.2.2.2.2.2.1 < 1)))
  (some ((), true, (a0.data.1, (a0.data.2.1.1, (a0.data.2.1.2.1, (a0.data.2.2.1, (a0.data.2.2.2.1, (a0.data.2.2.2.2.1, (a0.data.2.2.2.2.2.1, (a0.data.2.2.2.2.2.2.1, (a0.kids, ()))))))))), ()))
  (some ((), (decide (100000 < a0.data.2.2.2.2.2.2.1)), (a0.data.1, (a0.data.2.1.1, (a0.data.2.1.2.1, (a0.data.2.2.1, (a0.data.2.2.2.1, (a0.data.2.2.2.2.1, (a0.data.2.2.2.2.2.1, (a0.data.2.2.2.2.2.2.1, (a0.kids, ()))))))))), ())))) : Option TA10).bind fun r1 =>
  cond r1.2.1
  (some (2, ()))
  (let v2 : Int := IntKind.i64.wrap (r1.2.2.1.2.2.2.2.2.2.1 * r1.2.2.1.2.2.2.2.2.2.2.1)
  cond (decide (100000 < v2))
  (some (3, ()))
  (let v3 : Int := IntKind.i64.wrap (r1.2.2.1.2.2.2.2.2.2.1 * r1.2.2.1.2.2.2.2.2.2.2.1)
  cond (!decide ((r1.2.2.1.2.2.2.2.2.2.2.2.1.length : Int) = v3))
  (some (4, ()))
  ((loop (value_array_l1 r1 rec) (0, ())).bind fun r7 =>
  (match r7 with
  | .inl _ => (some (0, ()))
  | .inr z9 => (some z9)))))

noncomputable def value_Check_s (rec : TA1 → Option (Int × Unit)) (a0 : TA1) : Option (Int × Unit) :=
  (cond (decide (a0.data.1 < 0))
  (some ((), true, (a0.data.1, (a0.data.2.1.1, (a0.data.2.1.2.1, (a0.data.2.2.1, (a0.data.2.2.2.1, (a0.data.2.2.2.2.1, (a0.data.2.2.2.2.2.1, (a0.data.2.2.2.2.2.2.1, (a0.kids, ()))))))))), ()))
  (some ((), (decide (5 < a0.data.1)), (a0.data.1, (a0.data.2.1.1, (a0.data.2.1.2.1, (a0.data.2.2.1, (a0.data.2.2.2.1, (a0.data.2.2.2.2.1, (a0.data.2.2.2.2.2.1, (a0.data.2.2.2.2.2.2.1, (a0.kids, ()))))))))), ())) : Option TA10).bind fun r1 =>
  cond r1.2.1
  (some (8, ()))
  (let v2 : TA1 := (Tree.node (r1.2.2.1.1, ((r1.2.2.1.2.1, (r1.2.2.1.2.2.1, ())), (r1.2.2.1.2.2.2.1, (r1.2.2.1.2.2.2.2.1, (r1.2.2.1.2.2.2.2.2.1, (r1.2.2.1.2.2.2.2.2.2.1, (r1.2.2.1.2.2.2.2.2.2.2.1, ()))))))) r1.2.2.1.2.2.2.2.2.2.2.2.1)
  (value_zeros v2).bind fun v3 =>
  cond (!decide (v3.1 = 0))
  (some v3)
  ((cond (decide (r1.2.2.1.1 = 1))
  ((exact_Check (r1.2.2.1.2.1, (r1.2.2.1.2.2.1, ()))).bind fun v4 =>
  some (.inr v4))
  (cond (decide (r1.2.2.1.1 = 2))
  ((value_text r1.2.2.1.2.2.2.1).bind fun v5 =>
  some (.inr v5))
  (cond (decide (r1.2.2.1.1 = 4))
  ((value_FaultText r1.2.2.1.2.2.2.2.2.1).bind fun v6 =>
  cond (decide (v6.1 = []))
  (some (.inr (2, ())))
  (some (.inl (()))))
  (cond (decide (r1.2.2.1.1 = 5))
  (let v7 : TA1 := (Tree.node (r1.2.2.1.1, ((r1.2.2.1.2.1, (r1.2.2.1.2.2.1, ())), (r1.2.2.1.2.2.2.1, (r1.2.2.1.2.2.2.2.1, (r1.2.2.1.2.2.2.2.2.1, (r1.2.2.1.2.2.2.2.2.2.1, (r1.2.2.1.2.2.2.2.2.2.2.1, ()))))))) r1.2.2.1.2.2.2.2.2.2.2.2.1)
  (value_array rec v7).bind fun v8 =>
  some (.inr v8))
  (some (.inl (())))))) : Option (Unit ⊕ (Int × Unit))).bind fun r9 =>
  (match r9 with
  | .inl _ => (some (0, ()))
  | .inr z11 => (some z11))))

noncomputable def value_Check_f : Nat → TA1 → Option (Int × Unit)
  | 0 => fun _ => none
  | n + 1 => value_Check_s (value_Check_f n)

noncomputable def value_Check (a0 : TA1) : Option (Int × Unit) := value_Check_f rounds a0

noncomputable def arrange_array (a0 : TA1) : Option (Int × Unit) :=
  let v1 : TA1 := (tn a0)
  (value_Check v1).bind fun v2 =>
  cond (!decide (v2.1 = 0))
  (some v2)
  (cond (!decide (a0.data.1 = 5))
  (some (8, ()))
  (some (0, ())))

noncomputable def value_both_l1 (v1 : TA1) (v2 : TA1) (p1 : TA22) : Option (TA22 ⊕ ((Unit × (Unit × (TA0 × (TA0 × Unit)))) ⊕ (Int × Unit))) :=
  cond (decide (p1.2.2.1 < 2))
  ((idx [v1, v2] p1.2.2.1).bind fun v3 =>
  let v4 : TA1 := (tn v3)
  (value_Check v4).bind fun v5 =>
  cond (!decide (v5.1 = 0))
  (some (.inr (.inr v5)))
  (some (.inl ((), (), IntKind.i64.wrap (p1.2.2.1 + 1), p1.2.2.2.1, p1.2.2.2.2.1, ()))))
  (some (.inr (.inl ((), (), p1.2.2.2.1, p1.2.2.2.2.1, ()))))

noncomputable def value_both (a0 : TA1) (a1 : TA1) (a2 : Int) : Option (Int × Unit) :=
  let v1 : TA1 := (tn a0)
  let v2 : TA1 := (tn a1)
  (loop (value_both_l1 v1 v2) ((), (), 0, (a0.data.1, (a0.data.2.1.1, (a0.data.2.1.2.1, (a0.data.2.2.1, (a0.data.2.2.2.1, (a0.data.2.2.2.2.1, (a0.data.2.2.2.2.2.1, (a0.data.2.2.2.2.2.2.1, (a0.kids, ()))))))))), (a1.data.1, (a1.data.2.1.1, (a1.data.2.1.2.1, (a1.data.2.2.1, (a1.data.2.2.2.1, (a1.data.2.2.2.2.1, (a1.data.2.2.2.2.2.1, (a1.data.2.2.2.2.2.2.1, (a1.kids, ()))))))))), ())).bind fun r6 =>
  (match r6 with
  | .inl z7 => (cond (decide (a2 < (mx z7.2.2.1.1 z7.2.2.2.1.1)))
  (some (8, ()))
  (some (0, ())))
  | .inr z8 => (some z8))

noncomputable def value_rank (a0 : TA1) : Option (Int × Unit) :=
  cond (decide (a0.data.1 = 1))
  (some (0, ()))
  (cond (decide (a0.data.1 = 2))
  (some (1, ()))
  (cond (decide (a0.data.1 = 3))
  (some (2, ()))
  (cond (decide (a0.data.1 = 4))
  (some (3, ()))
  (some (4, ())))))

noncomputable def cmp_isNaN_int_ (a0 : Int) : Option TA5 :=
  some (!decide (a0 = a0), ())

noncomputable def cmp_Compare_int_ (a0 : Int) (a1 : Int) : Option (Int × Unit) :=
  (cmp_isNaN_int_ a0).bind fun v1 =>
  (cmp_isNaN_int_ a1).bind fun v2 =>
  cond v1.1
  (cond v2.1
  (some (0, ()))
  (some ((-1), ())))
  (cond v2.1
  (some (1, ()))
  (cond (decide (a0 < a1))
  (some ((-1), ()))
  (cond (decide (a1 < a0))
  (some (1, ()))
  (some (0, ())))))

noncomputable def exact_both (a0 : TA15) (a1 : TA15) : Option (TA6 × (TA6 × (Int × Unit))) :=
  (exact_read a0).bind fun v1 =>
  cond (!decide (v1.2.1 = 0))
  (some (v1.1, v1.1, v1.2.1, ()))
  ((exact_read a1).bind fun v2 =>
  some (v1.1, v2.1, v2.2.1, ()))

noncomputable def exact_nat__plus_l1 (a0 : (List Int)) (a1 : (List Int)) (p1 : TA12) : Option (TA12 ⊕ (Unit × TA3)) :=
  (cond (decide (p1.2.2.1 < (a0.length : Int)))
  (some ((), true, p1.2.2.2.1, ()))
  (cond ((decide (p1.2.2.1 < (a1.length : Int))))
  (some ((), true, p1.2.2.2.1, ()))
  (some ((), (decide (0 < p1.2.1)), p1.2.2.2.1, ()))) : Option (Unit × (Bool × TA3))).bind fun r3 =>
  cond r3.2.1
  ((cond (decide (p1.2.2.1 < (a0.length : Int)))
  ((idx a0 p1.2.2.1).bind fun v4 =>
  some ((), IntKind.u32.wrap (p1.2.1 + v4), r3.2.2.1, ()))
  (some ((), p1.2.1, r3.2.2.1, ())) : Option TA13).bind fun r5 =>
  (cond (decide (p1.2.2.1 < (a1.length : Int)))
  ((idx a1 p1.2.2.1).bind fun v6 =>
  some ((), IntKind.u32.wrap (r5.2.1 + v6), r5.2.2.1, ()))
  (some ((), r5.2.1, r5.2.2.1, ())) : Option TA13).bind fun r7 =>
  (rem r7.2.1 1000000000).bind fun v8 =>
  (cat r7.2.2.1 [v8]).bind fun v9 =>
  (quo .u32 r7.2.1 1000000000).bind fun v10 =>
  some (.inl ((), v10, IntKind.i64.wrap (p1.2.2.1 + 1), v9, ())))
  (some (.inr ((), r3.2.2.1, ())))

noncomputable def exact_nat__plus (a0 : (List Int)) (a1 : (List Int)) : Option TA3 :=
  let v1 : Int := IntKind.i64.wrap ((mx (a0.length : Int) (a1.length : Int)) + 1)
  (mk 0 v1 0).bind fun v2 =>
  (loop (exact_nat__plus_l1 a0 a1) ((), 0, 0, v2, ())).bind fun r11 =>
  some r11.2

noncomputable def exact_sum (a0 : TA6) (a1 : TA6) : Option (TA6 × Unit) :=
  (exact_nat__times a0.2.1 a1.2.2.1).bind fun v1 =>
  (exact_nat__times a1.2.1 a0.2.2.1).bind fun v2 =>
  (exact_nat__times a0.2.2.1 a1.2.2.1).bind fun v3 =>
  cond (a0.1 == a1.1)
  ((exact_nat__plus v1.1 v2.1).bind fun v4 =>
  some ((a0.1, (v4.1, v3)), ()))
  ((exact_nat__compare v1.1 v2.1).bind fun v5 =>
  cond (decide (0 ≤ v5.1))
  ((exact_nat__minus v1.1 v2.1).bind fun v6 =>
  some ((a0.1, (v6.1, v3)), ()))
  ((exact_nat__minus v2.1 v1.1).bind fun v7 =>
  some ((a1.1, (v7.1, v3)), ())))

noncomputable def exact_Compare (a0 : TA15) (a1 : TA15) : Option TA8 :=
  (exact_both a0 a1).bind fun v1 =>
  cond (!decide (v1.2.2.1 = 0))
  (some (0, v1.2.2.1, ()))
  ((exact_sum v1.1 (!v1.2.1.1, v1.2.1.2)).bind fun v2 =>
  (exact_nat__zero v2.1.2.1).bind fun v3 =>
  cond v3.1
  (some (0, 0, ()))
  (cond v2.1.1
  (some ((-1), 0, ()))
  (some (1, 0, ()))))

noncomputable def value_Lower_l1 (a0 : Str) (p1 : (Unit × TA13)) : Option ((Unit × TA13) ⊕ (Unit × TA3)) :=
  cond (decide (p1.2.2.1 < ((strBytes a0).length : Int)))
  (((chk (inb p1.2.2.1 p1.2.2.2.1.length)).bind fun _ =>
  (cond (decide ((65 : Int) ≤ (p1.2.2.2.1.getD p1.2.2.1.toNat 0)))
  (let v1 : Bool := (decide ((p1.2.2.2.1.getD p1.2.2.1.toNat 0) ≤ 90))
  some ((), (), v1, p1.2.2.2.1, ()))
  (some ((), (), false, p1.2.2.2.1, ())) : Option (Unit × (Unit × (Bool × TA3)))).bind fun r2 =>
  cond r2.2.2.1
  ((chk (inb p1.2.2.1 r2.2.2.2.1.length)).bind fun _ =>
  (chk (inb p1.2.2.1 r2.2.2.2.1.length)).bind fun _ =>
  let v3 : List Int := r2.2.2.2.1.set p1.2.2.1.toNat (IntKind.u8.wrap ((r2.2.2.2.1.getD p1.2.2.1.toNat 0) + 32))
  some ((), (), v3, ()))
  (some ((), (), r2.2.2.2.1, ())) : Option (Unit × (Unit × TA3))).bind fun r4 =>
  some (.inl ((), (), IntKind.i64.wrap (p1.2.2.1 + 1), r4.2.2.1, ())))
  (some (.inr ((), p1.2.2.2.1, ())))

noncomputable def value_Lower (a0 : Str) : Option (Str × Unit) :=
  (chk (decide (a0.length ≤ lim))).bind fun _ =>
  (loop (value_Lower_l1 a0) ((), (), 0, strBytes a0, ())).bind fun r5 =>
  some (bytesStr r5.2.1, ())

noncomputable def cmp_isNaN_string_ (a0 : Str) : Option TA5 :=
  some (!decide (a0 = a0), ())

noncomputable def cmp_Compare_string_ (a0 : Str) (a1 : Str) : Option (Int × Unit) :=
  (cmp_isNaN_string_ a0).bind fun v1 =>
  (cmp_isNaN_string_ a1).bind fun v2 =>
  cond v1.1
  (cond v2.1
  (some (0, ()))
  (some ((-1), ())))
  (cond v2.1
  (some (1, ()))
  (cond (Op.bytesLess a0 a1)
  (some ((-1), ()))
  (cond (Op.bytesLess a1 a0)
  (some (1, ()))
  (some (0, ())))))

noncomputable def value_flag (a0 : Bool) : Option (Int × Unit) :=
  cond a0
  (some (1, ()))
  (some (0, ()))

noncomputable def value_compared (a0 : TA1) (a1 : TA1) : Option (Int × Unit) :=
  cond (decide (a0.data.1 = 1))
  ((exact_Compare (a0.data.2.1.1, (a0.data.2.1.2.1, ())) (a1.data.2.1.1, (a1.data.2.1.2.1, ()))).bind fun v1 =>
  some (v1.1, ()))
  (cond (decide (a0.data.1 = 2))
  ((value_Lower a0.data.2.2.1).bind fun v2 =>
  (value_Lower a1.data.2.2.1).bind fun v3 =>
  (cmp_Compare_string_ v2.1 v3.1).bind fun v4 =>
  some v4)
  (cond (decide (a0.data.1 = 3))
  ((value_flag a0.data.2.2.2.1).bind fun v5 =>
  (value_flag a1.data.2.2.2.1).bind fun v6 =>
  some (IntKind.i64.wrap (v5.1 - v6.1), ()))
  ((cmp_Compare_int_ a0.data.2.2.2.2.1 a1.data.2.2.2.2.1).bind fun v7 =>
  some v7)))

noncomputable def cmp_Or_int__l1 (a0 : (List Int)) (p1 : (Int × Unit)) : Option TA17 :=
  cond (decide (p1.1 < (a0.length : Int)))
  ((idx a0 p1.1).bind fun v1 =>
  cond (!decide (v1 = 0))
  (some (.inr (.inr (v1, ()))))
  (some (.inl (IntKind.i64.wrap (p1.1 + 1), ()))))
  (some (.inr (.inl (()))))

noncomputable def cmp_Or_int_ (a0 : (List Int)) : Option (Int × Unit) :=
  (loop (cmp_Or_int__l1 a0) (0, ())).bind fun r2 =>
  (match r2 with
  | .inl _ => (some (0, ()))
  | .inr z4 => (some z4))

noncomputable def value_Order (a0 : TA1) (a1 : TA1) : Option TA8 :=
  let v1 : TA1 := (tn a0)
  let v2 : TA1 := (tn a1)
  (value_both v1 v2 4).bind fun v3 =>
  cond (!decide (v3.1 = 0))
  (some (0, v3.1, ()))
  (cond (!decide (a0.data.1 = a1.data.1))
  (let v4 : TA1 := (tn a0)
  (value_rank v4).bind fun v5 =>
  let v6 : TA1 := (tn a1)
  (value_rank v6).bind fun v7 =>
  (cmp_Compare_int_ v5.1 v7.1).bind fun v8 =>
  some (v8.1, 0, ()))
  (cond (decide (a0.data.1 = 0))
  (some (0, 0, ()))
  (let v9 : TA1 := (tn a0)
  let v10 : TA1 := (tn a1)
  (value_compared v9 v10).bind fun v11 =>
  (cmp_Compare_string_ a0.data.2.2.1 a1.data.2.2.1).bind fun v12 =>
  (cmp_Or_int_ [v11.1, v12.1]).bind fun v13 =>
  some (v13.1, 0, ()))))

noncomputable def arrange_order (a0 : TA1) (a1 : TA1) (a2 : Bool) : Option (Int × Unit) :=
  let v1 : TA1 := (tn a0)
  let v2 : TA1 := (tn a1)
  (value_Order v1 v2).bind fun v3 =>
  (cond a2
  (cond ((!decide (a0.data.1 = 0)))
  (some ((!decide (a1.data.1 = 0)), ()))
  (some (false, ())))
  (some (false, ())) : Option TA5).bind fun r4 =>
  cond r4.1
  (some (IntKind.i64.wrap (0 - v3.1), ()))
  (some (v3.1, ()))

noncomputable def arrange_Rows_1_l1 (o0 : TA11) (a0 : Int) (a1 : Int) (p1 : TA24) : Option (TA24 ⊕ ((Unit × (Unit × ((TA11 × Unit) × (TA0 × Unit)))) ⊕ TA24)) :=
  cond (decide (p1.2.2.1 < (o0.length : Int)))
  ((idx o0 p1.2.2.1).bind fun v1 =>
  let v2 : Int := IntKind.i64.wrap ((IntKind.i64.wrap (a0 * p1.2.2.2.2.1.2.2.2.2.2.2.2.1)) + v1.1)
  (idx p1.2.2.2.2.1.2.2.2.2.2.2.2.2.1 v2).bind fun v3 =>
  let v4 : Int := IntKind.i64.wrap ((IntKind.i64.wrap (a1 * p1.2.2.2.2.1.2.2.2.2.2.2.2.1)) + v1.1)
  (idx p1.2.2.2.2.1.2.2.2.2.2.2.2.2.1 v4).bind fun v5 =>
  (arrange_order v3 v5 v1.2.1).bind fun v6 =>
  cond (!decide (v6.1 = 0))
  (some (.inr (.inr ((), (), v6.1, p1.2.2.2.1, p1.2.2.2.2.1, ()))))
  (some (.inl ((), (), IntKind.i64.wrap (p1.2.2.1 + 1), p1.2.2.2.1, p1.2.2.2.2.1, ()))))
  (some (.inr (.inl ((), (), p1.2.2.2.1, p1.2.2.2.2.1, ()))))

noncomputable def arrange_Rows_1 (a0 : Int) (a1 : Int) (o0 : TA11) (o1 : Int) (o1_1 : Str) (o1_2 : Str) (o1_3 : Str) (o1_4 : Bool) (o1_5 : Int) (o1_6 : Int) (o1_7 : Int) (o1_8 : (List TA1)) : Option (Int × (Unit × (Unit × ((TA11 × Unit) × (TA0 × Unit))))) :=
  (loop (arrange_Rows_1_l1 o0 a0 a1) ((), (), 0, (o0, ()), (o1, (o1_1, (o1_2, (o1_3, (o1_4, (o1_5, (o1_6, (o1_7, (o1_8, ()))))))))), ())).bind fun r7 =>
  (match r7 with
  | .inl z8 => (some (0, (), (), z8.2.2.1, z8.2.2.2.1, ()))
  | .inr z9 => (some (z9.2.2.1, (), (), z9.2.2.2.1, z9.2.2.2.2.1, ())))

noncomputable def slices_insertionSortCmpFunc_int__Rows_1_l1 (a1 : Int) (p1 : TA7) : Option (TA7 ⊕ TA14) :=
  (cond (decide (a1 < p1.2.2.1))
  ((chk (inb p1.2.2.1 p1.2.2.2.1.length)).bind fun _ =>
  (chk (inb (IntKind.i64.wrap (p1.2.2.1 - 1)) p1.2.2.2.1.length)).bind fun _ =>
  let v1 : Int := (p1.2.2.2.1.getD (IntKind.i64.wrap (p1.2.2.1 - 1)).toNat 0)
  (arrange_Rows_1 (p1.2.2.2.1.getD p1.2.2.1.toNat 0) v1 p1.2.2.2.2.1.1 p1.2.2.2.2.2.1.1 p1.2.2.2.2.2.1.2.1 p1.2.2.2.2.2.1.2.2.1 p1.2.2.2.2.2.1.2.2.2.1 p1.2.2.2.2.2.1.2.2.2.2.1 p1.2.2.2.2.2.1.2.2.2.2.2.1 p1.2.2.2.2.2.1.2.2.2.2.2.2.1 p1.2.2.2.2.2.1.2.2.2.2.2.2.2.1 p1.2.2.2.2.2.1.2.2.2.2.2.2.2.2.1).bind fun v2 =>
  some ((), ((), ((), ())), (decide (v2.1 < 0)), p1.2.2.2.1, v2.2.2.2.1, v2.2.2.2.2.1, ()))
  (some ((), ((), ((), ())), false, p1.2.2.2.1, p1.2.2.2.2.1, p1.2.2.2.2.2.1, ())) : Option (Unit × (TA4 × (Bool × TA2)))).bind fun r3 =>
  cond r3.2.2.1
  ((chk (inb (IntKind.i64.wrap (p1.2.2.1 - 1)) r3.2.2.2.1.length)).bind fun _ =>
  let v4 : Int := (r3.2.2.2.1.getD (IntKind.i64.wrap (p1.2.2.1 - 1)).toNat 0)
  (chk (inb p1.2.2.1 r3.2.2.2.1.length)).bind fun _ =>
  (chk (inb p1.2.2.1 r3.2.2.2.1.length)).bind fun _ =>
  let v5 : List Int := r3.2.2.2.1.set p1.2.2.1.toNat v4
  (chk (inb (IntKind.i64.wrap (p1.2.2.1 - 1)) v5.length)).bind fun _ =>
  let v6 : List Int := v5.set (IntKind.i64.wrap (p1.2.2.1 - 1)).toNat (r3.2.2.2.1.getD p1.2.2.1.toNat 0)
  some (.inl ((), ((), ((), ())), IntKind.i64.wrap (p1.2.2.1 - 1), v6, r3.2.2.2.2.1, r3.2.2.2.2.2.1, ())))
  (some (.inr ((), ((), ((), ())), r3.2.2.2.1, r3.2.2.2.2.1, r3.2.2.2.2.2.1, ())))

noncomputable def slices_insertionSortCmpFunc_int__Rows_1_l2 (a2 : Int) (a1 : Int) (p2 : TA7) : Option (TA7 ⊕ TA14) :=
  cond (decide (p2.2.2.1 < a2))
  ((loop (slices_insertionSortCmpFunc_int__Rows_1_l1 a1) ((), ((), ((), ())), p2.2.2.1, p2.2.2.2.1, p2.2.2.2.2.1, p2.2.2.2.2.2.1, ())).bind fun r7 =>
  some (.inl ((), ((), ((), ())), IntKind.i64.wrap (p2.2.2.1 + 1), r7.2.2.1, r7.2.2.2.1, r7.2.2.2.2.1, ())))
  (some (.inr ((), ((), ((), ())), p2.2.2.2.1, p2.2.2.2.2.1, p2.2.2.2.2.2.1, ())))

noncomputable def slices_insertionSortCmpFunc_int__Rows_1 (a1 : Int) (a2 : Int) (o0 : (List Int)) (o1 : TA11) (o2 : Int) (o2_1 : Str) (o2_2 : Str) (o2_3 : Str) (o2_4 : Bool) (o2_5 : Int) (o2_6 : Int) (o2_7 : Int) (o2_8 : (List TA1)) : Option TA14 :=
  (loop (slices_insertionSortCmpFunc_int__Rows_1_l2 a2 a1) ((), ((), ((), ())), IntKind.i64.wrap (a1 + 1), o0, (o1, ()), (o2, (o2_1, (o2_2, (o2_3, (o2_4, (o2_5, (o2_6, (o2_7, (o2_8, ()))))))))), ())).bind fun r8 =>
  some ((), ((), ((), ())), r8.2.2.1, r8.2.2.2.1, r8.2.2.2.2.1, ())

noncomputable def slices_swapRangeCmpFunc_int__Rows_1_l1 (a3 : Int) (a2 : Int) (a1 : Int) (p1 : TA7) : Option (TA7 ⊕ TA14) :=
  cond (decide (p1.2.2.1 < a3))
  ((chk (inb (IntKind.i64.wrap (a2 + p1.2.2.1)) p1.2.2.2.1.length)).bind fun _ =>
  let v1 : Int := (p1.2.2.2.1.getD (IntKind.i64.wrap (a2 + p1.2.2.1)).toNat 0)
  (chk (inb (IntKind.i64.wrap (a1 + p1.2.2.1)) p1.2.2.2.1.length)).bind fun _ =>
  let v2 : Int := (p1.2.2.2.1.getD (IntKind.i64.wrap (a1 + p1.2.2.1)).toNat 0)
  (chk (inb (IntKind.i64.wrap (a1 + p1.2.2.1)) p1.2.2.2.1.length)).bind fun _ =>
  let v3 : List Int := p1.2.2.2.1.set (IntKind.i64.wrap (a1 + p1.2.2.1)).toNat v1
  (chk (inb (IntKind.i64.wrap (a2 + p1.2.2.1)) v3.length)).bind fun _ =>
  let v4 : List Int := v3.set (IntKind.i64.wrap (a2 + p1.2.2.1)).toNat v2
  some (.inl ((), ((), ((), ())), IntKind.i64.wrap (p1.2.2.1 + 1), v4, p1.2.2.2.2.1, p1.2.2.2.2.2.1, ())))
  (some (.inr ((), ((), ((), ())), p1.2.2.2.1, p1.2.2.2.2.1, p1.2.2.2.2.2.1, ())))

noncomputable def slices_swapRangeCmpFunc_int__Rows_1 (a1 : Int) (a2 : Int) (a3 : Int) (o0 : (List Int)) (o1 : TA11) (o2 : Int) (o2_1 : Str) (o2_2 : Str) (o2_3 : Str) (o2_4 : Bool) (o2_5 : Int) (o2_6 : Int) (o2_7 : Int) (o2_8 : (List TA1)) : Option TA14 :=
  (loop (slices_swapRangeCmpFunc_int__Rows_1_l1 a3 a2 a1) ((), ((), ((), ())), 0, o0, (o1, ()), (o2, (o2_1, (o2_2, (o2_3, (o2_4, (o2_5, (o2_6, (o2_7, (o2_8, ()))))))))), ())).bind fun r5 =>
  some ((), ((), ((), ())), r5.2.2.1, r5.2.2.2.1, r5.2.2.2.2.1, ())

noncomputable def slices_rotateCmpFunc_int__Rows_1_l1 (a2 : Int) (p1 : TA9) : Option (TA9 ⊕ TA7) :=
  cond (!decide (p1.2.2.1 = p1.2.2.2.1))
  (cond (decide (p1.2.2.2.1 < p1.2.2.1))
  ((slices_swapRangeCmpFunc_int__Rows_1 (IntKind.i64.wrap (a2 - p1.2.2.1)) a2 p1.2.2.2.1 p1.2.2.2.2.1 p1.2.2.2.2.2.1.1 p1.2.2.2.2.2.2.1.1 p1.2.2.2.2.2.2.1.2.1 p1.2.2.2.2.2.2.1.2.2.1 p1.2.2.2.2.2.2.1.2.2.2.1 p1.2.2.2.2.2.2.1.2.2.2.2.1 p1.2.2.2.2.2.2.1.2.2.2.2.2.1 p1.2.2.2.2.2.2.1.2.2.2.2.2.2.1 p1.2.2.2.2.2.2.1.2.2.2.2.2.2.2.1 p1.2.2.2.2.2.2.1.2.2.2.2.2.2.2.2.1).bind fun v1 =>
  some (.inl ((), ((), ((), ())), IntKind.i64.wrap (p1.2.2.1 - p1.2.2.2.1), p1.2.2.2.1, v1.2.2.1, v1.2.2.2.1, v1.2.2.2.2.1, ())))
  (let v2 : Int := IntKind.i64.wrap ((IntKind.i64.wrap (a2 + p1.2.2.2.1)) - p1.2.2.1)
  (slices_swapRangeCmpFunc_int__Rows_1 (IntKind.i64.wrap (a2 - p1.2.2.1)) v2 p1.2.2.1 p1.2.2.2.2.1 p1.2.2.2.2.2.1.1 p1.2.2.2.2.2.2.1.1 p1.2.2.2.2.2.2.1.2.1 p1.2.2.2.2.2.2.1.2.2.1 p1.2.2.2.2.2.2.1.2.2.2.1 p1.2.2.2.2.2.2.1.2.2.2.2.1 p1.2.2.2.2.2.2.1.2.2.2.2.2.1 p1.2.2.2.2.2.2.1.2.2.2.2.2.2.1 p1.2.2.2.2.2.2.1.2.2.2.2.2.2.2.1 p1.2.2.2.2.2.2.1.2.2.2.2.2.2.2.2.1).bind fun v3 =>
  some (.inl ((), ((), ((), ())), p1.2.2.1, IntKind.i64.wrap (p1.2.2.2.1 - p1.2.2.1), v3.2.2.1, v3.2.2.2.1, v3.2.2.2.2.1, ()))))
  (some (.inr ((), ((), ((), ())), p1.2.2.1, p1.2.2.2.2.1, p1.2.2.2.2.2.1, p1.2.2.2.2.2.2.1, ())))

noncomputable def slices_rotateCmpFunc_int__Rows_1 (a1 : Int) (a2 : Int) (a3 : Int) (o0 : (List Int)) (o1 : TA11) (o2 : Int) (o2_1 : Str) (o2_2 : Str) (o2_3 : Str) (o2_4 : Bool) (o2_5 : Int) (o2_6 : Int) (o2_7 : Int) (o2_8 : (List TA1)) : Option TA14 :=
  (loop (slices_rotateCmpFunc_int__Rows_1_l1 a2) ((), ((), ((), ())), IntKind.i64.wrap (a2 - a1), IntKind.i64.wrap (a3 - a2), o0, (o1, ()), (o2, (o2_1, (o2_2, (o2_3, (o2_4, (o2_5, (o2_6, (o2_7, (o2_8, ()))))))))), ())).bind fun r4 =>
  (slices_swapRangeCmpFunc_int__Rows_1 (IntKind.i64.wrap (a2 - r4.2.2.1)) a2 r4.2.2.1 r4.2.2.2.1 r4.2.2.2.2.1.1 r4.2.2.2.2.2.1.1 r4.2.2.2.2.2.1.2.1 r4.2.2.2.2.2.1.2.2.1 r4.2.2.2.2.2.1.2.2.2.1 r4.2.2.2.2.2.1.2.2.2.2.1 r4.2.2.2.2.2.1.2.2.2.2.2.1 r4.2.2.2.2.2.1.2.2.2.2.2.2.1 r4.2.2.2.2.2.1.2.2.2.2.2.2.2.1 r4.2.2.2.2.2.1.2.2.2.2.2.2.2.2.1).bind fun v5 =>
  some ((), ((), ((), ())), v5.2.2.1, v5.2.2.2.1, v5.2.2.2.2.1, ())

noncomputable def slices_symMergeCmpFunc_int__Rows_1_l1 (a1 : Int) (p1 : TA9) : Option (TA9 ⊕ TA7) :=
  cond (decide (p1.2.2.1 < p1.2.2.2.1))
  (let v1 : Int := IntKind.u64.wrap (IntKind.i64.wrap (p1.2.2.1 + p1.2.2.2.1))
  (shc 1).bind fun v2 =>
  (chk (inb (IntKind.i64.wrap (shr .u64 v1 v2)) p1.2.2.2.2.1.length)).bind fun _ =>
  let v3 : Int := (p1.2.2.2.2.1.getD (IntKind.i64.wrap (shr .u64 v1 v2)).toNat 0)
  (chk (inb a1 p1.2.2.2.2.1.length)).bind fun _ =>
  (arrange_Rows_1 v3 (p1.2.2.2.2.1.getD a1.toNat 0) p1.2.2.2.2.2.1.1 p1.2.2.2.2.2.2.1.1 p1.2.2.2.2.2.2.1.2.1 p1.2.2.2.2.2.2.1.2.2.1 p1.2.2.2.2.2.2.1.2.2.2.1 p1.2.2.2.2.2.2.1.2.2.2.2.1 p1.2.2.2.2.2.2.1.2.2.2.2.2.1 p1.2.2.2.2.2.2.1.2.2.2.2.2.2.1 p1.2.2.2.2.2.2.1.2.2.2.2.2.2.2.1 p1.2.2.2.2.2.2.1.2.2.2.2.2.2.2.2.1).bind fun v4 =>
  cond (decide (v4.1 < 0))
  (some (.inl ((), ((), ((), ())), IntKind.i64.wrap ((IntKind.i64.wrap (shr .u64 v1 v2)) + 1), p1.2.2.2.1, p1.2.2.2.2.1, v4.2.2.2.1, v4.2.2.2.2.1, ())))
  (some (.inl ((), ((), ((), ())), p1.2.2.1, IntKind.i64.wrap (shr .u64 v1 v2), p1.2.2.2.2.1, v4.2.2.2.1, v4.2.2.2.2.1, ()))))
  (some (.inr ((), ((), ((), ())), p1.2.2.1, p1.2.2.2.2.1, p1.2.2.2.2.2.1, p1.2.2.2.2.2.2.1, ())))

noncomputable def slices_symMergeCmpFunc_int__Rows_1_l2 (r5 : TA7) (p2 : TA7) : Option (TA7 ⊕ TA14) :=
  cond (decide (p2.2.2.1 < (IntKind.i64.wrap (r5.2.2.1 - 1))))
  ((chk (inb (IntKind.i64.wrap (p2.2.2.1 + 1)) p2.2.2.2.1.length)).bind fun _ =>
  let v6 : Int := (p2.2.2.2.1.getD (IntKind.i64.wrap (p2.2.2.1 + 1)).toNat 0)
  (chk (inb p2.2.2.1 p2.2.2.2.1.length)).bind fun _ =>
  (chk (inb p2.2.2.1 p2.2.2.2.1.length)).bind fun _ =>
  let v7 : List Int := p2.2.2.2.1.set p2.2.2.1.toNat v6
  (chk (inb (IntKind.i64.wrap (p2.2.2.1 + 1)) v7.length)).bind fun _ =>
  let v8 : List Int := v7.set (IntKind.i64.wrap (p2.2.2.1 + 1)).toNat (p2.2.2.2.1.getD p2.2.2.1.toNat 0)
  some (.inl ((), ((), ((), ())), IntKind.i64.wrap (p2.2.2.1 + 1), v8, p2.2.2.2.2.1, p2.2.2.2.2.2.1, ())))
  (some (.inr ((), ((), ((), ())), p2.2.2.2.1, p2.2.2.2.2.1, p2.2.2.2.2.2.1, ())))

noncomputable def slices_symMergeCmpFunc_int__Rows_1_l3 (a2 : Int) (p3 : TA9) : Option (TA9 ⊕ TA7) :=
  cond (decide (p3.2.2.1 < p3.2.2.2.1))
  (let v10 : Int := IntKind.u64.wrap (IntKind.i64.wrap (p3.2.2.1 + p3.2.2.2.1))
  (shc 1).bind fun v11 =>
  (chk (inb a2 p3.2.2.2.2.1.length)).bind fun _ =>
  (chk (inb (IntKind.i64.wrap (shr .u64 v10 v11)) p3.2.2.2.2.1.length)).bind fun _ =>
  let v12 : Int := (p3.2.2.2.2.1.getD (IntKind.i64.wrap (shr .u64 v10 v11)).toNat 0)
  (arrange_Rows_1 (p3.2.2.2.2.1.getD a2.toNat 0) v12 p3.2.2.2.2.2.1.1 p3.2.2.2.2.2.2.1.1 p3.2.2.2.2.2.2.1.2.1 p3.2.2.2.2.2.2.1.2.2.1 p3.2.2.2.2.2.2.1.2.2.2.1 p3.2.2.2.2.2.2.1.2.2.2.2.1 p3.2.2.2.2.2.2.1.2.2.2.2.2.1 p3.2.2.2.2.2.2.1.2.2.2.2.2.2.1 p3.2.2.2.2.2.2.1.2.2.2.2.2.2.2.1 p3.2.2.2.2.2.2.1.2.2.2.2.2.2.2.2.1).bind fun v13 =>
  cond (!(decide (v13.1 < 0)))
  (some (.inl ((), ((), ((), ())), IntKind.i64.wrap ((IntKind.i64.wrap (shr .u64 v10 v11)) + 1), p3.2.2.2.1, p3.2.2.2.2.1, v13.2.2.2.1, v13.2.2.2.2.1, ())))
  (some (.inl ((), ((), ((), ())), p3.2.2.1, IntKind.i64.wrap (shr .u64 v10 v11), p3.2.2.2.2.1, v13.2.2.2.1, v13.2.2.2.2.1, ()))))
  (some (.inr ((), ((), ((), ())), p3.2.2.1, p3.2.2.2.2.1, p3.2.2.2.2.2.1, p3.2.2.2.2.2.2.1, ())))

noncomputable def slices_symMergeCmpFunc_int__Rows_1_l4 (r14 : TA7) (p4 : TA7) : Option (TA7 ⊕ TA14) :=
  cond (decide (r14.2.2.1 < p4.2.2.1))
  ((chk (inb (IntKind.i64.wrap (p4.2.2.1 - 1)) p4.2.2.2.1.length)).bind fun _ =>
  let v15 : Int := (p4.2.2.2.1.getD (IntKind.i64.wrap (p4.2.2.1 - 1)).toNat 0)
  (chk (inb p4.2.2.1 p4.2.2.2.1.length)).bind fun _ =>
  (chk (inb p4.2.2.1 p4.2.2.2.1.length)).bind fun _ =>
  let v16 : List Int := p4.2.2.2.1.set p4.2.2.1.toNat v15
  (chk (inb (IntKind.i64.wrap (p4.2.2.1 - 1)) v16.length)).bind fun _ =>
  let v17 : List Int := v16.set (IntKind.i64.wrap (p4.2.2.1 - 1)).toNat (p4.2.2.2.1.getD p4.2.2.1.toNat 0)
  some (.inl ((), ((), ((), ())), IntKind.i64.wrap (p4.2.2.1 - 1), v17, p4.2.2.2.2.1, p4.2.2.2.2.2.1, ())))
  (some (.inr ((), ((), ((), ())), p4.2.2.2.1, p4.2.2.2.2.1, p4.2.2.2.2.2.1, ())))

noncomputable def slices_symMergeCmpFunc_int__Rows_1_l5 (v20 : Int) (a2 : Int) (p5 : TA9) : Option (TA9 ⊕ TA7) :=
  cond (decide (p5.2.2.1 < p5.2.2.2.1))
  (let v22 : Int := IntKind.u64.wrap (IntKind.i64.wrap (p5.2.2.1 + p5.2.2.2.1))
  (shc 1).bind fun v23 =>
  let v24 : Int := IntKind.i64.wrap ((IntKind.i64.wrap ((IntKind.i64.wrap (v20 + a2)) - 1)) - (IntKind.i64.wrap (shr .u64 v22 v23)))
  (chk (inb v24 p5.2.2.2.2.1.length)).bind fun _ =>
  (chk (inb (IntKind.i64.wrap (shr .u64 v22 v23)) p5.2.2.2.2.1.length)).bind fun _ =>
  let v25 : Int := (p5.2.2.2.2.1.getD (IntKind.i64.wrap (shr .u64 v22 v23)).toNat 0)
  (arrange_Rows_1 (p5.2.2.2.2.1.getD v24.toNat 0) v25 p5.2.2.2.2.2.1.1 p5.2.2.2.2.2.2.1.1 p5.2.2.2.2.2.2.1.2.1 p5.2.2.2.2.2.2.1.2.2.1 p5.2.2.2.2.2.2.1.2.2.2.1 p5.2.2.2.2.2.2.1.2.2.2.2.1 p5.2.2.2.2.2.2.1.2.2.2.2.2.1 p5.2.2.2.2.2.2.1.2.2.2.2.2.2.1 p5.2.2.2.2.2.2.1.2.2.2.2.2.2.2.1 p5.2.2.2.2.2.2.1.2.2.2.2.2.2.2.2.1).bind fun v26 =>
  cond (!(decide (v26.1 < 0)))
  (some (.inl ((), ((), ((), ())), IntKind.i64.wrap ((IntKind.i64.wrap (shr .u64 v22 v23)) + 1), p5.2.2.2.1, p5.2.2.2.2.1, v26.2.2.2.1, v26.2.2.2.2.1, ())))
  (some (.inl ((), ((), ((), ())), p5.2.2.1, IntKind.i64.wrap (shr .u64 v22 v23), p5.2.2.2.2.1, v26.2.2.2.1, v26.2.2.2.2.1, ()))))
  (some (.inr ((), ((), ((), ())), p5.2.2.1, p5.2.2.2.2.1, p5.2.2.2.2.2.1, p5.2.2.2.2.2.2.1, ())))

noncomputable def slices_symMergeCmpFunc_int__Rows_1_s (rec : Int → Int → Int → (List Int) → TA11 → Int → Str → Str → Str → Bool → Int → Int → Int → (List TA1) → Option TA14) (a1 : Int) (a2 : Int) (a3 : Int) (o0 : (List Int)) (o1 : TA11) (o2 : Int) (o2_1 : Str) (o2_2 : Str) (o2_3 : Str) (o2_4 : Bool) (o2_5 : Int) (o2_6 : Int) (o2_7 : Int) (o2_8 : (List TA1)) : Option TA14 :=
  cond (decide ((IntKind.i64.wrap (a2 - a1)) = 1))
  ((loop (slices_symMergeCmpFunc_int__Rows_1_l1 a1) ((), ((), ((), ())), a2, a3, o0, (o1, ()), (o2, (o2_1, (o2_2, (o2_3, (o2_4, (o2_5, (o2_6, (o2_7, (o2_8, ()))))))))), ())).bind fun r5 =>
  (loop (slices_symMergeCmpFunc_int__Rows_1_l2 r5) ((), ((), ((), ())), a1, r5.2.2.2.1, r5.2.2.2.2.1, r5.2.2.2.2.2.1, ())).bind fun r9 =>
  some ((), ((), ((), ())), r9.2.2.1, r9.2.2.2.1, r9.2.2.2.2.1, ()))
  (cond (decide ((IntKind.i64.wrap (a3 - a2)) = 1))
  ((loop (slices_symMergeCmpFunc_int__Rows_1_l3 a2) ((), ((), ((), ())), a1, a2, o0, (o1, ()), (o2, (o2_1, (o2_2, (o2_3, (o2_4, (o2_5, (o2_6, (o2_7, (o2_8, ()))))))))), ())).bind fun r14 =>
  (loop (slices_symMergeCmpFunc_int__Rows_1_l4 r14) ((), ((), ((), ())), a2, r14.2.2.2.1, r14.2.2.2.2.1, r14.2.2.2.2.2.1, ())).bind fun r18 =>
  some ((), ((), ((), ())), r18.2.2.1, r18.2.2.2.1, r18.2.2.2.2.1, ()))
  ((shc 1).bind fun v19 =>
  let v20 : Int := IntKind.i64.wrap (shr .u64 (IntKind.u64.wrap (IntKind.i64.wrap (a1 + a3))) v19)
  (cond (decide (v20 < a2))
  (some ((), ((), ((), ())), IntKind.i64.wrap ((IntKind.i64.wrap (v20 + a2)) - a3), v20, o0, (o1, ()), (o2, (o2_1, (o2_2, (o2_3, (o2_4, (o2_5, (o2_6, (o2_7, (o2_8, ()))))))))), ()))
  (some ((), ((), ((), ())), a1, a2, o0, (o1, ()), (o2, (o2_1, (o2_2, (o2_3, (o2_4, (o2_5, (o2_6, (o2_7, (o2_8, ()))))))))), ())) : Option TA9).bind fun r21 =>
  (loop (slices_symMergeCmpFunc_int__Rows_1_l5 v20 a2) ((), ((), ((), ())), r21.2.2.1, r21.2.2.2.1, r21.2.2.2.2.1, r21.2.2.2.2.2.1, r21.2.2.2.2.2.2.1, ())).bind fun r27 =>
  ((cond (decide (r27.2.2.1 < a2))
  (let v28 : Bool := (decide (a2 < (IntKind.i64.wrap ((IntKind.i64.wrap (v20 + a2)) - r27.2.2.1))))
  some ((), ((), ((), ())), v28, r27.2.2.2.1, r27.2.2.2.2.1, r27.2.2.2.2.2.1, ()))
  (some ((), ((), ((), ())), false, r27.2.2.2.1, r27.2.2.2.2.1, r27.2.2.2.2.2.1, ())) : Option (Unit × (TA4 × (Bool × TA2)))).bind fun r29 =>
  cond r29.2.2.1
  ((slices_rotateCmpFunc_int__Rows_1 r27.2.2.1 a2 (IntKind.i64.wrap ((IntKind.i64.wrap (v20 + a2)) - r27.2.2.1)) r29.2.2.2.1 r29.2.2.2.2.1.1 r29.2.2.2.2.2.1.1 r29.2.2.2.2.2.1.2.1 r29.2.2.2.2.2.1.2.2.1 r29.2.2.2.2.2.1.2.2.2.1 r29.2.2.2.2.2.1.2.2.2.2.1 r29.2.2.2.2.2.1.2.2.2.2.2.1 r29.2.2.2.2.2.1.2.2.2.2.2.2.1 r29.2.2.2.2.2.1.2.2.2.2.2.2.2.1 r29.2.2.2.2.2.1.2.2.2.2.2.2.2.2.1).bind fun v30 =>
  some ((), ((), ((), ())), v30.2.2.1, v30.2.2.2.1, v30.2.2.2.2.1, ()))
  (some ((), ((), ((), ())), r29.2.2.2.1, r29.2.2.2.2.1, r29.2.2.2.2.2.1, ())) : Option TA14).bind fun r31 =>
  ((cond (decide (a1 < r27.2.2.1))
  (some ((), ((), ((), ())), (decide (r27.2.2.1 < v20)), r31.2.2.1, r31.2.2.2.1, r31.2.2.2.2.1, ()))
  (some ((), ((), ((), ())), false, r31.2.2.1, r31.2.2.2.1, r31.2.2.2.2.1, ())) : Option (Unit × (TA4 × (Bool × TA2)))).bind fun r32 =>
  cond r32.2.2.1
  ((rec a1 r27.2.2.1 v20 r32.2.2.2.1 r32.2.2.2.2.1.1 r32.2.2.2.2.2.1.1 r32.2.2.2.2.2.1.2.1 r32.2.2.2.2.2.1.2.2.1 r32.2.2.2.2.2.1.2.2.2.1 r32.2.2.2.2.2.1.2.2.2.2.1 r32.2.2.2.2.2.1.2.2.2.2.2.1 r32.2.2.2.2.2.1.2.2.2.2.2.2.1 r32.2.2.2.2.2.1.2.2.2.2.2.2.2.1 r32.2.2.2.2.2.1.2.2.2.2.2.2.2.2.1).bind fun v33 =>
  some ((), ((), ((), ())), v33.2.2.1, v33.2.2.2.1, v33.2.2.2.2.1, ()))
  (some ((), ((), ((), ())), r32.2.2.2.1, r32.2.2.2.2.1, r32.2.2.2.2.2.1, ())) : Option TA14).bind fun r34 =>
  (cond (decide (v20 < (IntKind.i64.wrap ((IntKind.i64.wrap (v20 + a2)) - r27.2.2.1))))
  (let v35 : Bool := (decide ((IntKind.i64.wrap ((IntKind.i64.wrap (v20 + a2)) - r27.2.2.1)) < a3))
  some ((), ((), ((), ())), v35, r34.2.2.1, r34.2.2.2.1, r34.2.2.2.2.1, ()))
  (some ((), ((), ((), ())), false, r34.2.2.1, r34.2.2.2.1, r34.2.2.2.2.1, ())) : Option (Unit × (TA4 × (Bool × TA2)))).bind fun r36 =>
  cond r36.2.2.1
  ((rec v20 (IntKind.i64.wrap ((IntKind.i64.wrap (v20 + a2)) - r27.2.2.1)) a3 r36.2.2.2.1 r36.2.2.2.2.1.1 r36.2.2.2.2.2.1.1 r36.2.2.2.2.2.1.2.1 r36.2.2.2.2.2.1.2.2.1 r36.2.2.2.2.2.1.2.2.2.1 r36.2.2.2.2.2.1.2.2.2.2.1 r36.2.2.2.2.2.1.2.2.2.2.2.1 r36.2.2.2.2.2.1.2.2.2.2.2.2.1 r36.2.2.2.2.2.1.2.2.2.2.2.2.2.1 r36.2.2.2.2.2.1.2.2.2.2.2.2.2.2.1).bind fun v37 =>
  some ((), ((), ((), ())), v37.2.2.1, v37.2.2.2.1, v37.2.2.2.2.1, ()))
  (some ((), ((), ((), ())), r36.2.2.2.1, r36.2.2.2.2.1, r36.2.2.2.2.2.1, ()))))

noncomputable def slices_symMergeCmpFunc_int__Rows_1_f : Nat → Int → Int → Int → (List Int) → TA11 → Int → Str → Str → Str → Bool → Int → Int → Int → (List TA1) → Option TA14
  | 0 => fun _ _ _ _ _ _ _ _ _ _ _ _ _ _ => none
  | n + 1 => slices_symMergeCmpFunc_int__Rows_1_s (slices_symMergeCmpFunc_int__Rows_1_f n)

noncomputable def slices_symMergeCmpFunc_int__Rows_1 (a1 : Int) (a2 : Int) (a3 : Int) (o0 : (List Int)) (o1 : TA11) (o2 : Int) (o2_1 : Str) (o2_2 : Str) (o2_3 : Str) (o2_4 : Bool) (o2_5 : Int) (o2_6 : Int) (o2_7 : Int) (o2_8 : (List TA1)) : Option TA14 := slices_symMergeCmpFunc_int__Rows_1_f rounds a1 a2 a3 o0 o1 o2 o2_1 o2_2 o2_3 o2_4 o2_5 o2_6 o2_7 o2_8

noncomputable def slices_stableCmpFunc_int__Rows_1_l1 (a1 : Int) (p1 : TA9) : Option (TA9 ⊕ TA7) :=
  cond (decide (p1.2.2.2.1 ≤ a1))
  ((slices_insertionSortCmpFunc_int__Rows_1 p1.2.2.1 p1.2.2.2.1 p1.2.2.2.2.1 p1.2.2.2.2.2.1.1 p1.2.2.2.2.2.2.1.1 p1.2.2.2.2.2.2.1.2.1 p1.2.2.2.2.2.2.1.2.2.1 p1.2.2.2.2.2.2.1.2.2.2.1 p1.2.2.2.2.2.2.1.2.2.2.2.1 p1.2.2.2.2.2.2.1.2.2.2.2.2.1 p1.2.2.2.2.2.2.1.2.2.2.2.2.2.1 p1.2.2.2.2.2.2.1.2.2.2.2.2.2.2.1 p1.2.2.2.2.2.2.1.2.2.2.2.2.2.2.2.1).bind fun v1 =>
  some (.inl ((), ((), ((), ())), p1.2.2.2.1, IntKind.i64.wrap (p1.2.2.2.1 + 20), v1.2.2.1, v1.2.2.2.1, v1.2.2.2.2.1, ())))
  (some (.inr ((), ((), ((), ())), p1.2.2.1, p1.2.2.2.2.1, p1.2.2.2.2.2.1, p1.2.2.2.2.2.2.1, ())))

noncomputable def slices_stableCmpFunc_int__Rows_1_l2 (a1 : Int) (p3 : TA7) (p2 : TA9) : Option (TA9 ⊕ TA7) :=
  cond (decide (p2.2.2.2.1 ≤ a1))
  ((slices_symMergeCmpFunc_int__Rows_1 p2.2.2.1 (IntKind.i64.wrap (p2.2.2.1 + p3.2.2.1)) p2.2.2.2.1 p2.2.2.2.2.1 p2.2.2.2.2.2.1.1 p2.2.2.2.2.2.2.1.1 p2.2.2.2.2.2.2.1.2.1 p2.2.2.2.2.2.2.1.2.2.1 p2.2.2.2.2.2.2.1.2.2.2.1 p2.2.2.2.2.2.2.1.2.2.2.2.1 p2.2.2.2.2.2.2.1.2.2.2.2.2.1 p2.2.2.2.2.2.2.1.2.2.2.2.2.2.1 p2.2.2.2.2.2.2.1.2.2.2.2.2.2.2.1 p2.2.2.2.2.2.2.1.2.2.2.2.2.2.2.2.1).bind fun v4 =>
  let v5 : Int := IntKind.i64.wrap (p2.2.2.2.1 + (IntKind.i64.wrap (2 * p3.2.2.1)))
  some (.inl ((), ((), ((), ())), p2.2.2.2.1, v5, v4.2.2.1, v4.2.2.2.1, v4.2.2.2.2.1, ())))
  (some (.inr ((), ((), ((), ())), p2.2.2.1, p2.2.2.2.2.1, p2.2.2.2.2.2.1, p2.2.2.2.2.2.2.1, ())))

noncomputable def slices_stableCmpFunc_int__Rows_1_l3 (a1 : Int) (p3 : TA7) : Option (TA7 ⊕ TA14) :=
  cond (decide (p3.2.2.1 < a1))
  ((loop (slices_stableCmpFunc_int__Rows_1_l2 a1 p3) ((), ((), ((), ())), 0, IntKind.i64.wrap (2 * p3.2.2.1), p3.2.2.2.1, p3.2.2.2.2.1, p3.2.2.2.2.2.1, ())).bind fun r6 =>
  (cond (decide ((IntKind.i64.wrap (r6.2.2.1 + p3.2.2.1)) < a1))
  ((slices_symMergeCmpFunc_int__Rows_1 r6.2.2.1 (IntKind.i64.wrap (r6.2.2.1 + p3.2.2.1)) a1 r6.2.2.2.1 r6.2.2.2.2.1.1 r6.2.2.2.2.2.1.1 r6.2.2.2.2.2.1.2.1 r6.2.2.2.2.2.1.2.2.1 r6.2.2.2.2.2.1.2.2.2.1 r6.2.2.2.2.2.1.2.2.2.2.1 r6.2.2.2.2.2.1.2.2.2.2.2.1 r6.2.2.2.2.2.1.2.2.2.2.2.2.1 r6.2.2.2.2.2.1.2.2.2.2.2.2.2.1 r6.2.2.2.2.2.1.2.2.2.2.2.2.2.2.1).bind fun v7 =>
  some ((), ((), ((), ())), v7.2.2.1, v7.2.2.2.1, v7.2.2.2.2.1, ()))
  (some ((), ((), ((), ())), r6.2.2.2.1, r6.2.2.2.2.1, r6.2.2.2.2.2.1, ())) : Option TA14).bind fun r8 =>
  some (.inl ((), ((), ((), ())), IntKind.i64.wrap (p3.2.2.1 * 2), r8.2.2.1, r8.2.2.2.1, r8.2.2.2.2.1, ())))
  (some (.inr ((), ((), ((), ())), p3.2.2.2.1, p3.2.2.2.2.1, p3.2.2.2.2.2.1, ())))

noncomputable def slices_stableCmpFunc_int__Rows_1 (a1 : Int) (o0 : (List Int)) (o1 : TA11) (o2 : Int) (o2_1 : Str) (o2_2 : Str) (o2_3 : Str) (o2_4 : Bool) (o2_5 : Int) (o2_6 : Int) (o2_7 : Int) (o2_8 : (List TA1)) : Option TA14 :=
  (loop (slices_stableCmpFunc_int__Rows_1_l1 a1) ((), ((), ((), ())), 0, 20, o0, (o1, ()), (o2, (o2_1, (o2_2, (o2_3, (o2_4, (o2_5, (o2_6, (o2_7, (o2_8, ()))))))))), ())).bind fun r2 =>
  (slices_insertionSortCmpFunc_int__Rows_1 r2.2.2.1 a1 r2.2.2.2.1 r2.2.2.2.2.1.1 r2.2.2.2.2.2.1.1 r2.2.2.2.2.2.1.2.1 r2.2.2.2.2.2.1.2.2.1 r2.2.2.2.2.2.1.2.2.2.1 r2.2.2.2.2.2.1.2.2.2.2.1 r2.2.2.2.2.2.1.2.2.2.2.2.1 r2.2.2.2.2.2.1.2.2.2.2.2.2.1 r2.2.2.2.2.2.1.2.2.2.2.2.2.2.1 r2.2.2.2.2.2.1.2.2.2.2.2.2.2.2.1).bind fun v3 =>
  (loop (slices_stableCmpFunc_int__Rows_1_l3 a1) ((), ((), ((), ())), 20, v3.2.2.1, v3.2.2.2.1, v3.2.2.2.2.1, ())).bind fun r9 =>
  some ((), ((), ((), ())), r9.2.2.1, r9.2.2.2.1, r9.2.2.2.2.1, ())

noncomputable def slices_SortStableFunc_int_int__Rows_1 (o0 : (List Int)) (o1 : TA11) (o2 : Int) (o2_1 : Str) (o2_2 : Str) (o2_3 : Str) (o2_4 : Bool) (o2_5 : Int) (o2_6 : Int) (o2_7 : Int) (o2_8 : (List TA1)) : Option TA14 :=
  (slices_stableCmpFunc_int__Rows_1 (o0.length : Int) o0 o1 o2 o2_1 o2_2 o2_3 o2_4 o2_5 o2_6 o2_7 o2_8).bind fun v1 =>
  some ((), ((), ((), ())), v1.2.2.1, v1.2.2.2.1, v1.2.2.2.2.1, ())

noncomputable def arrange_Rows_l1 (a1 : TA11) (p1 : (Unit × (Unit × (Int × (TA0 × ((TA11 × Unit) × Unit)))))) : Option ((Unit × (Unit × (Int × (TA0 × ((TA11 × Unit) × Unit))))) ⊕ ((Unit × (Unit × (TA0 × ((TA11 × Unit) × Unit)))) ⊕ (Unit × (Int × Unit)))) :=
  cond (decide (p1.2.2.1 < (a1.length : Int)))
  ((idx a1 p1.2.2.1).bind fun v3 =>
  (cond (decide (v3.1 < 0))
  (some ((), (), true, p1.2.2.2.1, p1.2.2.2.2.1, ()))
  (let v4 : Bool := (decide (p1.2.2.2.1.2.2.2.2.2.2.2.1 ≤ v3.1))
  some ((), (), v4, p1.2.2.2.1, p1.2.2.2.2.1, ())) : Option (Unit × (Unit × (Bool × (TA0 × ((TA11 × Unit) × Unit)))))).bind fun r5 =>
  cond r5.2.2.1
  (some (.inr (.inr ((), 2, ()))))
  (some (.inl ((), (), IntKind.i64.wrap (p1.2.2.1 + 1), r5.2.2.2.1, r5.2.2.2.2.1, ()))))
  (some (.inr (.inl ((), (), p1.2.2.2.1, p1.2.2.2.2.1, ()))))

noncomputable def arrange_Rows_l2 (v8 : (List Int)) (p2 : (Unit × (Unit × (Unit × (Int × (TA0 × ((TA11 × Unit) × TA3))))))) : Option ((Unit × (Unit × (Unit × (Int × (TA0 × ((TA11 × Unit) × TA3)))))) ⊕ (Unit × (Unit × (Unit × (TA0 × ((TA11 × Unit) × TA3)))))) :=
  cond (decide (p2.2.2.2.1 < (v8.length : Int)))
  ((chk (inb p2.2.2.2.1 p2.2.2.2.2.2.2.1.length)).bind fun _ =>
  let v9 : List Int := p2.2.2.2.2.2.2.1.set p2.2.2.2.1.toNat p2.2.2.2.1
  some (.inl ((), (), (), IntKind.i64.wrap (p2.2.2.2.1 + 1), p2.2.2.2.2.1, p2.2.2.2.2.2.1, v9, ())))
  (some (.inr ((), (), (), p2.2.2.2.2.1, p2.2.2.2.2.2.1, p2.2.2.2.2.2.2.1, ())))

noncomputable def arrange_Rows (a0 : TA1) (a1 : TA11) : Option TA19 :=
  let v1 : TA1 := (tn a0)
  (arrange_array v1).bind fun v2 =>
  cond (!decide (v2.1 = 0))
  (some ([], v2.1, ()))
  (cond (decide (64 < (a1.length : Int)))
  (some ([], 3, ()))
  ((loop (arrange_Rows_l1 a1) ((), (), 0, (a0.data.1, (a0.data.2.1.1, (a0.data.2.1.2.1, (a0.data.2.2.1, (a0.data.2.2.2.1, (a0.data.2.2.2.2.1, (a0.data.2.2.2.2.2.1, (a0.data.2.2.2.2.2.2.1, (a0.kids, ()))))))))), (a1, ()), ())).bind fun r6 =>
  (match r6 with
  | .inl z7 => ((mk z7.2.2.1.2.2.2.2.2.2.1 z7.2.2.1.2.2.2.2.2.2.1 0).bind fun v8 =>
  (loop (arrange_Rows_l2 v8) ((), (), (), 0, z7.2.2.1, z7.2.2.2.1, v8, ())).bind fun r10 =>
  (slices_SortStableFunc_int_int__Rows_1 r10.2.2.2.2.2.1 r10.2.2.2.2.1.1 r10.2.2.2.1.1 r10.2.2.2.1.2.1 r10.2.2.2.1.2.2.1 r10.2.2.2.1.2.2.2.1 r10.2.2.2.1.2.2.2.2.1 r10.2.2.2.1.2.2.2.2.2.1 r10.2.2.2.1.2.2.2.2.2.2.1 r10.2.2.2.1.2.2.2.2.2.2.2.1 r10.2.2.2.1.2.2.2.2.2.2.2.2.1).bind fun v11 =>
  some (v11.2.2.1, 0, ()))
  | .inr z12 => (some ([], z12.2.1, ())))))

noncomputable def slices_Equal_int_int__l1 (a0 : (List Int)) (a1 : (List Int)) (p1 : (Int × Unit)) : Option ((Int × Unit) ⊕ (Unit ⊕ TA5)) :=
  cond (decide (p1.1 < (a0.length : Int)))
  ((idx a0 p1.1).bind fun v1 =>
  (idx a1 p1.1).bind fun v2 =>
  cond (!decide (v1 = v2))
  (some (.inr (.inr (false, ()))))
  (some (.inl (IntKind.i64.wrap (p1.1 + 1), ()))))
  (some (.inr (.inl (()))))

noncomputable def slices_Equal_int_int_ (a0 : (List Int)) (a1 : (List Int)) : Option TA5 :=
  cond (!decide ((a0.length : Int) = (a1.length : Int)))
  (some (false, ()))
  ((loop (slices_Equal_int_int__l1 a0 a1) (0, ())).bind fun r3 =>
  (match r3 with
  | .inl _ => (some (true, ()))
  | .inr z5 => (some z5)))

noncomputable def chancerylaw2_sorts : Option TA5 :=
  (chanceryref2_Int 5).bind fun v1 =>
  (chanceryref2_Int 3).bind fun v2 =>
  let v3 : TA1 := (Tree.node (5, ([], ([], ())), [], false, 0, 2, 1, ()) [v1.1, v2.1])
  (arrange_Rows v3 [(0, false, ())]).bind fun v4 =>
  cond (decide (v4.2.1 = 0))
  ((slices_Equal_int_int_ v4.1 [1, 0]).bind fun v5 =>
  some (v5.1, ()))
  (some (false, ()))

noncomputable def api_Value__Same_l1 (a0 : (List TA1)) (a1 : (List TA1)) (rec : TA1 → TA1 → Option TA5) (p1 : (Unit × (Int × Unit))) : Option ((Unit × (Int × Unit)) ⊕ (Unit ⊕ TA5)) :=
  cond (decide (p1.2.1 < (a0.length : Int)))
  ((idx a0 p1.2.1).bind fun v1 =>
  (idx a1 p1.2.1).bind fun v2 =>
  let v3 : TA1 := (tn v1)
  let v4 : TA1 := (tn v2)
  (rec v3 v4).bind fun v5 =>
  cond (!v5.1)
  (some (.inr (.inr (false, ()))))
  (some (.inl ((), IntKind.i64.wrap (p1.2.1 + 1), ()))))
  (some (.inr (.inl (()))))

noncomputable def api_Value__Same (rec : TA1 → TA1 → Option TA5) (a0 : (List TA1)) (a1 : (List TA1)) : Option TA5 :=
  cond (!decide ((a0.length : Int) = (a1.length : Int)))
  (some (false, ()))
  ((loop (api_Value__Same_l1 a0 a1 rec) ((), 0, ())).bind fun r6 =>
  (match r6 with
  | .inl _ => (some (true, ()))
  | .inr z8 => (some z8)))

noncomputable def value_Same_s (rec : TA1 → TA1 → Option TA5) (a0 : TA1) (a1 : TA1) : Option TA5 :=
  let v1 : TA1 := (tn a0)
  let v2 : TA1 := (tn a1)
  cond (decide (v1.data.1 = v2.data.1))
  (let v3 : Bool := (Ty.beq (.pair .str (.pair .str .unit)) (v1.data.2.1.1, (v1.data.2.1.2.1, ())) (v2.data.2.1.1, (v2.data.2.1.2.1, ())))
  cond v3
  (cond ((decide (v1.data.2.2.1 = v2.data.2.2.1)))
  (cond ((v1.data.2.2.2.1 == v2.data.2.2.2.1))
  (let v4 : Bool := (decide (v1.data.2.2.2.2.1 = v2.data.2.2.2.2.1))
  cond v4
  (let v5 : Bool := (decide (v1.data.2.2.2.2.2.1 = v2.data.2.2.2.2.2.1))
  cond v5
  (let v6 : Bool := (decide (v1.data.2.2.2.2.2.2.1 = v2.data.2.2.2.2.2.2.1))
  cond v6
  ((api_Value__Same rec a0.kids a1.kids).bind fun v7 =>
  some (v7.1, ()))
  (some (false, ())))
  (some (false, ())))
  (some (false, ())))
  (some (false, ())))
  (some (false, ())))
  (some (false, ())))
  (some (false, ()))

noncomputable def value_Same_f : Nat → TA1 → TA1 → Option TA5
  | 0 => fun _ _ => none
  | n + 1 => value_Same_s (value_Same_f n)

noncomputable def value_Same (a0 : TA1) (a1 : TA1) : Option TA5 := value_Same_f rounds a0 a1

noncomputable def arrange_Groups_l1 (r3 : TA10) (a1 : Int) (p1 : (Unit × (Unit × (Int × (TA0 × ((List TA8) × Unit)))))) : Option ((Unit × (Unit × (Int × (TA0 × ((List TA8) × Unit))))) ⊕ (Unit × ((List TA8) × Unit))) :=
  cond (decide (p1.2.2.1 < r3.2.2.1.2.2.2.2.2.2.1))
  (((cond (decide (0 < p1.2.2.1))
  (let v4 : Int := IntKind.i64.wrap (p1.2.2.1 * p1.2.2.2.1.2.2.2.2.2.2.2.1)
  (idx p1.2.2.2.1.2.2.2.2.2.2.2.2.1 (IntKind.i64.wrap (v4 + a1))).bind fun v5 =>
  let v6 : Int := IntKind.i64.wrap ((IntKind.i64.wrap (p1.2.2.1 - 1)) * p1.2.2.2.1.2.2.2.2.2.2.2.1)
  (idx p1.2.2.2.1.2.2.2.2.2.2.2.2.1 (IntKind.i64.wrap (v6 + a1))).bind fun v7 =>
  (value_Same v5 v7).bind fun v8 =>
  some ((), (), v8.1, p1.2.2.2.1, p1.2.2.2.2.1, ()))
  (some ((), (), false, p1.2.2.2.1, p1.2.2.2.2.1, ())) : Option (Unit × (Unit × (Bool × (TA0 × ((List TA8) × Unit)))))).bind fun r9 =>
  cond r9.2.2.1
  ((chk (inb (IntKind.i64.wrap ((r9.2.2.2.2.1.length : Int) - 1)) r9.2.2.2.2.1.length)).bind fun _ =>
  let v10 : List TA8 := r9.2.2.2.2.1.set (IntKind.i64.wrap ((r9.2.2.2.2.1.length : Int) - 1)).toNat ((r9.2.2.2.2.1.getD (IntKind.i64.wrap ((r9.2.2.2.2.1.length : Int) - 1)).toNat (0, (0, ()))).1, (IntKind.i64.wrap (p1.2.2.1 + 1), ((r9.2.2.2.2.1.getD (IntKind.i64.wrap ((r9.2.2.2.2.1.length : Int) - 1)).toNat (0, (0, ()))).2).2))
  some ((), (), r9.2.2.2.1, v10, ()))
  ((cat r9.2.2.2.2.1 [(p1.2.2.1, IntKind.i64.wrap (p1.2.2.1 + 1), ())]).bind fun v11 =>
  some ((), (), r9.2.2.2.1, v11, ())) : Option (Unit × (Unit × (TA0 × ((List TA8) × Unit))))).bind fun r12 =>
  some (.inl ((), (), IntKind.i64.wrap (p1.2.2.1 + 1), r12.2.2.1, r12.2.2.2.1, ())))
  (some (.inr ((), p1.2.2.2.2.1, ())))

noncomputable def arrange_Groups (a0 : TA1) (a1 : Int) : Option ((List TA8) × (Int × Unit)) :=
  let v1 : TA1 := (tn a0)
  (arrange_array v1).bind fun v2 =>
  cond (!decide (v2.1 = 0))
  (some ([], v2.1, ()))
  ((cond (decide (a1 < 0))
  (some ((), true, (a0.data.1, (a0.data.2.1.1, (a0.data.2.1.2.1, (a0.data.2.2.1, (a0.data.2.2.2.1, (a0.data.2.2.2.2.1, (a0.data.2.2.2.2.2.1, (a0.data.2.2.2.2.2.2.1, (a0.kids, ()))))))))), ()))
  (some ((), (decide (a0.data.2.2.2.2.2.2.1 ≤ a1)), (a0.data.1, (a0.data.2.1.1, (a0.data.2.1.2.1, (a0.data.2.2.1, (a0.data.2.2.2.1, (a0.data.2.2.2.2.1, (a0.data.2.2.2.2.2.1, (a0.data.2.2.2.2.2.2.1, (a0.kids, ()))))))))), ())) : Option TA10).bind fun r3 =>
  cond r3.2.1
  (some ([], 2, ()))
  ((loop (arrange_Groups_l1 r3 a1) ((), (), 0, r3.2.2.1, [], ())).bind fun r13 =>
  some (r13.2.1, 0, ())))

noncomputable def chanceryref2_ValueError_1 (a0 : Int) (a1 : Bool) (o0 : Int) (o0_1 : Str) (o0_2 : Str) (o0_3 : Str) (o0_4 : Bool) (o0_5 : Int) (o0_6 : Int) (o0_7 : Int) (o0_8 : (List TA1)) : Option (Bool × (Unit × (TA0 × Unit))) :=
  cond (decide (o0 = a0))
  (some (true, (), (o0, (o0_1, (o0_2, (o0_3, (o0_4, (o0_5, (o0_6, (o0_7, (o0_8, ()))))))))), ()))
  (some (a1, (), (o0, (o0_1, (o0_2, (o0_3, (o0_4, (o0_5, (o0_6, (o0_7, (o0_8, ()))))))))), ()))

noncomputable def chanceryref2_Digits_l1 (a0 : Str) (p1 : (Int × Unit)) : Option ((Int × Unit) ⊕ (Unit ⊕ TA5)) :=
  cond (decide (p1.1 < (a0.length : Int)))
  (((idx a0 p1.1).bind fun v1 =>
  cond (decide ((ofByte v1) < 48))
  (some (true, ()))
  ((idx a0 p1.1).bind fun v2 =>
  some ((decide (57 < (ofByte v2))), ())) : Option TA5).bind fun r3 =>
  cond r3.1
  (some (.inr (.inr (false, ()))))
  (some (.inl (IntKind.i64.wrap (p1.1 + 1), ()))))
  (some (.inr (.inl (()))))

noncomputable def chanceryref2_Digits (a0 : Str) : Option TA5 :=
  (loop (chanceryref2_Digits_l1 a0) (0, ())).bind fun r4 =>
  (match r4 with
  | .inl _ => (cond (!decide (a0 = []))
  ((idx a0 0).bind fun v6 =>
  cond (!decide ((ofByte v6) = 48))
  (some (true, ()))
  (some (((decide (a0 = [48]))), ())))
  (some (false, ())))
  | .inr z7 => (some z7))

noncomputable def chanceryref2_FracError (a0 : TA15) : Option (Int × Unit) :=
  ((cond (!decide (a0.1 = []))
  ((idx a0.1 0).bind fun v1 =>
  some ((), (decide ((ofByte v1) = 45)), a0, ()))
  (some ((), false, a0, ())) : Option (Unit × (Bool × (TA15 × Unit)))).bind fun r2 =>
  cond r2.2.1
  ((cut a0.1 1 (a0.1.length : Int)).bind fun v3 =>
  some ((), v3, true, r2.2.2.1, ()))
  (some ((), a0.1, false, r2.2.2.1, ())) : Option (Unit × (Str × (Bool × (TA15 × Unit))))).bind fun r4 =>
  ((chanceryref2_Digits r4.2.1).bind fun v5 =>
  cond (!v5.1)
  (some ((), true, r4.2.2.2.1, ()))
  ((chanceryref2_Digits r4.2.2.2.1.2.1).bind fun v6 =>
  cond ((!v6.1))
  (some ((), true, r4.2.2.2.1, ()))
  (cond ((decide (r4.2.2.2.1.2.1 = [48])))
  (some ((), true, r4.2.2.2.1, ()))
  (cond r4.2.2.1
  (some ((), ((decide (r4.2.1 = [48]))), r4.2.2.2.1, ()))
  (some ((), false, r4.2.2.2.1, ()))))) : Option (Unit × (Bool × (TA15 × Unit)))).bind fun r7 =>
  cond r7.2.1
  (some (4, ()))
  ((cond (decide (300 < (r4.2.1.length : Int)))
  (some ((), true, r7.2.2.1, ()))
  (some ((), (decide (300 < (r7.2.2.1.2.1.length : Int))), r7.2.2.1, ())) : Option (Unit × (Bool × (TA15 × Unit)))).bind fun r8 =>
  cond r8.2.1
  (some (3, ()))
  ((chanceryref2_NatOf r4.2.1).bind fun v9 =>
  (chanceryref2_NatOf r8.2.2.1.2.1).bind fun v10 =>
  (chanceryref2_Gcd v9.1 v10.1).bind fun v11 =>
  (chanceryref2_Nat__Text v11.1).bind fun v12 =>
  cond (!decide (v12.1 = [49]))
  (some (4, ()))
  (some (0, ()))))

noncomputable def chanceryref2_Rune_l1 (z9 : (Int × TA8)) (a0 : Str) (p1 : TA8) : Option (TA8 ⊕ ((Int × Unit) ⊕ TA8)) :=
  cond (decide (p1.2.1 < z9.2.1))
  ((idx a0 p1.2.1).bind fun v10 =>
  cond (!decide ((band .u8 (ofByte v10) 192) = 128))
  (some (.inr (.inr (0, 0, ()))))
  ((shc 6).bind fun v11 =>
  (idx a0 p1.2.1).bind fun v12 =>
  let v13 : Int := bor .i64 (shl .i64 p1.1 v11) (IntKind.i64.wrap (band .u8 (ofByte v12) 63))
  some (.inl (v13, IntKind.i64.wrap (p1.2.1 + 1), ()))))
  (some (.inr (.inl (p1.1, ()))))

noncomputable def chanceryref2_Rune (a0 : Str) : Option TA8 :=
  (idx a0 0).bind fun v1 =>
  (cond (decide ((IntKind.i64.wrap (ofByte v1)) < 128))
  (some (.inr (IntKind.i64.wrap (ofByte v1), 1, ())))
  ((cond (decide (194 ≤ (IntKind.i64.wrap (ofByte v1))))
  (let v2 : Bool := (decide ((IntKind.i64.wrap (ofByte v1)) < 224))
  some (v2, ()))
  (some (false, ())) : Option TA5).bind fun r3 =>
  cond r3.1
  (some (.inl (band .i64 (IntKind.i64.wrap (ofByte v1)) 31, 2, 128, ())))
  ((cond (decide (224 ≤ (IntKind.i64.wrap (ofByte v1))))
  (let v4 : Bool := (decide ((IntKind.i64.wrap (ofByte v1)) < 240))
  some (v4, ()))
  (some (false, ())) : Option TA5).bind fun r5 =>
  cond r5.1
  (some (.inl (band .i64 (IntKind.i64.wrap (ofByte v1)) 15, 3, 2048, ())))
  ((cond (decide (240 ≤ (IntKind.i64.wrap (ofByte v1))))
  (let v6 : Bool := (decide ((IntKind.i64.wrap (ofByte v1)) < 245))
  some (v6, ()))
  (some (false, ())) : Option TA5).bind fun r7 =>
  cond r7.1
  (some (.inl (band .i64 (IntKind.i64.wrap (ofByte v1)) 7, 4, 65536, ())))
  (some (.inr (0, 0, ())))))) : Option ((Int × TA8) ⊕ TA8)).bind fun r8 =>
  (match r8 with
  | .inl z9 => (cond (decide ((a0.length : Int) < z9.2.1))
  (some (0, 0, ()))
  ((loop (chanceryref2_Rune_l1 z9 a0) (z9.1, 1, ())).bind fun r14 =>
  (match r14 with
  | .inl z15 => ((cond (decide (z15.1 < z9.2.2.1))
  (some (true, ()))
  (cond (decide (55296 ≤ z15.1))
  (cond (((decide (z15.1 < 57344))))
  (some (true, ()))
  (some ((decide (1114111 < z15.1)), ())))
  (cond (false)
  (some (true, ()))
  (some ((decide (1114111 < z15.1)), ())))) : Option TA5).bind fun r16 =>
  cond r16.1
  (some (0, 0, ()))
  (some (z15.1, z9.2.1, ())))
  | .inr z17 => (some z17))))
  | .inr z18 => (some z18))

noncomputable def chanceryref2_Char (a0 : Int) : Option TA5 :=
  cond (decide (a0 = 9))
  (some (true, ()))
  (cond ((decide (a0 = 10)))
  (some (true, ()))
  (cond (decide (32 ≤ a0))
  (cond (((decide (a0 ≤ 126))))
  (some (true, ()))
  (cond (decide (160 ≤ a0))
  (cond (((decide (a0 < 55296))))
  (some (true, ()))
  (cond (decide (57344 ≤ a0))
  (some (((decide (a0 ≤ 1114111))), ()))
  (some (false, ()))))
  (cond (false)
  (some (true, ()))
  (cond (decide (57344 ≤ a0))
  (some (((decide (a0 ≤ 1114111))), ()))
  (some (false, ()))))))
  (cond (false)
  (some (true, ()))
  (cond (decide (160 ≤ a0))
  (cond (((decide (a0 < 55296))))
  (some (true, ()))
  (cond (decide (57344 ≤ a0))
  (some (((decide (a0 ≤ 1114111))), ()))
  (some (false, ()))))
  (cond (false)
  (some (true, ()))
  (cond (decide (57344 ≤ a0))
  (some (((decide (a0 ≤ 1114111))), ()))
  (some (false, ()))))))))

noncomputable def chanceryref2_TextError_l1 (p1 : (Str × Unit)) : Option ((Str × Unit) ⊕ (Unit ⊕ (Int × Unit))) :=
  cond (!decide (p1.1 = []))
  ((chanceryref2_Rune p1.1).bind fun v1 =>
  (cond (decide (v1.2.1 = 0))
  (some (true, ()))
  ((chanceryref2_Char v1.1).bind fun v2 =>
  some ((!v2.1), ())) : Option TA5).bind fun r3 =>
  cond r3.1
  (some (.inr (.inr (23, ()))))
  ((cut p1.1 v1.2.1 (p1.1.length : Int)).bind fun v4 =>
  some (.inl (v4, ()))))
  (some (.inr (.inl (()))))

noncomputable def chanceryref2_TextError (a0 : Str) : Option (Int × Unit) :=
  cond (decide (32767 < (a0.length : Int)))
  (some (3, ()))
  ((loop chanceryref2_TextError_l1 (a0, ())).bind fun r5 =>
  (match r5 with
  | .inl _ => (some (0, ()))
  | .inr z7 => (some z7)))

noncomputable def chanceryref2_FaultText (a0 : Int) : Option (Str × Unit) :=
  (cond (decide (a0 < 1))
  (some (true, ()))
  (some ((decide (8 < a0)), ())) : Option TA5).bind fun r1 =>
  cond r1.1
  (some ([], ()))
  ((idx ([[], [35, 68, 73, 86, 47, 48, 33], [35, 86, 65, 76, 85, 69, 33], [35, 82, 69, 70, 33], [35, 78, 65, 77, 69, 63], [35, 78, 85, 77, 33], [35, 78, 47, 65], [35, 83, 80, 73, 76, 76, 33], [35, 67, 89, 67, 76, 69, 33]] : (List Str)) a0).bind fun v2 =>
  some (v2, ()))

noncomputable def chanceryref2_ValueError_l1 (r16 : TA10) (rec : TA1 → Option (Int × Unit)) (p1 : (Int × Unit)) : Option TA17 :=
  cond (decide (p1.1 < (r16.2.2.1.2.2.2.2.2.2.2.2.1.length : Int)))
  ((idx r16.2.2.1.2.2.2.2.2.2.2.2.1 p1.1).bind fun v19 =>
  cond (decide (v19.data.1 = 5))
  (some (.inr (.inr (8, ()))))
  (let v20 : TA1 := (tn v19)
  (rec v20).bind fun v21 =>
  cond (!decide (v21.1 = 0))
  (some (.inr (.inr v21)))
  (some (.inl (IntKind.i64.wrap (p1.1 + 1), ())))))
  (some (.inr (.inl (()))))

noncomputable def chanceryref2_ValueError_s (rec : TA1 → Option (Int × Unit)) (a0 : TA1) : Option (Int × Unit) :=
  (cond (decide (a0.data.1 < 0))
  (some ((), true, (a0.data.1, (a0.data.2.1.1, (a0.data.2.1.2.1, (a0.data.2.2.1, (a0.data.2.2.2.1, (a0.data.2.2.2.2.1, (a0.data.2.2.2.2.2.1, (a0.data.2.2.2.2.2.2.1, (a0.kids, ()))))))))), ()))
  (some ((), (decide (5 < a0.data.1)), (a0.data.1, (a0.data.2.1.1, (a0.data.2.1.2.1, (a0.data.2.2.1, (a0.data.2.2.2.1, (a0.data.2.2.2.2.1, (a0.data.2.2.2.2.2.1, (a0.data.2.2.2.2.2.2.1, (a0.kids, ()))))))))), ())) : Option TA10).bind fun r1 =>
  cond r1.2.1
  (some (8, ()))
  (((chanceryref2_ValueError_1 1 (Ty.beq (.pair .str (.pair .str .unit)) (r1.2.2.1.2.1, (r1.2.2.1.2.2.1, ())) ([], [], ())) r1.2.2.1.1 r1.2.2.1.2.1 r1.2.2.1.2.2.1 r1.2.2.1.2.2.2.1 r1.2.2.1.2.2.2.2.1 r1.2.2.1.2.2.2.2.2.1 r1.2.2.1.2.2.2.2.2.2.1 r1.2.2.1.2.2.2.2.2.2.2.1 r1.2.2.1.2.2.2.2.2.2.2.2.1).bind fun v2 =>
  cond (!v2.1)
  (some ((), true, v2.2.2.1, ()))
  ((chanceryref2_ValueError_1 2 (decide (v2.2.2.1.2.2.2.1 = [])) v2.2.2.1.1 v2.2.2.1.2.1 v2.2.2.1.2.2.1 v2.2.2.1.2.2.2.1 v2.2.2.1.2.2.2.2.1 v2.2.2.1.2.2.2.2.2.1 v2.2.2.1.2.2.2.2.2.2.1 v2.2.2.1.2.2.2.2.2.2.2.1 v2.2.2.1.2.2.2.2.2.2.2.2.1).bind fun v3 =>
  cond ((!v3.1))
  (some ((), true, v3.2.2.1, ()))
  ((chanceryref2_ValueError_1 3 (!v3.2.2.1.2.2.2.2.1) v3.2.2.1.1 v3.2.2.1.2.1 v3.2.2.1.2.2.1 v3.2.2.1.2.2.2.1 v3.2.2.1.2.2.2.2.1 v3.2.2.1.2.2.2.2.2.1 v3.2.2.1.2.2.2.2.2.2.1 v3.2.2.1.2.2.2.2.2.2.2.1 v3.2.2.1.2.2.2.2.2.2.2.2.1).bind fun v4 =>
  cond ((!v4.1))
  (some ((), true, v4.2.2.1, ()))
  ((chanceryref2_ValueError_1 4 (decide (v4.2.2.1.2.2.2.2.2.1 = 0)) v4.2.2.1.1 v4.2.2.1.2.1 v4.2.2.1.2.2.1 v4.2.2.1.2.2.2.1 v4.2.2.1.2.2.2.2.1 v4.2.2.1.2.2.2.2.2.1 v4.2.2.1.2.2.2.2.2.2.1 v4.2.2.1.2.2.2.2.2.2.2.1 v4.2.2.1.2.2.2.2.2.2.2.2.1).bind fun v5 =>
  cond ((!v5.1))
  (some ((), true, v5.2.2.1, ()))
  (cond (decide (v5.2.2.1.2.2.2.2.2.2.1 = 0))
  (cond ((decide (v5.2.2.1.2.2.2.2.2.2.2.1 = 0)))
  (let v6 : Bool := (decide ((v5.2.2.1.2.2.2.2.2.2.2.2.1.length : Int) = 0))
  (chanceryref2_ValueError_1 5 v6 v5.2.2.1.1 v5.2.2.1.2.1 v5.2.2.1.2.2.1 v5.2.2.1.2.2.2.1 v5.2.2.1.2.2.2.2.1 v5.2.2.1.2.2.2.2.2.1 v5.2.2.1.2.2.2.2.2.2.1 v5.2.2.1.2.2.2.2.2.2.2.1 v5.2.2.1.2.2.2.2.2.2.2.2.1).bind fun v7 =>
  some ((), (!v7.1), v7.2.2.1, ()))
  ((chanceryref2_ValueError_1 5 false v5.2.2.1.1 v5.2.2.1.2.1 v5.2.2.1.2.2.1 v5.2.2.1.2.2.2.1 v5.2.2.1.2.2.2.2.1 v5.2.2.1.2.2.2.2.2.1 v5.2.2.1.2.2.2.2.2.2.1 v5.2.2.1.2.2.2.2.2.2.2.1 v5.2.2.1.2.2.2.2.2.2.2.2.1).bind fun v8 =>
  some ((), (!v8.1), v8.2.2.1, ())))
  ((chanceryref2_ValueError_1 5 false v5.2.2.1.1 v5.2.2.1.2.1 v5.2.2.1.2.2.1 v5.2.2.1.2.2.2.1 v5.2.2.1.2.2.2.2.1 v5.2.2.1.2.2.2.2.2.1 v5.2.2.1.2.2.2.2.2.2.1 v5.2.2.1.2.2.2.2.2.2.2.1 v5.2.2.1.2.2.2.2.2.2.2.2.1).bind fun v9 =>
  some ((), (!v9.1), v9.2.2.1, ())))))) : Option TA10).bind fun r10 =>
  cond r10.2.1
  (some (4, ()))
  (cond (decide (r10.2.2.1.1 = 1))
  ((chanceryref2_FracError (r10.2.2.1.2.1, (r10.2.2.1.2.2.1, ()))).bind fun v11 =>
  some v11)
  (cond (decide (r10.2.2.1.1 = 2))
  ((chanceryref2_TextError r10.2.2.1.2.2.2.1).bind fun v12 =>
  some v12)
  ((cond (decide (r10.2.2.1.1 = 4))
  ((chanceryref2_FaultText r10.2.2.1.2.2.2.2.2.1).bind fun v13 =>
  some ((), (decide (v13.1 = [])), r10.2.2.1, ()))
  (some ((), false, r10.2.2.1, ())) : Option TA10).bind fun r14 =>
  cond r14.2.1
  (some (2, ()))
  (cond (decide (r14.2.2.1.1 < 5))
  (some (0, ()))
  ((cond (decide (r14.2.2.1.2.2.2.2.2.2.1 < 1))
  (some ((), true, r14.2.2.1, ()))
  (cond ((decide (r14.2.2.1.2.2.2.2.2.2.2.1 < 1)))
  (some ((), true, r14.2.2.1, ()))
  (cond ((decide (100000 < r14.2.2.1.2.2.2.2.2.2.1)))
  (some ((), true, r14.2.2.1, ()))
  (let v15 : Bool := (decide (100000 < r14.2.2.1.2.2.2.2.2.2.2.1))
  some ((), v15, r14.2.2.1, ())))) : Option TA10).bind fun r16 =>
  cond r16.2.1
  (some (2, ()))
  (let v17 : Int := IntKind.i64.wrap (r16.2.2.1.2.2.2.2.2.2.1 * r16.2.2.1.2.2.2.2.2.2.2.1)
  cond (decide (100000 < v17))
  (some (3, ()))
  (let v18 : Int := IntKind.i64.wrap (r16.2.2.1.2.2.2.2.2.2.1 * r16.2.2.1.2.2.2.2.2.2.2.1)
  cond (!decide (v18 = (r16.2.2.1.2.2.2.2.2.2.2.2.1.length : Int)))
  (some (4, ()))
  ((loop (chanceryref2_ValueError_l1 r16 rec) (0, ())).bind fun r22 =>
  (match r22 with
  | .inl _ => (some (0, ()))
  | .inr z24 => (some z24)))))))))))

noncomputable def chanceryref2_ValueError_f : Nat → TA1 → Option (Int × Unit)
  | 0 => fun _ => none
  | n + 1 => chanceryref2_ValueError_s (chanceryref2_ValueError_f n)

noncomputable def chanceryref2_ValueError (a0 : TA1) : Option (Int × Unit) := chanceryref2_ValueError_f rounds a0

noncomputable def chancerylaw2_arrayError (a0 : TA1) : Option (Int × Unit) :=
  let v1 : TA1 := (tn a0)
  (chanceryref2_ValueError v1).bind fun v2 =>
  cond (!decide (v2.1 = 0))
  (some v2)
  (cond (!decide (a0.data.1 = 5))
  (some (8, ()))
  (some (0, ())))

noncomputable def slices_Index_int_int__l1 (a0 : (List Int)) (a1 : Int) (p1 : (Int × Unit)) : Option TA17 :=
  cond (decide (p1.1 < (a0.length : Int)))
  ((idx a0 p1.1).bind fun v1 =>
  cond (decide (a1 = v1))
  (some (.inr (.inr p1)))
  (some (.inl (IntKind.i64.wrap (p1.1 + 1), ()))))
  (some (.inr (.inl (()))))

noncomputable def slices_Index_int_int_ (a0 : (List Int)) (a1 : Int) : Option (Int × Unit) :=
  (loop (slices_Index_int_int__l1 a0 a1) (0, ())).bind fun r2 =>
  (match r2 with
  | .inl _ => (some ((-1), ()))
  | .inr z4 => (some z4))

noncomputable def slices_Contains_int_int_ (a0 : (List Int)) (a1 : Int) : Option TA5 :=
  (slices_Index_int_int_ a0 a1).bind fun v1 =>
  some (decide (0 ≤ v1.1), ())

noncomputable def chancerylaw2_ArrangeRowsMatch_1 (a0 : Int) (a1 : Int) (o0 : Int) (o0_1 : Str) (o0_2 : Str) (o0_3 : Str) (o0_4 : Bool) (o0_5 : Int) (o0_6 : Int) (o0_7 : Int) (o0_8 : (List TA1)) : Option (TA1 × (Unit × (TA0 × Unit))) :=
  (idx o0_8 (IntKind.i64.wrap ((IntKind.i64.wrap (a0 * o0_7)) + a1))).bind fun v1 =>
  some ((tn v1), (), (o0, (o0_1, (o0_2, (o0_3, (o0_4, (o0_5, (o0_6, (o0_7, (o0_8, ()))))))))), ())

noncomputable def chanceryref2_Order_1 (a0 : TA1) : Option (Int × Unit) :=
  cond (decide (a0.data.1 = 0))
  (some (9, ()))
  (some (a0.data.1, ()))

noncomputable def chanceryref2_unit (a0 : Int) : Option (Int × Unit) :=
  cond (decide (a0 < 0))
  (some ((-1), ()))
  (cond (decide (0 < a0))
  (some (1, ()))
  (some (0, ())))

noncomputable def chanceryref2_RatOf (a0 : TA15) : Option (TA6 × Unit) :=
  (idx a0.1 0).bind fun v1 =>
  cond (decide ((ofByte v1) = 45))
  ((cut a0.1 1 (a0.1.length : Int)).bind fun v2 =>
  (chanceryref2_NatOf v2).bind fun v3 =>
  (chanceryref2_NatOf a0.2.1).bind fun v4 =>
  some ((true, (v3.1, v4)), ()))
  ((chanceryref2_NatOf a0.1).bind fun v5 =>
  (chanceryref2_NatOf a0.2.1).bind fun v6 =>
  some ((false, (v5.1, v6)), ()))

noncomputable def chanceryref2_Rat__Negative (a0 : TA6) : Option (TA6 × Unit) :=
  some ((!a0.1, a0.2), ())

noncomputable def chanceryref2_Nat__Times_l1 (a1 : (List Int)) (p3 : TA13) (a0 : (List Int)) (p1 : TA13) : Option (TA13 ⊕ (Unit × TA3)) :=
  cond (decide (p1.2.1 < (a1.length : Int)))
  ((chk (inb (IntKind.i64.wrap (p3.2.1 + p1.2.1)) p1.2.2.1.length)).bind fun _ =>
  let v2 : Int := (p1.2.2.1.getD (IntKind.i64.wrap (p3.2.1 + p1.2.1)).toNat 0)
  (idx a0 p3.2.1).bind fun v3 =>
  (idx a1 p1.2.1).bind fun v4 =>
  (chk (inb (IntKind.i64.wrap (p3.2.1 + p1.2.1)) p1.2.2.1.length)).bind fun _ =>
  let v5 : List Int := p1.2.2.1.set (IntKind.i64.wrap (p3.2.1 + p1.2.1)).toNat (IntKind.i64.wrap (v2 + (IntKind.i64.wrap (v3 * v4))))
  some (.inl ((), IntKind.i64.wrap (p1.2.1 + 1), v5, ())))
  (some (.inr ((), p1.2.2.1, ())))

noncomputable def chanceryref2_Nat__Times_l2 (p2 : TA12) : Option (TA12 ⊕ (Unit × TA3)) :=
  cond (decide (p2.2.2.1 < (p2.2.2.2.1.length : Int)))
  ((chk (inb p2.2.2.1 p2.2.2.2.1.length)).bind fun _ =>
  let v7 : Int := IntKind.i64.wrap ((p2.2.2.2.1.getD p2.2.2.1.toNat 0) + p2.2.1)
  (rem v7 10).bind fun v8 =>
  (chk (inb p2.2.2.1 p2.2.2.2.1.length)).bind fun _ =>
  let v9 : List Int := p2.2.2.2.1.set p2.2.2.1.toNat v8
  (quo .i64 v7 10).bind fun v10 =>
  some (.inl ((), v10, IntKind.i64.wrap (p2.2.2.1 + 1), v9, ())))
  (some (.inr ((), p2.2.2.2.1, ())))

noncomputable def chanceryref2_Nat__Times_l3 (a0 : (List Int)) (a1 : (List Int)) (p3 : TA13) : Option (TA13 ⊕ (Unit × TA3)) :=
  cond (decide (p3.2.1 < (a0.length : Int)))
  ((loop (chanceryref2_Nat__Times_l1 a1 p3 a0) ((), 0, p3.2.2.1, ())).bind fun r6 =>
  (loop chanceryref2_Nat__Times_l2 ((), 0, p3.2.1, r6.2.1, ())).bind fun r11 =>
  some (.inl ((), IntKind.i64.wrap (p3.2.1 + 1), r11.2.1, ())))
  (some (.inr ((), p3.2.2.1, ())))

noncomputable def chanceryref2_Nat__Times (a0 : (List Int)) (a1 : (List Int)) : Option TA3 :=
  (mk (IntKind.i64.wrap ((a0.length : Int) + (a1.length : Int))) (IntKind.i64.wrap ((a0.length : Int) + (a1.length : Int))) 0).bind fun v1 =>
  (loop (chanceryref2_Nat__Times_l3 a0 a1) ((), 0, v1, ())).bind fun r12 =>
  (chanceryref2_Nat__trim r12.2.1).bind fun v13 =>
  some v13

noncomputable def chanceryref2_Rat__Add (a0 : TA6) (a1 : TA6) : Option (TA6 × Unit) :=
  (chanceryref2_Nat__Times a0.2.1 a1.2.2.1).bind fun v1 =>
  (chanceryref2_Nat__Times a1.2.1 a0.2.2.1).bind fun v2 =>
  (chanceryref2_Nat__Times a0.2.2.1 a1.2.2.1).bind fun v3 =>
  (cond (a0.1 == a1.1)
  ((chanceryref2_Nat__Plus v1.1 v2.1).bind fun v4 =>
  some ((), (), (false, ([], ([], ()))), (a0.1, (v4.1, v3)), ()))
  ((chanceryref2_Nat__Compare v1.1 v2.1).bind fun v5 =>
  cond (decide (0 ≤ v5.1))
  ((chanceryref2_Nat__Less v1.1 v2.1).bind fun v6 =>
  some ((), (), (false, ([], ([], ()))), (a0.1, (v6.1, v3)), ()))
  ((chanceryref2_Nat__Less v2.1 v1.1).bind fun v7 =>
  some ((), (), (false, ([], ([], ()))), (a1.1, (v7.1, v3)), ()))) : Option (Unit × (Unit × (TA6 × (TA6 × Unit))))).bind fun r8 =>
  some (r8.2.2.2.1, ())

noncomputable def chanceryref2_Rat__Sign (a0 : TA6) : Option (Int × Unit) :=
  cond (decide ((a0.2.1.length : Int) = 0))
  (some (0, ()))
  (cond a0.1
  (some ((-1), ()))
  (some (1, ())))

noncomputable def chanceryref2_Rat__Cmp (a0 : TA6) (a1 : TA6) : Option (Int × Unit) :=
  (chanceryref2_Rat__Negative a1).bind fun v1 =>
  (chanceryref2_Rat__Add a0 v1.1).bind fun v2 =>
  (chanceryref2_Rat__Sign v2.1).bind fun v3 =>
  some v3

noncomputable def chanceryref2_Lower_l1 (a0 : Str) (p1 : (Str × (Int × Unit))) : Option ((Str × (Int × Unit)) ⊕ (Str × Unit)) :=
  cond (decide (p1.2.1 < (a0.length : Int)))
  ((idx a0 p1.2.1).bind fun v1 =>
  ((cond (decide (65 ≤ (ofByte v1)))
  (some ((decide ((ofByte v1) ≤ 90)), ()))
  (some (false, ())) : Option TA5).bind fun r2 =>
  cond r2.1
  (some (IntKind.u8.wrap ((ofByte v1) + 32), ()))
  (some (ofByte v1, ())) : Option (Int × Unit)).bind fun r3 =>
  (cat p1.1 (bytesStr [r3.1])).bind fun v4 =>
  some (.inl (v4, IntKind.i64.wrap (p1.2.1 + 1), ())))
  (some (.inr (p1.1, ())))

noncomputable def chanceryref2_Lower (a0 : Str) : Option (Str × Unit) :=
  (loop (chanceryref2_Lower_l1 a0) ([], 0, ())).bind fun r5 =>
  some r5

noncomputable def chanceryref2_compareText_l1 (a0 : Str) (a1 : Str) (p1 : (Int × Unit)) : Option TA17 :=
  (cond (decide (p1.1 < (a0.length : Int)))
  (some ((decide (p1.1 < (a1.length : Int))), ()))
  (some (false, ())) : Option TA5).bind fun r1 =>
  cond r1.1
  ((idx a0 p1.1).bind fun v2 =>
  (idx a1 p1.1).bind fun v3 =>
  cond (!decide ((ofByte v2) = (ofByte v3)))
  ((idx a0 p1.1).bind fun v4 =>
  (idx a1 p1.1).bind fun v5 =>
  let v6 : Int := IntKind.i64.wrap ((IntKind.i64.wrap (ofByte v4)) - (IntKind.i64.wrap (ofByte v5)))
  some (.inr (.inr (v6, ()))))
  (some (.inl (IntKind.i64.wrap (p1.1 + 1), ()))))
  (some (.inr (.inl (()))))

noncomputable def chanceryref2_compareText (a0 : Str) (a1 : Str) : Option (Int × Unit) :=
  (loop (chanceryref2_compareText_l1 a0 a1) (0, ())).bind fun r7 =>
  (match r7 with
  | .inl _ => (some (IntKind.i64.wrap ((a0.length : Int) - (a1.length : Int)), ()))
  | .inr z9 => (some z9))

noncomputable def chanceryref2_oneKind (a0 : TA1) (a1 : TA1) : Option (Int × Unit) :=
  cond (decide (a0.data.1 = 1))
  ((chanceryref2_RatOf (a0.data.2.1.1, (a0.data.2.1.2.1, ()))).bind fun v1 =>
  (chanceryref2_RatOf (a1.data.2.1.1, (a1.data.2.1.2.1, ()))).bind fun v2 =>
  (chanceryref2_Rat__Cmp v1.1 v2.1).bind fun v3 =>
  some v3)
  (cond (decide (a0.data.1 = 2))
  ((chanceryref2_Lower a0.data.2.2.1).bind fun v4 =>
  (chanceryref2_Lower a1.data.2.2.1).bind fun v5 =>
  (chanceryref2_compareText v4.1 v5.1).bind fun v6 =>
  (chanceryref2_unit v6.1).bind fun v7 =>
  some v7)
  (cond (!(a0.data.2.2.2.1 == a1.data.2.2.2.1))
  (cond a0.data.2.2.2.1
  (some (1, ()))
  (some ((-1), ())))
  ((chanceryref2_unit (IntKind.i64.wrap (a0.data.2.2.2.2.1 - a1.data.2.2.2.2.1))).bind fun v8 =>
  some v8)))

noncomputable def chanceryref2_Order (a0 : TA1) (a1 : TA1) : Option (Int × Unit) :=
  cond (!decide (a0.data.1 = a1.data.1))
  (let v1 : TA1 := (tn a0)
  (chanceryref2_Order_1 v1).bind fun v2 =>
  let v3 : TA1 := (tn a1)
  (chanceryref2_Order_1 v3).bind fun v4 =>
  (chanceryref2_unit (IntKind.i64.wrap (v2.1 - v4.1))).bind fun v5 =>
  some v5)
  (cond (decide (a0.data.1 = 0))
  (some (0, ()))
  (let v6 : TA1 := (tn a0)
  let v7 : TA1 := (tn a1)
  (chanceryref2_oneKind v6 v7).bind fun v8 =>
  (cond (!decide (v8.1 = 0))
  (some ((), (), true, (a0.data.1, (a0.data.2.1.1, (a0.data.2.1.2.1, (a0.data.2.2.1, (a0.data.2.2.2.1, (a0.data.2.2.2.2.1, (a0.data.2.2.2.2.2.1, (a0.data.2.2.2.2.2.2.1, (a0.kids, ()))))))))), (a1.data.1, (a1.data.2.1.1, (a1.data.2.1.2.1, (a1.data.2.2.1, (a1.data.2.2.2.1, (a1.data.2.2.2.2.1, (a1.data.2.2.2.2.2.1, (a1.data.2.2.2.2.2.2.1, (a1.kids, ()))))))))), ()))
  (some ((), (), (!decide (a0.data.1 = 2)), (a0.data.1, (a0.data.2.1.1, (a0.data.2.1.2.1, (a0.data.2.2.1, (a0.data.2.2.2.1, (a0.data.2.2.2.2.1, (a0.data.2.2.2.2.2.1, (a0.data.2.2.2.2.2.2.1, (a0.kids, ()))))))))), (a1.data.1, (a1.data.2.1.1, (a1.data.2.1.2.1, (a1.data.2.2.1, (a1.data.2.2.2.1, (a1.data.2.2.2.2.1, (a1.data.2.2.2.2.2.1, (a1.data.2.2.2.2.2.2.1, (a1.kids, ()))))))))), ())) : Option (Unit × (Unit × (Bool × (TA0 × (TA0 × Unit)))))).bind fun r9 =>
  cond r9.2.2.1
  (some v8)
  ((chanceryref2_compareText r9.2.2.2.1.2.2.2.1 r9.2.2.2.2.1.2.2.2.1).bind fun v10 =>
  (chanceryref2_unit v10.1).bind fun v11 =>
  some v11)))

noncomputable def chancerylaw2_ahead_ArrangeRowsMatch_1_l1 (a2 : TA11) (a0 : Int) (a1 : Int) (p1 : (TA20 × TA18)) : Option ((TA20 × TA18) ⊕ ((TA20 × (TA0 × Unit)) ⊕ (TA20 × (Bool × (TA0 × Unit))))) :=
  cond (decide (p1.2.1 < (a2.length : Int)))
  ((idx a2 p1.2.1).bind fun v1 =>
  (chancerylaw2_ArrangeRowsMatch_1 a0 v1.1 p1.2.2.1.1 p1.2.2.1.2.1 p1.2.2.1.2.2.1 p1.2.2.1.2.2.2.1 p1.2.2.1.2.2.2.2.1 p1.2.2.1.2.2.2.2.2.1 p1.2.2.1.2.2.2.2.2.2.1 p1.2.2.1.2.2.2.2.2.2.2.1 p1.2.2.1.2.2.2.2.2.2.2.2.1).bind fun v2 =>
  (chancerylaw2_ArrangeRowsMatch_1 a1 v1.1 v2.2.2.1.1 v2.2.2.1.2.1 v2.2.2.1.2.2.1 v2.2.2.1.2.2.2.1 v2.2.2.1.2.2.2.2.1 v2.2.2.1.2.2.2.2.2.1 v2.2.2.1.2.2.2.2.2.2.1 v2.2.2.1.2.2.2.2.2.2.2.1 v2.2.2.1.2.2.2.2.2.2.2.2.1).bind fun v3 =>
  let v4 : TA1 := (tn v2.1)
  let v5 : TA1 := (tn v3.1)
  (chanceryref2_Order v4 v5).bind fun v6 =>
  ((cond v1.2.1
  (cond ((!decide (v2.1.data.1 = 0)))
  (some (((), ()), (!decide (v3.1.data.1 = 0)), v3.2.2.1, ()))
  (some (((), ()), false, v3.2.2.1, ())))
  (some (((), ()), false, v3.2.2.1, ())) : Option (TA20 × (Bool × (TA0 × Unit)))).bind fun r7 =>
  cond r7.2.1
  (some (((), ()), IntKind.i64.wrap (0 - v6.1), r7.2.2.1, ()))
  (some (((), ()), v6.1, r7.2.2.1, ())) : Option (TA20 × TA18)).bind fun r8 =>
  cond (!decide (r8.2.1 = 0))
  (some (.inr (.inr (((), ()), decide (r8.2.1 < 0), r8.2.2.1, ()))))
  (some (.inl (((), ()), IntKind.i64.wrap (p1.2.1 + 1), r8.2.2.1, ()))))
  (some (.inr (.inl (((), ()), p1.2.2.1, ()))))

noncomputable def chancerylaw2_ahead_ArrangeRowsMatch_1 (a0 : Int) (a1 : Int) (a2 : TA11) (o0 : Int) (o0_1 : Str) (o0_2 : Str) (o0_3 : Str) (o0_4 : Bool) (o0_5 : Int) (o0_6 : Int) (o0_7 : Int) (o0_8 : (List TA1)) : Option (Bool × (TA20 × (TA0 × Unit))) :=
  (loop (chancerylaw2_ahead_ArrangeRowsMatch_1_l1 a2 a0 a1) (((), ()), 0, (o0, (o0_1, (o0_2, (o0_3, (o0_4, (o0_5, (o0_6, (o0_7, (o0_8, ()))))))))), ())).bind fun r9 =>
  (match r9 with
  | .inl z10 => (some (decide (a0 < a1), ((), ()), z10.2.1, ()))
  | .inr z11 => (some (z11.2.1, ((), ()), z11.2.2.1, ())))

noncomputable def chanceryref2_SameValue_l1 (r6 : (Unit × (Unit × (Bool × (TA0 × (TA0 × Unit)))))) (rec : TA1 → TA1 → Option TA5) (p1 : TA22) : Option (TA22 ⊕ (Unit ⊕ TA5)) :=
  cond (decide (p1.2.2.1 < (r6.2.2.2.1.2.2.2.2.2.2.2.2.1.length : Int)))
  ((idx p1.2.2.2.1.2.2.2.2.2.2.2.2.1 p1.2.2.1).bind fun v7 =>
  (idx p1.2.2.2.2.1.2.2.2.2.2.2.2.2.1 p1.2.2.1).bind fun v8 =>
  (rec v7 v8).bind fun v9 =>
  cond (!v9.1)
  (some (.inr (.inr (false, ()))))
  (some (.inl ((), (), IntKind.i64.wrap (p1.2.2.1 + 1), p1.2.2.2.1, p1.2.2.2.2.1, ()))))
  (some (.inr (.inl (()))))

noncomputable def chanceryref2_SameValue_s (rec : TA1 → TA1 → Option TA5) (a0 : TA1) (a1 : TA1) : Option TA5 :=
  (cond (!decide (a0.data.1 = a1.data.1))
  (some ((), (), true, (a0.data.1, (a0.data.2.1.1, (a0.data.2.1.2.1, (a0.data.2.2.1, (a0.data.2.2.2.1, (a0.data.2.2.2.2.1, (a0.data.2.2.2.2.2.1, (a0.data.2.2.2.2.2.2.1, (a0.kids, ()))))))))), (a1.data.1, (a1.data.2.1.1, (a1.data.2.1.2.1, (a1.data.2.2.1, (a1.data.2.2.2.1, (a1.data.2.2.2.2.1, (a1.data.2.2.2.2.2.1, (a1.data.2.2.2.2.2.2.1, (a1.kids, ()))))))))), ()))
  (let v1 : Bool := (!Ty.beq (.pair .str (.pair .str .unit)) (a0.data.2.1.1, (a0.data.2.1.2.1, ())) (a1.data.2.1.1, (a1.data.2.1.2.1, ())))
  cond v1
  (some ((), (), true, (a0.data.1, (a0.data.2.1.1, (a0.data.2.1.2.1, (a0.data.2.2.1, (a0.data.2.2.2.1, (a0.data.2.2.2.2.1, (a0.data.2.2.2.2.2.1, (a0.data.2.2.2.2.2.2.1, (a0.kids, ()))))))))), (a1.data.1, (a1.data.2.1.1, (a1.data.2.1.2.1, (a1.data.2.2.1, (a1.data.2.2.2.1, (a1.data.2.2.2.2.1, (a1.data.2.2.2.2.2.1, (a1.data.2.2.2.2.2.2.1, (a1.kids, ()))))))))), ()))
  (cond ((!decide (a0.data.2.2.1 = a1.data.2.2.1)))
  (some ((), (), true, (a0.data.1, (a0.data.2.1.1, (a0.data.2.1.2.1, (a0.data.2.2.1, (a0.data.2.2.2.1, (a0.data.2.2.2.2.1, (a0.data.2.2.2.2.2.1, (a0.data.2.2.2.2.2.2.1, (a0.kids, ()))))))))), (a1.data.1, (a1.data.2.1.1, (a1.data.2.1.2.1, (a1.data.2.2.1, (a1.data.2.2.2.1, (a1.data.2.2.2.2.1, (a1.data.2.2.2.2.2.1, (a1.data.2.2.2.2.2.2.1, (a1.kids, ()))))))))), ()))
  (cond ((!(a0.data.2.2.2.1 == a1.data.2.2.2.1)))
  (some ((), (), true, (a0.data.1, (a0.data.2.1.1, (a0.data.2.1.2.1, (a0.data.2.2.1, (a0.data.2.2.2.1, (a0.data.2.2.2.2.1, (a0.data.2.2.2.2.2.1, (a0.data.2.2.2.2.2.2.1, (a0.kids, ()))))))))), (a1.data.1, (a1.data.2.1.1, (a1.data.2.1.2.1, (a1.data.2.2.1, (a1.data.2.2.2.1, (a1.data.2.2.2.2.1, (a1.data.2.2.2.2.2.1, (a1.data.2.2.2.2.2.2.1, (a1.kids, ()))))))))), ()))
  (let v2 : Bool := (!decide (a0.data.2.2.2.2.1 = a1.data.2.2.2.2.1))
  cond v2
  (some ((), (), true, (a0.data.1, (a0.data.2.1.1, (a0.data.2.1.2.1, (a0.data.2.2.1, (a0.data.2.2.2.1, (a0.data.2.2.2.2.1, (a0.data.2.2.2.2.2.1, (a0.data.2.2.2.2.2.2.1, (a0.kids, ()))))))))), (a1.data.1, (a1.data.2.1.1, (a1.data.2.1.2.1, (a1.data.2.2.1, (a1.data.2.2.2.1, (a1.data.2.2.2.2.1, (a1.data.2.2.2.2.2.1, (a1.data.2.2.2.2.2.2.1, (a1.kids, ()))))))))), ()))
  (let v3 : Bool := (!decide (a0.data.2.2.2.2.2.1 = a1.data.2.2.2.2.2.1))
  cond v3
  (some ((), (), true, (a0.data.1, (a0.data.2.1.1, (a0.data.2.1.2.1, (a0.data.2.2.1, (a0.data.2.2.2.1, (a0.data.2.2.2.2.1, (a0.data.2.2.2.2.2.1, (a0.data.2.2.2.2.2.2.1, (a0.kids, ()))))))))), (a1.data.1, (a1.data.2.1.1, (a1.data.2.1.2.1, (a1.data.2.2.1, (a1.data.2.2.2.1, (a1.data.2.2.2.2.1, (a1.data.2.2.2.2.2.1, (a1.data.2.2.2.2.2.2.1, (a1.kids, ()))))))))), ()))
  (let v4 : Bool := (!decide (a0.data.2.2.2.2.2.2.1 = a1.data.2.2.2.2.2.2.1))
  cond v4
  (some ((), (), true, (a0.data.1, (a0.data.2.1.1, (a0.data.2.1.2.1, (a0.data.2.2.1, (a0.data.2.2.2.1, (a0.data.2.2.2.2.1, (a0.data.2.2.2.2.2.1, (a0.data.2.2.2.2.2.2.1, (a0.kids, ()))))))))), (a1.data.1, (a1.data.2.1.1, (a1.data.2.1.2.1, (a1.data.2.2.1, (a1.data.2.2.2.1, (a1.data.2.2.2.2.1, (a1.data.2.2.2.2.2.1, (a1.data.2.2.2.2.2.2.1, (a1.kids, ()))))))))), ()))
  (let v5 : Bool := (!decide ((a0.kids.length : Int) = (a1.kids.length : Int)))
  some ((), (), v5, (a0.data.1, (a0.data.2.1.1, (a0.data.2.1.2.1, (a0.data.2.2.1, (a0.data.2.2.2.1, (a0.data.2.2.2.2.1, (a0.data.2.2.2.2.2.1, (a0.data.2.2.2.2.2.2.1, (a0.kids, ()))))))))), (a1.data.1, (a1.data.2.1.1, (a1.data.2.1.2.1, (a1.data.2.2.1, (a1.data.2.2.2.1, (a1.data.2.2.2.2.1, (a1.data.2.2.2.2.2.1, (a1.data.2.2.2.2.2.2.1, (a1.kids, ()))))))))), ())))))))) : Option (Unit × (Unit × (Bool × (TA0 × (TA0 × Unit)))))).bind fun r6 =>
  cond r6.2.2.1
  (some (false, ()))
  ((loop (chanceryref2_SameValue_l1 r6 rec) ((), (), 0, r6.2.2.2.1, r6.2.2.2.2.1, ())).bind fun r10 =>
  (match r10 with
  | .inl _ => (some (true, ()))
  | .inr z12 => (some z12)))

noncomputable def chanceryref2_SameValue_f : Nat → TA1 → TA1 → Option TA5
  | 0 => fun _ _ => none
  | n + 1 => chanceryref2_SameValue_s (chanceryref2_SameValue_f n)

noncomputable def chanceryref2_SameValue (a0 : TA1) (a1 : TA1) : Option TA5 := chanceryref2_SameValue_f rounds a0 a1

noncomputable def chancerylaw2_ArrangeRowsMatch_l1 (a1 : TA11) (p1 : (Unit × (Int × TA18))) : Option ((Unit × (Int × TA18)) ⊕ (Unit × TA18)) :=
  (cond (decide (p1.2.2.1 < (a1.length : Int)))
  (some ((), (decide (p1.2.1 = 0)), p1.2.2.2.1, ()))
  (some ((), false, p1.2.2.2.1, ())) : Option TA10).bind fun r11 =>
  cond r11.2.1
  ((((idx a1 p1.2.2.1).bind fun v12 =>
  cond (decide (v12.1 < 0))
  (some ((), true, r11.2.2.1, ()))
  ((idx a1 p1.2.2.1).bind fun v13 =>
  some ((), (decide (r11.2.2.1.2.2.2.2.2.2.2.1 ≤ v13.1)), r11.2.2.1, ())) : Option TA10).bind fun r14 =>
  cond r14.2.1
  (some ((), 2, r14.2.2.1, ()))
  (some ((), p1.2.1, r14.2.2.1, ())) : Option (Unit × TA18)).bind fun r15 =>
  some (.inl ((), r15.2.1, IntKind.i64.wrap (p1.2.2.1 + 1), r15.2.2.1, ())))
  (some (.inr ((), p1.2.1, r11.2.2.1, ())))

noncomputable def chancerylaw2_ArrangeRowsMatch_l2 (v4 : TA19) (a1 : TA11) (p2 : (Unit × (TA20 × TA18))) : Option ((Unit × (TA20 × TA18)) ⊕ ((Unit × (TA20 × (TA0 × Unit))) ⊕ TA5)) :=
  cond (decide (p2.2.2.1 < (v4.1.length : Int)))
  ((idx v4.1 p2.2.2.1).bind fun v24 =>
  (cond (decide (v24 < 0))
  (some ((), ((), ()), true, p2.2.2.2.1, ()))
  (cond ((decide (p2.2.2.2.1.2.2.2.2.2.2.1 ≤ v24)))
  (some ((), ((), ()), true, p2.2.2.2.1, ()))
  ((cut v4.1 0 p2.2.2.1).bind fun v25 =>
  (slices_Contains_int_int_ v25 v24).bind fun v26 =>
  cond (v26.1)
  (some ((), ((), ()), true, p2.2.2.2.1, ()))
  (cond (decide (0 < p2.2.2.1))
  ((idx v4.1 (IntKind.i64.wrap (p2.2.2.1 - 1))).bind fun v27 =>
  (chancerylaw2_ahead_ArrangeRowsMatch_1 v27 v24 a1 p2.2.2.2.1.1 p2.2.2.2.1.2.1 p2.2.2.2.1.2.2.1 p2.2.2.2.1.2.2.2.1 p2.2.2.2.1.2.2.2.2.1 p2.2.2.2.1.2.2.2.2.2.1 p2.2.2.2.1.2.2.2.2.2.2.1 p2.2.2.2.1.2.2.2.2.2.2.2.1 p2.2.2.2.1.2.2.2.2.2.2.2.2.1).bind fun v28 =>
  some ((), ((), ()), ((!v28.1)), v28.2.2.1, ()))
  (some ((), ((), ()), false, p2.2.2.2.1, ()))))) : Option (Unit × (TA20 × (Bool × (TA0 × Unit))))).bind fun r29 =>
  cond r29.2.2.1
  (some (.inr (.inr (false, ()))))
  (some (.inl ((), ((), ()), IntKind.i64.wrap (p2.2.2.1 + 1), r29.2.2.2.1, ()))))
  (some (.inr (.inl ((), ((), ()), p2.2.2.2.1, ()))))

noncomputable def chancerylaw2_ArrangeRowsMatch_l3 (a2 : Int) (p3 : (Unit × (TA20 × (Unit × (Int × (TA0 × (TA8 × Unit))))))) : Option ((Unit × (TA20 × (Unit × (Int × (TA0 × (TA8 × Unit)))))) ⊕ ((Unit × (TA20 × (Unit × (TA0 × (TA8 × Unit))))) ⊕ TA5)) :=
  cond (decide (p3.2.2.2.1 < p3.2.2.2.2.2.1.2.1))
  ((chancerylaw2_ArrangeRowsMatch_1 p3.2.2.2.1 a2 p3.2.2.2.2.1.1 p3.2.2.2.2.1.2.1 p3.2.2.2.2.1.2.2.1 p3.2.2.2.2.1.2.2.2.1 p3.2.2.2.2.1.2.2.2.2.1 p3.2.2.2.2.1.2.2.2.2.2.1 p3.2.2.2.2.1.2.2.2.2.2.2.1 p3.2.2.2.2.1.2.2.2.2.2.2.2.1 p3.2.2.2.2.1.2.2.2.2.2.2.2.2.1).bind fun v38 =>
  (chancerylaw2_ArrangeRowsMatch_1 p3.2.2.2.2.2.1.1 a2 v38.2.2.1.1 v38.2.2.1.2.1 v38.2.2.1.2.2.1 v38.2.2.1.2.2.2.1 v38.2.2.1.2.2.2.2.1 v38.2.2.1.2.2.2.2.2.1 v38.2.2.1.2.2.2.2.2.2.1 v38.2.2.1.2.2.2.2.2.2.2.1 v38.2.2.1.2.2.2.2.2.2.2.2.1).bind fun v39 =>
  (chanceryref2_SameValue v38.1 v39.1).bind fun v40 =>
  cond (!v40.1)
  (some (.inr (.inr (false, ()))))
  (some (.inl ((), ((), ()), (), IntKind.i64.wrap (p3.2.2.2.1 + 1), v39.2.2.1, p3.2.2.2.2.2.1, ()))))
  (some (.inr (.inl ((), ((), ()), (), p3.2.2.2.2.1, p3.2.2.2.2.2.1, ()))))

noncomputable def chancerylaw2_ArrangeRowsMatch_l4 (v6 : ((List TA8) × (Int × Unit))) (a2 : Int) (p4 : (Unit × (TA20 × (Int × TA18)))) : Option ((Unit × (TA20 × (Int × TA18))) ⊕ ((Unit × TA18) ⊕ TA5)) :=
  cond (decide (p4.2.2.2.1 < (v6.1.length : Int)))
  ((idx v6.1 p4.2.2.2.1).bind fun v35 =>
  (cond (!decide (v35.1 = p4.2.2.1))
  (some ((), ((), ()), (), true, p4.2.2.2.2.1, v35, ()))
  (cond ((decide (v35.2.1 ≤ v35.1)))
  (some ((), ((), ()), (), true, p4.2.2.2.2.1, v35, ()))
  (let v36 : Bool := (decide (p4.2.2.2.2.1.2.2.2.2.2.2.1 < v35.2.1))
  some ((), ((), ()), (), v36, p4.2.2.2.2.1, v35, ()))) : Option (Unit × (TA20 × (Unit × (Bool × (TA0 × (TA8 × Unit))))))).bind fun r37 =>
  cond r37.2.2.2.1
  (some (.inr (.inr (false, ()))))
  ((loop (chancerylaw2_ArrangeRowsMatch_l3 a2) ((), ((), ()), (), IntKind.i64.wrap (r37.2.2.2.2.2.1.1 + 1), r37.2.2.2.2.1, r37.2.2.2.2.2.1, ())).bind fun r41 =>
  (match r41 with
  | .inl z42 => ((cond (decide (0 < p4.2.2.2.1))
  ((chancerylaw2_ArrangeRowsMatch_1 z42.2.2.2.2.1.1 a2 z42.2.2.2.1.1 z42.2.2.2.1.2.1 z42.2.2.2.1.2.2.1 z42.2.2.2.1.2.2.2.1 z42.2.2.2.1.2.2.2.2.1 z42.2.2.2.1.2.2.2.2.2.1 z42.2.2.2.1.2.2.2.2.2.2.1 z42.2.2.2.1.2.2.2.2.2.2.2.1 z42.2.2.2.1.2.2.2.2.2.2.2.2.1).bind fun v43 =>
  (chancerylaw2_ArrangeRowsMatch_1 (IntKind.i64.wrap (z42.2.2.2.2.1.1 - 1)) a2 v43.2.2.1.1 v43.2.2.1.2.1 v43.2.2.1.2.2.1 v43.2.2.1.2.2.2.1 v43.2.2.1.2.2.2.2.1 v43.2.2.1.2.2.2.2.2.1 v43.2.2.1.2.2.2.2.2.2.1 v43.2.2.1.2.2.2.2.2.2.2.1 v43.2.2.1.2.2.2.2.2.2.2.2.1).bind fun v44 =>
  (chanceryref2_SameValue v43.1 v44.1).bind fun v45 =>
  some ((), ((), ()), (), v45.1, v44.2.2.1, z42.2.2.2.2.1, ()))
  (some ((), ((), ()), (), false, z42.2.2.2.1, z42.2.2.2.2.1, ())) : Option (Unit × (TA20 × (Unit × (Bool × (TA0 × (TA8 × Unit))))))).bind fun r46 =>
  cond r46.2.2.2.1
  (some (.inr (.inr (false, ()))))
  (some (.inl ((), ((), ()), r46.2.2.2.2.2.1.2.1, IntKind.i64.wrap (p4.2.2.2.1 + 1), r46.2.2.2.2.1, ()))))
  | .inr z47 => (some (.inr (.inr z47))))))
  (some (.inr (.inl ((), p4.2.2.1, p4.2.2.2.2.1, ()))))

noncomputable def chancerylaw2_ArrangeRowsMatch (a0 : TA1) (a1 : TA11) (a2 : Int) : Option TA5 :=
  (chancerylaw2_sorts).bind fun v1 =>
  cond (!v1.1)
  (some (false, ()))
  ((cond (decide (60 < (a0.kids.length : Int)))
  (some ((), true, (a0.data.1, (a0.data.2.1.1, (a0.data.2.1.2.1, (a0.data.2.2.1, (a0.data.2.2.2.1, (a0.data.2.2.2.2.1, (a0.data.2.2.2.2.2.1, (a0.data.2.2.2.2.2.2.1, (a0.kids, ()))))))))), ()))
  (some ((), (decide (80 < (a1.length : Int))), (a0.data.1, (a0.data.2.1.1, (a0.data.2.1.2.1, (a0.data.2.2.1, (a0.data.2.2.2.1, (a0.data.2.2.2.2.1, (a0.data.2.2.2.2.2.1, (a0.data.2.2.2.2.2.2.1, (a0.kids, ()))))))))), ())) : Option TA10).bind fun r2 =>
  cond r2.2.1
  (some (true, ()))
  (let v3 : TA1 := (Tree.node (r2.2.2.1.1, ((r2.2.2.1.2.1, (r2.2.2.1.2.2.1, ())), (r2.2.2.1.2.2.2.1, (r2.2.2.1.2.2.2.2.1, (r2.2.2.1.2.2.2.2.2.1, (r2.2.2.1.2.2.2.2.2.2.1, (r2.2.2.1.2.2.2.2.2.2.2.1, ()))))))) r2.2.2.1.2.2.2.2.2.2.2.2.1)
  (arrange_Rows v3 a1).bind fun v4 =>
  let v5 : TA1 := (Tree.node (r2.2.2.1.1, ((r2.2.2.1.2.1, (r2.2.2.1.2.2.1, ())), (r2.2.2.1.2.2.2.1, (r2.2.2.1.2.2.2.2.1, (r2.2.2.1.2.2.2.2.2.1, (r2.2.2.1.2.2.2.2.2.2.1, (r2.2.2.1.2.2.2.2.2.2.2.1, ()))))))) r2.2.2.1.2.2.2.2.2.2.2.2.1)
  (arrange_Groups v5 a2).bind fun v6 =>
  let v7 : TA1 := (Tree.node (r2.2.2.1.1, ((r2.2.2.1.2.1, (r2.2.2.1.2.2.1, ())), (r2.2.2.1.2.2.2.1, (r2.2.2.1.2.2.2.2.1, (r2.2.2.1.2.2.2.2.2.1, (r2.2.2.1.2.2.2.2.2.2.1, (r2.2.2.1.2.2.2.2.2.2.2.1, ()))))))) r2.2.2.1.2.2.2.2.2.2.2.2.1)
  (chancerylaw2_arrayError v7).bind fun v8 =>
  ((cond (decide (v8.1 = 0))
  (some ((), (decide (64 < (a1.length : Int))), r2.2.2.1, ()))
  (some ((), false, r2.2.2.1, ())) : Option TA10).bind fun r9 =>
  cond r9.2.1
  (some ((), 3, r9.2.2.1, ()))
  (some ((), v8.1, r9.2.2.1, ())) : Option (Unit × TA18)).bind fun r10 =>
  (loop (chancerylaw2_ArrangeRowsMatch_l1 a1) ((), r10.2.1, 0, r10.2.2.1, ())).bind fun r16 =>
  ((cond (decide (v8.1 = 0))
  (cond (decide (a2 < 0))
  (some ((), true, r16.2.2.1, ()))
  (let v17 : Bool := ((decide (r16.2.2.1.2.2.2.2.2.2.2.1 ≤ a2)))
  some ((), v17, r16.2.2.1, ())))
  (some ((), false, r16.2.2.1, ())) : Option TA10).bind fun r18 =>
  cond r18.2.1
  (some ((), 2, r18.2.2.1, ()))
  (some ((), v8.1, r18.2.2.1, ())) : Option (Unit × TA18)).bind fun r19 =>
  (cond (!decide (v4.2.1 = r16.2.1))
  (some ((), true, r19.2.2.1, ()))
  (cond ((!decide (v6.2.1 = r19.2.1)))
  (some ((), true, r19.2.2.1, ()))
  (cond (!decide (r16.2.1 = 0))
  (let v20 : Bool := ((decide (0 < (v4.1.length : Int))))
  cond v20
  (some ((), true, r19.2.2.1, ()))
  (cond (!decide (r19.2.1 = 0))
  (let v21 : Bool := ((decide (0 < (v6.1.length : Int))))
  some ((), v21, r19.2.2.1, ()))
  (some ((), false, r19.2.2.1, ()))))
  (cond (false)
  (some ((), true, r19.2.2.1, ()))
  (cond (!decide (r19.2.1 = 0))
  (let v22 : Bool := ((decide (0 < (v6.1.length : Int))))
  some ((), v22, r19.2.2.1, ()))
  (some ((), false, r19.2.2.1, ())))))) : Option TA10).bind fun r23 =>
  cond r23.2.1
  (some (false, ()))
  ((cond (decide (r16.2.1 = 0))
  (cond (!decide ((v4.1.length : Int) = r23.2.2.1.2.2.2.2.2.2.1))
  (some (.inr (false, ())))
  ((loop (chancerylaw2_ArrangeRowsMatch_l2 v4 a1) ((), ((), ()), 0, r23.2.2.1, ())).bind fun r30 =>
  (match r30 with
  | .inl z31 => (some (.inl ((), ((), ()), z31.2.2.1, ())))
  | .inr z32 => (some (.inr z32)))))
  (some (.inl ((), ((), ()), r23.2.2.1, ()))) : Option ((Unit × (TA20 × (TA0 × Unit))) ⊕ TA5)).bind fun r33 =>
  (match r33 with
  | .inl z34 => (cond (!decide (r19.2.1 = 0))
  (some (true, ()))
  ((loop (chancerylaw2_ArrangeRowsMatch_l4 v6 a2) ((), ((), ()), 0, 0, z34.2.2.1, ())).bind fun r48 =>
  (match r48 with
  | .inl z49 => (some (decide (z49.2.1 = z49.2.2.1.2.2.2.2.2.2.1), ()))
  | .inr z50 => (some z50))))
  | .inr z51 => (some z51)))))

end Go.Proofs.YtmkpdineahbfkaaGreatDoor
