/- Plain functions that the program's functions come to. Printed by a program (fegen.py). -/
import Derived.Test.YtmcoedgkmciciaaGreatDoorFeLib
import Derived.Test.YtmcoedgkmciciaaGreatDoorFeLaw
namespace Go.Proofs.YtmcoedgkmciciaaGreatDoor
open Go Go.Fe

noncomputable def strings_trimRightByte_l1 (a1 : Int) (p1 : (Str × Unit)) : Option ((Str × Unit) ⊕ (Str × Unit)) :=
  (cond (decide (0 < (p1.1.length : Int)))
  ((idx p1.1 (IntKind.i64.wrap ((p1.1.length : Int) - 1))).bind fun v1 =>
  some ((decide ((ofByte v1) = a1)), ()))
  (some (false, ())) : Option (Bool × Unit)).bind fun r2 =>
  cond r2.1
  ((cut p1.1 0 (IntKind.i64.wrap ((p1.1.length : Int) - 1))).bind fun v3 =>
  some (.inl (v3, ())))
  (some (.inr p1))

noncomputable def strings_trimRightByte (a0 : Str) (a1 : Int) : Option (Str × Unit) :=
  (loop (strings_trimRightByte_l1 a1) (a0, ())).bind fun r4 =>
  some r4

noncomputable def strings_trimLeftByte_l1 (a1 : Int) (p1 : (Str × Unit)) : Option ((Str × Unit) ⊕ (Str × Unit)) :=
  (cond (decide (0 < (p1.1.length : Int)))
  ((idx p1.1 0).bind fun v1 =>
  some ((decide ((ofByte v1) = a1)), ()))
  (some (false, ())) : Option (Bool × Unit)).bind fun r2 =>
  cond r2.1
  ((cut p1.1 1 (p1.1.length : Int)).bind fun v3 =>
  some (.inl (v3, ())))
  (some (.inr p1))

noncomputable def strings_trimLeftByte (a0 : Str) (a1 : Int) : Option (Str × Unit) :=
  (loop (strings_trimLeftByte_l1 a1) (a0, ())).bind fun r4 =>
  some r4

noncomputable def strings_makeASCIISet_l1 (a0 : Str) (p1 : (Unit × (Int × ((List Bool) × Unit)))) : Option ((Unit × (Int × ((List Bool) × Unit))) ⊕ ((Unit × ((List Bool) × Unit)) ⊕ (Unit × (Bool × ((List Bool) × Unit))))) :=
  cond (decide (p1.2.1 < (a0.length : Int)))
  ((idx a0 p1.2.1).bind fun v1 =>
  cond (decide (128 ≤ (ofByte v1)))
  (some (.inr (.inr ((), false, p1.2.2.1, ()))))
  ((chk (inb (ofByte v1) 256)).bind fun _ =>
  let v2 : List Bool := p1.2.2.1.set (ofByte v1).toNat true
  some (.inl ((), IntKind.i64.wrap (p1.2.1 + 1), v2, ()))))
  (some (.inr (.inl ((), p1.2.2.1, ()))))

noncomputable def strings_makeASCIISet (a0 : Str) : Option ((List Bool) × (Bool × Unit)) :=
  (loop (strings_makeASCIISet_l1 a0) ((), 0, (List.replicate 256 false), ())).bind fun r3 =>
  (match r3 with
  | .inl z4 => (some (z4.2.1, true, ()))
  | .inr z5 => (some (z5.2.2.1, z5.2.1, ())))

noncomputable def _strings_asciiSet__contains (a1 : Int) (o0 : (List Bool)) : Option (Bool × (Unit × ((List Bool) × Unit))) :=
  (chk (inb a1 256)).bind fun _ =>
  some ((o0.getD a1.toNat false), (), o0, ())

noncomputable def strings_trimRightASCII_l1 (p1 : (Str × (Unit × ((List Bool) × Unit)))) : Option ((Str × (Unit × ((List Bool) × Unit))) ⊕ (Str × (Unit × ((List Bool) × Unit)))) :=
  cond (decide (0 < (p1.1.length : Int)))
  ((idx p1.1 (IntKind.i64.wrap ((p1.1.length : Int) - 1))).bind fun v1 =>
  (_strings_asciiSet__contains (ofByte v1) p1.2.2.1).bind fun v2 =>
  cond (!v2.1)
  (some (.inr (p1.1, (), v2.2.2.1, ())))
  ((cut p1.1 0 (IntKind.i64.wrap ((p1.1.length : Int) - 1))).bind fun v3 =>
  some (.inl (v3, (), v2.2.2.1, ()))))
  (some (.inr (p1.1, (), p1.2.2.1, ())))

noncomputable def strings_trimRightASCII (a0 : Str) (o0 : (List Bool)) : Option (Str × (Unit × ((List Bool) × Unit))) :=
  (loop strings_trimRightASCII_l1 (a0, (), o0, ())).bind fun r4 =>
  some (r4.1, (), r4.2.2.1, ())

noncomputable def strings_trimLeftASCII_l1 (p1 : (Str × (Unit × ((List Bool) × Unit)))) : Option ((Str × (Unit × ((List Bool) × Unit))) ⊕ (Str × (Unit × ((List Bool) × Unit)))) :=
  cond (decide (0 < (p1.1.length : Int)))
  ((idx p1.1 0).bind fun v1 =>
  (_strings_asciiSet__contains (ofByte v1) p1.2.2.1).bind fun v2 =>
  cond (!v2.1)
  (some (.inr (p1.1, (), v2.2.2.1, ())))
  ((cut p1.1 1 (p1.1.length : Int)).bind fun v3 =>
  some (.inl (v3, (), v2.2.2.1, ()))))
  (some (.inr (p1.1, (), p1.2.2.1, ())))

noncomputable def strings_trimLeftASCII (a0 : Str) (o0 : (List Bool)) : Option (Str × (Unit × ((List Bool) × Unit))) :=
  (loop strings_trimLeftASCII_l1 (a0, (), o0, ())).bind fun r4 =>
  some (r4.1, (), r4.2.2.1, ())

noncomputable def strings_Trim (a0 : Str) (a1 : Str) : Option (Str × Unit) :=
  (cond (decide (a0 = []))
  (some (true, ()))
  (some ((decide (a1 = [])), ())) : Option (Bool × Unit)).bind fun r1 =>
  cond r1.1
  (some (a0, ()))
  ((cond (decide ((a1.length : Int) = 1))
  ((idx a1 0).bind fun v2 =>
  some ((decide ((ofByte v2) < 128)), ()))
  (some (false, ())) : Option (Bool × Unit)).bind fun r3 =>
  cond r3.1
  ((idx a1 0).bind fun v4 =>
  (strings_trimRightByte a0 (ofByte v4)).bind fun v5 =>
  (idx a1 0).bind fun v6 =>
  (strings_trimLeftByte v5.1 (ofByte v6)).bind fun v7 =>
  some v7)
  ((strings_makeASCIISet a1).bind fun v8 =>
  cond v8.2.1
  ((strings_trimRightASCII a0 v8.1).bind fun v9 =>
  (strings_trimLeftASCII v9.1 v9.2.2.1).bind fun v10 =>
  some (v10.1, ()))
  (((sNever [Ty.str, Ty.str] [Ty.str]) (a0, a1, ())).bind fun v11 =>
  ((sNever [Ty.str, Ty.str] [Ty.str]) (v11.1, a1, ())).bind fun v12 =>
  some v12)))

noncomputable def exact_digits (a0 : Str) : Option (Bool × Unit) :=
  (cond (decide (a0 = []))
  (some (true, ()))
  ((idx a0 0).bind fun v1 =>
  cond (decide ((ofByte v1) = 48))
  (let v2 : Bool := ((decide (1 < (a0.length : Int))))
  some (v2, ()))
  (some (false, ()))) : Option (Bool × Unit)).bind fun r3 =>
  cond r3.1
  (some (false, ()))
  ((strings_Trim a0 [48, 49, 50, 51, 52, 53, 54, 55, 56, 57]).bind fun v4 =>
  some (decide (v4.1 = []), ()))

noncomputable def exact_nat__trim_l1 (p1 : ((List Int) × Unit)) : Option (((List Int) × Unit) ⊕ ((List Int) × Unit)) :=
  (cond (decide (0 < (p1.1.length : Int)))
  ((idx p1.1 (IntKind.i64.wrap ((p1.1.length : Int) - 1))).bind fun v1 =>
  some ((decide (v1 = 0)), ()))
  (some (false, ())) : Option (Bool × Unit)).bind fun r2 =>
  cond r2.1
  ((cut p1.1 0 (IntKind.i64.wrap ((p1.1.length : Int) - 1))).bind fun v3 =>
  some (.inl (v3, ())))
  (some (.inr p1))

noncomputable def exact_nat__trim (a0 : (List Int)) : Option ((List Int) × Unit) :=
  (loop exact_nat__trim_l1 (a0, ())).bind fun r4 =>
  some r4

noncomputable def exact_parse_l1 (p1 : (Str × (Unit × ((List Int) × Unit)))) : Option ((Str × (Unit × ((List Int) × Unit))) ⊕ (Unit × ((List Int) × Unit))) :=
  cond (decide (0 < (p1.1.length : Int)))
  ((cut p1.1 (mx 0 (IntKind.i64.wrap ((p1.1.length : Int) - 9))) (p1.1.length : Int)).bind fun v1 =>
  (sAtoi (v1, ())).bind fun v2 =>
  (cat p1.2.2.1 [IntKind.u32.wrap v2.1]).bind fun v3 =>
  (cut p1.1 0 (mx 0 (IntKind.i64.wrap ((p1.1.length : Int) - 9)))).bind fun v4 =>
  some (.inl (v4, (), v3, ())))
  (some (.inr ((), p1.2.2.1, ())))

noncomputable def exact_parse (a0 : Str) : Option ((List Int) × Unit) :=
  (loop exact_parse_l1 (a0, (), [], ())).bind fun r5 =>
  (exact_nat__trim r5.2.1).bind fun v6 =>
  some v6

noncomputable def exact_nat__zero (a0 : (List Int)) : Option (Bool × Unit) :=
  some (decide ((a0.length : Int) = 0), ())

noncomputable def exact_nat__compare_l1 (a0 : (List Int)) (a1 : (List Int)) (p1 : (Int × Unit)) : Option ((Int × Unit) ⊕ (Unit ⊕ (Int × Unit))) :=
  cond (decide (0 ≤ p1.1))
  ((idx a0 p1.1).bind fun v1 =>
  (idx a1 p1.1).bind fun v2 =>
  cond (!decide (v1 = v2))
  ((idx a0 p1.1).bind fun v3 =>
  (idx a1 p1.1).bind fun v4 =>
  cond (decide (v3 < v4))
  (some (.inr (.inr ((-1), ()))))
  (some (.inr (.inr (1, ())))))
  (some (.inl (IntKind.i64.wrap (p1.1 - 1), ()))))
  (some (.inr (.inl (()))))

noncomputable def exact_nat__compare (a0 : (List Int)) (a1 : (List Int)) : Option (Int × Unit) :=
  cond (!decide ((a0.length : Int) = (a1.length : Int)))
  (some (IntKind.i64.wrap ((a0.length : Int) - (a1.length : Int)), ()))
  ((loop (exact_nat__compare_l1 a0 a1) (IntKind.i64.wrap ((a0.length : Int) - 1), ())).bind fun r5 =>
  (match r5 with
  | .inl _ => (some (0, ()))
  | .inr z7 => (some z7)))

noncomputable def exact_nat__times_l1 (a1 : (List Int)) (v2 : Int) (p2 : (Unit × (Int × ((List Int) × Unit)))) (p1 : (Unit × (Int × (Int × ((List Int) × Unit))))) : Option ((Unit × (Int × (Int × ((List Int) × Unit)))) ⊕ (Unit × (Int × ((List Int) × Unit)))) :=
  cond (decide (p1.2.2.1 < (a1.length : Int)))
  ((idx a1 p1.2.2.1).bind fun v3 =>
  let v4 : Int := IntKind.u64.wrap ((IntKind.u64.wrap v2) * (IntKind.u64.wrap v3))
  (chk (inb (IntKind.i64.wrap (p2.2.1 + p1.2.2.1)) p1.2.2.2.1.length)).bind fun _ =>
  let v5 : Int := (p1.2.2.2.1.getD (IntKind.i64.wrap (p2.2.1 + p1.2.2.1)).toNat 0)
  let v6 : Int := IntKind.u64.wrap ((IntKind.u64.wrap (v4 + (IntKind.u64.wrap v5))) + p1.2.1)
  (rem v6 1000000000).bind fun v7 =>
  (chk (inb (IntKind.i64.wrap (p2.2.1 + p1.2.2.1)) p1.2.2.2.1.length)).bind fun _ =>
  let v8 : List Int := p1.2.2.2.1.set (IntKind.i64.wrap (p2.2.1 + p1.2.2.1)).toNat (IntKind.u32.wrap v7)
  (quo .u64 v6 1000000000).bind fun v9 =>
  some (.inl ((), v9, IntKind.i64.wrap (p1.2.2.1 + 1), v8, ())))
  (some (.inr ((), p1.2.1, p1.2.2.2.1, ())))

noncomputable def exact_nat__times_l2 (a0 : (List Int)) (a1 : (List Int)) (p2 : (Unit × (Int × ((List Int) × Unit)))) : Option ((Unit × (Int × ((List Int) × Unit))) ⊕ (Unit × ((List Int) × Unit))) :=
  cond (decide (p2.2.1 < (a0.length : Int)))
  ((idx a0 p2.2.1).bind fun v2 =>
  (loop (exact_nat__times_l1 a1 v2 p2) ((), 0, 0, p2.2.2.1, ())).bind fun r10 =>
  (chk (inb (IntKind.i64.wrap (p2.2.1 + (a1.length : Int))) r10.2.2.1.length)).bind fun _ =>
  let v11 : List Int := r10.2.2.1.set (IntKind.i64.wrap (p2.2.1 + (a1.length : Int))).toNat (IntKind.u32.wrap r10.2.1)
  some (.inl ((), IntKind.i64.wrap (p2.2.1 + 1), v11, ())))
  (some (.inr ((), p2.2.2.1, ())))

noncomputable def exact_nat__times (a0 : (List Int)) (a1 : (List Int)) : Option ((List Int) × Unit) :=
  (mk (IntKind.i64.wrap ((a0.length : Int) + (a1.length : Int))) (IntKind.i64.wrap ((a0.length : Int) + (a1.length : Int))) 0).bind fun v1 =>
  (loop (exact_nat__times_l2 a0 a1) ((), 0, v1, ())).bind fun r12 =>
  (exact_nat__trim r12.2.1).bind fun v13 =>
  some v13

noncomputable def exact_digit_l1 (a1 : (List Int)) (a0 : (List Int)) (p1 : (Int × (Int × Unit))) : Option ((Int × (Int × Unit)) ⊕ (Int × Unit)) :=
  cond (decide ((IntKind.i64.wrap ((a1.length : Int) - 1)) ≤ p1.2.1))
  ((idx a0 p1.2.1).bind fun v2 =>
  let v3 : Int := IntKind.u64.wrap ((IntKind.u64.wrap (p1.1 * 1000000000)) + (IntKind.u64.wrap v2))
  some (.inl (v3, IntKind.i64.wrap (p1.2.1 - 1), ())))
  (some (.inr (p1.1, ())))

noncomputable def exact_digit_l2 (a1 : (List Int)) (a0 : (List Int)) (p2 : (Int × (Int × Unit))) : Option ((Int × (Int × Unit)) ⊕ (Int × Unit)) :=
  cond (decide (p2.1 < p2.2.1))
  (let v9 : Int := IntKind.u64.wrap ((IntKind.u64.wrap (p2.1 + p2.2.1)) + 1)
  (quo .u64 v9 2).bind fun v10 =>
  (exact_nat__trim [IntKind.u32.wrap v10]).bind fun v11 =>
  (exact_nat__times a1 v11.1).bind fun v12 =>
  (exact_nat__compare v12.1 a0).bind fun v13 =>
  cond (decide (v13.1 ≤ 0))
  (some (.inl (v10, p2.2.1, ())))
  (some (.inl (p2.1, IntKind.u64.wrap (v10 - 1), ()))))
  (some (.inr (p2.1, ())))

noncomputable def exact_digit (a0 : (List Int)) (a1 : (List Int)) : Option (Int × Unit) :=
  (exact_nat__compare a0 a1).bind fun v1 =>
  cond (decide (v1.1 < 0))
  (some (0, ()))
  ((loop (exact_digit_l1 a1 a0) (0, IntKind.i64.wrap ((a0.length : Int) - 1), ())).bind fun r4 =>
  (idx a1 (IntKind.i64.wrap ((a1.length : Int) - 1))).bind fun v5 =>
  (quo .u64 r4.1 (IntKind.u64.wrap ((IntKind.u64.wrap v5) + 1))).bind fun v6 =>
  (idx a1 (IntKind.i64.wrap ((a1.length : Int) - 1))).bind fun v7 =>
  (quo .u64 r4.1 (IntKind.u64.wrap v7)).bind fun v8 =>
  (loop (exact_digit_l2 a1 a0) (v6, mn v8 999999999, ())).bind fun r14 =>
  some (IntKind.u32.wrap r14.1, ()))

noncomputable def exact_nat_uint32_ (a0 : (List Int)) : Option (Unit × ((List Int) × Unit)) :=
  cond (List.isEmpty a0)
  (agree
  (some ((), [], ()))
  ((cat [] a0).bind fun v1 =>
  some ((), v1, ())))
  ((cat [] a0).bind fun v1 =>
  some ((), v1, ()))

noncomputable def exact_nat__minus_l1 (v1 : (Unit × ((List Int) × Unit))) (a1 : (List Int)) (p1 : (Unit × (Int × (Int × ((List Int) × Unit))))) : Option ((Unit × (Int × (Int × ((List Int) × Unit)))) ⊕ (Unit × ((List Int) × Unit))) :=
  cond (decide (p1.2.2.1 < (v1.2.1.length : Int)))
  ((cond (decide (p1.2.2.1 < (a1.length : Int)))
  ((idx a1 p1.2.2.1).bind fun v2 =>
  some ((), IntKind.u32.wrap (p1.2.1 + v2), p1.2.2.2.1, ()))
  (some ((), p1.2.1, p1.2.2.2.1, ())) : Option (Unit × (Int × ((List Int) × Unit)))).bind fun r3 =>
  ((chk (inb p1.2.2.1 r3.2.2.1.length)).bind fun _ =>
  cond (decide ((r3.2.2.1.getD p1.2.2.1.toNat 0) < r3.2.1))
  ((chk (inb p1.2.2.1 r3.2.2.1.length)).bind fun _ =>
  let v4 : Int := IntKind.u32.wrap ((r3.2.2.1.getD p1.2.2.1.toNat 0) + 1000000000)
  (chk (inb p1.2.2.1 r3.2.2.1.length)).bind fun _ =>
  let v5 : List Int := r3.2.2.1.set p1.2.2.1.toNat v4
  some ((), 1, v5, ()))
  (some ((), 0, r3.2.2.1, ())) : Option (Unit × (Int × ((List Int) × Unit)))).bind fun r6 =>
  (chk (inb p1.2.2.1 r6.2.2.1.length)).bind fun _ =>
  let v7 : Int := IntKind.u32.wrap ((r6.2.2.1.getD p1.2.2.1.toNat 0) - r3.2.1)
  (chk (inb p1.2.2.1 r6.2.2.1.length)).bind fun _ =>
  let v8 : List Int := r6.2.2.1.set p1.2.2.1.toNat v7
  some (.inl ((), r6.2.1, IntKind.i64.wrap (p1.2.2.1 + 1), v8, ())))
  (some (.inr ((), p1.2.2.2.1, ())))

noncomputable def exact_nat__minus (a0 : (List Int)) (a1 : (List Int)) : Option ((List Int) × Unit) :=
  (exact_nat_uint32_ a0).bind fun v1 =>
  (loop (exact_nat__minus_l1 v1 a1) ((), 0, 0, v1.2.1, ())).bind fun r9 =>
  (exact_nat__trim r9.2.1).bind fun v10 =>
  some v10

noncomputable def exact_divide_l1 (a0 : (List Int)) (a1 : (List Int)) (p1 : (Unit × ((List Int) × (Int × ((List Int) × Unit))))) : Option ((Unit × ((List Int) × (Int × ((List Int) × Unit)))) ⊕ (Unit × ((List Int) × ((List Int) × Unit)))) :=
  cond (decide (0 ≤ p1.2.2.1))
  ((idx a0 p1.2.2.1).bind fun v2 =>
  (cat [v2] p1.2.1).bind fun v3 =>
  (exact_nat__trim v3).bind fun v4 =>
  (exact_digit v4.1 a1).bind fun v5 =>
  (chk (inb p1.2.2.1 p1.2.2.2.1.length)).bind fun _ =>
  let v6 : List Int := p1.2.2.2.1.set p1.2.2.1.toNat v5.1
  (chk (inb p1.2.2.1 v6.length)).bind fun _ =>
  (exact_nat__trim [(v6.getD p1.2.2.1.toNat 0)]).bind fun v7 =>
  (exact_nat__times a1 v7.1).bind fun v8 =>
  (exact_nat__minus v4.1 v8.1).bind fun v9 =>
  some (.inl ((), v9.1, IntKind.i64.wrap (p1.2.2.1 - 1), v6, ())))
  (some (.inr ((), p1.2.1, p1.2.2.2.1, ())))

noncomputable def exact_divide (a0 : (List Int)) (a1 : (List Int)) : Option ((List Int) × ((List Int) × Unit)) :=
  (mk (a0.length : Int) (a0.length : Int) 0).bind fun v1 =>
  (loop (exact_divide_l1 a0 a1) ((), [], IntKind.i64.wrap ((a0.length : Int) - 1), v1, ())).bind fun r10 =>
  (exact_nat__trim r10.2.2.1).bind fun v11 =>
  some (v11.1, r10.2.1, ())

noncomputable def exact_common_l1 (p1 : ((List Int) × ((List Int) × Unit))) : Option (((List Int) × ((List Int) × Unit)) ⊕ ((List Int) × Unit)) :=
  (exact_nat__zero p1.2.1).bind fun v1 =>
  cond (!v1.1)
  ((exact_divide p1.1 p1.2.1).bind fun v2 =>
  some (.inl (p1.2.1, v2.2.1, ())))
  (some (.inr (p1.1, ())))

noncomputable def exact_common (a0 : (List Int)) (a1 : (List Int)) : Option ((List Int) × Unit) :=
  (loop exact_common_l1 (a0, a1, ())).bind fun r3 =>
  some r3

noncomputable def exact_nat__one (a0 : (List Int)) : Option (Bool × Unit) :=
  cond (decide ((a0.length : Int) = 1))
  ((idx a0 0).bind fun v1 =>
  some ((decide (v1 = 1)), ()))
  (some (false, ()))

noncomputable def exact_read (a0 : (Str × (Str × Unit))) : Option ((Bool × ((List Int) × ((List Int) × Unit))) × (Int × Unit)) :=
  (sCutPrefix (a0.1, [45], ())).bind fun v1 =>
  ((exact_digits v1.1).bind fun v2 =>
  cond (!v2.1)
  (some ((), (), true, a0, (false, ([], ([], ()))), ()))
  ((exact_digits a0.2.1).bind fun v3 =>
  cond ((!v3.1))
  (some ((), (), true, a0, (false, ([], ([], ()))), ()))
  (cond ((decide (a0.2.1 = [48])))
  (some ((), (), true, a0, (false, ([], ([], ()))), ()))
  (cond (decide (v1.1 = [48]))
  (some ((), (), (v1.2.1), a0, (false, ([], ([], ()))), ()))
  (some ((), (), false, a0, (false, ([], ([], ()))), ()))))) : Option (Unit × (Unit × (Bool × ((Str × (Str × Unit)) × ((Bool × ((List Int) × ((List Int) × Unit))) × Unit)))))).bind fun r4 =>
  cond r4.2.2.1
  (some ((false, ([], ([], ()))), 4, ()))
  ((cond (decide (300 < (v1.1.length : Int)))
  (some ((), (), true, r4.2.2.2.1, r4.2.2.2.2.1, ()))
  (let v5 : Bool := (decide (300 < (r4.2.2.2.1.2.1.length : Int)))
  some ((), (), v5, r4.2.2.2.1, r4.2.2.2.2.1, ())) : Option (Unit × (Unit × (Bool × ((Str × (Str × Unit)) × ((Bool × ((List Int) × ((List Int) × Unit))) × Unit)))))).bind fun r6 =>
  cond r6.2.2.1
  (some ((false, ([], ([], ()))), 3, ()))
  ((exact_parse v1.1).bind fun v7 =>
  (exact_parse r6.2.2.2.1.2.1).bind fun v8 =>
  (exact_common v7.1 v8.1).bind fun v9 =>
  (exact_nat__one v9.1).bind fun v10 =>
  cond (!v10.1)
  (some ((false, ([], ([], ()))), 4, ()))
  (some ((v1.2.1, (v7.1, v8)), 0, ()))))

noncomputable def exact_both (a0 : (Str × (Str × Unit))) (a1 : (Str × (Str × Unit))) : Option ((Bool × ((List Int) × ((List Int) × Unit))) × ((Bool × ((List Int) × ((List Int) × Unit))) × (Int × Unit))) :=
  (exact_read a0).bind fun v1 =>
  cond (!decide (v1.2.1 = 0))
  (some (v1.1, v1.1, v1.2.1, ()))
  ((exact_read a1).bind fun v2 =>
  some (v1.1, v2.1, v2.2.1, ()))

noncomputable def exact_nat__plus_l1 (a0 : (List Int)) (a1 : (List Int)) (p1 : (Unit × (Int × (Int × ((List Int) × Unit))))) : Option ((Unit × (Int × (Int × ((List Int) × Unit)))) ⊕ (Unit × ((List Int) × Unit))) :=
  (cond (decide (p1.2.2.1 < (a0.length : Int)))
  (some ((), true, p1.2.2.2.1, ()))
  (cond ((decide (p1.2.2.1 < (a1.length : Int))))
  (some ((), true, p1.2.2.2.1, ()))
  (some ((), (decide (0 < p1.2.1)), p1.2.2.2.1, ()))) : Option (Unit × (Bool × ((List Int) × Unit)))).bind fun r3 =>
  cond r3.2.1
  ((cond (decide (p1.2.2.1 < (a0.length : Int)))
  ((idx a0 p1.2.2.1).bind fun v4 =>
  some ((), IntKind.u32.wrap (p1.2.1 + v4), r3.2.2.1, ()))
  (some ((), p1.2.1, r3.2.2.1, ())) : Option (Unit × (Int × ((List Int) × Unit)))).bind fun r5 =>
  (cond (decide (p1.2.2.1 < (a1.length : Int)))
  ((idx a1 p1.2.2.1).bind fun v6 =>
  some ((), IntKind.u32.wrap (r5.2.1 + v6), r5.2.2.1, ()))
  (some ((), r5.2.1, r5.2.2.1, ())) : Option (Unit × (Int × ((List Int) × Unit)))).bind fun r7 =>
  (rem r7.2.1 1000000000).bind fun v8 =>
  (cat r7.2.2.1 [v8]).bind fun v9 =>
  (quo .u32 r7.2.1 1000000000).bind fun v10 =>
  some (.inl ((), v10, IntKind.i64.wrap (p1.2.2.1 + 1), v9, ())))
  (some (.inr ((), r3.2.2.1, ())))

noncomputable def exact_nat__plus (a0 : (List Int)) (a1 : (List Int)) : Option ((List Int) × Unit) :=
  let v1 : Int := IntKind.i64.wrap ((mx (a0.length : Int) (a1.length : Int)) + 1)
  (mk 0 v1 0).bind fun v2 =>
  (loop (exact_nat__plus_l1 a0 a1) ((), 0, 0, v2, ())).bind fun r11 =>
  some r11.2

noncomputable def exact_sum (a0 : (Bool × ((List Int) × ((List Int) × Unit)))) (a1 : (Bool × ((List Int) × ((List Int) × Unit)))) : Option ((Bool × ((List Int) × ((List Int) × Unit))) × Unit) :=
  (exact_nat__times a0.2.1 a1.2.2.1).bind fun v1 =>
  (exact_nat__times a1.2.1 a0.2.2.1).bind fun v2 =>
  (exact_nat__times a0.2.2.1 a1.2.2.1).bind fun v3 =>
  cond (a0.1 == a1.1)
  ((exact_nat__plus v1.1 v2.1).bind fun v4 =>
  some ((a0.1, (v4.1, v3)), ()))
  ((exact_nat__compare v1.1 v2.1).bind fun v5 =>
  cond (decide (0 ≤ v5.1))
  ((exact_nat__minus v1.1 v2.1).bind fun v6 =>
  some ((a0.1, (v6.1, v3)), ()))
  ((exact_nat__minus v2.1 v1.1).bind fun v7 =>
  some ((a1.1, (v7.1, v3)), ())))

noncomputable def exact_Add_1 (a0 : (Bool × ((List Int) × ((List Int) × Unit)))) (a1 : (Bool × ((List Int) × ((List Int) × Unit)))) : Option ((Bool × ((List Int) × ((List Int) × Unit))) × (Int × Unit)) :=
  (exact_sum a0 a1).bind fun v1 =>
  some (v1.1, 0, ())

noncomputable def exact_number__write (a0 : (Bool × ((List Int) × ((List Int) × Unit)))) : Option ((Str × (Str × Unit)) × (Int × Unit)) :=
  (exact_nat__zero a0.2.1).bind fun v1 =>
  cond v1.1
  (some (([48], ([49], ())), 0, ()))
  ((exact_common a0.2.1 a0.2.2.1).bind fun v2 =>
  (exact_divide a0.2.1 v2.1).bind fun v3 =>
  (exact_divide a0.2.2.1 v2.1).bind fun v4 =>
  (sNatText (v3.1, ())).bind fun v5 =>
  (sNatText (v4.1, ())).bind fun v6 =>
  (cond (decide (300 < (v5.1.length : Int)))
  (some ((), (), (), true, a0, ([], ([], ())), (v5.1, v6), ()))
  (some ((), (), (), (decide (300 < (v6.1.length : Int))), a0, ([], ([], ())), (v5.1, v6), ())) : Option (Unit × (Unit × (Unit × (Bool × ((Bool × ((List Int) × ((List Int) × Unit))) × ((Str × (Str × Unit)) × ((Str × (Str × Unit)) × Unit)))))))).bind fun r7 =>
  cond r7.2.2.2.1
  (some (([], ([], ())), 19, ()))
  ((cond r7.2.2.2.2.1.1
  ((cat [45] r7.2.2.2.2.2.2.1.1).bind fun v8 =>
  some ((), (), r7.2.2.2.2.2.1, (v8, r7.2.2.2.2.2.2.1.2), ()))
  (some ((), (), r7.2.2.2.2.2.1, r7.2.2.2.2.2.2.1, ())) : Option (Unit × (Unit × ((Str × (Str × Unit)) × ((Str × (Str × Unit)) × Unit))))).bind fun r9 =>
  some (r9.2.2.2.1, 0, ())))

noncomputable def exact_two_Add_1 (a0 : (Str × (Str × Unit))) (a1 : (Str × (Str × Unit))) : Option ((Str × (Str × Unit)) × (Int × Unit)) :=
  (exact_both a0 a1).bind fun v1 =>
  cond (!decide (v1.2.2.1 = 0))
  (some (([], ([], ())), v1.2.2.1, ()))
  ((exact_Add_1 v1.1 v1.2.1).bind fun v2 =>
  cond (!decide (v2.2.1 = 0))
  (some (([], ([], ())), v2.2.1, ()))
  ((exact_number__write v2.1).bind fun v3 =>
  some (v3.1, v3.2.1, ())))

noncomputable def exact_Add (a0 : (Str × (Str × Unit))) (a1 : (Str × (Str × Unit))) : Option ((Str × (Str × Unit)) × (Int × Unit)) :=
  (exact_two_Add_1 a0 a1).bind fun v1 =>
  some (v1.1, v1.2.1, ())

noncomputable def chancerylaw2_fractions : Option (Bool × Unit) :=
  (exact_Add ([49], [54], ()) ([49], [49, 48], ())).bind fun v1 =>
  cond (decide (v1.2.1 = 0))
  (let v2 : Bool := (Ty.beq (.pair .str (.pair .str .unit)) v1.1 ([52], [49, 53], ()))
  some (v2, ()))
  (some (false, ()))

noncomputable def exact_Sub_1 (a0 : (Bool × ((List Int) × ((List Int) × Unit)))) (a1 : (Bool × ((List Int) × ((List Int) × Unit)))) : Option ((Bool × ((List Int) × ((List Int) × Unit))) × (Int × Unit)) :=
  (exact_sum a0 (!a1.1, a1.2)).bind fun v1 =>
  some (v1.1, 0, ())

noncomputable def exact_two_Sub_1 (a0 : (Str × (Str × Unit))) (a1 : (Str × (Str × Unit))) : Option ((Str × (Str × Unit)) × (Int × Unit)) :=
  (exact_both a0 a1).bind fun v1 =>
  cond (!decide (v1.2.2.1 = 0))
  (some (([], ([], ())), v1.2.2.1, ()))
  ((exact_Sub_1 v1.1 v1.2.1).bind fun v2 =>
  cond (!decide (v2.2.1 = 0))
  (some (([], ([], ())), v2.2.1, ()))
  ((exact_number__write v2.1).bind fun v3 =>
  some (v3.1, v3.2.1, ())))

noncomputable def exact_Sub (a0 : (Str × (Str × Unit))) (a1 : (Str × (Str × Unit))) : Option ((Str × (Str × Unit)) × (Int × Unit)) :=
  (exact_two_Sub_1 a0 a1).bind fun v1 =>
  some (v1.1, v1.2.1, ())

noncomputable def exact_Mul_1 (a0 : (Bool × ((List Int) × ((List Int) × Unit)))) (a1 : (Bool × ((List Int) × ((List Int) × Unit)))) : Option ((Bool × ((List Int) × ((List Int) × Unit))) × (Int × Unit)) :=
  (exact_nat__times a0.2.1 a1.2.1).bind fun v1 =>
  (exact_nat__times a0.2.2.1 a1.2.2.1).bind fun v2 =>
  some ((!(a0.1 == a1.1), (v1.1, v2)), 0, ())

noncomputable def exact_two_Mul_1 (a0 : (Str × (Str × Unit))) (a1 : (Str × (Str × Unit))) : Option ((Str × (Str × Unit)) × (Int × Unit)) :=
  (exact_both a0 a1).bind fun v1 =>
  cond (!decide (v1.2.2.1 = 0))
  (some (([], ([], ())), v1.2.2.1, ()))
  ((exact_Mul_1 v1.1 v1.2.1).bind fun v2 =>
  cond (!decide (v2.2.1 = 0))
  (some (([], ([], ())), v2.2.1, ()))
  ((exact_number__write v2.1).bind fun v3 =>
  some (v3.1, v3.2.1, ())))

noncomputable def exact_Mul (a0 : (Str × (Str × Unit))) (a1 : (Str × (Str × Unit))) : Option ((Str × (Str × Unit)) × (Int × Unit)) :=
  (exact_two_Mul_1 a0 a1).bind fun v1 =>
  some (v1.1, v1.2.1, ())

noncomputable def exact_Div_1 (a0 : (Bool × ((List Int) × ((List Int) × Unit)))) (a1 : (Bool × ((List Int) × ((List Int) × Unit)))) : Option ((Bool × ((List Int) × ((List Int) × Unit))) × (Int × Unit)) :=
  (exact_nat__zero a1.2.1).bind fun v1 =>
  cond v1.1
  (some ((false, ([], ([], ()))), 1, ()))
  ((exact_nat__times a0.2.1 a1.2.2.1).bind fun v2 =>
  (exact_nat__times a0.2.2.1 a1.2.1).bind fun v3 =>
  some ((!(a0.1 == a1.1), (v2.1, v3)), 0, ()))

noncomputable def exact_two_Div_1 (a0 : (Str × (Str × Unit))) (a1 : (Str × (Str × Unit))) : Option ((Str × (Str × Unit)) × (Int × Unit)) :=
  (exact_both a0 a1).bind fun v1 =>
  cond (!decide (v1.2.2.1 = 0))
  (some (([], ([], ())), v1.2.2.1, ()))
  ((exact_Div_1 v1.1 v1.2.1).bind fun v2 =>
  cond (!decide (v2.2.1 = 0))
  (some (([], ([], ())), v2.2.1, ()))
  ((exact_number__write v2.1).bind fun v3 =>
  some (v3.1, v3.2.1, ())))

noncomputable def exact_Div (a0 : (Str × (Str × Unit))) (a1 : (Str × (Str × Unit))) : Option ((Str × (Str × Unit)) × (Int × Unit)) :=
  (exact_two_Div_1 a0 a1).bind fun v1 =>
  some (v1.1, v1.2.1, ())

noncomputable def exact_Compare (a0 : (Str × (Str × Unit))) (a1 : (Str × (Str × Unit))) : Option (Int × (Int × Unit)) :=
  (exact_both a0 a1).bind fun v1 =>
  cond (!decide (v1.2.2.1 = 0))
  (some (0, v1.2.2.1, ()))
  ((exact_sum v1.1 (!v1.2.1.1, v1.2.1.2)).bind fun v2 =>
  (exact_nat__zero v2.1.2.1).bind fun v3 =>
  cond v3.1
  (some (0, 0, ()))
  (cond v2.1.1
  (some ((-1), 0, ()))
  (some (1, 0, ()))))

noncomputable def exact_Neg (a0 : (Str × (Str × Unit))) : Option ((Str × (Str × Unit)) × (Int × Unit)) :=
  (exact_read a0).bind fun v1 =>
  cond (!decide (v1.2.1 = 0))
  (some (([], ([], ())), v1.2.1, ()))
  ((exact_number__write (!v1.1.1, v1.1.2)).bind fun v2 =>
  some (v2.1, v2.2.1, ()))

noncomputable def chanceryref2_Digits_l1 (a0 : Str) (p1 : (Int × Unit)) : Option ((Int × Unit) ⊕ (Unit ⊕ (Bool × Unit))) :=
  cond (decide (p1.1 < (a0.length : Int)))
  (((idx a0 p1.1).bind fun v1 =>
  cond (decide ((ofByte v1) < 48))
  (some (true, ()))
  ((idx a0 p1.1).bind fun v2 =>
  some ((decide (57 < (ofByte v2))), ())) : Option (Bool × Unit)).bind fun r3 =>
  cond r3.1
  (some (.inr (.inr (false, ()))))
  (some (.inl (IntKind.i64.wrap (p1.1 + 1), ()))))
  (some (.inr (.inl (()))))

noncomputable def chanceryref2_Digits (a0 : Str) : Option (Bool × Unit) :=
  (loop (chanceryref2_Digits_l1 a0) (0, ())).bind fun r4 =>
  (match r4 with
  | .inl _ => (cond (!decide (a0 = []))
  ((idx a0 0).bind fun v6 =>
  cond (!decide ((ofByte v6) = 48))
  (some (true, ()))
  (some (((decide (a0 = [48]))), ())))
  (some (false, ())))
  | .inr z7 => (some z7))

noncomputable def chanceryref2_Nat__trim_l1 (p1 : ((List Int) × Unit)) : Option (((List Int) × Unit) ⊕ ((List Int) × Unit)) :=
  (cond (decide (0 < (p1.1.length : Int)))
  ((idx p1.1 (IntKind.i64.wrap ((p1.1.length : Int) - 1))).bind fun v1 =>
  some ((decide (v1 = 0)), ()))
  (some (false, ())) : Option (Bool × Unit)).bind fun r2 =>
  cond r2.1
  ((cut p1.1 0 (IntKind.i64.wrap ((p1.1.length : Int) - 1))).bind fun v3 =>
  some (.inl (v3, ())))
  (some (.inr p1))

noncomputable def chanceryref2_Nat__trim (a0 : (List Int)) : Option ((List Int) × Unit) :=
  (loop chanceryref2_Nat__trim_l1 (a0, ())).bind fun r4 =>
  some r4

noncomputable def chanceryref2_NatOf_l1 (a0 : Str) (p1 : (Unit × (Int × ((List Int) × Unit)))) : Option ((Unit × (Int × ((List Int) × Unit))) ⊕ (Unit × ((List Int) × Unit))) :=
  cond (decide (0 ≤ p1.2.1))
  ((idx a0 p1.2.1).bind fun v1 =>
  (cat p1.2.2.1 [IntKind.i64.wrap (IntKind.u8.wrap ((ofByte v1) - 48))]).bind fun v2 =>
  some (.inl ((), IntKind.i64.wrap (p1.2.1 - 1), v2, ())))
  (some (.inr ((), p1.2.2.1, ())))

noncomputable def chanceryref2_NatOf (a0 : Str) : Option ((List Int) × Unit) :=
  (loop (chanceryref2_NatOf_l1 a0) ((), IntKind.i64.wrap ((a0.length : Int) - 1), [], ())).bind fun r3 =>
  (chanceryref2_Nat__trim r3.2.1).bind fun v4 =>
  some v4

noncomputable def chanceryref2_Nat__half_l1 (a0 : (List Int)) (p1 : (Unit × (Int × (Int × ((List Int) × Unit))))) : Option ((Unit × (Int × (Int × ((List Int) × Unit)))) ⊕ (Unit × ((List Int) × Unit))) :=
  cond (decide (0 ≤ p1.2.2.1))
  ((idx a0 p1.2.2.1).bind fun v2 =>
  (quo .i64 (IntKind.i64.wrap ((IntKind.i64.wrap (10 * p1.2.1)) + v2)) 2).bind fun v3 =>
  (chk (inb p1.2.2.1 p1.2.2.2.1.length)).bind fun _ =>
  let v4 : List Int := p1.2.2.2.1.set p1.2.2.1.toNat v3
  (rem (IntKind.i64.wrap ((IntKind.i64.wrap (10 * p1.2.1)) + v2)) 2).bind fun v5 =>
  some (.inl ((), v5, IntKind.i64.wrap (p1.2.2.1 - 1), v4, ())))
  (some (.inr ((), p1.2.2.2.1, ())))

noncomputable def chanceryref2_Nat__half (a0 : (List Int)) : Option ((List Int) × Unit) :=
  (mk (a0.length : Int) (a0.length : Int) 0).bind fun v1 =>
  (loop (chanceryref2_Nat__half_l1 a0) ((), 0, IntKind.i64.wrap ((a0.length : Int) - 1), v1, ())).bind fun r6 =>
  (chanceryref2_Nat__trim r6.2.1).bind fun v7 =>
  some v7

noncomputable def chanceryref2_Nat__Compare_l1 (a0 : (List Int)) (a1 : (List Int)) (p1 : (Int × Unit)) : Option ((Int × Unit) ⊕ (Unit ⊕ (Int × Unit))) :=
  cond (decide (0 ≤ p1.1))
  ((idx a0 p1.1).bind fun v1 =>
  (idx a1 p1.1).bind fun v2 =>
  cond (decide (v1 < v2))
  (some (.inr (.inr ((-1), ()))))
  ((idx a0 p1.1).bind fun v3 =>
  (idx a1 p1.1).bind fun v4 =>
  cond (decide (v4 < v3))
  (some (.inr (.inr (1, ()))))
  (some (.inl (IntKind.i64.wrap (p1.1 - 1), ())))))
  (some (.inr (.inl (()))))

noncomputable def chanceryref2_Nat__Compare (a0 : (List Int)) (a1 : (List Int)) : Option (Int × Unit) :=
  cond (!decide ((a0.length : Int) = (a1.length : Int)))
  (cond (decide ((a0.length : Int) < (a1.length : Int)))
  (some ((-1), ()))
  (some (1, ())))
  ((loop (chanceryref2_Nat__Compare_l1 a0 a1) (IntKind.i64.wrap ((a0.length : Int) - 1), ())).bind fun r5 =>
  (match r5 with
  | .inl _ => (some (0, ()))
  | .inr z7 => (some z7)))

noncomputable def chanceryref2_digitAt (a0 : (List Int)) (a1 : Int) : Option (Int × Unit) :=
  cond (decide (a1 < (a0.length : Int)))
  ((idx a0 a1).bind fun v1 =>
  some (v1, ()))
  (some (0, ()))

noncomputable def chanceryref2_Nat__Less_l1 (a0 : (List Int)) (a1 : (List Int)) (p1 : (Unit × (Int × (Int × ((List Int) × Unit))))) : Option ((Unit × (Int × (Int × ((List Int) × Unit)))) ⊕ (Unit × ((List Int) × Unit))) :=
  cond (decide (p1.2.2.1 < (a0.length : Int)))
  ((idx a0 p1.2.2.1).bind fun v1 =>
  (chanceryref2_digitAt a1 p1.2.2.1).bind fun v2 =>
  let v3 : Int := IntKind.i64.wrap ((IntKind.i64.wrap (v1 - v2.1)) - p1.2.1)
  (cond (decide (v3 < 0))
  (some ((), 1, IntKind.i64.wrap (v3 + 10), p1.2.2.2.1, ()))
  (some ((), 0, v3, p1.2.2.2.1, ())) : Option (Unit × (Int × (Int × ((List Int) × Unit))))).bind fun r4 =>
  (cat r4.2.2.2.1 [r4.2.2.1]).bind fun v5 =>
  some (.inl ((), r4.2.1, IntKind.i64.wrap (p1.2.2.1 + 1), v5, ())))
  (some (.inr ((), p1.2.2.2.1, ())))

noncomputable def chanceryref2_Nat__Less (a0 : (List Int)) (a1 : (List Int)) : Option ((List Int) × Unit) :=
  (loop (chanceryref2_Nat__Less_l1 a0 a1) ((), 0, 0, [], ())).bind fun r6 =>
  (chanceryref2_Nat__trim r6.2.1).bind fun v7 =>
  some v7

noncomputable def chanceryref2_Nat__Plus_l1 (a0 : (List Int)) (a1 : (List Int)) (p1 : (Unit × (Int × (Int × ((List Int) × Unit))))) : Option ((Unit × (Int × (Int × ((List Int) × Unit)))) ⊕ (Unit × ((List Int) × Unit))) :=
  (cond (decide (p1.2.2.1 < (a0.length : Int)))
  (some ((), true, p1.2.2.2.1, ()))
  (cond ((decide (p1.2.2.1 < (a1.length : Int))))
  (some ((), true, p1.2.2.2.1, ()))
  (some ((), (decide (0 < p1.2.1)), p1.2.2.2.1, ()))) : Option (Unit × (Bool × ((List Int) × Unit)))).bind fun r1 =>
  cond r1.2.1
  ((chanceryref2_digitAt a0 p1.2.2.1).bind fun v2 =>
  (chanceryref2_digitAt a1 p1.2.2.1).bind fun v3 =>
  let v4 : Int := IntKind.i64.wrap ((IntKind.i64.wrap (v2.1 + v3.1)) + p1.2.1)
  (rem v4 10).bind fun v5 =>
  (cat r1.2.2.1 [v5]).bind fun v6 =>
  (quo .i64 v4 10).bind fun v7 =>
  some (.inl ((), v7, IntKind.i64.wrap (p1.2.2.1 + 1), v6, ())))
  (some (.inr ((), r1.2.2.1, ())))

noncomputable def chanceryref2_Nat__Plus (a0 : (List Int)) (a1 : (List Int)) : Option ((List Int) × Unit) :=
  (loop (chanceryref2_Nat__Plus_l1 a0 a1) ((), 0, 0, [], ())).bind fun r8 =>
  some r8.2

noncomputable def chanceryref2_Gcd_l1 (p1 : ((List Int) × ((List Int) × (Int × Unit)))) : Option (((List Int) × ((List Int) × (Int × Unit))) ⊕ ((List Int) × ((List Int) × (Int × Unit)))) :=
  ((idx p1.1 0).bind fun v1 =>
  (rem v1 2).bind fun v2 =>
  cond (decide (v2 = 0))
  ((idx p1.2.1 0).bind fun v3 =>
  (rem v3 2).bind fun v4 =>
  some ((decide (v4 = 0)), ()))
  (some (false, ())) : Option (Bool × Unit)).bind fun r5 =>
  cond r5.1
  ((chanceryref2_Nat__half p1.1).bind fun v6 =>
  (chanceryref2_Nat__half p1.2.1).bind fun v7 =>
  some (.inl (v6.1, v7.1, IntKind.i64.wrap (p1.2.2.1 + 1), ())))
  (some (.inr p1))

noncomputable def chanceryref2_Gcd_l2 (p2 : ((List Int) × Unit)) : Option (((List Int) × Unit) ⊕ ((List Int) × Unit)) :=
  (cond (decide (0 < (p2.1.length : Int)))
  ((idx p2.1 0).bind fun v9 =>
  (rem v9 2).bind fun v10 =>
  some ((decide (v10 = 0)), ()))
  (some (false, ())) : Option (Bool × Unit)).bind fun r11 =>
  cond r11.1
  ((chanceryref2_Nat__half p2.1).bind fun v12 =>
  some (.inl v12))
  (some (.inr p2))

noncomputable def chanceryref2_Gcd_l3 (p3 : ((List Int) × Unit)) : Option (((List Int) × Unit) ⊕ ((List Int) × Unit)) :=
  (idx p3.1 0).bind fun v14 =>
  (rem v14 2).bind fun v15 =>
  cond (decide (v15 = 0))
  ((chanceryref2_Nat__half p3.1).bind fun v16 =>
  some (.inl v16))
  (some (.inr p3))

noncomputable def chanceryref2_Gcd_l4 (p4 : ((List Int) × ((List Int) × Unit))) : Option (((List Int) × ((List Int) × Unit)) ⊕ ((List Int) × Unit)) :=
  cond (decide (0 < (p4.1.length : Int)))
  ((loop chanceryref2_Gcd_l2 (p4.1, ())).bind fun r13 =>
  (loop chanceryref2_Gcd_l3 p4.2).bind fun r17 =>
  ((chanceryref2_Nat__Compare r13.1 r17.1).bind fun v18 =>
  cond (decide (v18.1 < 0))
  (some (r17.1, r13.1, ()))
  (some (r13.1, r17.1, ())) : Option ((List Int) × ((List Int) × Unit))).bind fun r19 =>
  (chanceryref2_Nat__Less r19.1 r19.2.1).bind fun v20 =>
  some (.inl (v20.1, r19.2.1, ())))
  (some (.inr p4.2))

noncomputable def chanceryref2_Gcd_l5 (r8 : ((List Int) × ((List Int) × (Int × Unit)))) (p5 : ((List Int) × (Int × Unit))) : Option (((List Int) × (Int × Unit)) ⊕ ((List Int) × Unit)) :=
  cond (decide (p5.2.1 < r8.2.2.1))
  ((chanceryref2_Nat__Plus p5.1 p5.1).bind fun v22 =>
  some (.inl (v22.1, IntKind.i64.wrap (p5.2.1 + 1), ())))
  (some (.inr (p5.1, ())))

noncomputable def chanceryref2_Gcd (a0 : (List Int)) (a1 : (List Int)) : Option ((List Int) × Unit) :=
  cond (decide ((a0.length : Int) = 0))
  (some (a1, ()))
  (cond (decide ((a1.length : Int) = 0))
  (some (a0, ()))
  ((loop chanceryref2_Gcd_l1 (a0, a1, 0, ())).bind fun r8 =>
  (loop chanceryref2_Gcd_l4 (r8.1, r8.2.1, ())).bind fun r21 =>
  (loop (chanceryref2_Gcd_l5 r8) (r21.1, 0, ())).bind fun r23 =>
  some r23))

noncomputable def chanceryref2_Nat__Text_l1 (a0 : (List Int)) (p1 : (Unit × (Int × ((List Int) × Unit)))) : Option ((Unit × (Int × ((List Int) × Unit))) ⊕ (Unit × ((List Int) × Unit))) :=
  cond (decide (0 ≤ p1.2.1))
  ((idx a0 p1.2.1).bind fun v1 =>
  (cat p1.2.2.1 [IntKind.u8.wrap (IntKind.i64.wrap (48 + v1))]).bind fun v2 =>
  some (.inl ((), IntKind.i64.wrap (p1.2.1 - 1), v2, ())))
  (some (.inr ((), p1.2.2.1, ())))

noncomputable def chanceryref2_Nat__Text (a0 : (List Int)) : Option (Str × Unit) :=
  cond (decide ((a0.length : Int) = 0))
  (some ([48], ()))
  ((loop (chanceryref2_Nat__Text_l1 a0) ((), IntKind.i64.wrap ((a0.length : Int) - 1), [], ())).bind fun r3 =>
  some (bytesStr r3.2.1, ()))

noncomputable def chanceryref2_FracError (a0 : (Str × (Str × Unit))) : Option (Int × Unit) :=
  ((cond (!decide (a0.1 = []))
  ((idx a0.1 0).bind fun v1 =>
  some ((), (decide ((ofByte v1) = 45)), a0, ()))
  (some ((), false, a0, ())) : Option (Unit × (Bool × ((Str × (Str × Unit)) × Unit)))).bind fun r2 =>
  cond r2.2.1
  ((cut a0.1 1 (a0.1.length : Int)).bind fun v3 =>
  some ((), v3, true, r2.2.2.1, ()))
  (some ((), a0.1, false, r2.2.2.1, ())) : Option (Unit × (Str × (Bool × ((Str × (Str × Unit)) × Unit))))).bind fun r4 =>
  ((chanceryref2_Digits r4.2.1).bind fun v5 =>
  cond (!v5.1)
  (some ((), true, r4.2.2.2.1, ()))
  ((chanceryref2_Digits r4.2.2.2.1.2.1).bind fun v6 =>
  cond ((!v6.1))
  (some ((), true, r4.2.2.2.1, ()))
  (cond ((decide (r4.2.2.2.1.2.1 = [48])))
  (some ((), true, r4.2.2.2.1, ()))
  (cond r4.2.2.1
  (some ((), ((decide (r4.2.1 = [48]))), r4.2.2.2.1, ()))
  (some ((), false, r4.2.2.2.1, ()))))) : Option (Unit × (Bool × ((Str × (Str × Unit)) × Unit)))).bind fun r7 =>
  cond r7.2.1
  (some (4, ()))
  ((cond (decide (300 < (r4.2.1.length : Int)))
  (some ((), true, r7.2.2.1, ()))
  (some ((), (decide (300 < (r7.2.2.1.2.1.length : Int))), r7.2.2.1, ())) : Option (Unit × (Bool × ((Str × (Str × Unit)) × Unit)))).bind fun r8 =>
  cond r8.2.1
  (some (3, ()))
  ((chanceryref2_NatOf r4.2.1).bind fun v9 =>
  (chanceryref2_NatOf r8.2.2.1.2.1).bind fun v10 =>
  (chanceryref2_Gcd v9.1 v10.1).bind fun v11 =>
  (chanceryref2_Nat__Text v11.1).bind fun v12 =>
  cond (!decide (v12.1 = [49]))
  (some (4, ()))
  (some (0, ()))))

noncomputable def exact_Check (a0 : (Str × (Str × Unit))) : Option (Int × Unit) :=
  (exact_read a0).bind fun v1 =>
  some v1.2

noncomputable def chancerylaw2_both (a0 : (Str × (Str × Unit))) (a1 : (Str × (Str × Unit))) : Option (Int × Unit) :=
  (chanceryref2_FracError a0).bind fun v1 =>
  cond (!decide (v1.1 = 0))
  (some v1)
  ((chanceryref2_FracError a1).bind fun v2 =>
  some v2)

noncomputable def chanceryref2_RatOf (a0 : (Str × (Str × Unit))) : Option ((Bool × ((List Int) × ((List Int) × Unit))) × Unit) :=
  (idx a0.1 0).bind fun v1 =>
  cond (decide ((ofByte v1) = 45))
  ((cut a0.1 1 (a0.1.length : Int)).bind fun v2 =>
  (chanceryref2_NatOf v2).bind fun v3 =>
  (chanceryref2_NatOf a0.2.1).bind fun v4 =>
  some ((true, (v3.1, v4)), ()))
  ((chanceryref2_NatOf a0.1).bind fun v5 =>
  (chanceryref2_NatOf a0.2.1).bind fun v6 =>
  some ((false, (v5.1, v6)), ()))

noncomputable def chanceryref2_Rat__Sign (a0 : (Bool × ((List Int) × ((List Int) × Unit)))) : Option (Int × Unit) :=
  cond (decide ((a0.2.1.length : Int) = 0))
  (some (0, ()))
  (cond a0.1
  (some ((-1), ()))
  (some (1, ())))

noncomputable def chanceryref2_Rat__Inverse (a0 : (Bool × ((List Int) × ((List Int) × Unit)))) : Option ((Bool × ((List Int) × ((List Int) × Unit))) × Unit) :=
  some ((a0.1, (a0.2.2.1, (a0.2.1, ()))), ())

noncomputable def chanceryref2_Nat__Times_l1 (a1 : (List Int)) (p3 : (Unit × (Int × ((List Int) × Unit)))) (a0 : (List Int)) (p1 : (Unit × (Int × ((List Int) × Unit)))) : Option ((Unit × (Int × ((List Int) × Unit))) ⊕ (Unit × ((List Int) × Unit))) :=
  cond (decide (p1.2.1 < (a1.length : Int)))
  ((chk (inb (IntKind.i64.wrap (p3.2.1 + p1.2.1)) p1.2.2.1.length)).bind fun _ =>
  let v2 : Int := (p1.2.2.1.getD (IntKind.i64.wrap (p3.2.1 + p1.2.1)).toNat 0)
  (idx a0 p3.2.1).bind fun v3 =>
  (idx a1 p1.2.1).bind fun v4 =>
  (chk (inb (IntKind.i64.wrap (p3.2.1 + p1.2.1)) p1.2.2.1.length)).bind fun _ =>
  let v5 : List Int := p1.2.2.1.set (IntKind.i64.wrap (p3.2.1 + p1.2.1)).toNat (IntKind.i64.wrap (v2 + (IntKind.i64.wrap (v3 * v4))))
  some (.inl ((), IntKind.i64.wrap (p1.2.1 + 1), v5, ())))
  (some (.inr ((), p1.2.2.1, ())))

noncomputable def chanceryref2_Nat__Times_l2 (p2 : (Unit × (Int × (Int × ((List Int) × Unit))))) : Option ((Unit × (Int × (Int × ((List Int) × Unit)))) ⊕ (Unit × ((List Int) × Unit))) :=
  cond (decide (p2.2.2.1 < (p2.2.2.2.1.length : Int)))
  ((chk (inb p2.2.2.1 p2.2.2.2.1.length)).bind fun _ =>
  let v7 : Int := IntKind.i64.wrap ((p2.2.2.2.1.getD p2.2.2.1.toNat 0) + p2.2.1)
  (rem v7 10).bind fun v8 =>
  (chk (inb p2.2.2.1 p2.2.2.2.1.length)).bind fun _ =>
  let v9 : List Int := p2.2.2.2.1.set p2.2.2.1.toNat v8
  (quo .i64 v7 10).bind fun v10 =>
  some (.inl ((), v10, IntKind.i64.wrap (p2.2.2.1 + 1), v9, ())))
  (some (.inr ((), p2.2.2.2.1, ())))

noncomputable def chanceryref2_Nat__Times_l3 (a0 : (List Int)) (a1 : (List Int)) (p3 : (Unit × (Int × ((List Int) × Unit)))) : Option ((Unit × (Int × ((List Int) × Unit))) ⊕ (Unit × ((List Int) × Unit))) :=
  cond (decide (p3.2.1 < (a0.length : Int)))
  ((loop (chanceryref2_Nat__Times_l1 a1 p3 a0) ((), 0, p3.2.2.1, ())).bind fun r6 =>
  (loop chanceryref2_Nat__Times_l2 ((), 0, p3.2.1, r6.2.1, ())).bind fun r11 =>
  some (.inl ((), IntKind.i64.wrap (p3.2.1 + 1), r11.2.1, ())))
  (some (.inr ((), p3.2.2.1, ())))

noncomputable def chanceryref2_Nat__Times (a0 : (List Int)) (a1 : (List Int)) : Option ((List Int) × Unit) :=
  (mk (IntKind.i64.wrap ((a0.length : Int) + (a1.length : Int))) (IntKind.i64.wrap ((a0.length : Int) + (a1.length : Int))) 0).bind fun v1 =>
  (loop (chanceryref2_Nat__Times_l3 a0 a1) ((), 0, v1, ())).bind fun r12 =>
  (chanceryref2_Nat__trim r12.2.1).bind fun v13 =>
  some v13

noncomputable def chanceryref2_Rat__Mul (a0 : (Bool × ((List Int) × ((List Int) × Unit)))) (a1 : (Bool × ((List Int) × ((List Int) × Unit)))) : Option ((Bool × ((List Int) × ((List Int) × Unit))) × Unit) :=
  (chanceryref2_Nat__Times a0.2.1 a1.2.1).bind fun v1 =>
  (chanceryref2_Nat__Times a0.2.2.1 a1.2.2.1).bind fun v2 =>
  some ((!(a0.1 == a1.1), (v1.1, v2)), ())

noncomputable def chanceryref2_Nat__Divide_l1 (a1 : (List Int)) (p2 : (Unit × ((List Int) × (Int × ((List Int) × Unit))))) (p1 : (Unit × ((List Int) × ((List Int) × Unit)))) : Option ((Unit × ((List Int) × ((List Int) × Unit))) ⊕ (Unit × ((List Int) × ((List Int) × Unit)))) :=
  (chanceryref2_Nat__Compare p1.2.1 a1).bind fun v5 =>
  cond (decide (0 ≤ v5.1))
  ((chanceryref2_Nat__Less p1.2.1 a1).bind fun v6 =>
  (chk (inb p2.2.2.1 p1.2.2.1.length)).bind fun _ =>
  let v7 : Int := IntKind.i64.wrap ((p1.2.2.1.getD p2.2.2.1.toNat 0) + 1)
  (chk (inb p2.2.2.1 p1.2.2.1.length)).bind fun _ =>
  let v8 : List Int := p1.2.2.1.set p2.2.2.1.toNat v7
  some (.inl ((), v6.1, v8, ())))
  (some (.inr ((), p1.2.1, p1.2.2.1, ())))

noncomputable def chanceryref2_Nat__Divide_l2 (a0 : (List Int)) (a1 : (List Int)) (p2 : (Unit × ((List Int) × (Int × ((List Int) × Unit))))) : Option ((Unit × ((List Int) × (Int × ((List Int) × Unit)))) ⊕ (Unit × ((List Int) × ((List Int) × Unit)))) :=
  cond (decide (0 ≤ p2.2.2.1))
  ((idx a0 p2.2.2.1).bind fun v2 =>
  (cat [v2] p2.2.1).bind fun v3 =>
  (chanceryref2_Nat__trim v3).bind fun v4 =>
  (loop (chanceryref2_Nat__Divide_l1 a1 p2) ((), v4.1, p2.2.2.2.1, ())).bind fun r9 =>
  some (.inl ((), r9.2.1, IntKind.i64.wrap (p2.2.2.1 - 1), r9.2.2.1, ())))
  (some (.inr ((), p2.2.1, p2.2.2.2.1, ())))

noncomputable def chanceryref2_Nat__Divide (a0 : (List Int)) (a1 : (List Int)) : Option ((List Int) × ((List Int) × Unit)) :=
  (mk (a0.length : Int) (a0.length : Int) 0).bind fun v1 =>
  (loop (chanceryref2_Nat__Divide_l2 a0 a1) ((), [], IntKind.i64.wrap ((a0.length : Int) - 1), v1, ())).bind fun r10 =>
  (chanceryref2_Nat__trim r10.2.2.1).bind fun v11 =>
  some (v11.1, r10.2.1, ())

noncomputable def chanceryref2_Rat__Frac (a0 : (Bool × ((List Int) × ((List Int) × Unit)))) : Option ((Str × (Str × Unit)) × (Int × Unit)) :=
  cond (decide ((a0.2.1.length : Int) = 0))
  (some (([48], ([49], ())), 0, ()))
  ((chanceryref2_Gcd a0.2.1 a0.2.2.1).bind fun v1 =>
  (chanceryref2_Nat__Divide a0.2.1 v1.1).bind fun v2 =>
  (chanceryref2_Nat__Divide a0.2.2.1 v1.1).bind fun v3 =>
  (cond (decide (300 < (v2.1.length : Int)))
  (some ((), (), true, a0, ([], ([], ())), ()))
  (some ((), (), (decide (300 < (v3.1.length : Int))), a0, ([], ([], ())), ())) : Option (Unit × (Unit × (Bool × ((Bool × ((List Int) × ((List Int) × Unit))) × ((Str × (Str × Unit)) × Unit)))))).bind fun r4 =>
  cond r4.2.2.1
  (some (([], ([], ())), 19, ()))
  ((chanceryref2_Nat__Text v2.1).bind fun v5 =>
  (chanceryref2_Nat__Text v3.1).bind fun v6 =>
  (cond r4.2.2.2.1.1
  ((cat [45] v5.1).bind fun v7 =>
  some ((), (), r4.2.2.2.2.1, (v7, v6), ()))
  (some ((), (), r4.2.2.2.2.1, (v5.1, v6), ())) : Option (Unit × (Unit × ((Str × (Str × Unit)) × ((Str × (Str × Unit)) × Unit))))).bind fun r8 =>
  some (r8.2.2.2.1, 0, ())))

noncomputable def chancerylaw2_frac (a0 : (Str × (Str × Unit))) (a1 : Int) (a2 : (Bool × ((List Int) × ((List Int) × Unit)))) : Option (Bool × Unit) :=
  (chanceryref2_Rat__Frac a2).bind fun v1 =>
  cond (Ty.beq (.pair .str (.pair .str .unit)) a0 v1.1)
  (some ((decide (a1 = v1.2.1)), ()))
  (some (false, ()))

noncomputable def chanceryref2_Rat__Add (a0 : (Bool × ((List Int) × ((List Int) × Unit)))) (a1 : (Bool × ((List Int) × ((List Int) × Unit)))) : Option ((Bool × ((List Int) × ((List Int) × Unit))) × Unit) :=
  (chanceryref2_Nat__Times a0.2.1 a1.2.2.1).bind fun v1 =>
  (chanceryref2_Nat__Times a1.2.1 a0.2.2.1).bind fun v2 =>
  (chanceryref2_Nat__Times a0.2.2.1 a1.2.2.1).bind fun v3 =>
  (cond (a0.1 == a1.1)
  ((chanceryref2_Nat__Plus v1.1 v2.1).bind fun v4 =>
  some ((), (), (false, ([], ([], ()))), (a0.1, (v4.1, v3)), ()))
  ((chanceryref2_Nat__Compare v1.1 v2.1).bind fun v5 =>
  cond (decide (0 ≤ v5.1))
  ((chanceryref2_Nat__Less v1.1 v2.1).bind fun v6 =>
  some ((), (), (false, ([], ([], ()))), (a0.1, (v6.1, v3)), ()))
  ((chanceryref2_Nat__Less v2.1 v1.1).bind fun v7 =>
  some ((), (), (false, ([], ([], ()))), (a1.1, (v7.1, v3)), ()))) : Option (Unit × (Unit × ((Bool × ((List Int) × ((List Int) × Unit))) × ((Bool × ((List Int) × ((List Int) × Unit))) × Unit))))).bind fun r8 =>
  some (r8.2.2.2.1, ())

noncomputable def chanceryref2_Rat__Negative (a0 : (Bool × ((List Int) × ((List Int) × Unit)))) : Option ((Bool × ((List Int) × ((List Int) × Unit))) × Unit) :=
  some ((!a0.1, a0.2), ())

noncomputable def chanceryref2_Rat__Cmp (a0 : (Bool × ((List Int) × ((List Int) × Unit)))) (a1 : (Bool × ((List Int) × ((List Int) × Unit)))) : Option (Int × Unit) :=
  (chanceryref2_Rat__Negative a1).bind fun v1 =>
  (chanceryref2_Rat__Add a0 v1.1).bind fun v2 =>
  (chanceryref2_Rat__Sign v2.1).bind fun v3 =>
  some v3

noncomputable def chancerylaw2_ExactOperationsMatch (a0 : (Str × (Str × Unit))) (a1 : (Str × (Str × Unit))) : Option (Bool × Unit) :=
  (chancerylaw2_fractions).bind fun v1 =>
  cond (!v1.1)
  (some (false, ()))
  ((exact_Add a0 a1).bind fun v2 =>
  (exact_Sub a0 a1).bind fun v3 =>
  (exact_Mul a0 a1).bind fun v4 =>
  (exact_Div a0 a1).bind fun v5 =>
  (exact_Compare a0 a1).bind fun v6 =>
  (exact_Neg a0).bind fun v7 =>
  (chanceryref2_FracError a0).bind fun v8 =>
  ((exact_Check a0).bind fun v9 =>
  cond (!decide (v9.1 = v8.1))
  (some ((), (), (), (), (), (), (), true, a0, a1, v2.1, v3.1, v4.1, v5.1, v7.1, ()))
  (cond (!decide (v8.1 = 0))
  (cond (!decide (v7.2.1 = v8.1))
  (some ((), (), (), (), (), (), (), (true), a0, a1, v2.1, v3.1, v4.1, v5.1, v7.1, ()))
  (let v10 : Bool := (!Ty.beq (.pair .str (.pair .str .unit)) v7.1 ([], [], ()))
  some ((), (), (), (), (), (), (), (v10), a0, a1, v2.1, v3.1, v4.1, v5.1, v7.1, ())))
  (some ((), (), (), (), (), (), (), false, a0, a1, v2.1, v3.1, v4.1, v5.1, v7.1, ()))) : Option (Unit × (Unit × (Unit × (Unit × (Unit × (Unit × (Unit × (Bool × ((Str × (Str × Unit)) × ((Str × (Str × Unit)) × ((Str × (Str × Unit)) × ((Str × (Str × Unit)) × ((Str × (Str × Unit)) × ((Str × (Str × Unit)) × ((Str × (Str × Unit)) × Unit)))))))))))))))).bind fun r11 =>
  cond r11.2.2.2.2.2.2.2.1
  (some (false, ()))
  (let v12 : (Str × (Str × Unit)) := r11.2.2.2.2.2.2.2.2.2.1
  (chancerylaw2_both r11.2.2.2.2.2.2.2.2.1 v12).bind fun v13 =>
  cond (!decide (v13.1 = 0))
  (cond (decide (v2.2.1 = v13.1))
  (cond ((decide (v3.2.1 = v13.1)))
  (cond ((decide (v4.2.1 = v13.1)))
  (cond ((decide (v5.2.1 = v13.1)))
  (cond ((decide (v6.2.1 = v13.1)))
  (cond ((decide (v6.1 = 0)))
  (let v14 : (Str × (Str × Unit)) := r11.2.2.2.2.2.2.2.2.2.2.1
  let v15 : Bool := (Ty.beq (.pair .str (.pair .str .unit)) v14 ([], [], ()))
  cond v15
  (let v16 : (Str × (Str × Unit)) := r11.2.2.2.2.2.2.2.2.2.2.2.1
  let v17 : Bool := (Ty.beq (.pair .str (.pair .str .unit)) v16 ([], [], ()))
  cond v17
  (let v18 : (Str × (Str × Unit)) := r11.2.2.2.2.2.2.2.2.2.2.2.2.1
  let v19 : Bool := (Ty.beq (.pair .str (.pair .str .unit)) v18 ([], [], ()))
  cond v19
  (let v20 : (Str × (Str × Unit)) := r11.2.2.2.2.2.2.2.2.2.2.2.2.2.1
  let v21 : Bool := (Ty.beq (.pair .str (.pair .str .unit)) v20 ([], [], ()))
  some (v21, ()))
  (some (false, ())))
  (some (false, ())))
  (some (false, ())))
  (some (false, ())))
  (some (false, ())))
  (some (false, ())))
  (some (false, ())))
  (some (false, ())))
  (some (false, ())))
  ((chanceryref2_RatOf r11.2.2.2.2.2.2.2.2.1).bind fun v22 =>
  let v23 : (Str × (Str × Unit)) := r11.2.2.2.2.2.2.2.2.2.1
  (chanceryref2_RatOf v23).bind fun v24 =>
  ((chanceryref2_Rat__Sign v24.1).bind fun v25 =>
  cond (decide (v25.1 = 0))
  ((let v26 : (Str × (Str × Unit)) := r11.2.2.2.2.2.2.2.2.2.2.2.2.2.1
  cond (!Ty.beq (.pair .str (.pair .str .unit)) v26 ([], [], ()))
  (some ((), (), (), (), (), (), true, r11.2.2.2.2.2.2.2.2.2.2.1, r11.2.2.2.2.2.2.2.2.2.2.2.1, r11.2.2.2.2.2.2.2.2.2.2.2.2.1, r11.2.2.2.2.2.2.2.2.2.2.2.2.2.2.1, v22.1, v24.1, ()))
  (some ((), (), (), (), (), (), (!decide (v5.2.1 = 1)), r11.2.2.2.2.2.2.2.2.2.2.1, r11.2.2.2.2.2.2.2.2.2.2.2.1, r11.2.2.2.2.2.2.2.2.2.2.2.2.1, r11.2.2.2.2.2.2.2.2.2.2.2.2.2.2.1, v22.1, v24.1, ())) : Option (Unit × (Unit × (Unit × (Unit × (Unit × (Unit × (Bool × ((Str × (Str × Unit)) × ((Str × (Str × Unit)) × ((Str × (Str × Unit)) × ((Str × (Str × Unit)) × ((Bool × ((List Int) × ((List Int) × Unit))) × ((Bool × ((List Int) × ((List Int) × Unit))) × Unit)))))))))))))).bind fun r27 =>
  cond r27.2.2.2.2.2.2.1
  (some (.inr (false, ())))
  (some (.inl ((), (), (), (), (), (), r27.2.2.2.2.2.2.2.1, r27.2.2.2.2.2.2.2.2.1, r27.2.2.2.2.2.2.2.2.2.1, r27.2.2.2.2.2.2.2.2.2.2.1, r27.2.2.2.2.2.2.2.2.2.2.2.1, r27.2.2.2.2.2.2.2.2.2.2.2.2.1, ()))))
  (let v28 : (Str × (Str × Unit)) := r11.2.2.2.2.2.2.2.2.2.2.2.2.2.1
  (chanceryref2_Rat__Inverse v24.1).bind fun v29 =>
  (chanceryref2_Rat__Mul v22.1 v29.1).bind fun v30 =>
  (chancerylaw2_frac v28 v5.2.1 v30.1).bind fun v31 =>
  cond (!v31.1)
  (some (.inr (false, ())))
  (some (.inl ((), (), (), (), (), (), r11.2.2.2.2.2.2.2.2.2.2.1, r11.2.2.2.2.2.2.2.2.2.2.2.1, r11.2.2.2.2.2.2.2.2.2.2.2.2.1, r11.2.2.2.2.2.2.2.2.2.2.2.2.2.2.1, v22.1, v24.1, ())))) : Option ((Unit × (Unit × (Unit × (Unit × (Unit × (Unit × ((Str × (Str × Unit)) × ((Str × (Str × Unit)) × ((Str × (Str × Unit)) × ((Str × (Str × Unit)) × ((Bool × ((List Int) × ((List Int) × Unit))) × ((Bool × ((List Int) × ((List Int) × Unit))) × Unit)))))))))))) ⊕ (Bool × Unit))).bind fun r32 =>
  (match r32 with
  | .inl z33 => (let v34 : (Bool × ((List Int) × ((List Int) × Unit))) := z33.2.2.2.2.2.2.2.2.2.2.1
  let v35 : (Bool × ((List Int) × ((List Int) × Unit))) := z33.2.2.2.2.2.2.2.2.2.2.2.1
  (chanceryref2_Rat__Add v34 v35).bind fun v36 =>
  (chancerylaw2_frac z33.2.2.2.2.2.2.1 v2.2.1 v36.1).bind fun v37 =>
  cond v37.1
  (let v38 : (Bool × ((List Int) × ((List Int) × Unit))) := z33.2.2.2.2.2.2.2.2.2.2.1
  let v39 : (Bool × ((List Int) × ((List Int) × Unit))) := z33.2.2.2.2.2.2.2.2.2.2.2.1
  (chanceryref2_Rat__Negative v39).bind fun v40 =>
  (chanceryref2_Rat__Add v38 v40.1).bind fun v41 =>
  (chancerylaw2_frac z33.2.2.2.2.2.2.2.1 v3.2.1 v41.1).bind fun v42 =>
  cond (v42.1)
  (let v43 : (Bool × ((List Int) × ((List Int) × Unit))) := z33.2.2.2.2.2.2.2.2.2.2.1
  let v44 : (Bool × ((List Int) × ((List Int) × Unit))) := z33.2.2.2.2.2.2.2.2.2.2.2.1
  (chanceryref2_Rat__Mul v43 v44).bind fun v45 =>
  (chancerylaw2_frac z33.2.2.2.2.2.2.2.2.1 v4.2.1 v45.1).bind fun v46 =>
  cond (v46.1)
  (cond ((decide (v6.2.1 = 0)))
  (let v47 : (Bool × ((List Int) × ((List Int) × Unit))) := z33.2.2.2.2.2.2.2.2.2.2.1
  let v48 : (Bool × ((List Int) × ((List Int) × Unit))) := z33.2.2.2.2.2.2.2.2.2.2.2.1
  (chanceryref2_Rat__Cmp v47 v48).bind fun v49 =>
  cond ((decide (v6.1 = v49.1)))
  (let v50 : (Str × (Str × Unit)) := z33.2.2.2.2.2.2.2.2.2.1
  let v51 : (Bool × ((List Int) × ((List Int) × Unit))) := z33.2.2.2.2.2.2.2.2.2.2.1
  (chanceryref2_Rat__Negative v51).bind fun v52 =>
  (chancerylaw2_frac v50 v7.2.1 v52.1).bind fun v53 =>
  some (v53.1, ()))
  (some (false, ())))
  (some (false, ())))
  (some (false, ())))
  (some (false, ())))
  (some (false, ())))
  | .inr z54 => (some z54)))))

noncomputable def exact_Ratio (a0 : Int) (a1 : Int) : Option ((Str × (Str × Unit)) × (Int × Unit)) :=
  cond (decide (a1 = 0))
  (some (([], ([], ())), 1, ()))
  ((sItoa (a0, ())).bind fun v1 =>
  (sCutPrefix (v1.1, [45], ())).bind fun v2 =>
  (sItoa (a1, ())).bind fun v3 =>
  (sCutPrefix (v3.1, [45], ())).bind fun v4 =>
  (exact_parse v2.1).bind fun v5 =>
  (exact_parse v4.1).bind fun v6 =>
  (exact_number__write (!(v2.2.1 == v4.2.1), v5.1, v6.1, ())).bind fun v7 =>
  some (v7.1, v7.2.1, ()))

noncomputable def chanceryref2_Decimal_s (rec : Int → Option (Str × Unit)) (a0 : Int) : Option (Str × Unit) :=
  cond (decide (a0 ≤ (-10)))
  ((quo .i64 a0 10).bind fun v1 =>
  (rec v1).bind fun v2 =>
  (rem a0 10).bind fun v3 =>
  (cat v2.1 (bytesStr [IntKind.u8.wrap (IntKind.i64.wrap (48 - v3))])).bind fun v4 =>
  some (v4, ()))
  (cond (decide (a0 < 0))
  ((cat [45] (bytesStr [IntKind.u8.wrap (IntKind.i64.wrap (48 - a0))])).bind fun v5 =>
  some (v5, ()))
  (cond (decide (10 ≤ a0))
  ((quo .i64 a0 10).bind fun v6 =>
  (rec v6).bind fun v7 =>
  (rem a0 10).bind fun v8 =>
  (cat v7.1 (bytesStr [IntKind.u8.wrap (IntKind.i64.wrap (48 + v8))])).bind fun v9 =>
  some (v9, ()))
  (some (bytesStr [IntKind.u8.wrap (IntKind.i64.wrap (48 + a0))], ()))))

noncomputable def chanceryref2_Decimal_f : Nat → Int → Option (Str × Unit)
  | 0 => fun _ => none
  | n + 1 => chanceryref2_Decimal_s (chanceryref2_Decimal_f n)

noncomputable def chanceryref2_Decimal (a0 : Int) : Option (Str × Unit) := chanceryref2_Decimal_f rounds a0

noncomputable def chanceryref2_unsigned (a0 : Int) : Option (Str × Unit) :=
  (chanceryref2_Decimal a0).bind fun v1 =>
  (cut v1.1 1 (v1.1.length : Int)).bind fun v2 =>
  some (v2, ())

noncomputable def chanceryref2_Whole (a0 : Int) : Option ((Bool × ((List Int) × ((List Int) × Unit))) × Unit) :=
  cond (decide (a0 < 0))
  ((chanceryref2_unsigned a0).bind fun v1 =>
  (chanceryref2_NatOf v1.1).bind fun v2 =>
  some ((true, (v2.1, ([1], ()))), ()))
  ((chanceryref2_Decimal a0).bind fun v3 =>
  (chanceryref2_NatOf v3.1).bind fun v4 =>
  some ((false, (v4.1, ([1], ()))), ()))

noncomputable def exact_Of (a0 : Int) : Option ((Str × (Str × Unit)) × Unit) :=
  (sItoa (a0, ())).bind fun v1 =>
  some ((v1.1, ([49], ())), ())

noncomputable def chancerylaw2_mod (a0 : Int) (a1 : Int) : Option (Int × Unit) :=
  (rem a0 a1).bind fun v1 =>
  (rem (IntKind.i64.wrap (v1 + a1)) a1).bind fun v2 =>
  some (v2, ())

noncomputable def exact_nat__power_l1 (p1 : ((List Int) × (Int × ((List Int) × Unit)))) : Option (((List Int) × (Int × ((List Int) × Unit))) ⊕ (((List Int) × Unit) ⊕ (Unit × (Bool × Unit)))) :=
  cond (!decide (p1.2.1 = 0))
  ((((rem p1.2.1 2).bind fun v5 =>
  cond (!decide (v5 = 0))
  ((exact_nat__times p1.2.2.1 p1.1).bind fun v6 =>
  some v6)
  (some p1.2.2) : Option ((List Int) × Unit)).bind fun r7 =>
  (cond (decide (34 < (r7.1.length : Int)))
  (some (true, ()))
  (cond (decide (34 < (p1.1.length : Int)))
  ((quo .i64 p1.2.1 2).bind fun v8 =>
  some (((!decide (v8 = 0))), ()))
  (some (false, ()))) : Option (Bool × Unit)).bind fun r9 =>
  cond r9.1
  (some (.inr ((), false, ())))
  ((quo .i64 p1.2.1 2).bind fun v10 =>
  cond (!decide (v10 = 0))
  ((exact_nat__times p1.1 p1.1).bind fun v11 =>
  some (.inl (v11.1, r7.1, ())))
  (some (.inl (p1.1, r7.1, ())))) : Option (((List Int) × ((List Int) × Unit)) ⊕ (Unit × (Bool × Unit)))).bind fun r12 =>
  (match r12 with
  | .inl z13 => ((quo .i64 p1.2.1 2).bind fun v14 =>
  some (.inl (z13.1, v14, z13.2.1, ())))
  | .inr z15 => (some (.inr (.inr ((), z15.2.1, ()))))))
  (some (.inr (.inl p1.2.2)))

noncomputable def exact_nat__power (a0 : (List Int)) (a1 : Int) : Option ((List Int) × (Bool × Unit)) :=
  ((exact_nat__zero a0).bind fun v1 =>
  cond v1.1
  (cond ((!decide (a1 = 0)))
  (some (true, ()))
  ((exact_nat__one a0).bind fun v2 =>
  some (v2.1, ())))
  ((exact_nat__one a0).bind fun v3 =>
  some (v3.1, ())) : Option (Bool × Unit)).bind fun r4 =>
  cond r4.1
  (some (a0, true, ()))
  ((loop exact_nat__power_l1 (a0, a1, [1], ())).bind fun r16 =>
  (match r16 with
  | .inl z17 => (some (z17.1, true, ()))
  | .inr z18 => (some ([], z18.2.1, ()))))

noncomputable def exact_Power (a0 : (Str × (Str × Unit))) (a1 : Int) : Option ((Str × (Str × Unit)) × (Int × Unit)) :=
  (exact_read a0).bind fun v1 =>
  cond (!decide (v1.2.1 = 0))
  (some (([], ([], ())), v1.2.1, ()))
  ((rem a1 2).bind fun v2 =>
  (cond (decide (a1 < 0))
  ((exact_nat__zero v1.1.2.1).bind fun v3 =>
  cond v3.1
  (some (.inr ((), 1, ([], ([], ())), ())))
  (some (.inl ((), (), ([], ([], ())), (v1.1.1, (v1.1.2.2.1, (v1.1.2.1, ()))), ()))))
  (some (.inl ((), (), ([], ([], ())), v1.1, ()))) : Option ((Unit × (Unit × ((Str × (Str × Unit)) × ((Bool × ((List Int) × ((List Int) × Unit))) × Unit)))) ⊕ (Unit × (Int × ((Str × (Str × Unit)) × Unit))))).bind fun r4 =>
  (match r4 with
  | .inl z5 => ((exact_nat__power z5.2.2.2.1.2.1 a1).bind fun v6 =>
  (exact_nat__power z5.2.2.2.1.2.2.1 a1).bind fun v7 =>
  (cond (!v6.2.1)
  (some ((), (), true, z5.2.2.1, z5.2.2.2.1, ()))
  (some ((), (), (!v7.2.1), z5.2.2.1, z5.2.2.2.1, ())) : Option (Unit × (Unit × (Bool × ((Str × (Str × Unit)) × ((Bool × ((List Int) × ((List Int) × Unit))) × Unit)))))).bind fun r8 =>
  cond r8.2.2.1
  (some (([], ([], ())), 19, ()))
  (cond r8.2.2.2.2.1.1
  ((exact_number__write ((!decide (v2 = 0)), v6.1, v7.1, ())).bind fun v9 =>
  some (v9.1, v9.2.1, ()))
  ((exact_number__write (false, v6.1, v7.1, ())).bind fun v10 =>
  some (v10.1, v10.2.1, ()))))
  | .inr z11 => (some (z11.2.2.1, z11.2.1, ()))))

noncomputable def chanceryref2_Rat__Power_l1 (a1 : Int) (p1 : (Unit × (Unit × (Unit × (Int × ((Bool × ((List Int) × ((List Int) × Unit))) × ((Bool × ((List Int) × ((List Int) × Unit))) × ((Bool × ((List Int) × ((List Int) × Unit))) × Unit)))))))) : Option ((Unit × (Unit × (Unit × (Int × ((Bool × ((List Int) × ((List Int) × Unit))) × ((Bool × ((List Int) × ((List Int) × Unit))) × ((Bool × ((List Int) × ((List Int) × Unit))) × Unit))))))) ⊕ (Unit × (Unit × ((Bool × ((List Int) × ((List Int) × Unit))) × ((Bool × ((List Int) × ((List Int) × Unit))) × Unit))))) :=
  cond (decide (p1.2.2.2.1 < a1))
  (let v2 : (Bool × ((List Int) × ((List Int) × Unit))) := p1.2.2.2.2.2.2.1
  let v3 : (Bool × ((List Int) × ((List Int) × Unit))) := p1.2.2.2.2.1
  (chanceryref2_Rat__Mul v2 v3).bind fun v4 =>
  some (.inl ((), (), (), IntKind.i64.wrap (p1.2.2.2.1 + 1), p1.2.2.2.2.1, p1.2.2.2.2.2.1, v4.1, ())))
  (some (.inr ((), (), p1.2.2.2.2.2.1, p1.2.2.2.2.2.2.1, ())))

noncomputable def chanceryref2_Rat__Power (a0 : (Bool × ((List Int) × ((List Int) × Unit)))) (a1 : Int) : Option ((Bool × ((List Int) × ((List Int) × Unit))) × Unit) :=
  (chanceryref2_Whole 1).bind fun v1 =>
  (loop (chanceryref2_Rat__Power_l1 a1) ((), (), (), 0, a0, (false, ([], ([], ()))), v1.1, ())).bind fun r5 =>
  some (r5.2.2.2.1, ())

noncomputable def chancerylaw2_ExactPowersMatch (a0 : (Str × (Str × Unit))) (a1 : Int) (a2 : Int) (a3 : Int) : Option (Bool × Unit) :=
  (chancerylaw2_fractions).bind fun v1 =>
  cond (!v1.1)
  (some (false, ()))
  ((exact_Ratio a2 a3).bind fun v2 =>
  (cond (decide (a3 = 0))
  ((cond (!Ty.beq (.pair .str (.pair .str .unit)) v2.1 ([], [], ()))
  (some ((), true, a0, ()))
  (some ((), (!decide (v2.2.1 = 1)), a0, ())) : Option (Unit × (Bool × ((Str × (Str × Unit)) × Unit)))).bind fun r3 =>
  cond r3.2.1
  (some (.inr (false, ())))
  (some (.inl ((), r3.2.2.1, ()))))
  ((chanceryref2_Whole a2).bind fun v4 =>
  (chanceryref2_Whole a3).bind fun v5 =>
  (chanceryref2_Rat__Inverse v5.1).bind fun v6 =>
  (chanceryref2_Rat__Mul v4.1 v6.1).bind fun v7 =>
  (chancerylaw2_frac v2.1 v2.2.1 v7.1).bind fun v8 =>
  cond (!v8.1)
  (some (.inr (false, ())))
  (some (.inl ((), a0, ())))) : Option ((Unit × ((Str × (Str × Unit)) × Unit)) ⊕ (Bool × Unit))).bind fun r9 =>
  (match r9 with
  | .inl z10 => ((exact_Of a2).bind fun v11 =>
  (chanceryref2_Whole a2).bind fun v12 =>
  (chancerylaw2_frac v11.1 0 v12.1).bind fun v13 =>
  cond (!v13.1)
  (some (false, ()))
  ((chancerylaw2_mod a1 41).bind fun v14 =>
  (exact_Power z10.2.1 (IntKind.i64.wrap (v14.1 - 20))).bind fun v15 =>
  (chanceryref2_FracError z10.2.1).bind fun v16 =>
  cond (!decide (v16.1 = 0))
  (cond (Ty.beq (.pair .str (.pair .str .unit)) v15.1 ([], [], ()))
  (some ((decide (v15.2.1 = v16.1)), ()))
  (some (false, ())))
  ((chanceryref2_RatOf z10.2.1).bind fun v17 =>
  (cond (decide ((IntKind.i64.wrap (v14.1 - 20)) < 0))
  ((chanceryref2_Rat__Sign v17.1).bind fun v18 =>
  cond (decide (v18.1 = 0))
  (cond (Ty.beq (.pair .str (.pair .str .unit)) v15.1 ([], [], ()))
  (some (.inr ((decide (v15.2.1 = 1)), ())))
  (some (.inr (false, ()))))
  ((chanceryref2_Rat__Inverse v17.1).bind fun v19 =>
  some (.inl (IntKind.i64.wrap (0 - (IntKind.i64.wrap (v14.1 - 20))), (), (), v15.1, v19.1, ()))))
  (some (.inl (IntKind.i64.wrap (v14.1 - 20), (), (), v15.1, v17.1, ()))) : Option ((Int × (Unit × (Unit × ((Str × (Str × Unit)) × ((Bool × ((List Int) × ((List Int) × Unit))) × Unit))))) ⊕ (Bool × Unit))).bind fun r20 =>
  (match r20 with
  | .inl z21 => (let v22 : (Bool × ((List Int) × ((List Int) × Unit))) := z21.2.2.2.2.1
  (chanceryref2_Rat__Power v22 z21.1).bind fun v23 =>
  (chancerylaw2_frac z21.2.2.2.1 v15.2.1 v23.1).bind fun v24 =>
  some v24)
  | .inr z25 => (some z25)))))
  | .inr z26 => (some z26)))

noncomputable def exact_ten (a0 : Int) : Option ((List Int) × Unit) :=
  (sRepeat ([48], a0, ())).bind fun v1 =>
  (cat [49] v1.1).bind fun v2 =>
  (exact_parse v2).bind fun v3 =>
  some v3

noncomputable def exact_nat__root_l1 (a0 : (List Int)) (p1 : ((List Int) × Unit)) : Option (((List Int) × Unit) ⊕ ((List Int) × Unit)) :=
  (exact_divide a0 p1.1).bind fun v5 =>
  (exact_nat__plus p1.1 v5.1).bind fun v6 =>
  (exact_divide v6.1 [2]).bind fun v7 =>
  (exact_nat__compare v7.1 p1.1).bind fun v8 =>
  cond (decide (0 ≤ v8.1))
  (some (.inr p1))
  (some (.inl (v7.1, ())))

noncomputable def exact_nat__root (a0 : (List Int)) : Option ((List Int) × Unit) :=
  (exact_nat__zero a0).bind fun v1 =>
  cond v1.1
  (some (a0, ()))
  ((sNatText (a0, ())).bind fun v2 =>
  (quo .i64 (IntKind.i64.wrap ((v2.1.length : Int) + 1)) 2).bind fun v3 =>
  (exact_ten (IntKind.i64.wrap (v3 + 1))).bind fun v4 =>
  (loop (exact_nat__root_l1 a0) v4).bind fun r9 =>
  some r9)

noncomputable def exact_Root (a0 : (Str × (Str × Unit))) (a1 : Int) : Option ((Str × (Str × Unit)) × (Int × Unit)) :=
  (exact_read a0).bind fun v1 =>
  cond (!decide (v1.2.1 = 0))
  (some (([], ([], ())), v1.2.1, ()))
  (cond v1.1.1
  (some (([], ([], ())), 1, ()))
  ((cond (decide (a1 < 0))
  (some ((), (), true, ([], ([], ())), v1.1, ()))
  (some ((), (), (decide (100 < a1)), ([], ([], ())), v1.1, ())) : Option (Unit × (Unit × (Bool × ((Str × (Str × Unit)) × ((Bool × ((List Int) × ((List Int) × Unit))) × Unit)))))).bind fun r2 =>
  cond r2.2.2.1
  (some (([], ([], ())), 2, ()))
  ((exact_ten (IntKind.i64.wrap (2 * a1))).bind fun v3 =>
  (exact_nat__times r2.2.2.2.2.1.2.1 v3.1).bind fun v4 =>
  (exact_divide v4.1 r2.2.2.2.2.1.2.2.1).bind fun v5 =>
  (exact_nat__root v5.1).bind fun v6 =>
  (exact_ten a1).bind fun v7 =>
  (exact_number__write (false, v6.1, v7.1, ())).bind fun v8 =>
  some (v8.1, v8.2.1, ()))))

noncomputable def chanceryref2_Ten (a0 : Int) : Option ((List Int) × Unit) :=
  (mk (IntKind.i64.wrap (a0 + 1)) (IntKind.i64.wrap (a0 + 1)) 0).bind fun v1 =>
  (chk (inb a0 v1.length)).bind fun _ =>
  let v2 : List Int := v1.set a0.toNat 1
  some (v2, ())

noncomputable def chanceryref2_Rat__Scaled (a0 : (Bool × ((List Int) × ((List Int) × Unit)))) (a1 : Int) : Option ((Bool × ((List Int) × ((List Int) × Unit))) × Unit) :=
  cond (decide (a1 < 0))
  ((chanceryref2_Ten (IntKind.i64.wrap (0 - a1))).bind fun v1 =>
  (chanceryref2_Nat__Times a0.2.2.1 v1.1).bind fun v2 =>
  some ((a0.1, (a0.2.1, v2)), ()))
  ((chanceryref2_Ten a1).bind fun v3 =>
  (chanceryref2_Nat__Times a0.2.1 v3.1).bind fun v4 =>
  some ((a0.1, (v4.1, a0.2.2)), ()))

noncomputable def chanceryref2_Rat__Floor (a0 : (Bool × ((List Int) × ((List Int) × Unit)))) : Option ((Bool × ((List Int) × ((List Int) × Unit))) × Unit) :=
  (chanceryref2_Nat__Divide a0.2.1 a0.2.2.1).bind fun v1 =>
  ((cond a0.1
  (some ((), (), (decide (0 < (v1.2.1.length : Int))), a0, (false, ([], ([], ()))), ()))
  (some ((), (), false, a0, (false, ([], ([], ()))), ())) : Option (Unit × (Unit × (Bool × ((Bool × ((List Int) × ((List Int) × Unit))) × ((Bool × ((List Int) × ((List Int) × Unit))) × Unit)))))).bind fun r2 =>
  cond r2.2.2.1
  ((chanceryref2_Nat__Plus v1.1 [1]).bind fun v3 =>
  some ((), (), v3.1, r2.2.2.2.1, r2.2.2.2.2.1, ()))
  (some ((), (), v1.1, r2.2.2.2.1, r2.2.2.2.2.1, ())) : Option (Unit × (Unit × ((List Int) × ((Bool × ((List Int) × ((List Int) × Unit))) × ((Bool × ((List Int) × ((List Int) × Unit))) × Unit)))))).bind fun r4 =>
  some ((r4.2.2.2.1.1, (r4.2.2.1, ([1], ()))), ())

noncomputable def chancerylaw2_ExactRootMatches (a0 : (Str × (Str × Unit))) (a1 : Int) : Option (Bool × Unit) :=
  (chancerylaw2_fractions).bind fun v1 =>
  cond (!v1.1)
  (some (false, ()))
  ((exact_Root a0 a1).bind fun v2 =>
  (chanceryref2_FracError a0).bind fun v3 =>
  (cond (!decide (v3.1 = 0))
  (some ((), (), v3.1, a0, v2.1, ()))
  ((chanceryref2_RatOf a0).bind fun v4 =>
  (chanceryref2_Rat__Sign v4.1).bind fun v5 =>
  cond (decide (v5.1 < 0))
  (some ((), (), 1, a0, v2.1, ()))
  ((cond (decide (a1 < 0))
  (some ((), (), true, a0, v2.1, ()))
  (some ((), (), (decide (100 < a1)), a0, v2.1, ())) : Option (Unit × (Unit × (Bool × ((Str × (Str × Unit)) × ((Str × (Str × Unit)) × Unit)))))).bind fun r6 =>
  cond r6.2.2.1
  (some ((), (), 2, r6.2.2.2.1, r6.2.2.2.2.1, ()))
  (some ((), (), v3.1, r6.2.2.2.1, r6.2.2.2.2.1, ())))) : Option (Unit × (Unit × (Int × ((Str × (Str × Unit)) × ((Str × (Str × Unit)) × Unit)))))).bind fun r7 =>
  cond (!decide (r7.2.2.1 = 0))
  (cond (Ty.beq (.pair .str (.pair .str .unit)) r7.2.2.2.2.1 ([], [], ()))
  (some ((decide (v2.2.1 = r7.2.2.1)), ()))
  (some (false, ())))
  (cond (!decide (v2.2.1 = 0))
  (cond (Ty.beq (.pair .str (.pair .str .unit)) r7.2.2.2.2.1 ([], [], ()))
  (cond ((decide (v2.2.1 = 19)))
  (some ((decide (200 < (r7.2.2.2.1.1.length : Int))), ()))
  (some (false, ())))
  (some (false, ())))
  ((chanceryref2_RatOf r7.2.2.2.2.1).bind fun v8 =>
  (chanceryref2_Ten a1).bind fun v9 =>
  (chanceryref2_Rat__Add v8.1 (false, [1], v9.1, ())).bind fun v10 =>
  (chanceryref2_Rat__Scaled v8.1 a1).bind fun v11 =>
  (chanceryref2_Rat__Floor v11.1).bind fun _ =>
  (chanceryref2_Rat__Scaled v8.1 a1).bind fun v13 =>
  (chanceryref2_Rat__Floor v13.1).bind fun v14 =>
  (chanceryref2_Rat__Cmp v13.1 v14.1).bind fun v15 =>
  cond (decide (v15.1 = 0))
  ((chanceryref2_Rat__Mul v8.1 v8.1).bind fun v16 =>
  (chanceryref2_RatOf r7.2.2.2.1).bind fun v17 =>
  (chanceryref2_Rat__Cmp v16.1 v17.1).bind fun v18 =>
  cond ((decide (v18.1 ≤ 0)))
  ((chanceryref2_Rat__Mul v10.1 v10.1).bind fun v19 =>
  (chanceryref2_RatOf r7.2.2.2.1).bind fun v20 =>
  (chanceryref2_Rat__Cmp v19.1 v20.1).bind fun v21 =>
  cond ((decide (0 < v21.1)))
  ((chanceryref2_Rat__Sign v8.1).bind fun v22 =>
  some ((decide (0 ≤ v22.1)), ()))
  (some (false, ())))
  (some (false, ())))
  (some (false, ())))))

noncomputable def strings_TrimLeft (a0 : Str) (a1 : Str) : Option (Str × Unit) :=
  (cond (decide (a0 = []))
  (some (true, ()))
  (some ((decide (a1 = [])), ())) : Option (Bool × Unit)).bind fun r1 =>
  cond r1.1
  (some (a0, ()))
  ((cond (decide ((a1.length : Int) = 1))
  ((idx a1 0).bind fun v2 =>
  some ((decide ((ofByte v2) < 128)), ()))
  (some (false, ())) : Option (Bool × Unit)).bind fun r3 =>
  cond r3.1
  ((idx a1 0).bind fun v4 =>
  (strings_trimLeftByte a0 (ofByte v4)).bind fun v5 =>
  some v5)
  ((strings_makeASCIISet a1).bind fun v6 =>
  cond v6.2.1
  ((strings_trimLeftASCII a0 v6.1).bind fun v7 =>
  some (v7.1, ()))
  (((sNever [Ty.str, Ty.str] [Ty.str]) (a0, a1, ())).bind fun v8 =>
  some v8)))

noncomputable def exact_run (a0 : Str) : Option (Str × (Str × Unit)) :=
  (strings_TrimLeft a0 [48, 49, 50, 51, 52, 53, 54, 55, 56, 57]).bind fun v1 =>
  (cut a0 0 (IntKind.i64.wrap ((a0.length : Int) - (v1.1.length : Int)))).bind fun v2 =>
  some (v2, v1.1, ())

noncomputable def exact_exponent (a0 : Str) : Option (Int × (Bool × Unit)) :=
  cond (decide (a0 = []))
  (some (0, true, ()))
  (((idx a0 0).bind fun v1 =>
  cond (!decide ((ofByte v1) = 101))
  ((idx a0 0).bind fun v2 =>
  some ((!decide ((ofByte v2) = 69)), ()))
  (some (false, ())) : Option (Bool × Unit)).bind fun r3 =>
  cond r3.1
  (some (0, false, ()))
  ((cut a0 1 (a0.length : Int)).bind fun v4 =>
  (sHasPrefix (v4, [45], ())).bind fun v5 =>
  ((cond v5.1
  (some (true, ()))
  ((sHasPrefix (v4, [43], ())).bind fun v6 =>
  some (v6.1, ())) : Option (Bool × Unit)).bind fun r7 =>
  cond r7.1
  ((cut v4 1 (v4.length : Int)).bind fun v8 =>
  some (v8, ()))
  (some (v4, ())) : Option (Str × Unit)).bind fun r9 =>
  (exact_run r9.1).bind fun v10 =>
  (cond (decide (v10.1 = []))
  (some (true, ()))
  (cond ((decide (3 < (v10.1.length : Int))))
  (some (true, ()))
  (some ((!decide (v10.2.1 = [])), ()))) : Option (Bool × Unit)).bind fun r11 =>
  cond r11.1
  (some (0, false, ()))
  ((sAtoi (v10.1, ())).bind fun v12 =>
  (cond v5.1
  (some (IntKind.i64.wrap (0 - v12.1), ()))
  (some (v12.1, ())) : Option (Int × Unit)).bind fun r13 =>
  some (r13.1, true, ()))))

noncomputable def exact_Parse (a0 : Str) : Option ((Str × (Str × Unit)) × (Int × Unit)) :=
  cond (decide (1000 < (a0.length : Int)))
  (some (([], ([], ())), 3, ()))
  ((sCutPrefix (a0, [45], ())).bind fun v1 =>
  (exact_run v1.1).bind fun v2 =>
  ((sCutPrefix (v2.2.1, [46], ())).bind fun v3 =>
  cond v3.2.1
  ((exact_run v3.1).bind fun v4 =>
  cond (decide (v4.1 = []))
  (some (.inr ((), 10, ([], ([], ())), ())))
  (some (.inl ((), v4.2.1, v4.1, ([], ([], ())), ()))))
  (some (.inl ((), v2.2.1, [], ([], ([], ())), ()))) : Option ((Unit × (Str × (Str × ((Str × (Str × Unit)) × Unit)))) ⊕ (Unit × (Int × ((Str × (Str × Unit)) × Unit))))).bind fun r5 =>
  (match r5 with
  | .inl z6 => ((exact_exponent z6.2.1).bind fun v7 =>
  (cond (decide (v2.1 = []))
  (some ((), true, z6.2.2.2.1, ()))
  (some ((), (!v7.2.1), z6.2.2.2.1, ())) : Option (Unit × (Bool × ((Str × (Str × Unit)) × Unit)))).bind fun r8 =>
  cond r8.2.1
  (some (([], ([], ())), 10, ()))
  ((cat v2.1 z6.2.2.1).bind fun v9 =>
  (exact_parse v9).bind fun v10 =>
  (cond (decide ((IntKind.i64.wrap (v7.1 - (z6.2.2.1.length : Int))) < 0))
  (let v11 : Int := IntKind.i64.wrap (0 - (IntKind.i64.wrap (v7.1 - (z6.2.2.1.length : Int))))
  (exact_ten v11).bind fun v12 =>
  some ((), (), r8.2.2.1, (v1.2.1, (v10.1, v12)), ()))
  ((exact_ten (IntKind.i64.wrap (v7.1 - (z6.2.2.1.length : Int)))).bind fun v13 =>
  (exact_nat__times v10.1 v13.1).bind fun v14 =>
  some ((), (), r8.2.2.1, (v1.2.1, (v14.1, ([1], ()))), ())) : Option (Unit × (Unit × ((Str × (Str × Unit)) × ((Bool × ((List Int) × ((List Int) × Unit))) × Unit))))).bind fun r15 =>
  (exact_number__write r15.2.2.2.1).bind fun v16 =>
  some (v16.1, v16.2.1, ())))
  | .inr z17 => (some (z17.2.2.1, z17.2.1, ()))))

noncomputable def chanceryref2_Has (a0 : Str) (a1 : Str) : Option (Bool × Unit) :=
  cond (decide ((a1.length : Int) ≤ (a0.length : Int)))
  ((cut a0 0 (a1.length : Int)).bind fun v1 =>
  some ((decide (v1 = a1)), ()))
  (some (false, ()))

noncomputable def chanceryref2_Digit (a0 : Int) : Option (Bool × Unit) :=
  cond (decide (48 ≤ a0))
  (some ((decide (a0 ≤ 57)), ()))
  (some (false, ()))

noncomputable def chanceryref2_span_Digit_l1 (a0 : Str) (p1 : (Unit × (Int × Unit))) : Option ((Unit × (Int × Unit)) ⊕ (Unit ⊕ (Int × Unit))) :=
  cond (decide (p1.2.1 < (a0.length : Int)))
  ((idx a0 p1.2.1).bind fun v1 =>
  (chanceryref2_Digit (ofByte v1)).bind fun v2 =>
  cond (!v2.1)
  (some (.inr (.inr p1.2)))
  (some (.inl ((), IntKind.i64.wrap (p1.2.1 + 1), ()))))
  (some (.inr (.inl (()))))

noncomputable def chanceryref2_span_Digit (a0 : Str) : Option (Int × Unit) :=
  (loop (chanceryref2_span_Digit_l1 a0) ((), 0, ())).bind fun r3 =>
  (match r3 with
  | .inl _ => (some ((a0.length : Int), ()))
  | .inr z5 => (some z5))

noncomputable def chanceryref2_All_Digit_l1 (a0 : Str) (p1 : (Unit × (Int × Unit))) : Option ((Unit × (Int × Unit)) ⊕ (Unit ⊕ (Bool × Unit))) :=
  cond (decide (p1.2.1 < (a0.length : Int)))
  ((idx a0 p1.2.1).bind fun v1 =>
  (chanceryref2_Digit (ofByte v1)).bind fun v2 =>
  cond (!v2.1)
  (some (.inr (.inr (false, ()))))
  (some (.inl ((), IntKind.i64.wrap (p1.2.1 + 1), ()))))
  (some (.inr (.inl (()))))

noncomputable def chanceryref2_All_Digit (a0 : Str) : Option (Bool × Unit) :=
  (loop (chanceryref2_All_Digit_l1 a0) ((), 0, ())).bind fun r3 =>
  (match r3 with
  | .inl _ => (some (true, ()))
  | .inr z5 => (some z5))

noncomputable def chanceryref2_allDigits (a0 : Str) : Option (Bool × Unit) :=
  cond (!decide (a0 = []))
  ((chanceryref2_All_Digit a0).bind fun v1 =>
  some (v1.1, ()))
  (some (false, ()))

noncomputable def chanceryref2_small_l1 (a0 : Str) (p1 : (Int × (Int × Unit))) : Option ((Int × (Int × Unit)) ⊕ (Int × Unit)) :=
  cond (decide (p1.2.1 < (a0.length : Int)))
  ((idx a0 p1.2.1).bind fun v1 =>
  let v2 : Int := IntKind.i64.wrap ((IntKind.i64.wrap (10 * p1.1)) + (IntKind.i64.wrap (IntKind.u8.wrap ((ofByte v1) - 48))))
  some (.inl (v2, IntKind.i64.wrap (p1.2.1 + 1), ())))
  (some (.inr (p1.1, ())))

noncomputable def chanceryref2_small (a0 : Str) : Option (Int × Unit) :=
  (loop (chanceryref2_small_l1 a0) (0, 0, ())).bind fun r3 =>
  some r3

noncomputable def chanceryref2_ReadDecimal (a0 : Str) : Option ((Bool × ((List Int) × ((List Int) × Unit))) × (Int × Unit)) :=
  cond (decide (1000 < (a0.length : Int)))
  (some ((false, ([], ([], ()))), 3, ()))
  (((chanceryref2_Has a0 [45]).bind fun v1 =>
  cond v1.1
  ((cut a0 1 (a0.length : Int)).bind fun v2 =>
  some ((), v2, true, (false, ([], ([], ()))), ()))
  (some ((), a0, false, (false, ([], ([], ()))), ())) : Option (Unit × (Str × (Bool × ((Bool × ((List Int) × ((List Int) × Unit))) × Unit))))).bind fun r3 =>
  (chanceryref2_span_Digit r3.2.1).bind fun v4 =>
  (cut r3.2.1 0 v4.1).bind fun v5 =>
  (cut r3.2.1 v4.1 (r3.2.1.length : Int)).bind fun v6 =>
  ((chanceryref2_Has v6 [46]).bind fun v7 =>
  cond v7.1
  ((cut v6 1 (v6.length : Int)).bind fun v8 =>
  (chanceryref2_span_Digit v8).bind fun v9 =>
  (cut v6 1 (IntKind.i64.wrap (1 + v9.1))).bind fun v10 =>
  (cut v6 (IntKind.i64.wrap (1 + v9.1)) (v6.length : Int)).bind fun v11 =>
  cond (decide (v10 = []))
  (some (.inr ((), 10, (false, ([], ([], ()))), ())))
  (some (.inl ((), v11, v10, r3.2.2.2.1, ()))))
  (some (.inl ((), v6, [], r3.2.2.2.1, ()))) : Option ((Unit × (Str × (Str × ((Bool × ((List Int) × ((List Int) × Unit))) × Unit)))) ⊕ (Unit × (Int × ((Bool × ((List Int) × ((List Int) × Unit))) × Unit))))).bind fun r12 =>
  (match r12 with
  | .inl z13 => ((cond (!decide (z13.2.1 = []))
  (((idx z13.2.1 0).bind fun v14 =>
  cond (!decide ((ofByte v14) = 101))
  ((idx z13.2.1 0).bind fun v15 =>
  some ((), (!decide ((ofByte v15) = 69)), z13.2.2.2.1, ()))
  (some ((), false, z13.2.2.2.1, ())) : Option (Unit × (Bool × ((Bool × ((List Int) × ((List Int) × Unit))) × Unit)))).bind fun r16 =>
  cond r16.2.1
  (some (.inr ((), 10, (false, ([], ([], ()))), ())))
  ((cut z13.2.1 1 (z13.2.1.length : Int)).bind fun v17 =>
  (((chanceryref2_Has v17 [43]).bind fun v18 =>
  cond v18.1
  (some ((), true, r16.2.2.1, ()))
  ((chanceryref2_Has v17 [45]).bind fun v19 =>
  some ((), v19.1, r16.2.2.1, ())) : Option (Unit × (Bool × ((Bool × ((List Int) × ((List Int) × Unit))) × Unit)))).bind fun r20 =>
  cond r20.2.1
  (((idx v17 0).bind fun v21 =>
  cond (decide ((ofByte v21) = 45))
  (some ((), (-1), r20.2.2.1, ()))
  (some ((), 1, r20.2.2.1, ())) : Option (Unit × (Int × ((Bool × ((List Int) × ((List Int) × Unit))) × Unit)))).bind fun r22 =>
  (cut v17 1 (v17.length : Int)).bind fun v23 =>
  some ((), v23, r22.2.1, r22.2.2.1, ()))
  (some ((), v17, 1, r20.2.2.1, ())) : Option (Unit × (Str × (Int × ((Bool × ((List Int) × ((List Int) × Unit))) × Unit))))).bind fun r24 =>
  ((chanceryref2_allDigits r24.2.1).bind fun v25 =>
  cond (!v25.1)
  (some ((), true, r24.2.2.2.1, ()))
  (some ((), (decide (3 < (r24.2.1.length : Int))), r24.2.2.2.1, ())) : Option (Unit × (Bool × ((Bool × ((List Int) × ((List Int) × Unit))) × Unit)))).bind fun r26 =>
  cond r26.2.1
  (some (.inr ((), 10, (false, ([], ([], ()))), ())))
  ((chanceryref2_small r24.2.1).bind fun v27 =>
  some (.inl ((), IntKind.i64.wrap (r24.2.2.1 * v27.1), r26.2.2.1, ())))))
  (some (.inl ((), 0, z13.2.2.2.1, ()))) : Option ((Unit × (Int × ((Bool × ((List Int) × ((List Int) × Unit))) × Unit))) ⊕ (Unit × (Int × ((Bool × ((List Int) × ((List Int) × Unit))) × Unit))))).bind fun r28 =>
  (match r28 with
  | .inl z29 => (cond (decide (v5 = []))
  (some ((false, ([], ([], ()))), 10, ()))
  ((cat v5 z13.2.2.1).bind fun v30 =>
  (chanceryref2_NatOf v30).bind fun v31 =>
  (chanceryref2_Rat__Scaled (r3.2.2.1, v31.1, [1], ()) (IntKind.i64.wrap (z29.2.1 - (z13.2.2.1.length : Int)))).bind fun v32 =>
  (chanceryref2_Rat__Frac v32.1).bind fun v33 =>
  some (v32.1, v33.2.1, ())))
  | .inr z34 => (some (z34.2.2.1, z34.2.1, ()))))
  | .inr z35 => (some (z35.2.2.1, z35.2.1, ()))))

noncomputable def chancerylaw2_ExactParseMatches (a0 : Str) : Option (Bool × Unit) :=
  (chancerylaw2_fractions).bind fun v1 =>
  cond (!v1.1)
  (some (false, ()))
  ((exact_Parse a0).bind fun v2 =>
  (chanceryref2_ReadDecimal a0).bind fun v3 =>
  cond (!decide (v3.2.1 = 0))
  (cond (Ty.beq (.pair .str (.pair .str .unit)) v2.1 ([], [], ()))
  (some ((decide (v2.2.1 = v3.2.1)), ()))
  (some (false, ())))
  ((chancerylaw2_frac v2.1 v2.2.1 v3.1).bind fun v4 =>
  some v4))

noncomputable def exact_Floor (a0 : (Str × (Str × Unit))) : Option ((Str × (Str × Unit)) × (Int × Unit)) :=
  (exact_read a0).bind fun v1 =>
  cond (!decide (v1.2.1 = 0))
  (some (([], ([], ())), v1.2.1, ()))
  ((exact_divide v1.1.2.1 v1.1.2.2.1).bind fun v2 =>
  ((cond v1.1.1
  ((exact_nat__zero v2.2.1).bind fun v3 =>
  some ((), (), (!v3.1), ([], ([], ())), v1.1, ()))
  (some ((), (), false, ([], ([], ())), v1.1, ())) : Option (Unit × (Unit × (Bool × ((Str × (Str × Unit)) × ((Bool × ((List Int) × ((List Int) × Unit))) × Unit)))))).bind fun r4 =>
  cond r4.2.2.1
  ((exact_nat__plus v2.1 [1]).bind fun v5 =>
  some ((), (), v5.1, r4.2.2.2.1, r4.2.2.2.2.1, ()))
  (some ((), (), v2.1, r4.2.2.2.1, r4.2.2.2.2.1, ())) : Option (Unit × (Unit × ((List Int) × ((Str × (Str × Unit)) × ((Bool × ((List Int) × ((List Int) × Unit))) × Unit)))))).bind fun r6 =>
  (exact_number__write (r6.2.2.2.2.1.1, r6.2.2.1, [1], ())).bind fun v7 =>
  some (v7.1, v7.2.1, ()))

noncomputable def exact_number__scaled (a0 : (Bool × ((List Int) × ((List Int) × Unit)))) (a1 : Int) : Option ((Bool × ((List Int) × ((List Int) × Unit))) × Unit) :=
  (cond (decide (a1 < 0))
  ((exact_ten (IntKind.i64.wrap (0 - a1))).bind fun v1 =>
  (exact_nat__times a0.2.2.1 v1.1).bind fun v2 =>
  some ((), (), (a0.1, (a0.2.1, v2)), (false, ([], ([], ()))), ()))
  ((exact_ten a1).bind fun v3 =>
  (exact_nat__times a0.2.1 v3.1).bind fun v4 =>
  some ((), (), (a0.1, (v4.1, a0.2.2)), (false, ([], ([], ()))), ())) : Option (Unit × (Unit × ((Bool × ((List Int) × ((List Int) × Unit))) × ((Bool × ((List Int) × ((List Int) × Unit))) × Unit))))).bind fun r5 =>
  some (r5.2.2.1, ())

noncomputable def exact_number__rounded (a0 : (Bool × ((List Int) × ((List Int) × Unit)))) : Option ((Bool × ((List Int) × ((List Int) × Unit))) × Unit) :=
  (exact_nat__plus a0.2.1 a0.2.1).bind fun v1 =>
  (exact_nat__plus v1.1 a0.2.2.1).bind fun v2 =>
  (exact_nat__plus a0.2.2.1 a0.2.2.1).bind fun v3 =>
  (exact_divide v2.1 v3.1).bind fun v4 =>
  some ((a0.1, (v4.1, ([1], ()))), ())

noncomputable def exact_Round (a0 : (Str × (Str × Unit))) (a1 : Int) : Option ((Str × (Str × Unit)) × (Int × Unit)) :=
  (exact_read a0).bind fun v1 =>
  cond (!decide (v1.2.1 = 0))
  (some (([], ([], ())), v1.2.1, ()))
  ((cond (decide (a1 < (-100)))
  (some ((), (), true, ([], ([], ())), v1.1, ()))
  (some ((), (), (decide (100 < a1)), ([], ([], ())), v1.1, ())) : Option (Unit × (Unit × (Bool × ((Str × (Str × Unit)) × ((Bool × ((List Int) × ((List Int) × Unit))) × Unit)))))).bind fun r2 =>
  cond r2.2.2.1
  (some (([], ([], ())), 2, ()))
  (let v3 : (Bool × ((List Int) × ((List Int) × Unit))) := r2.2.2.2.2.1
  (exact_number__scaled v3 a1).bind fun v4 =>
  (exact_number__rounded v4.1).bind fun v5 =>
  (exact_number__scaled v5.1 (IntKind.i64.wrap (0 - a1))).bind fun v6 =>
  (exact_number__write v6.1).bind fun v7 =>
  some (v7.1, v7.2.1, ())))

noncomputable def exact_number__decimal (a0 : (Bool × ((List Int) × ((List Int) × Unit)))) (a1 : Int) : Option (Str × Unit) :=
  (sNatText (a0.2.1, ())).bind fun v1 =>
  let v2 : Int := IntKind.i64.wrap ((IntKind.i64.wrap (a1 + 1)) - (v1.1.length : Int))
  (sRepeat ([48], mx 0 v2, ())).bind fun v3 =>
  (cat v3.1 v1.1).bind fun v4 =>
  (cond (decide (0 < a1))
  ((cut v4 0 (IntKind.i64.wrap ((v4.length : Int) - a1))).bind fun v5 =>
  (cat v5 [46]).bind fun v6 =>
  (cut v4 (IntKind.i64.wrap ((v4.length : Int) - a1)) (v4.length : Int)).bind fun v7 =>
  (cat v6 v7).bind fun v8 =>
  some ((), v8, a0, ()))
  (some ((), v4, a0, ())) : Option (Unit × (Str × ((Bool × ((List Int) × ((List Int) × Unit))) × Unit)))).bind fun r9 =>
  ((cond r9.2.2.1.1
  ((exact_nat__zero r9.2.2.1.2.1).bind fun v10 =>
  some ((!v10.1), ()))
  (some (false, ())) : Option (Bool × Unit)).bind fun r11 =>
  cond r11.1
  ((cat [45] r9.2.1).bind fun v12 =>
  some (v12, ()))
  (some (r9.2.1, ())) : Option (Str × Unit)).bind fun r13 =>
  some r13

noncomputable def exact_Fixed (a0 : (Str × (Str × Unit))) (a1 : Int) : Option (Str × (Int × Unit)) :=
  (exact_read a0).bind fun v1 =>
  cond (!decide (v1.2.1 = 0))
  (some ([], v1.2.1, ()))
  ((cond (decide (a1 < 0))
  (some ((), true, v1.1, ()))
  (some ((), (decide (100 < a1)), v1.1, ())) : Option (Unit × (Bool × ((Bool × ((List Int) × ((List Int) × Unit))) × Unit)))).bind fun r2 =>
  cond r2.2.1
  (some ([], 2, ()))
  ((exact_number__scaled r2.2.2.1 a1).bind fun v3 =>
  (exact_number__rounded v3.1).bind fun v4 =>
  (exact_number__scaled v4.1 (IntKind.i64.wrap (0 - a1))).bind fun v5 =>
  (exact_number__write v5.1).bind fun v6 =>
  cond (!decide (v6.2.1 = 0))
  (some ([], v6.2.1, ()))
  ((exact_number__decimal v4.1 a1).bind fun v7 =>
  some (v7.1, 0, ()))))

noncomputable def exact_Shortest_l1 (p1 : (Unit × (Int × ((List Int) × ((Bool × ((List Int) × ((List Int) × Unit))) × Unit))))) : Option ((Unit × (Int × ((List Int) × ((Bool × ((List Int) × ((List Int) × Unit))) × Unit)))) ⊕ ((Unit × (Int × ((Bool × ((List Int) × ((List Int) × Unit))) × Unit))) ⊕ (Str × (Bool × (Int × Unit))))) :=
  (exact_nat__one p1.2.2.1).bind fun v2 =>
  cond (!v2.1)
  ((exact_divide p1.2.2.1 [10]).bind fun v3 =>
  ((exact_nat__zero v3.2.1).bind fun v4 =>
  cond (!v4.1)
  ((exact_common p1.2.2.1 [10]).bind fun v5 =>
  (exact_nat__one v5.1).bind fun v6 =>
  cond v6.1
  (some (.inr ([], false, 0, ())))
  ((exact_divide p1.2.2.1 v5.1).bind fun v7 =>
  some (.inl ((), v7.1, p1.2.2.2.1, ()))))
  (some (.inl ((), v3.1, p1.2.2.2.1, ()))) : Option ((Unit × ((List Int) × ((Bool × ((List Int) × ((List Int) × Unit))) × Unit))) ⊕ (Str × (Bool × (Int × Unit))))).bind fun r8 =>
  (match r8 with
  | .inl z9 => (some (.inl ((), IntKind.i64.wrap (p1.2.1 + 1), z9.2.1, z9.2.2.1, ())))
  | .inr z10 => (some (.inr (.inr z10)))))
  (some (.inr (.inl ((), p1.2.1, p1.2.2.2.1, ()))))

noncomputable def exact_Shortest (a0 : (Str × (Str × Unit))) : Option (Str × (Bool × (Int × Unit))) :=
  (exact_read a0).bind fun v1 =>
  cond (!decide (v1.2.1 = 0))
  (some ([], false, v1.2.1, ()))
  ((loop exact_Shortest_l1 ((), 0, v1.1.2.2.1, v1.1, ())).bind fun r11 =>
  (match r11 with
  | .inl z12 => ((exact_ten z12.2.1).bind fun v13 =>
  (exact_nat__times z12.2.2.1.2.1 v13.1).bind fun v14 =>
  (exact_divide v14.1 z12.2.2.1.2.2.1).bind fun v15 =>
  (exact_number__decimal (z12.2.2.1.1, v15.1, [1], ()) z12.2.1).bind fun v16 =>
  some (v16.1, true, 0, ()))
  | .inr z17 => (some z17)))

noncomputable def exact_Int (a0 : (Str × (Str × Unit))) : Option (Int × (Bool × (Int × Unit))) :=
  (exact_Check a0).bind fun v1 =>
  cond (!decide (v1.1 = 0))
  (some (0, false, v1.1, ()))
  ((sAtoi (a0.1, ())).bind fun v2 =>
  (cond (!decide (a0.2.1 = [49]))
  (some (true, ()))
  (cond ((!(v2.2.1 == false)))
  (some (true, ()))
  (cond ((decide (v2.1 < (-4611686018427387904))))
  (some (true, ()))
  (some ((decide (4611686018427387904 < v2.1)), ())))) : Option (Bool × Unit)).bind fun r3 =>
  cond r3.1
  (some (0, false, 0, ()))
  (some (v2.1, true, 0, ())))

noncomputable def chanceryref2_trimSign (a0 : Str) : Option (Str × Unit) :=
  (cond (!decide (a0 = []))
  ((idx a0 0).bind fun v1 =>
  some ((decide ((ofByte v1) = 45)), ()))
  (some (false, ())) : Option (Bool × Unit)).bind fun r2 =>
  cond r2.1
  ((cut a0 1 (a0.length : Int)).bind fun v3 =>
  some (v3, ()))
  (some (a0, ()))

noncomputable def chanceryref2_Rat__Int_l1 (v8 : (Str × Unit)) (p1 : (Unit × (Int × (Unit × (Int × ((Str × (Str × Unit)) × ((List Int) × Unit))))))) : Option ((Unit × (Int × (Unit × (Int × ((Str × (Str × Unit)) × ((List Int) × Unit)))))) ⊕ (Unit × (Int × ((Str × (Str × Unit)) × Unit)))) :=
  cond (decide (p1.2.2.2.1 < ((strBytes v8.1).length : Int)))
  ((chk (inb p1.2.2.2.1 p1.2.2.2.2.2.1.length)).bind fun _ =>
  let v9 : Int := IntKind.u8.wrap ((p1.2.2.2.2.2.1.getD p1.2.2.2.1.toNat 0) - 48)
  let v10 : Int := IntKind.i64.wrap ((IntKind.i64.wrap (10 * p1.2.1)) + (IntKind.i64.wrap v9))
  some (.inl ((), v10, (), IntKind.i64.wrap (p1.2.2.2.1 + 1), p1.2.2.2.2.1, p1.2.2.2.2.2.1, ())))
  (some (.inr ((), p1.2.1, p1.2.2.2.2.1, ())))

noncomputable def chanceryref2_Rat__Int (a0 : (Bool × ((List Int) × ((List Int) × Unit)))) : Option (Int × (Bool × Unit)) :=
  (chanceryref2_Rat__Frac a0).bind fun v1 =>
  (cond (!decide (v1.2.1 = 0))
  (some ((), true, v1.1, ()))
  (cond ((!decide (v1.1.2.1 = [49])))
  (some ((), true, v1.1, ()))
  (some ((), (decide (20 < (v1.1.1.length : Int))), v1.1, ()))) : Option (Unit × (Bool × ((Str × (Str × Unit)) × Unit)))).bind fun r2 =>
  cond r2.2.1
  (some (0, false, ()))
  ((chanceryref2_Decimal 4611686018427387904).bind fun v3 =>
  (chanceryref2_NatOf v3.1).bind fun v4 =>
  (chanceryref2_trimSign r2.2.2.1.1).bind fun v5 =>
  (chanceryref2_NatOf v5.1).bind fun v6 =>
  (chanceryref2_Nat__Compare v6.1 v4.1).bind fun v7 =>
  cond (decide (0 < v7.1))
  (some (0, false, ()))
  ((chanceryref2_trimSign r2.2.2.1.1).bind fun v8 =>
  (chk (decide (v8.1.length ≤ lim))).bind fun _ =>
  (loop (chanceryref2_Rat__Int_l1 v8) ((), 0, (), 0, r2.2.2.1, strBytes v8.1, ())).bind fun r11 =>
  ((idx r11.2.2.1.1 0).bind fun v12 =>
  cond (decide ((ofByte v12) = 45))
  (some (IntKind.i64.wrap (0 - r11.2.1), ()))
  (some (r11.2.1, ())) : Option (Int × Unit)).bind fun r13 =>
  some (r13.1, true, ())))

noncomputable def chanceryref2_Rat__Places_l1 (p1 : ((List Int) × (Int × Unit))) : Option (((List Int) × (Int × Unit)) ⊕ ((List Int) × (Int × Unit))) :=
  (idx p1.1 0).bind fun v3 =>
  (rem v3 2).bind fun v4 =>
  cond (decide (v4 = 0))
  ((chanceryref2_Nat__half p1.1).bind fun v5 =>
  some (.inl (v5.1, IntKind.i64.wrap (p1.2.1 + 1), ())))
  (some (.inr p1))

noncomputable def chanceryref2_Rat__Places_l2 (p2 : ((List Int) × (Int × Unit))) : Option (((List Int) × (Int × Unit)) ⊕ ((List Int) × (Int × Unit))) :=
  (chanceryref2_Nat__Divide p2.1 [5]).bind fun v7 =>
  cond (decide (0 < (v7.2.1.length : Int)))
  (some (.inr p2))
  (some (.inl (v7.1, IntKind.i64.wrap (p2.2.1 + 1), ())))

noncomputable def chanceryref2_Rat__Places (a0 : (Bool × ((List Int) × ((List Int) × Unit)))) : Option (Int × Unit) :=
  (chanceryref2_Rat__Frac a0).bind fun v1 =>
  cond (!decide (v1.2.1 = 0))
  (some ((-1), ()))
  ((chanceryref2_NatOf v1.1.2.1).bind fun v2 =>
  (loop chanceryref2_Rat__Places_l1 (v2.1, 0, ())).bind fun r6 =>
  (loop chanceryref2_Rat__Places_l2 (r6.1, 0, ())).bind fun r8 =>
  (chanceryref2_Nat__Text r8.1).bind fun v9 =>
  cond (!decide (v9.1 = [49]))
  (some ((-1), ()))
  (some (mx r6.2.1 r8.2.1, ())))

noncomputable def chanceryref2_Half : Option ((Bool × ((List Int) × ((List Int) × Unit))) × Unit) :=
  some ((false, ([1], ([2], ()))), ())

noncomputable def chanceryref2_Rat__Nearest_s (rec : (Bool × ((List Int) × ((List Int) × Unit))) → Option ((Bool × ((List Int) × ((List Int) × Unit))) × Unit)) (a0 : (Bool × ((List Int) × ((List Int) × Unit)))) : Option ((Bool × ((List Int) × ((List Int) × Unit))) × Unit) :=
  cond a0.1
  ((chanceryref2_Rat__Negative a0).bind fun v1 =>
  (rec v1.1).bind fun v2 =>
  (chanceryref2_Rat__Negative v2.1).bind fun v3 =>
  some (v3.1, ()))
  ((chanceryref2_Half).bind fun v4 =>
  (chanceryref2_Rat__Add a0 v4.1).bind fun v5 =>
  (chanceryref2_Rat__Floor v5.1).bind fun v6 =>
  some (v6.1, ()))

noncomputable def chanceryref2_Rat__Nearest_f : Nat → (Bool × ((List Int) × ((List Int) × Unit))) → Option ((Bool × ((List Int) × ((List Int) × Unit))) × Unit)
  | 0 => fun _ => none
  | n + 1 => chanceryref2_Rat__Nearest_s (chanceryref2_Rat__Nearest_f n)

noncomputable def chanceryref2_Rat__Nearest (a0 : (Bool × ((List Int) × ((List Int) × Unit)))) : Option ((Bool × ((List Int) × ((List Int) × Unit))) × Unit) := chanceryref2_Rat__Nearest_f rounds a0

noncomputable def chanceryref2_Rat__Fixed_l1 (a1 : Int) (p1 : (Unit × (Str × ((Bool × ((List Int) × ((List Int) × Unit))) × Unit)))) : Option ((Unit × (Str × ((Bool × ((List Int) × ((List Int) × Unit))) × Unit))) ⊕ (Unit × (Str × ((Bool × ((List Int) × ((List Int) × Unit))) × Unit)))) :=
  cond (decide ((p1.2.1.length : Int) ≤ a1))
  ((cat [48] p1.2.1).bind fun v4 =>
  some (.inl ((), v4, p1.2.2.1, ())))
  (some (.inr ((), p1.2.1, p1.2.2.1, ())))

noncomputable def chanceryref2_Rat__Fixed (a0 : (Bool × ((List Int) × ((List Int) × Unit)))) (a1 : Int) : Option (Str × Unit) :=
  (chanceryref2_Rat__Scaled a0 a1).bind fun v1 =>
  (chanceryref2_Rat__Nearest v1.1).bind fun v2 =>
  (chanceryref2_Nat__Text v2.1.2.1).bind fun v3 =>
  (loop (chanceryref2_Rat__Fixed_l1 a1) ((), v3.1, v2.1, ())).bind fun r5 =>
  (cond (decide (0 < a1))
  ((cut r5.2.1 0 (IntKind.i64.wrap ((r5.2.1.length : Int) - a1))).bind fun v6 =>
  (cat v6 [46]).bind fun v7 =>
  (cut r5.2.1 (IntKind.i64.wrap ((r5.2.1.length : Int) - a1)) (r5.2.1.length : Int)).bind fun v8 =>
  (cat v7 v8).bind fun v9 =>
  some ((), v9, r5.2.2.1, ()))
  (some ((), r5.2.1, r5.2.2.1, ())) : Option (Unit × (Str × ((Bool × ((List Int) × ((List Int) × Unit))) × Unit)))).bind fun r10 =>
  ((chanceryref2_Rat__Sign r10.2.2.1).bind fun v11 =>
  cond (decide (v11.1 < 0))
  ((cat [45] r10.2.1).bind fun v12 =>
  some (v12, ()))
  (some (r10.2.1, ())) : Option (Str × Unit)).bind fun r13 =>
  some r13

noncomputable def chanceryref2_Rat__Round (a0 : (Bool × ((List Int) × ((List Int) × Unit)))) (a1 : Int) : Option ((Bool × ((List Int) × ((List Int) × Unit))) × Unit) :=
  (chanceryref2_Rat__Scaled a0 a1).bind fun v1 =>
  (chanceryref2_Rat__Nearest v1.1).bind fun v2 =>
  (chanceryref2_Rat__Scaled v2.1 (IntKind.i64.wrap (0 - a1))).bind fun v3 =>
  some (v3.1, ())

noncomputable def chancerylaw2_ExactRoundingMatches (a0 : (Str × (Str × Unit))) (a1 : Int) : Option (Bool × Unit) :=
  (chancerylaw2_fractions).bind fun v1 =>
  cond (!v1.1)
  (some (false, ()))
  ((exact_Floor a0).bind fun v2 =>
  (exact_Round a0 a1).bind fun v3 =>
  (exact_Fixed a0 a1).bind fun v4 =>
  (exact_Shortest a0).bind fun v5 =>
  (exact_Int a0).bind fun v6 =>
  (chanceryref2_FracError a0).bind fun v7 =>
  cond (!decide (v7.1 = 0))
  (cond (decide (v2.2.1 = v7.1))
  (cond ((decide (v3.2.1 = v7.1)))
  (cond ((decide (v4.2.1 = v7.1)))
  (cond ((decide (v5.2.2.1 = v7.1)))
  (cond ((decide (v6.2.2.1 = v7.1)))
  (let v8 : Bool := (Ty.beq (.pair .str (.pair .str .unit)) v2.1 ([], [], ()))
  cond v8
  (let v9 : Bool := (Ty.beq (.pair .str (.pair .str .unit)) v3.1 ([], [], ()))
  cond v9
  (cond ((decide (v4.1 = [])))
  (cond ((decide (v5.1 = [])))
  (cond ((!v5.2.1))
  (cond ((decide (v6.1 = 0)))
  (some ((!v6.2.1), ()))
  (some (false, ())))
  (some (false, ())))
  (some (false, ())))
  (some (false, ())))
  (some (false, ())))
  (some (false, ())))
  (some (false, ())))
  (some (false, ())))
  (some (false, ())))
  (some (false, ())))
  (some (false, ())))
  ((chanceryref2_RatOf a0).bind fun v10 =>
  (chanceryref2_Rat__Int v10.1).bind fun v11 =>
  (chanceryref2_Rat__Places v10.1).bind fun v12 =>
  ((chanceryref2_Rat__Floor v10.1).bind fun v13 =>
  (chancerylaw2_frac v2.1 v2.2.1 v13.1).bind fun v14 =>
  cond (!v14.1)
  (some ((), (), true, v3.1, v10.1, ()))
  (cond ((!decide (v5.2.2.1 = 0)))
  (some ((), (), true, v3.1, v10.1, ()))
  (cond ((!(v5.2.1 == (decide (0 ≤ v12.1)))))
  (some ((), (), true, v3.1, v10.1, ()))
  (cond v5.2.1
  ((chanceryref2_Rat__Fixed v10.1 v12.1).bind fun v15 =>
  cond (((!decide (v5.1 = v15.1))))
  (some ((), (), true, v3.1, v10.1, ()))
  (cond (!v5.2.1)
  (cond (((!decide (v5.1 = []))))
  (some ((), (), true, v3.1, v10.1, ()))
  (cond ((!decide (v6.2.2.1 = 0)))
  (some ((), (), true, v3.1, v10.1, ()))
  (cond ((!(v6.2.1 == v11.2.1)))
  (some ((), (), true, v3.1, v10.1, ()))
  (cond v6.2.1
  (cond (((!decide (v6.1 = v11.1))))
  (some ((), (), true, v3.1, v10.1, ()))
  (cond (!v6.2.1)
  (some ((), (), ((!decide (v6.1 = 0))), v3.1, v10.1, ()))
  (some ((), (), false, v3.1, v10.1, ()))))
  (cond (false)
  (some ((), (), true, v3.1, v10.1, ()))
  (cond (!v6.2.1)
  (some ((), (), ((!decide (v6.1 = 0))), v3.1, v10.1, ()))
  (some ((), (), false, v3.1, v10.1, ()))))))))
  (cond (false)
  (some ((), (), true, v3.1, v10.1, ()))
  (cond ((!decide (v6.2.2.1 = 0)))
  (some ((), (), true, v3.1, v10.1, ()))
  (cond ((!(v6.2.1 == v11.2.1)))
  (some ((), (), true, v3.1, v10.1, ()))
  (cond v6.2.1
  (cond (((!decide (v6.1 = v11.1))))
  (some ((), (), true, v3.1, v10.1, ()))
  (cond (!v6.2.1)
  (some ((), (), ((!decide (v6.1 = 0))), v3.1, v10.1, ()))
  (some ((), (), false, v3.1, v10.1, ()))))
  (cond (false)
  (some ((), (), true, v3.1, v10.1, ()))
  (cond (!v6.2.1)
  (some ((), (), ((!decide (v6.1 = 0))), v3.1, v10.1, ()))
  (some ((), (), false, v3.1, v10.1, ()))))))))))
  (cond (false)
  (some ((), (), true, v3.1, v10.1, ()))
  (cond (!v5.2.1)
  (cond (((!decide (v5.1 = []))))
  (some ((), (), true, v3.1, v10.1, ()))
  (cond ((!decide (v6.2.2.1 = 0)))
  (some ((), (), true, v3.1, v10.1, ()))
  (cond ((!(v6.2.1 == v11.2.1)))
  (some ((), (), true, v3.1, v10.1, ()))
  (cond v6.2.1
  (cond (((!decide (v6.1 = v11.1))))
  (some ((), (), true, v3.1, v10.1, ()))
  (cond (!v6.2.1)
  (some ((), (), ((!decide (v6.1 = 0))), v3.1, v10.1, ()))
  (some ((), (), false, v3.1, v10.1, ()))))
  (cond (false)
  (some ((), (), true, v3.1, v10.1, ()))
  (cond (!v6.2.1)
  (some ((), (), ((!decide (v6.1 = 0))), v3.1, v10.1, ()))
  (some ((), (), false, v3.1, v10.1, ()))))))))
  (cond (false)
  (some ((), (), true, v3.1, v10.1, ()))
  (cond ((!decide (v6.2.2.1 = 0)))
  (some ((), (), true, v3.1, v10.1, ()))
  (cond ((!(v6.2.1 == v11.2.1)))
  (some ((), (), true, v3.1, v10.1, ()))
  (cond v6.2.1
  (cond (((!decide (v6.1 = v11.1))))
  (some ((), (), true, v3.1, v10.1, ()))
  (cond (!v6.2.1)
  (some ((), (), ((!decide (v6.1 = 0))), v3.1, v10.1, ()))
  (some ((), (), false, v3.1, v10.1, ()))))
  (cond (false)
  (some ((), (), true, v3.1, v10.1, ()))
  (cond (!v6.2.1)
  (some ((), (), ((!decide (v6.1 = 0))), v3.1, v10.1, ()))
  (some ((), (), false, v3.1, v10.1, ()))))))))))))) : Option (Unit × (Unit × (Bool × ((Str × (Str × Unit)) × ((Bool × ((List Int) × ((List Int) × Unit))) × Unit)))))).bind fun r16 =>
  cond r16.2.2.1
  (some (false, ()))
  ((cond (decide (a1 < (-100)))
  (some ((), (), true, r16.2.2.2.1, r16.2.2.2.2.1, ()))
  (some ((), (), (decide (100 < a1)), r16.2.2.2.1, r16.2.2.2.2.1, ())) : Option (Unit × (Unit × (Bool × ((Str × (Str × Unit)) × ((Bool × ((List Int) × ((List Int) × Unit))) × Unit)))))).bind fun r17 =>
  cond r17.2.2.1
  (cond (Ty.beq (.pair .str (.pair .str .unit)) r17.2.2.2.1 ([], [], ()))
  (cond ((decide (v3.2.1 = 2)))
  (cond ((decide (v4.1 = [])))
  (some ((decide (v4.2.1 = 2)), ()))
  (some (false, ())))
  (some (false, ())))
  (some (false, ())))
  (let v18 : (Bool × ((List Int) × ((List Int) × Unit))) := r17.2.2.2.2.1
  (chanceryref2_Rat__Round v18 a1).bind fun v19 =>
  (chancerylaw2_frac r17.2.2.2.1 v3.2.1 v19.1).bind fun v20 =>
  cond (!v20.1)
  (some (false, ()))
  (cond (decide (a1 < 0))
  (cond (decide (v4.1 = []))
  (some ((decide (v4.2.1 = 2)), ()))
  (some (false, ())))
  (cond (!decide (v3.2.1 = 0))
  (cond (decide (v4.1 = []))
  (some ((decide (v4.2.1 = v3.2.1)), ()))
  (some (false, ())))
  (cond (decide (v4.2.1 = 0))
  (let v21 : (Bool × ((List Int) × ((List Int) × Unit))) := r17.2.2.2.2.1
  (chanceryref2_Rat__Fixed v21 a1).bind fun v22 =>
  some ((decide (v4.1 = v22.1)), ()))
  (some (false, ())))))))))

end Go.Proofs.YtmcoedgkmciciaaGreatDoor
