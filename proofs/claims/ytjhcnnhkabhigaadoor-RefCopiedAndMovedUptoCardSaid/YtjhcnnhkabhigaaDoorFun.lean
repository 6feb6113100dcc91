/- Plain functions that the program's functions come to. Printed by a program (fegen.py). -/
import Derived.Test.YtjhcnnhkabhigaaDoorFeLib
import Derived.Test.YtjhcnnhkabhigaaDoorFeLaw
namespace Go.Proofs.YtjhcnnhkabhigaaDoor
open Go Go.Fe

noncomputable def cellref_permitted (a0 : Int) : Option (Bool × Unit) :=
  cond (decide (0 ≤ a0))
  (some ((decide (a0 < 1073741824)), ()))
  (some (false, ()))

noncomputable def cellref_letters_l1 (p1 : (Str × (Int × Unit))) : Option ((Str × (Int × Unit)) ⊕ (Str × Unit)) :=
  cond (decide (0 < p1.2.1))
  ((rem (IntKind.i64.wrap (p1.2.1 - 1)) 26).bind fun v1 =>
  (cat (bytesStr [IntKind.u8.wrap (65 + (IntKind.u8.wrap v1))]) p1.1).bind fun v2 =>
  (quo .i64 (IntKind.i64.wrap (p1.2.1 - 1)) 26).bind fun v3 =>
  some (.inl (v2, v3, ())))
  (some (.inr (p1.1, ())))

noncomputable def cellref_letters (a0 : Int) : Option (Str × Unit) :=
  (loop cellref_letters_l1 ([], IntKind.i64.wrap (a0 + 1), ())).bind fun r4 =>
  some r4

noncomputable def cellref_Letters (a0 : Int) : Option (Str × (Int × Unit)) :=
  (cellref_permitted a0).bind fun v1 =>
  cond (!v1.1)
  (some ([], 2, ()))
  ((cellref_letters a0).bind fun v2 =>
  some (v2.1, 0, ()))

noncomputable def stringslite_Cut (a0 : Str) (a1 : Str) : Option (Str × (Str × (Bool × Unit))) :=
  (sIndex (a0, a1, ())).bind fun v1 =>
  cond (decide (0 ≤ v1.1))
  ((cut a0 0 v1.1).bind fun v2 =>
  (cut a0 (IntKind.i64.wrap (v1.1 + (a1.length : Int))) (a0.length : Int)).bind fun v3 =>
  some (v2, v3, true, ()))
  (some (a0, [], false, ()))

noncomputable def strings_Cut (a0 : Str) (a1 : Str) : Option (Str × (Str × (Bool × Unit))) :=
  (stringslite_Cut a0 a1).bind fun v1 =>
  some v1

noncomputable def cellref_letter (a0 : Int) : Option (Bool × Unit) :=
  cond (decide ((65 : Int) ≤ a0))
  (cond ((decide (a0 ≤ 90)))
  (some (true, ()))
  (cond (decide ((97 : Int) ≤ a0))
  (some (((decide (a0 ≤ 122))), ()))
  (some (false, ()))))
  (cond (decide ((97 : Int) ≤ a0))
  (some (((decide (a0 ≤ 122))), ()))
  (some (false, ())))

noncomputable def cellref_digit (a0 : Int) : Option (Bool × Unit) :=
  cond (decide ((48 : Int) ≤ a0))
  (some ((decide (a0 ≤ 57)), ()))
  (some (false, ()))

noncomputable def cellref_Plain_l1 (a0 : Str) (p1 : (Int × Unit)) : Option ((Int × Unit) ⊕ (Unit ⊕ (Bool × Unit))) :=
  cond (decide (p1.1 < (a0.length : Int)))
  ((idx a0 p1.1).bind fun v1 =>
  ((cellref_letter (ofByte v1)).bind fun v2 =>
  cond (!v2.1)
  (cond (decide (p1.1 = 0))
  (some (true, ()))
  ((cellref_digit (ofByte v1)).bind fun v3 =>
  cond (!v3.1)
  (let v4 : Bool := ((!decide ((ofByte v1) = 95)))
  some (v4, ()))
  (some ((false), ()))))
  (some (false, ())) : Option (Bool × Unit)).bind fun r5 =>
  cond r5.1
  (some (.inr (.inr (false, ()))))
  (some (.inl (IntKind.i64.wrap (p1.1 + 1), ()))))
  (some (.inr (.inl (()))))

noncomputable def cellref_Plain (a0 : Str) : Option (Bool × Unit) :=
  (loop (cellref_Plain_l1 a0) (0, ())).bind fun r6 =>
  (match r6 with
  | .inl _ => (some (!decide (a0 = []), ()))
  | .inr z8 => (some z8))

noncomputable def _strings_Builder__WriteByte (a1 : Int) (o1 : (List Int)) : Option (Bool × (Unit × ((Unit × (Unit × Unit)) × ((List Int) × Unit)))) :=
  (cat o1 [a1]).bind fun v1 =>
  some (false, (), ((), ((), ())), v1, ())

noncomputable def _strings_Builder__Len (o0 : (List Int)) : Option (Int × (Unit × ((Unit × ((List Int) × Unit)) × Unit))) :=
  some ((o0.length : Int), (), ((), (o0, ())), ())

noncomputable def cellref_sheet_l1 (a0 : Str) (p1 : (Unit × (Int × ((Unit × (Unit × Unit)) × ((List Int) × Unit))))) : Option ((Unit × (Int × ((Unit × (Unit × Unit)) × ((List Int) × Unit)))) ⊕ (Unit ⊕ (Str × (Str × (Bool × Unit))))) :=
  cond (decide (p1.2.1 < (a0.length : Int)))
  (((idx a0 p1.2.1).bind fun v5 =>
  cond (!decide ((ofByte v5) = 39))
  ((idx a0 p1.2.1).bind fun v6 =>
  (_strings_Builder__WriteByte (ofByte v6) p1.2.2.2.1).bind fun v7 =>
  some (.inl ((), p1.2.1, ((), ((), ())), v7.2.2.2.1, ())))
  ((cond (decide ((IntKind.i64.wrap (p1.2.1 + 1)) < (a0.length : Int)))
  ((idx a0 (IntKind.i64.wrap (p1.2.1 + 1))).bind fun v8 =>
  some ((), (decide ((ofByte v8) = 39)), ((), ((), ())), p1.2.2.2.1, ()))
  (some ((), false, ((), ((), ())), p1.2.2.2.1, ())) : Option (Unit × (Bool × ((Unit × (Unit × Unit)) × ((List Int) × Unit))))).bind fun r9 =>
  cond r9.2.1
  ((_strings_Builder__WriteByte 39 r9.2.2.2.1).bind fun v10 =>
  some (.inl ((), IntKind.i64.wrap (p1.2.1 + 1), ((), ((), ())), v10.2.2.2.1, ())))
  ((cut a0 (IntKind.i64.wrap (p1.2.1 + 1)) (a0.length : Int)).bind fun v11 =>
  (sCutPrefix (v11, [33], ())).bind fun v12 =>
  (chk (decide (r9.2.2.2.1.length ≤ lim))).bind fun _ =>
  cond v12.2.1
  ((_strings_Builder__Len r9.2.2.2.1).bind fun v13 =>
  some (.inr (bytesStr r9.2.2.2.1, v12.1, (decide (0 < v13.1)), ())))
  (some (.inr (bytesStr r9.2.2.2.1, v12.1, false, ()))))) : Option ((Unit × (Int × ((Unit × (Unit × Unit)) × ((List Int) × Unit)))) ⊕ (Str × (Str × (Bool × Unit))))).bind fun r14 =>
  (match r14 with
  | .inl z15 => (some (.inl ((), IntKind.i64.wrap (z15.2.1 + 1), ((), ((), ())), z15.2.2.2.1, ())))
  | .inr z16 => (some (.inr (.inr z16)))))
  (some (.inr (.inl (()))))

noncomputable def cellref_sheet (a0 : Str) : Option (Str × (Str × (Bool × Unit))) :=
  (sHasPrefix (a0, [39], ())).bind fun v1 =>
  cond (!v1.1)
  ((strings_Cut a0 [33]).bind fun v2 =>
  (cond (!v2.2.2.1)
  (some (true, ()))
  (some ((decide (a0 = [35, 82, 69, 70, 33])), ())) : Option (Bool × Unit)).bind fun r3 =>
  cond r3.1
  (some ([], a0, true, ()))
  ((cellref_Plain v2.1).bind fun v4 =>
  some (v2.1, v2.2.1, v4.1, ())))
  ((loop (cellref_sheet_l1 a0) ((), 1, ((), ((), ())), [], ())).bind fun r17 =>
  (match r17 with
  | .inl _ => (some ([], [], false, ()))
  | .inr z19 => (some z19)))

noncomputable def cellref_place_l1 (p1 : (Str × (Unit × (Unit × ((Str × (Str × (Bool × (Bool × Unit)))) × ((Str × (Str × (Bool × (Bool × Unit)))) × Unit)))))) : Option ((Str × (Unit × (Unit × ((Str × (Str × (Bool × (Bool × Unit)))) × ((Str × (Str × (Bool × (Bool × Unit)))) × Unit))))) ⊕ (Str × (Unit × (Unit × ((Str × (Str × (Bool × (Bool × Unit)))) × ((Str × (Str × (Bool × (Bool × Unit)))) × Unit)))))) :=
  (cond (!decide (p1.1 = []))
  ((idx p1.1 0).bind fun v2 =>
  (cellref_letter (ofByte v2)).bind fun v3 =>
  some ((), (), v3.1, p1.2.2.2.1, p1.2.2.2.2.1, ()))
  (some ((), (), false, p1.2.2.2.1, p1.2.2.2.2.1, ())) : Option (Unit × (Unit × (Bool × ((Str × (Str × (Bool × (Bool × Unit)))) × ((Str × (Str × (Bool × (Bool × Unit)))) × Unit)))))).bind fun r4 =>
  cond r4.2.2.1
  ((cut p1.1 0 1).bind fun v5 =>
  (cat r4.2.2.2.2.1.1 v5).bind fun v6 =>
  (cut p1.1 1 (p1.1.length : Int)).bind fun v7 =>
  some (.inl (v7, (), (), r4.2.2.2.1, (v6, r4.2.2.2.2.1.2), ())))
  (some (.inr (p1.1, (), (), r4.2.2.2.1, r4.2.2.2.2.1, ())))

noncomputable def cellref_place_l2 (p2 : (Str × (Unit × (Unit × ((Str × (Str × (Bool × (Bool × Unit)))) × ((Str × (Str × (Bool × (Bool × Unit)))) × Unit)))))) : Option ((Str × (Unit × (Unit × ((Str × (Str × (Bool × (Bool × Unit)))) × ((Str × (Str × (Bool × (Bool × Unit)))) × Unit))))) ⊕ (Str × (Unit × (Unit × ((Str × (Str × (Bool × (Bool × Unit)))) × ((Str × (Str × (Bool × (Bool × Unit)))) × Unit)))))) :=
  (cond (!decide (p2.1 = []))
  ((idx p2.1 0).bind fun v11 =>
  (cellref_digit (ofByte v11)).bind fun v12 =>
  some ((), (), v12.1, p2.2.2.2.1, p2.2.2.2.2.1, ()))
  (some ((), (), false, p2.2.2.2.1, p2.2.2.2.2.1, ())) : Option (Unit × (Unit × (Bool × ((Str × (Str × (Bool × (Bool × Unit)))) × ((Str × (Str × (Bool × (Bool × Unit)))) × Unit)))))).bind fun r13 =>
  cond r13.2.2.1
  ((cut p2.1 0 1).bind fun v14 =>
  (cat r13.2.2.2.2.1.2.1 v14).bind fun v15 =>
  (cut p2.1 1 (p2.1.length : Int)).bind fun v16 =>
  some (.inl (v16, (), (), r13.2.2.2.1, (r13.2.2.2.2.1.1, (v15, r13.2.2.2.2.1.2.2)), ())))
  (some (.inr (p2.1, (), (), r13.2.2.2.1, r13.2.2.2.2.1, ())))

noncomputable def cellref_place (a0 : Str) : Option ((Str × (Str × (Bool × (Bool × Unit)))) × (Bool × Unit)) :=
  (sCutPrefix (a0, [36], ())).bind fun v1 =>
  (loop cellref_place_l1 (v1.1, (), (), ([], ([], (false, (false, ())))), ([], ([], (v1.2.1, (false, ())))), ())).bind fun r8 =>
  (cond (decide (r8.2.2.2.2.1.1 = []))
  (some (r8.1, (), (), r8.2.2.2.1, (r8.2.2.2.2.1.1, (r8.2.2.2.2.1.2.1, (false, (r8.2.2.2.2.1.2.2.1, ())))), ()))
  (cond (!decide (r8.1 = []))
  ((sCutPrefix (r8.1, [36], ())).bind fun v9 =>
  some (v9.1, (), (), r8.2.2.2.1, (r8.2.2.2.2.1.1, (r8.2.2.2.2.1.2.1, (r8.2.2.2.2.1.2.2.1, v9.2))), ()))
  (some (r8.1, (), (), r8.2.2.2.1, r8.2.2.2.2.1, ()))) : Option (Str × (Unit × (Unit × ((Str × (Str × (Bool × (Bool × Unit)))) × ((Str × (Str × (Bool × (Bool × Unit)))) × Unit)))))).bind fun r10 =>
  (loop cellref_place_l2 (r10.1, (), (), r10.2.2.2.1, r10.2.2.2.2.1, ())).bind fun r17 =>
  (cond (decide ((r17.2.2.2.2.1.1.length : Int) ≤ 7))
  (let v18 : Bool := (decide ((r17.2.2.2.2.1.2.1.length : Int) ≤ 10))
  cond v18
  ((sHasPrefix (r17.2.2.2.2.1.2.1, [48], ())).bind fun v19 =>
  cond ((!v19.1))
  (cond (!decide (r17.2.2.2.2.1.2.1 = []))
  (some ((), (), true, r17.2.2.2.1, r17.2.2.2.2.1, ()))
  (cond (!decide (r17.2.2.2.2.1.1 = []))
  (let v20 : Bool := (((!r17.2.2.2.2.1.2.2.2.1)))
  some ((), (), v20, r17.2.2.2.1, r17.2.2.2.2.1, ()))
  (some ((), (), (false), r17.2.2.2.1, r17.2.2.2.2.1, ()))))
  (some ((), (), false, r17.2.2.2.1, r17.2.2.2.2.1, ())))
  (some ((), (), false, r17.2.2.2.1, r17.2.2.2.2.1, ())))
  (some ((), (), false, r17.2.2.2.1, r17.2.2.2.2.1, ())) : Option (Unit × (Unit × (Bool × ((Str × (Str × (Bool × (Bool × Unit)))) × ((Str × (Str × (Bool × (Bool × Unit)))) × Unit)))))).bind fun r21 =>
  let v22 : (Str × (Str × (Bool × (Bool × Unit)))) := r21.2.2.2.2.1
  cond (decide (r17.1 = []))
  (some (v22, r21.2.2.1, ()))
  (some (v22, false, ()))

noncomputable def cellref_Column_l1 (a0 : Str) (p1 : (Int × (Int × Unit))) : Option ((Int × (Int × Unit)) ⊕ ((Int × Unit) ⊕ (Int × (Int × Unit)))) :=
  cond (decide (p1.2.1 < (a0.length : Int)))
  ((idx a0 p1.2.1).bind fun v2 =>
  (cellref_letter (ofByte v2)).bind fun v3 =>
  cond (!v3.1)
  (some (.inr (.inr (0, 10, ()))))
  ((idx a0 p1.2.1).bind fun v4 =>
  let v5 : Int := IntKind.i64.wrap ((IntKind.i64.wrap (26 * p1.1)) + (IntKind.i64.wrap (band .u8 (ofByte v4) 31)))
  some (.inl (v5, IntKind.i64.wrap (p1.2.1 + 1), ()))))
  (some (.inr (.inl (p1.1, ()))))

noncomputable def cellref_Column (a0 : Str) : Option (Int × (Int × Unit)) :=
  (cond (decide (a0 = []))
  (some (true, ()))
  (some ((decide (7 < (a0.length : Int))), ())) : Option (Bool × Unit)).bind fun r1 =>
  cond r1.1
  (some (0, 10, ()))
  ((loop (cellref_Column_l1 a0) (0, 0, ())).bind fun r6 =>
  (match r6 with
  | .inl z7 => (cond (decide (1073741824 < z7.1))
  (some (0, 2, ()))
  (some (IntKind.i64.wrap (z7.1 - 1), 0, ())))
  | .inr z8 => (some z8)))

noncomputable def cellref_corner__values (a0 : (Str × (Str × (Bool × (Bool × Unit))))) : Option (Int × (Int × (Int × Unit))) :=
  (cond (!decide (a0.2.1 = []))
  ((sAtoi (a0.2.1, ())).bind fun v1 =>
  some ((), IntKind.i64.wrap (v1.1 - 1), a0, ()))
  (some ((), 0, a0, ())) : Option (Unit × (Int × ((Str × (Str × (Bool × (Bool × Unit)))) × Unit)))).bind fun r2 =>
  (cond (!decide (r2.2.2.1.1 = []))
  ((cellref_Column r2.2.2.1.1).bind fun v3 =>
  some v3)
  (some (0, 0, ())) : Option (Int × (Int × Unit))).bind fun r4 =>
  (cond (!decide (r4.2.1 = 0))
  (some (true, ()))
  (some ((decide (1073741824 ≤ r2.2.1)), ())) : Option (Bool × Unit)).bind fun r5 =>
  cond r5.1
  (some (0, 0, 2, ()))
  (some (r2.2.1, r4.1, 0, ()))

noncomputable def cellref_ordered (a0 : (Str × (Int × (Int × (Int × (Int × (Int × (Bool × (Bool × (Bool × (Bool × Unit))))))))))) : Option ((Str × (Int × (Int × (Int × (Int × (Int × (Bool × (Bool × (Bool × (Bool × Unit)))))))))) × Unit) :=
  cond (decide (a0.2.1 = 0))
  (let v1 : (Str × (Int × (Int × (Int × (Int × (Int × (Bool × (Bool × (Bool × (Bool × Unit)))))))))) := a0
  some (v1, ()))
  ((cond (decide (a0.2.2.2.2.1 < a0.2.2.1))
  (some ((), (), (a0.1, (a0.2.1, (a0.2.2.2.2.1, (a0.2.2.2.1, (a0.2.2.1, (a0.2.2.2.2.2.1, (a0.2.2.2.2.2.2.2.2.1, (a0.2.2.2.2.2.2.2.1, (a0.2.2.2.2.2.2.1, a0.2.2.2.2.2.2.2.2.2))))))))), ([], (0, (0, (0, (0, (0, (false, (false, (false, (false, ())))))))))), ()))
  (some ((), (), a0, ([], (0, (0, (0, (0, (0, (false, (false, (false, (false, ())))))))))), ())) : Option (Unit × (Unit × ((Str × (Int × (Int × (Int × (Int × (Int × (Bool × (Bool × (Bool × (Bool × Unit)))))))))) × ((Str × (Int × (Int × (Int × (Int × (Int × (Bool × (Bool × (Bool × (Bool × Unit)))))))))) × Unit))))).bind fun r2 =>
  (cond (decide (r2.2.2.1.2.2.2.2.2.1 < r2.2.2.1.2.2.2.1))
  (some ((), (), (r2.2.2.1.1, (r2.2.2.1.2.1, (r2.2.2.1.2.2.1, (r2.2.2.1.2.2.2.2.2.1, (r2.2.2.1.2.2.2.2.1, (r2.2.2.1.2.2.2.1, (r2.2.2.1.2.2.2.2.2.2.1, (r2.2.2.1.2.2.2.2.2.2.2.2.2.1, (r2.2.2.1.2.2.2.2.2.2.2.2.1, (r2.2.2.1.2.2.2.2.2.2.2.1, ())))))))))), r2.2.2.2.1, ()))
  (some ((), (), r2.2.2.1, r2.2.2.2.1, ())) : Option (Unit × (Unit × ((Str × (Int × (Int × (Int × (Int × (Int × (Bool × (Bool × (Bool × (Bool × Unit)))))))))) × ((Str × (Int × (Int × (Int × (Int × (Int × (Bool × (Bool × (Bool × (Bool × Unit)))))))))) × Unit))))).bind fun r3 =>
  let v4 : (Str × (Int × (Int × (Int × (Int × (Int × (Bool × (Bool × (Bool × (Bool × Unit)))))))))) := r3.2.2.1
  some (v4, ()))

noncomputable def cellref_name_l1 (a0 : Str) (p1 : (Int × Unit)) : Option ((Int × Unit) ⊕ (Unit ⊕ (Int × Unit))) :=
  cond (decide (p1.1 < (a0.length : Int)))
  (((idx a0 p1.1).bind fun v1 =>
  cond (decide ((ofByte v1) < 32))
  (some (true, ()))
  ((idx a0 p1.1).bind fun v2 =>
  some ((decide (126 < (ofByte v2))), ())) : Option (Bool × Unit)).bind fun r3 =>
  cond r3.1
  (some (.inr (.inr (9, ()))))
  (some (.inl (IntKind.i64.wrap (p1.1 + 1), ()))))
  (some (.inr (.inl (()))))

noncomputable def cellref_name (a0 : Str) : Option (Int × Unit) :=
  cond (decide (200 < (a0.length : Int)))
  (some (3, ()))
  ((loop (cellref_name_l1 a0) (0, ())).bind fun r4 =>
  (match r4 with
  | .inl _ => (some (0, ()))
  | .inr z6 => (some z6)))

noncomputable def cellref_meaning (a0 : (Str × (Int × (Int × (Int × (Int × (Int × (Bool × (Bool × (Bool × (Bool × Unit))))))))))) : Option ((Str × (Int × (Int × (Int × (Int × (Int × (Bool × (Bool × (Bool × (Bool × Unit)))))))))) × Unit) :=
  (cond (decide (a0.2.1 = 0))
  (some ((), (), (a0.1, (a0.2.1, (a0.2.2.1, (a0.2.2.2.1, (0, (0, (a0.2.2.2.2.2.2.1, (a0.2.2.2.2.2.2.2.1, (false, (false, ())))))))))), ([], (0, (0, (0, (0, (0, (false, (false, (false, (false, ())))))))))), ()))
  (cond (decide (a0.2.1 = 2))
  (some ((), (), (a0.1, (a0.2.1, (a0.2.2.1, (0, (a0.2.2.2.2.1, (0, (a0.2.2.2.2.2.2.1, (false, (a0.2.2.2.2.2.2.2.2.1, (false, ())))))))))), ([], (0, (0, (0, (0, (0, (false, (false, (false, (false, ())))))))))), ()))
  (cond (decide (a0.2.1 = 3))
  (some ((), (), (a0.1, (a0.2.1, (0, (a0.2.2.2.1, (0, (a0.2.2.2.2.2.1, (false, (a0.2.2.2.2.2.2.2.1, (false, a0.2.2.2.2.2.2.2.2.2))))))))), ([], (0, (0, (0, (0, (0, (false, (false, (false, (false, ())))))))))), ()))
  (cond (decide (a0.2.1 = 4))
  (some ((), (), ([], (4, (0, (0, (0, (0, (false, (false, (false, (false, ())))))))))), ([], (0, (0, (0, (0, (0, (false, (false, (false, (false, ())))))))))), ()))
  (some ((), (), a0, ([], (0, (0, (0, (0, (0, (false, (false, (false, (false, ())))))))))), ()))))) : Option (Unit × (Unit × ((Str × (Int × (Int × (Int × (Int × (Int × (Bool × (Bool × (Bool × (Bool × Unit)))))))))) × ((Str × (Int × (Int × (Int × (Int × (Int × (Bool × (Bool × (Bool × (Bool × Unit)))))))))) × Unit))))).bind fun r1 =>
  let v2 : (Str × (Int × (Int × (Int × (Int × (Int × (Bool × (Bool × (Bool × (Bool × Unit)))))))))) := r1.2.2.1
  some (v2, ())

noncomputable def cellref_Check (a0 : (Str × (Int × (Int × (Int × (Int × (Int × (Bool × (Bool × (Bool × (Bool × Unit))))))))))) : Option (Int × Unit) :=
  (cond (decide (a0.2.1 < 0))
  (some ((), true, a0, ()))
  (some ((), (decide (4 < a0.2.1)), a0, ())) : Option (Unit × (Bool × ((Str × (Int × (Int × (Int × (Int × (Int × (Bool × (Bool × (Bool × (Bool × Unit)))))))))) × Unit)))).bind fun r1 =>
  cond r1.2.1
  (some (8, ()))
  ((cellref_name r1.2.2.1.1).bind fun v2 =>
  cond (!decide (v2.1 = 0))
  (some v2)
  (let v3 : (Str × (Int × (Int × (Int × (Int × (Int × (Bool × (Bool × (Bool × (Bool × Unit)))))))))) := r1.2.2.1
  let v4 : (Str × (Int × (Int × (Int × (Int × (Int × (Bool × (Bool × (Bool × (Bool × Unit)))))))))) := r1.2.2.1
  (cellref_meaning v4).bind fun v5 =>
  cond (!Ty.beq (.pair .str (.pair (.int .i64) (.pair (.int .i64) (.pair (.int .i64) (.pair (.int .i64) (.pair (.int .i64) (.pair .bool (.pair .bool (.pair .bool (.pair .bool .unit)))))))))) v3 v5.1)
  (some (4, ()))
  (((cellref_permitted r1.2.2.1.2.2.1).bind fun v6 =>
  cond (!v6.1)
  (some ((), true, r1.2.2.1, ()))
  ((cellref_permitted r1.2.2.1.2.2.2.1).bind fun v7 =>
  cond ((!v7.1))
  (some ((), true, r1.2.2.1, ()))
  ((cellref_permitted r1.2.2.1.2.2.2.2.1).bind fun v8 =>
  cond ((!v8.1))
  (some ((), true, r1.2.2.1, ()))
  ((cellref_permitted r1.2.2.1.2.2.2.2.2.1).bind fun v9 =>
  some ((), (!v9.1), r1.2.2.1, ())))) : Option (Unit × (Bool × ((Str × (Int × (Int × (Int × (Int × (Int × (Bool × (Bool × (Bool × (Bool × Unit)))))))))) × Unit)))).bind fun r10 =>
  cond r10.2.1
  (some (2, ()))
  ((cond (!decide (r10.2.2.1.2.1 = 0))
  (cond (decide (r10.2.2.1.2.2.2.2.1 < r10.2.2.1.2.2.1))
  (some (true, ()))
  (let v11 : Bool := (decide (r10.2.2.1.2.2.2.2.2.1 < r10.2.2.1.2.2.2.1))
  some (v11, ())))
  (some (false, ())) : Option (Bool × Unit)).bind fun r12 =>
  cond r12.1
  (some (5, ()))
  (some (0, ()))))))

noncomputable def cellref_Parse (a0 : Str) : Option ((Str × (Int × (Int × (Int × (Int × (Int × (Bool × (Bool × (Bool × (Bool × Unit)))))))))) × (Int × Unit)) :=
  cond (decide (500 < (a0.length : Int)))
  (some (([], (0, (0, (0, (0, (0, (false, (false, (false, (false, ())))))))))), 3, ()))
  (cond (decide (a0 = [35, 82, 69, 70, 33]))
  (some (([], (4, (0, (0, (0, (0, (false, (false, (false, (false, ())))))))))), 0, ()))
  ((cellref_sheet a0).bind fun v1 =>
  (strings_Cut v1.2.1 [58]).bind fun v2 =>
  (cellref_place v2.1).bind fun v3 =>
  (cond v2.2.2.1
  ((cellref_place v2.2.1).bind fun v4 =>
  some ((), (), (), v4.2.1, ([], (0, (0, (0, (0, (0, (false, (false, (false, (false, ())))))))))), v3.1, v4.1, ()))
  (some ((), (), (), true, ([], (0, (0, (0, (0, (0, (false, (false, (false, (false, ())))))))))), v3.1, v3.1, ())) : Option (Unit × (Unit × (Unit × (Bool × ((Str × (Int × (Int × (Int × (Int × (Int × (Bool × (Bool × (Bool × (Bool × Unit)))))))))) × ((Str × (Str × (Bool × (Bool × Unit)))) × ((Str × (Str × (Bool × (Bool × Unit)))) × Unit)))))))).bind fun r5 =>
  (cond (!decide (r5.2.2.2.2.2.1.1 = []))
  (some ((), (), (), (!decide (r5.2.2.2.2.2.1.2.1 = [])), r5.2.2.2.2.1, r5.2.2.2.2.2.1, r5.2.2.2.2.2.2.1, ()))
  (some ((), (), (), false, r5.2.2.2.2.1, r5.2.2.2.2.2.1, r5.2.2.2.2.2.2.1, ())) : Option (Unit × (Unit × (Unit × (Bool × ((Str × (Int × (Int × (Int × (Int × (Int × (Bool × (Bool × (Bool × (Bool × Unit)))))))))) × ((Str × (Str × (Bool × (Bool × Unit)))) × ((Str × (Str × (Bool × (Bool × Unit)))) × Unit)))))))).bind fun r6 =>
  (cond (!v1.2.2.1)
  (some ((), (), (), true, r6.2.2.2.2.1, r6.2.2.2.2.2.1, r6.2.2.2.2.2.2.1, ()))
  (cond ((!v3.2.1))
  (some ((), (), (), true, r6.2.2.2.2.1, r6.2.2.2.2.2.1, r6.2.2.2.2.2.2.1, ()))
  (cond ((!r5.2.2.2.1))
  (some ((), (), (), true, r6.2.2.2.2.1, r6.2.2.2.2.2.1, r6.2.2.2.2.2.2.1, ()))
  (let v7 : Bool := (!((decide (r6.2.2.2.2.2.1.1 = [])) == (decide (r6.2.2.2.2.2.2.1.1 = []))))
  cond v7
  (some ((), (), (), true, r6.2.2.2.2.1, r6.2.2.2.2.2.1, r6.2.2.2.2.2.2.1, ()))
  (let v8 : Bool := (!((decide (r6.2.2.2.2.2.1.2.1 = [])) == (decide (r6.2.2.2.2.2.2.1.2.1 = []))))
  cond v8
  (some ((), (), (), true, r6.2.2.2.2.1, r6.2.2.2.2.2.1, r6.2.2.2.2.2.2.1, ()))
  (cond (!v2.2.2.1)
  (some ((), (), (), ((!r6.2.2.2.1)), r6.2.2.2.2.1, r6.2.2.2.2.2.1, r6.2.2.2.2.2.2.1, ()))
  (some ((), (), (), false, r6.2.2.2.2.1, r6.2.2.2.2.2.1, r6.2.2.2.2.2.2.1, ()))))))) : Option (Unit × (Unit × (Unit × (Bool × ((Str × (Int × (Int × (Int × (Int × (Int × (Bool × (Bool × (Bool × (Bool × Unit)))))))))) × ((Str × (Str × (Bool × (Bool × Unit)))) × ((Str × (Str × (Bool × (Bool × Unit)))) × Unit)))))))).bind fun r9 =>
  cond r9.2.2.2.1
  (some (([], (0, (0, (0, (0, (0, (false, (false, (false, (false, ())))))))))), 10, ()))
  (let v10 : (Str × (Int × (Int × (Int × (Int × (Int × (Bool × (Bool × (Bool × (Bool × Unit)))))))))) := (v1.1, 0, 0, 0, 0, 0, r9.2.2.2.2.2.1.2.2.2.1, r9.2.2.2.2.2.1.2.2.1, false, false, ())
  let v11 : (Str × (Str × (Bool × (Bool × Unit)))) := r9.2.2.2.2.2.1
  (cellref_corner__values v11).bind fun v12 =>
  cond (!decide (v12.2.2.1 = 0))
  (some (([], (0, (0, (0, (0, (0, (false, (false, (false, (false, ())))))))))), v12.2.2.1, ()))
  ((cond v2.2.2.1
  (let v13 : (Str × (Str × (Bool × (Bool × Unit)))) := r9.2.2.2.2.2.2.1
  (cellref_corner__values v13).bind fun v14 =>
  cond (!decide (v14.2.2.1 = 0))
  (some (.inr ((), v14.2.2.1, ([], (0, (0, (0, (0, (0, (false, (false, (false, (false, ())))))))))), ())))
  (cond (!r6.2.2.2.1)
  (cond (decide (r9.2.2.2.2.2.1.2.1 = []))
  (some (.inl ((), (), r9.2.2.2.2.1, (v10.1, (3, (v12.1, (v12.2.1, (v14.1, (v14.2.1, (v10.2.2.2.2.2.2.1, (v10.2.2.2.2.2.2.2.1, (r9.2.2.2.2.2.2.1.2.2.2.1, (r9.2.2.2.2.2.2.1.2.2.1, ())))))))))), ())))
  (some (.inl ((), (), r9.2.2.2.2.1, (v10.1, (2, (v12.1, (v12.2.1, (v14.1, (v14.2.1, (v10.2.2.2.2.2.2.1, (v10.2.2.2.2.2.2.2.1, (r9.2.2.2.2.2.2.1.2.2.2.1, (r9.2.2.2.2.2.2.1.2.2.1, ())))))))))), ()))))
  (some (.inl ((), (), r9.2.2.2.2.1, (v10.1, (1, (v12.1, (v12.2.1, (v14.1, (v14.2.1, (v10.2.2.2.2.2.2.1, (v10.2.2.2.2.2.2.2.1, (r9.2.2.2.2.2.2.1.2.2.2.1, (r9.2.2.2.2.2.2.1.2.2.1, ())))))))))), ())))))
  (some (.inl ((), (), r9.2.2.2.2.1, (v10.1, (v10.2.1, (v12.1, (v12.2.1, v10.2.2.2.2)))), ()))) : Option ((Unit × (Unit × ((Str × (Int × (Int × (Int × (Int × (Int × (Bool × (Bool × (Bool × (Bool × Unit)))))))))) × ((Str × (Int × (Int × (Int × (Int × (Int × (Bool × (Bool × (Bool × (Bool × Unit)))))))))) × Unit)))) ⊕ (Unit × (Int × ((Str × (Int × (Int × (Int × (Int × (Int × (Bool × (Bool × (Bool × (Bool × Unit)))))))))) × Unit))))).bind fun r15 =>
  (match r15 with
  | .inl z16 => (let v17 : (Str × (Int × (Int × (Int × (Int × (Int × (Bool × (Bool × (Bool × (Bool × Unit)))))))))) := z16.2.2.2.1
  (cellref_ordered v17).bind fun v18 =>
  let v19 : (Str × (Int × (Int × (Int × (Int × (Int × (Bool × (Bool × (Bool × (Bool × Unit)))))))))) := v18.1
  (cellref_Check v19).bind fun v20 =>
  cond (!decide (v20.1 = 0))
  (some (([], (0, (0, (0, (0, (0, (false, (false, (false, (false, ())))))))))), v20.1, ()))
  (let v21 : (Str × (Int × (Int × (Int × (Int × (Int × (Bool × (Bool × (Bool × (Bool × Unit)))))))))) := v18.1
  some (v21, 0, ())))
  | .inr z22 => (some (z22.2.2.1, z22.2.1, ())))))))

noncomputable def chancerylaw2_refs : Option (Bool × Unit) :=
  (cellref_Letters 701).bind fun v1 =>
  (cellref_Parse [98, 53, 58, 36, 65, 50]).bind fun v2 =>
  cond (decide (v1.1 = [90, 90]))
  (cond ((decide (v1.2.1 = 0)))
  (cond ((decide (v2.2.1 = 0)))
  (let v3 : (Str × (Int × (Int × (Int × (Int × (Int × (Bool × (Bool × (Bool × (Bool × Unit)))))))))) := v2.1
  let v4 : Bool := (Ty.beq (.pair .str (.pair (.int .i64) (.pair (.int .i64) (.pair (.int .i64) (.pair (.int .i64) (.pair (.int .i64) (.pair .bool (.pair .bool (.pair .bool (.pair .bool .unit)))))))))) v3 ([], 1, 1, 0, 4, 1, false, true, false, false, ()))
  some (v4, ()))
  (some (false, ())))
  (some (false, ())))
  (some (false, ()))

noncomputable def cellref_far (a0 : Int) : Option (Bool × Unit) :=
  cond (decide (a0 < (-1073741824)))
  (some (true, ()))
  (some ((decide (1073741824 < a0)), ()))

noncomputable def cellref_fitting (a0 : (Str × (Int × (Int × (Int × (Int × (Int × (Bool × (Bool × (Bool × (Bool × Unit))))))))))) : Option ((Str × (Int × (Int × (Int × (Int × (Int × (Bool × (Bool × (Bool × (Bool × Unit)))))))))) × Unit) :=
  let v1 : (Str × (Int × (Int × (Int × (Int × (Int × (Bool × (Bool × (Bool × (Bool × Unit)))))))))) := a0
  (cellref_meaning v1).bind fun v2 =>
  ((cellref_permitted v2.1.2.2.1).bind fun v3 =>
  cond (!v3.1)
  (some ((), (), true, v2.1, ([], (0, (0, (0, (0, (0, (false, (false, (false, (false, ())))))))))), ()))
  ((cellref_permitted v2.1.2.2.2.1).bind fun v4 =>
  cond ((!v4.1))
  (some ((), (), true, v2.1, ([], (0, (0, (0, (0, (0, (false, (false, (false, (false, ())))))))))), ()))
  ((cellref_permitted v2.1.2.2.2.2.1).bind fun v5 =>
  cond ((!v5.1))
  (some ((), (), true, v2.1, ([], (0, (0, (0, (0, (0, (false, (false, (false, (false, ())))))))))), ()))
  ((cellref_permitted v2.1.2.2.2.2.2.1).bind fun v6 =>
  some ((), (), (!v6.1), v2.1, ([], (0, (0, (0, (0, (0, (false, (false, (false, (false, ())))))))))), ())))) : Option (Unit × (Unit × (Bool × ((Str × (Int × (Int × (Int × (Int × (Int × (Bool × (Bool × (Bool × (Bool × Unit)))))))))) × ((Str × (Int × (Int × (Int × (Int × (Int × (Bool × (Bool × (Bool × (Bool × Unit)))))))))) × Unit)))))).bind fun r7 =>
  cond r7.2.2.1
  (some (([], (4, (0, (0, (0, (0, (false, (false, (false, (false, ())))))))))), ()))
  (let v8 : (Str × (Int × (Int × (Int × (Int × (Int × (Bool × (Bool × (Bool × (Bool × Unit)))))))))) := r7.2.2.2.1
  some (v8, ()))

noncomputable def cellref_Copied (a0 : (Str × (Int × (Int × (Int × (Int × (Int × (Bool × (Bool × (Bool × (Bool × Unit))))))))))) (a1 : Int) (a2 : Int) : Option ((Str × (Int × (Int × (Int × (Int × (Int × (Bool × (Bool × (Bool × (Bool × Unit)))))))))) × (Int × Unit)) :=
  let v1 : (Str × (Int × (Int × (Int × (Int × (Int × (Bool × (Bool × (Bool × (Bool × Unit)))))))))) := a0
  (cellref_Check v1).bind fun v2 =>
  cond (!decide (v2.1 = 0))
  (some (([], (0, (0, (0, (0, (0, (false, (false, (false, (false, ())))))))))), v2.1, ()))
  (((cellref_far a1).bind fun v3 =>
  cond v3.1
  (some ((), (), true, a0, ([], (0, (0, (0, (0, (0, (false, (false, (false, (false, ())))))))))), ()))
  ((cellref_far a2).bind fun v4 =>
  some ((), (), v4.1, a0, ([], (0, (0, (0, (0, (0, (false, (false, (false, (false, ())))))))))), ())) : Option (Unit × (Unit × (Bool × ((Str × (Int × (Int × (Int × (Int × (Int × (Bool × (Bool × (Bool × (Bool × Unit)))))))))) × ((Str × (Int × (Int × (Int × (Int × (Int × (Bool × (Bool × (Bool × (Bool × Unit)))))))))) × Unit)))))).bind fun r5 =>
  cond r5.2.2.1
  (some (([], (0, (0, (0, (0, (0, (false, (false, (false, (false, ())))))))))), 2, ()))
  (cond (!r5.2.2.2.1.2.2.2.2.2.2.1)
  (cond (!r5.2.2.2.1.2.2.2.2.2.2.2.2.1)
  (cond (!r5.2.2.2.1.2.2.2.2.2.2.2.1)
  (cond (!r5.2.2.2.1.2.2.2.2.2.2.2.2.2.1)
  (let v6 : (Str × (Int × (Int × (Int × (Int × (Int × (Bool × (Bool × (Bool × (Bool × Unit)))))))))) := (r5.2.2.2.1.1, (r5.2.2.2.1.2.1, (IntKind.i64.wrap (r5.2.2.2.1.2.2.1 + a1), (IntKind.i64.wrap (r5.2.2.2.1.2.2.2.1 + a2), (IntKind.i64.wrap (r5.2.2.2.1.2.2.2.2.1 + a1), (IntKind.i64.wrap (r5.2.2.2.1.2.2.2.2.2.1 + a2), r5.2.2.2.1.2.2.2.2.2.2))))))
  (cellref_meaning v6).bind fun v7 =>
  (cellref_ordered v7.1).bind fun v8 =>
  (cellref_fitting v8.1).bind fun v9 =>
  some (v9.1, 0, ()))
  (let v10 : (Str × (Int × (Int × (Int × (Int × (Int × (Bool × (Bool × (Bool × (Bool × Unit)))))))))) := (r5.2.2.2.1.1, (r5.2.2.2.1.2.1, (IntKind.i64.wrap (r5.2.2.2.1.2.2.1 + a1), (IntKind.i64.wrap (r5.2.2.2.1.2.2.2.1 + a2), (IntKind.i64.wrap (r5.2.2.2.1.2.2.2.2.1 + a1), r5.2.2.2.1.2.2.2.2.2)))))
  (cellref_meaning v10).bind fun v11 =>
  (cellref_ordered v11.1).bind fun v12 =>
  (cellref_fitting v12.1).bind fun v13 =>
  some (v13.1, 0, ())))
  (cond (!r5.2.2.2.1.2.2.2.2.2.2.2.2.2.1)
  (let v14 : (Str × (Int × (Int × (Int × (Int × (Int × (Bool × (Bool × (Bool × (Bool × Unit)))))))))) := (r5.2.2.2.1.1, (r5.2.2.2.1.2.1, (IntKind.i64.wrap (r5.2.2.2.1.2.2.1 + a1), (r5.2.2.2.1.2.2.2.1, (IntKind.i64.wrap (r5.2.2.2.1.2.2.2.2.1 + a1), (IntKind.i64.wrap (r5.2.2.2.1.2.2.2.2.2.1 + a2), r5.2.2.2.1.2.2.2.2.2.2))))))
  (cellref_meaning v14).bind fun v15 =>
  (cellref_ordered v15.1).bind fun v16 =>
  (cellref_fitting v16.1).bind fun v17 =>
  some (v17.1, 0, ()))
  (let v18 : (Str × (Int × (Int × (Int × (Int × (Int × (Bool × (Bool × (Bool × (Bool × Unit)))))))))) := (r5.2.2.2.1.1, (r5.2.2.2.1.2.1, (IntKind.i64.wrap (r5.2.2.2.1.2.2.1 + a1), (r5.2.2.2.1.2.2.2.1, (IntKind.i64.wrap (r5.2.2.2.1.2.2.2.2.1 + a1), r5.2.2.2.1.2.2.2.2.2)))))
  (cellref_meaning v18).bind fun v19 =>
  (cellref_ordered v19.1).bind fun v20 =>
  (cellref_fitting v20.1).bind fun v21 =>
  some (v21.1, 0, ()))))
  (cond (!r5.2.2.2.1.2.2.2.2.2.2.2.1)
  (cond (!r5.2.2.2.1.2.2.2.2.2.2.2.2.2.1)
  (let v22 : (Str × (Int × (Int × (Int × (Int × (Int × (Bool × (Bool × (Bool × (Bool × Unit)))))))))) := (r5.2.2.2.1.1, (r5.2.2.2.1.2.1, (IntKind.i64.wrap (r5.2.2.2.1.2.2.1 + a1), (IntKind.i64.wrap (r5.2.2.2.1.2.2.2.1 + a2), (r5.2.2.2.1.2.2.2.2.1, (IntKind.i64.wrap (r5.2.2.2.1.2.2.2.2.2.1 + a2), r5.2.2.2.1.2.2.2.2.2.2))))))
  (cellref_meaning v22).bind fun v23 =>
  (cellref_ordered v23.1).bind fun v24 =>
  (cellref_fitting v24.1).bind fun v25 =>
  some (v25.1, 0, ()))
  (let v26 : (Str × (Int × (Int × (Int × (Int × (Int × (Bool × (Bool × (Bool × (Bool × Unit)))))))))) := (r5.2.2.2.1.1, (r5.2.2.2.1.2.1, (IntKind.i64.wrap (r5.2.2.2.1.2.2.1 + a1), (IntKind.i64.wrap (r5.2.2.2.1.2.2.2.1 + a2), r5.2.2.2.1.2.2.2.2))))
  (cellref_meaning v26).bind fun v27 =>
  (cellref_ordered v27.1).bind fun v28 =>
  (cellref_fitting v28.1).bind fun v29 =>
  some (v29.1, 0, ())))
  (cond (!r5.2.2.2.1.2.2.2.2.2.2.2.2.2.1)
  (let v30 : (Str × (Int × (Int × (Int × (Int × (Int × (Bool × (Bool × (Bool × (Bool × Unit)))))))))) := (r5.2.2.2.1.1, (r5.2.2.2.1.2.1, (IntKind.i64.wrap (r5.2.2.2.1.2.2.1 + a1), (r5.2.2.2.1.2.2.2.1, (r5.2.2.2.1.2.2.2.2.1, (IntKind.i64.wrap (r5.2.2.2.1.2.2.2.2.2.1 + a2), r5.2.2.2.1.2.2.2.2.2.2))))))
  (cellref_meaning v30).bind fun v31 =>
  (cellref_ordered v31.1).bind fun v32 =>
  (cellref_fitting v32.1).bind fun v33 =>
  some (v33.1, 0, ()))
  (let v34 : (Str × (Int × (Int × (Int × (Int × (Int × (Bool × (Bool × (Bool × (Bool × Unit)))))))))) := (r5.2.2.2.1.1, (r5.2.2.2.1.2.1, (IntKind.i64.wrap (r5.2.2.2.1.2.2.1 + a1), r5.2.2.2.1.2.2.2)))
  (cellref_meaning v34).bind fun v35 =>
  (cellref_ordered v35.1).bind fun v36 =>
  (cellref_fitting v36.1).bind fun v37 =>
  some (v37.1, 0, ())))))
  (cond (!r5.2.2.2.1.2.2.2.2.2.2.2.2.1)
  (cond (!r5.2.2.2.1.2.2.2.2.2.2.2.1)
  (cond (!r5.2.2.2.1.2.2.2.2.2.2.2.2.2.1)
  (let v38 : (Str × (Int × (Int × (Int × (Int × (Int × (Bool × (Bool × (Bool × (Bool × Unit)))))))))) := (r5.2.2.2.1.1, (r5.2.2.2.1.2.1, (r5.2.2.2.1.2.2.1, (IntKind.i64.wrap (r5.2.2.2.1.2.2.2.1 + a2), (IntKind.i64.wrap (r5.2.2.2.1.2.2.2.2.1 + a1), (IntKind.i64.wrap (r5.2.2.2.1.2.2.2.2.2.1 + a2), r5.2.2.2.1.2.2.2.2.2.2))))))
  (cellref_meaning v38).bind fun v39 =>
  (cellref_ordered v39.1).bind fun v40 =>
  (cellref_fitting v40.1).bind fun v41 =>
  some (v41.1, 0, ()))
  (let v42 : (Str × (Int × (Int × (Int × (Int × (Int × (Bool × (Bool × (Bool × (Bool × Unit)))))))))) := (r5.2.2.2.1.1, (r5.2.2.2.1.2.1, (r5.2.2.2.1.2.2.1, (IntKind.i64.wrap (r5.2.2.2.1.2.2.2.1 + a2), (IntKind.i64.wrap (r5.2.2.2.1.2.2.2.2.1 + a1), r5.2.2.2.1.2.2.2.2.2)))))
  (cellref_meaning v42).bind fun v43 =>
  (cellref_ordered v43.1).bind fun v44 =>
  (cellref_fitting v44.1).bind fun v45 =>
  some (v45.1, 0, ())))
  (cond (!r5.2.2.2.1.2.2.2.2.2.2.2.2.2.1)
  (let v46 : (Str × (Int × (Int × (Int × (Int × (Int × (Bool × (Bool × (Bool × (Bool × Unit)))))))))) := (r5.2.2.2.1.1, (r5.2.2.2.1.2.1, (r5.2.2.2.1.2.2.1, (r5.2.2.2.1.2.2.2.1, (IntKind.i64.wrap (r5.2.2.2.1.2.2.2.2.1 + a1), (IntKind.i64.wrap (r5.2.2.2.1.2.2.2.2.2.1 + a2), r5.2.2.2.1.2.2.2.2.2.2))))))
  (cellref_meaning v46).bind fun v47 =>
  (cellref_ordered v47.1).bind fun v48 =>
  (cellref_fitting v48.1).bind fun v49 =>
  some (v49.1, 0, ()))
  (let v50 : (Str × (Int × (Int × (Int × (Int × (Int × (Bool × (Bool × (Bool × (Bool × Unit)))))))))) := (r5.2.2.2.1.1, (r5.2.2.2.1.2.1, (r5.2.2.2.1.2.2.1, (r5.2.2.2.1.2.2.2.1, (IntKind.i64.wrap (r5.2.2.2.1.2.2.2.2.1 + a1), r5.2.2.2.1.2.2.2.2.2)))))
  (cellref_meaning v50).bind fun v51 =>
  (cellref_ordered v51.1).bind fun v52 =>
  (cellref_fitting v52.1).bind fun v53 =>
  some (v53.1, 0, ()))))
  (cond (!r5.2.2.2.1.2.2.2.2.2.2.2.1)
  (cond (!r5.2.2.2.1.2.2.2.2.2.2.2.2.2.1)
  (let v54 : (Str × (Int × (Int × (Int × (Int × (Int × (Bool × (Bool × (Bool × (Bool × Unit)))))))))) := (r5.2.2.2.1.1, (r5.2.2.2.1.2.1, (r5.2.2.2.1.2.2.1, (IntKind.i64.wrap (r5.2.2.2.1.2.2.2.1 + a2), (r5.2.2.2.1.2.2.2.2.1, (IntKind.i64.wrap (r5.2.2.2.1.2.2.2.2.2.1 + a2), r5.2.2.2.1.2.2.2.2.2.2))))))
  (cellref_meaning v54).bind fun v55 =>
  (cellref_ordered v55.1).bind fun v56 =>
  (cellref_fitting v56.1).bind fun v57 =>
  some (v57.1, 0, ()))
  (let v58 : (Str × (Int × (Int × (Int × (Int × (Int × (Bool × (Bool × (Bool × (Bool × Unit)))))))))) := (r5.2.2.2.1.1, (r5.2.2.2.1.2.1, (r5.2.2.2.1.2.2.1, (IntKind.i64.wrap (r5.2.2.2.1.2.2.2.1 + a2), r5.2.2.2.1.2.2.2.2))))
  (cellref_meaning v58).bind fun v59 =>
  (cellref_ordered v59.1).bind fun v60 =>
  (cellref_fitting v60.1).bind fun v61 =>
  some (v61.1, 0, ())))
  (cond (!r5.2.2.2.1.2.2.2.2.2.2.2.2.2.1)
  (let v62 : (Str × (Int × (Int × (Int × (Int × (Int × (Bool × (Bool × (Bool × (Bool × Unit)))))))))) := (r5.2.2.2.1.1, (r5.2.2.2.1.2.1, (r5.2.2.2.1.2.2.1, (r5.2.2.2.1.2.2.2.1, (r5.2.2.2.1.2.2.2.2.1, (IntKind.i64.wrap (r5.2.2.2.1.2.2.2.2.2.1 + a2), r5.2.2.2.1.2.2.2.2.2.2))))))
  (cellref_meaning v62).bind fun v63 =>
  (cellref_ordered v63.1).bind fun v64 =>
  (cellref_fitting v64.1).bind fun v65 =>
  some (v65.1, 0, ()))
  (let v66 : (Str × (Int × (Int × (Int × (Int × (Int × (Bool × (Bool × (Bool × (Bool × Unit)))))))))) := r5.2.2.2.1
  (cellref_meaning v66).bind fun v67 =>
  (cellref_ordered v67.1).bind fun v68 =>
  (cellref_fitting v68.1).bind fun v69 =>
  some (v69.1, 0, ())))))))

noncomputable def cellref_Moved (a0 : (Str × (Int × (Int × (Int × (Int × (Int × (Bool × (Bool × (Bool × (Bool × Unit))))))))))) (a1 : (Int × (Int × (Int × (Int × Unit))))) (a2 : Int) (a3 : Int) : Option ((Str × (Int × (Int × (Int × (Int × (Int × (Bool × (Bool × (Bool × (Bool × Unit)))))))))) × (Int × Unit)) :=
  let v1 : (Str × (Int × (Int × (Int × (Int × (Int × (Bool × (Bool × (Bool × (Bool × Unit)))))))))) := a0
  (cellref_Check v1).bind fun v2 =>
  cond (!decide (v2.1 = 0))
  (some (([], (0, (0, (0, (0, (0, (false, (false, (false, (false, ())))))))))), v2.1, ()))
  (((cellref_permitted a1.1).bind fun v3 =>
  cond (!v3.1)
  (some ((), (), (), true, a0, a1, ([], (0, (0, (0, (0, (0, (false, (false, (false, (false, ())))))))))), ()))
  ((cellref_permitted a1.2.1).bind fun v4 =>
  cond ((!v4.1))
  (some ((), (), (), true, a0, a1, ([], (0, (0, (0, (0, (0, (false, (false, (false, (false, ())))))))))), ()))
  (cond ((decide (a1.2.2.1 < 1)))
  (some ((), (), (), true, a0, a1, ([], (0, (0, (0, (0, (0, (false, (false, (false, (false, ())))))))))), ()))
  (cond ((decide (1073741824 < a1.2.2.1)))
  (some ((), (), (), true, a0, a1, ([], (0, (0, (0, (0, (0, (false, (false, (false, (false, ())))))))))), ()))
  (cond ((decide (a1.2.2.2.1 < 1)))
  (some ((), (), (), true, a0, a1, ([], (0, (0, (0, (0, (0, (false, (false, (false, (false, ())))))))))), ()))
  (cond ((decide (1073741824 < a1.2.2.2.1)))
  (some ((), (), (), true, a0, a1, ([], (0, (0, (0, (0, (0, (false, (false, (false, (false, ())))))))))), ()))
  ((cellref_far a2).bind fun v5 =>
  cond (v5.1)
  (some ((), (), (), true, a0, a1, ([], (0, (0, (0, (0, (0, (false, (false, (false, (false, ())))))))))), ()))
  ((cellref_far a3).bind fun v6 =>
  some ((), (), (), v6.1, a0, a1, ([], (0, (0, (0, (0, (0, (false, (false, (false, (false, ())))))))))), ())))))))) : Option (Unit × (Unit × (Unit × (Bool × ((Str × (Int × (Int × (Int × (Int × (Int × (Bool × (Bool × (Bool × (Bool × Unit)))))))))) × ((Int × (Int × (Int × (Int × Unit)))) × ((Str × (Int × (Int × (Int × (Int × (Int × (Bool × (Bool × (Bool × (Bool × Unit)))))))))) × Unit)))))))).bind fun r7 =>
  cond r7.2.2.2.1
  (some (([], (0, (0, (0, (0, (0, (false, (false, (false, (false, ())))))))))), 2, ()))
  ((cond (!decide (r7.2.2.2.2.1.2.1 = 0))
  (some ((), (), (), (!decide (r7.2.2.2.2.1.2.1 = 1)), r7.2.2.2.2.1, r7.2.2.2.2.2.1, r7.2.2.2.2.2.2.1, ()))
  (some ((), (), (), false, r7.2.2.2.2.1, r7.2.2.2.2.2.1, r7.2.2.2.2.2.2.1, ())) : Option (Unit × (Unit × (Unit × (Bool × ((Str × (Int × (Int × (Int × (Int × (Int × (Bool × (Bool × (Bool × (Bool × Unit)))))))))) × ((Int × (Int × (Int × (Int × Unit)))) × ((Str × (Int × (Int × (Int × (Int × (Int × (Bool × (Bool × (Bool × (Bool × Unit)))))))))) × Unit)))))))).bind fun r8 =>
  cond r8.2.2.2.1
  (let v9 : (Str × (Int × (Int × (Int × (Int × (Int × (Bool × (Bool × (Bool × (Bool × Unit)))))))))) := r8.2.2.2.2.1
  some (v9, 0, ()))
  ((cond (decide (r8.2.2.2.2.1.2.2.1 < r8.2.2.2.2.2.1.1))
  (some ((), (), true, r8.2.2.2.2.1, r8.2.2.2.2.2.2.1, ()))
  (let v10 : Bool := (decide ((IntKind.i64.wrap (r8.2.2.2.2.2.1.1 + r8.2.2.2.2.2.1.2.2.1)) ≤ (mx r8.2.2.2.2.1.2.2.1 r8.2.2.2.2.1.2.2.2.2.1)))
  cond v10
  (some ((), (), true, r8.2.2.2.2.1, r8.2.2.2.2.2.2.1, ()))
  (let v11 : Bool := (decide (r8.2.2.2.2.1.2.2.2.1 < r8.2.2.2.2.2.1.2.1))
  cond v11
  (some ((), (), true, r8.2.2.2.2.1, r8.2.2.2.2.2.2.1, ()))
  (let v12 : Int := IntKind.i64.wrap (r8.2.2.2.2.2.1.2.1 + r8.2.2.2.2.2.1.2.2.2.1)
  let v13 : Bool := (decide (v12 ≤ (mx r8.2.2.2.2.1.2.2.2.1 r8.2.2.2.2.1.2.2.2.2.2.1)))
  some ((), (), v13, r8.2.2.2.2.1, r8.2.2.2.2.2.2.1, ())))) : Option (Unit × (Unit × (Bool × ((Str × (Int × (Int × (Int × (Int × (Int × (Bool × (Bool × (Bool × (Bool × Unit)))))))))) × ((Str × (Int × (Int × (Int × (Int × (Int × (Bool × (Bool × (Bool × (Bool × Unit)))))))))) × Unit)))))).bind fun r14 =>
  cond r14.2.2.1
  (let v15 : (Str × (Int × (Int × (Int × (Int × (Int × (Bool × (Bool × (Bool × (Bool × Unit)))))))))) := r14.2.2.2.1
  some (v15, 0, ()))
  (let v16 : (Str × (Int × (Int × (Int × (Int × (Int × (Bool × (Bool × (Bool × (Bool × Unit)))))))))) := (r14.2.2.2.1.1, (r14.2.2.2.1.2.1, (IntKind.i64.wrap (r14.2.2.2.1.2.2.1 + a2), (IntKind.i64.wrap (r14.2.2.2.1.2.2.2.1 + a3), (IntKind.i64.wrap (r14.2.2.2.1.2.2.2.2.1 + a2), (IntKind.i64.wrap (r14.2.2.2.1.2.2.2.2.2.1 + a3), r14.2.2.2.1.2.2.2.2.2.2))))))
  (cellref_fitting v16).bind fun v17 =>
  some (v17.1, 0, ())))))

noncomputable def chanceryref2_SheetError_1 (a0 : Int) : Option (Bool × Unit) :=
  cond (decide (32 ≤ a0))
  (some ((decide (a0 ≤ 126)), ()))
  (some (false, ()))

noncomputable def chanceryref2_All_SheetError_1_l1 (a0 : Str) (p1 : (Unit × (Int × Unit))) : Option ((Unit × (Int × Unit)) ⊕ (Unit ⊕ (Bool × Unit))) :=
  cond (decide (p1.2.1 < (a0.length : Int)))
  ((idx a0 p1.2.1).bind fun v1 =>
  (chanceryref2_SheetError_1 (ofByte v1)).bind fun v2 =>
  cond (!v2.1)
  (some (.inr (.inr (false, ()))))
  (some (.inl ((), IntKind.i64.wrap (p1.2.1 + 1), ()))))
  (some (.inr (.inl (()))))

noncomputable def chanceryref2_All_SheetError_1 (a0 : Str) : Option (Bool × Unit) :=
  (loop (chanceryref2_All_SheetError_1_l1 a0) ((), 0, ())).bind fun r3 =>
  (match r3 with
  | .inl _ => (some (true, ()))
  | .inr z5 => (some z5))

noncomputable def chanceryref2_SheetError (a0 : Str) : Option (Int × Unit) :=
  cond (decide (200 < (a0.length : Int)))
  (some (3, ()))
  ((chanceryref2_All_SheetError_1 a0).bind fun v1 =>
  cond (!v1.1)
  (some (9, ()))
  (some (0, ())))

noncomputable def chanceryref2_inside (a0 : Int) : Option (Bool × Unit) :=
  cond (decide (0 ≤ a0))
  (some ((decide (a0 < 1073741824)), ()))
  (some (false, ()))

noncomputable def chanceryref2_RefError (a0 : (Str × (Int × (Int × (Int × (Int × (Int × (Bool × (Bool × (Bool × (Bool × Unit))))))))))) : Option (Int × Unit) :=
  (cond (decide (a0.2.1 < 0))
  (some ((), true, a0, ()))
  (some ((), (decide (4 < a0.2.1)), a0, ())) : Option (Unit × (Bool × ((Str × (Int × (Int × (Int × (Int × (Int × (Bool × (Bool × (Bool × (Bool × Unit)))))))))) × Unit)))).bind fun r1 =>
  cond r1.2.1
  (some (8, ()))
  ((chanceryref2_SheetError r1.2.2.1.1).bind fun v2 =>
  cond (!decide (v2.1 = 0))
  (some v2)
  ((cond (decide (r1.2.2.1.2.2.1 = 0))
  (some ((), (!r1.2.2.1.2.2.2.2.2.2.1), r1.2.2.1, ()))
  (some ((), false, r1.2.2.1, ())) : Option (Unit × (Bool × ((Str × (Int × (Int × (Int × (Int × (Int × (Bool × (Bool × (Bool × (Bool × Unit)))))))))) × Unit)))).bind fun r3 =>
  (cond (decide (r3.2.2.1.2.2.2.1 = 0))
  (some ((), (!r3.2.2.1.2.2.2.2.2.2.2.1), r3.2.2.1, ()))
  (some ((), false, r3.2.2.1, ())) : Option (Unit × (Bool × ((Str × (Int × (Int × (Int × (Int × (Int × (Bool × (Bool × (Bool × (Bool × Unit)))))))))) × Unit)))).bind fun r4 =>
  (cond (decide (r4.2.2.1.2.2.2.2.1 = 0))
  (some ((), (!r4.2.2.1.2.2.2.2.2.2.2.2.1), r4.2.2.1, ()))
  (some ((), false, r4.2.2.1, ())) : Option (Unit × (Bool × ((Str × (Int × (Int × (Int × (Int × (Int × (Bool × (Bool × (Bool × (Bool × Unit)))))))))) × Unit)))).bind fun r5 =>
  (cond (decide (r5.2.2.1.2.2.2.2.2.1 = 0))
  (some ((), (!r5.2.2.1.2.2.2.2.2.2.2.2.2.1), r5.2.2.1, ()))
  (some ((), false, r5.2.2.1, ())) : Option (Unit × (Bool × ((Str × (Int × (Int × (Int × (Int × (Int × (Bool × (Bool × (Bool × (Bool × Unit)))))))))) × Unit)))).bind fun r6 =>
  ((cond (decide (r6.2.2.1.2.1 = 0))
  (cond r5.2.1
  (some ((), (!(r6.2.1)), r6.2.2.1, ()))
  (some ((), true, r6.2.2.1, ())))
  (some ((), false, r6.2.2.1, ())) : Option (Unit × (Bool × ((Str × (Int × (Int × (Int × (Int × (Int × (Bool × (Bool × (Bool × (Bool × Unit)))))))))) × Unit)))).bind fun r7 =>
  cond r7.2.1
  (some ((), true, r7.2.2.1, ()))
  ((cond (decide (r7.2.2.1.2.1 = 2))
  (cond r4.2.1
  (some ((), (!(r6.2.1)), r7.2.2.1, ()))
  (some ((), true, r7.2.2.1, ())))
  (some ((), false, r7.2.2.1, ())) : Option (Unit × (Bool × ((Str × (Int × (Int × (Int × (Int × (Int × (Bool × (Bool × (Bool × (Bool × Unit)))))))))) × Unit)))).bind fun r8 =>
  cond r8.2.1
  (some ((), true, r8.2.2.1, ()))
  ((cond (decide (r8.2.2.1.2.1 = 3))
  (cond r3.2.1
  (some ((), (!(r5.2.1)), r8.2.2.1, ()))
  (some ((), true, r8.2.2.1, ())))
  (some ((), false, r8.2.2.1, ())) : Option (Unit × (Bool × ((Str × (Int × (Int × (Int × (Int × (Int × (Bool × (Bool × (Bool × (Bool × Unit)))))))))) × Unit)))).bind fun r9 =>
  cond r9.2.1
  (some ((), true, r9.2.2.1, ()))
  (cond (decide (r9.2.2.1.2.1 = 4))
  (cond r3.2.1
  (cond (r4.2.1)
  (cond (r5.2.1)
  (cond (r6.2.1)
  (let v10 : Bool := (!((decide (r9.2.2.1.1 = []))))
  some ((), v10, r9.2.2.1, ()))
  (some ((), true, r9.2.2.1, ())))
  (some ((), true, r9.2.2.1, ())))
  (some ((), true, r9.2.2.1, ())))
  (some ((), true, r9.2.2.1, ())))
  (some ((), false, r9.2.2.1, ()))))) : Option (Unit × (Bool × ((Str × (Int × (Int × (Int × (Int × (Int × (Bool × (Bool × (Bool × (Bool × Unit)))))))))) × Unit)))).bind fun r11 =>
  cond r11.2.1
  (some (4, ()))
  (((chanceryref2_inside r11.2.2.1.2.2.1).bind fun v12 =>
  cond (!v12.1)
  (some ((), true, r11.2.2.1, ()))
  ((chanceryref2_inside r11.2.2.1.2.2.2.1).bind fun v13 =>
  cond (!v13.1)
  (some ((), true, r11.2.2.1, ()))
  ((chanceryref2_inside r11.2.2.1.2.2.2.2.1).bind fun v14 =>
  cond (!v14.1)
  (some ((), true, r11.2.2.1, ()))
  ((chanceryref2_inside r11.2.2.1.2.2.2.2.2.1).bind fun v15 =>
  some ((), !v15.1, r11.2.2.1, ())))) : Option (Unit × (Bool × ((Str × (Int × (Int × (Int × (Int × (Int × (Bool × (Bool × (Bool × (Bool × Unit)))))))))) × Unit)))).bind fun r16 =>
  cond r16.2.1
  (some (2, ()))
  ((cond (decide (1 ≤ r16.2.2.1.2.1))
  (cond ((decide (r16.2.2.1.2.1 ≤ 3)))
  (cond (decide (r16.2.2.1.2.2.2.2.1 < r16.2.2.1.2.2.1))
  (some (true, ()))
  (let v17 : Bool := (decide (r16.2.2.1.2.2.2.2.2.1 < r16.2.2.1.2.2.2.1))
  some (v17, ())))
  (some (false, ())))
  (some (false, ())) : Option (Bool × Unit)).bind fun r18 =>
  cond r18.1
  (some (5, ()))
  (some (0, ()))))))

noncomputable def chancerylaw2_far (a0 : Int) : Option (Bool × Unit) :=
  cond (decide (a0 < (-1073741824)))
  (some (true, ()))
  (some ((decide (1073741824 < a0)), ()))

noncomputable def chancerylaw2_blockError (a0 : (Int × (Int × (Int × (Int × Unit))))) (a1 : Int) (a2 : Int) : Option (Int × Unit) :=
  (cond (decide (a0.1 < 0))
  (some (true, ()))
  (cond ((decide (1073741824 ≤ a0.1)))
  (some (true, ()))
  (cond ((decide (a0.2.1 < 0)))
  (some (true, ()))
  (cond ((decide (1073741824 ≤ a0.2.1)))
  (some (true, ()))
  (cond ((decide (a0.2.2.1 < 1)))
  (some (true, ()))
  (cond ((decide (1073741824 < a0.2.2.1)))
  (some (true, ()))
  (cond ((decide (a0.2.2.2.1 < 1)))
  (some (true, ()))
  (cond ((decide (1073741824 < a0.2.2.2.1)))
  (some (true, ()))
  ((chancerylaw2_far a1).bind fun v1 =>
  cond (v1.1)
  (some (true, ()))
  ((chancerylaw2_far a2).bind fun v2 =>
  some (v2.1, ())))))))))) : Option (Bool × Unit)).bind fun r3 =>
  cond r3.1
  (some (2, ()))
  (some (0, ()))

noncomputable def chanceryref2_Copied_1 (a0 : Int) (a1 : Int) (a2 : Bool) : Option (Int × Unit) :=
  cond a2
  (some (a0, ()))
  (some (IntKind.i64.wrap (a0 + a1), ()))

noncomputable def chanceryref2_Sorted (a0 : (Str × (Int × (Int × (Int × (Int × (Int × (Bool × (Bool × (Bool × (Bool × Unit))))))))))) : Option ((Str × (Int × (Int × (Int × (Int × (Int × (Bool × (Bool × (Bool × (Bool × Unit)))))))))) × Unit) :=
  (cond (decide (a0.2.2.2.2.1 < a0.2.2.1))
  (some ((), (), (a0.1, (a0.2.1, (a0.2.2.2.2.1, (a0.2.2.2.1, (a0.2.2.1, (a0.2.2.2.2.2.1, (a0.2.2.2.2.2.2.2.2.1, (a0.2.2.2.2.2.2.2.1, (a0.2.2.2.2.2.2.1, a0.2.2.2.2.2.2.2.2.2))))))))), ([], (0, (0, (0, (0, (0, (false, (false, (false, (false, ())))))))))), ()))
  (some ((), (), a0, ([], (0, (0, (0, (0, (0, (false, (false, (false, (false, ())))))))))), ())) : Option (Unit × (Unit × ((Str × (Int × (Int × (Int × (Int × (Int × (Bool × (Bool × (Bool × (Bool × Unit)))))))))) × ((Str × (Int × (Int × (Int × (Int × (Int × (Bool × (Bool × (Bool × (Bool × Unit)))))))))) × Unit))))).bind fun r1 =>
  (cond (decide (r1.2.2.1.2.2.2.2.2.1 < r1.2.2.1.2.2.2.1))
  (some ((), (), (r1.2.2.1.1, (r1.2.2.1.2.1, (r1.2.2.1.2.2.1, (r1.2.2.1.2.2.2.2.2.1, (r1.2.2.1.2.2.2.2.1, (r1.2.2.1.2.2.2.1, (r1.2.2.1.2.2.2.2.2.2.1, (r1.2.2.1.2.2.2.2.2.2.2.2.2.1, (r1.2.2.1.2.2.2.2.2.2.2.2.1, (r1.2.2.1.2.2.2.2.2.2.2.1, ())))))))))), r1.2.2.2.1, ()))
  (some ((), (), r1.2.2.1, r1.2.2.2.1, ())) : Option (Unit × (Unit × ((Str × (Int × (Int × (Int × (Int × (Int × (Bool × (Bool × (Bool × (Bool × Unit)))))))))) × ((Str × (Int × (Int × (Int × (Int × (Int × (Bool × (Bool × (Bool × (Bool × Unit)))))))))) × Unit))))).bind fun r2 =>
  let v3 : (Str × (Int × (Int × (Int × (Int × (Int × (Bool × (Bool × (Bool × (Bool × Unit)))))))))) := r2.2.2.1
  some (v3, ())

noncomputable def chanceryref2_Copied (a0 : (Str × (Int × (Int × (Int × (Int × (Int × (Bool × (Bool × (Bool × (Bool × Unit))))))))))) (a1 : Int) (a2 : Int) : Option ((Str × (Int × (Int × (Int × (Int × (Int × (Bool × (Bool × (Bool × (Bool × Unit)))))))))) × Unit) :=
  let v1 : (Str × (Int × (Int × (Int × (Int × (Int × (Bool × (Bool × (Bool × (Bool × Unit)))))))))) := a0
  ((cond (!decide (a0.2.1 = 3))
  (some ((), (), (), (), (!decide (a0.2.1 = 4)), a0, ([], (0, (0, (0, (0, (0, (false, (false, (false, (false, ())))))))))), v1, ()))
  (some ((), (), (), (), false, a0, ([], (0, (0, (0, (0, (0, (false, (false, (false, (false, ())))))))))), v1, ())) : Option (Unit × (Unit × (Unit × (Unit × (Bool × ((Str × (Int × (Int × (Int × (Int × (Int × (Bool × (Bool × (Bool × (Bool × Unit)))))))))) × ((Str × (Int × (Int × (Int × (Int × (Int × (Bool × (Bool × (Bool × (Bool × Unit)))))))))) × ((Str × (Int × (Int × (Int × (Int × (Int × (Bool × (Bool × (Bool × (Bool × Unit)))))))))) × Unit))))))))).bind fun r2 =>
  cond r2.2.2.2.2.1
  ((chanceryref2_Copied_1 r2.2.2.2.2.2.1.2.2.1 a1 r2.2.2.2.2.2.1.2.2.2.2.2.2.1).bind fun v3 =>
  cond (!decide (r2.2.2.2.2.2.1.2.1 = 0))
  ((chanceryref2_Copied_1 r2.2.2.2.2.2.1.2.2.2.2.1 a1 r2.2.2.2.2.2.1.2.2.2.2.2.2.2.2.1).bind fun v4 =>
  some ((), (), (), (), r2.2.2.2.2.2.1, r2.2.2.2.2.2.2.1, (r2.2.2.2.2.2.2.2.1.1, (r2.2.2.2.2.2.2.2.1.2.1, (v3.1, (r2.2.2.2.2.2.2.2.1.2.2.2.1, (v4.1, r2.2.2.2.2.2.2.2.1.2.2.2.2.2))))), ()))
  (some ((), (), (), (), r2.2.2.2.2.2.1, r2.2.2.2.2.2.2.1, (r2.2.2.2.2.2.2.2.1.1, (r2.2.2.2.2.2.2.2.1.2.1, (v3.1, r2.2.2.2.2.2.2.2.1.2.2.2))), ())))
  (some ((), (), (), (), r2.2.2.2.2.2.1, r2.2.2.2.2.2.2.1, r2.2.2.2.2.2.2.2.1, ())) : Option (Unit × (Unit × (Unit × (Unit × ((Str × (Int × (Int × (Int × (Int × (Int × (Bool × (Bool × (Bool × (Bool × Unit)))))))))) × ((Str × (Int × (Int × (Int × (Int × (Int × (Bool × (Bool × (Bool × (Bool × Unit)))))))))) × ((Str × (Int × (Int × (Int × (Int × (Int × (Bool × (Bool × (Bool × (Bool × Unit)))))))))) × Unit)))))))).bind fun r5 =>
  ((cond (!decide (r5.2.2.2.2.1.2.1 = 2))
  (some ((), (), (), (), (!decide (r5.2.2.2.2.1.2.1 = 4)), r5.2.2.2.2.1, r5.2.2.2.2.2.1, r5.2.2.2.2.2.2.1, ()))
  (some ((), (), (), (), false, r5.2.2.2.2.1, r5.2.2.2.2.2.1, r5.2.2.2.2.2.2.1, ())) : Option (Unit × (Unit × (Unit × (Unit × (Bool × ((Str × (Int × (Int × (Int × (Int × (Int × (Bool × (Bool × (Bool × (Bool × Unit)))))))))) × ((Str × (Int × (Int × (Int × (Int × (Int × (Bool × (Bool × (Bool × (Bool × Unit)))))))))) × ((Str × (Int × (Int × (Int × (Int × (Int × (Bool × (Bool × (Bool × (Bool × Unit)))))))))) × Unit))))))))).bind fun r6 =>
  cond r6.2.2.2.2.1
  ((chanceryref2_Copied_1 r6.2.2.2.2.2.1.2.2.2.1 a2 r6.2.2.2.2.2.1.2.2.2.2.2.2.2.1).bind fun v7 =>
  cond (!decide (r6.2.2.2.2.2.1.2.1 = 0))
  ((chanceryref2_Copied_1 r6.2.2.2.2.2.1.2.2.2.2.2.1 a2 r6.2.2.2.2.2.1.2.2.2.2.2.2.2.2.2.1).bind fun v8 =>
  some ((), (), (), r6.2.2.2.2.2.1, r6.2.2.2.2.2.2.1, (r6.2.2.2.2.2.2.2.1.1, (r6.2.2.2.2.2.2.2.1.2.1, (r6.2.2.2.2.2.2.2.1.2.2.1, (v7.1, (r6.2.2.2.2.2.2.2.1.2.2.2.2.1, (v8.1, r6.2.2.2.2.2.2.2.1.2.2.2.2.2.2)))))), ()))
  (some ((), (), (), r6.2.2.2.2.2.1, r6.2.2.2.2.2.2.1, (r6.2.2.2.2.2.2.2.1.1, (r6.2.2.2.2.2.2.2.1.2.1, (r6.2.2.2.2.2.2.2.1.2.2.1, (v7.1, r6.2.2.2.2.2.2.2.1.2.2.2.2)))), ())))
  (some ((), (), (), r6.2.2.2.2.2.1, r6.2.2.2.2.2.2.1, r6.2.2.2.2.2.2.2.1, ())) : Option (Unit × (Unit × (Unit × ((Str × (Int × (Int × (Int × (Int × (Int × (Bool × (Bool × (Bool × (Bool × Unit)))))))))) × ((Str × (Int × (Int × (Int × (Int × (Int × (Bool × (Bool × (Bool × (Bool × Unit)))))))))) × ((Str × (Int × (Int × (Int × (Int × (Int × (Bool × (Bool × (Bool × (Bool × Unit)))))))))) × Unit))))))).bind fun r9 =>
  ((cond (decide (1 ≤ r9.2.2.2.1.2.1))
  (some ((), (), (decide (r9.2.2.2.1.2.1 ≤ 3)), r9.2.2.2.2.1, r9.2.2.2.2.2.1, ()))
  (some ((), (), false, r9.2.2.2.2.1, r9.2.2.2.2.2.1, ())) : Option (Unit × (Unit × (Bool × ((Str × (Int × (Int × (Int × (Int × (Int × (Bool × (Bool × (Bool × (Bool × Unit)))))))))) × ((Str × (Int × (Int × (Int × (Int × (Int × (Bool × (Bool × (Bool × (Bool × Unit)))))))))) × Unit)))))).bind fun r10 =>
  cond r10.2.2.1
  (let v11 : (Str × (Int × (Int × (Int × (Int × (Int × (Bool × (Bool × (Bool × (Bool × Unit)))))))))) := r10.2.2.2.2.1
  (chanceryref2_Sorted v11).bind fun v12 =>
  some ((), (), r10.2.2.2.1, v12.1, ()))
  (some ((), (), r10.2.2.2.1, r10.2.2.2.2.1, ())) : Option (Unit × (Unit × ((Str × (Int × (Int × (Int × (Int × (Int × (Bool × (Bool × (Bool × (Bool × Unit)))))))))) × ((Str × (Int × (Int × (Int × (Int × (Int × (Bool × (Bool × (Bool × (Bool × Unit)))))))))) × Unit))))).bind fun r13 =>
  ((chanceryref2_inside r13.2.2.2.1.2.2.1).bind fun v14 =>
  cond (!v14.1)
  (some ((), (), true, r13.2.2.1, r13.2.2.2.1, ()))
  ((chanceryref2_inside r13.2.2.2.1.2.2.2.2.1).bind fun v15 =>
  cond ((!v15.1))
  (some ((), (), true, r13.2.2.1, r13.2.2.2.1, ()))
  ((chanceryref2_inside r13.2.2.2.1.2.2.2.1).bind fun v16 =>
  cond ((!v16.1))
  (some ((), (), true, r13.2.2.1, r13.2.2.2.1, ()))
  ((chanceryref2_inside r13.2.2.2.1.2.2.2.2.2.1).bind fun v17 =>
  some ((), (), (!v17.1), r13.2.2.1, r13.2.2.2.1, ())))) : Option (Unit × (Unit × (Bool × ((Str × (Int × (Int × (Int × (Int × (Int × (Bool × (Bool × (Bool × (Bool × Unit)))))))))) × ((Str × (Int × (Int × (Int × (Int × (Int × (Bool × (Bool × (Bool × (Bool × Unit)))))))))) × Unit)))))).bind fun r18 =>
  cond r18.2.2.1
  (some (([], (4, (0, (0, (0, (0, (false, (false, (false, (false, ())))))))))), ()))
  (let v19 : (Str × (Int × (Int × (Int × (Int × (Int × (Bool × (Bool × (Bool × (Bool × Unit)))))))))) := r18.2.2.2.2.1
  some (v19, ()))

noncomputable def chanceryref2_Moved (a0 : (Str × (Int × (Int × (Int × (Int × (Int × (Bool × (Bool × (Bool × (Bool × Unit))))))))))) (a1 : (Int × (Int × (Int × (Int × Unit))))) (a2 : Int) (a3 : Int) : Option ((Str × (Int × (Int × (Int × (Int × (Int × (Bool × (Bool × (Bool × (Bool × Unit)))))))))) × Unit) :=
  cond (decide (1 < a0.2.1))
  (let v1 : (Str × (Int × (Int × (Int × (Int × (Int × (Bool × (Bool × (Bool × (Bool × Unit)))))))))) := a0
  some (v1, ()))
  (let v2 : (Str × (Int × (Int × (Int × (Int × (Int × (Bool × (Bool × (Bool × (Bool × Unit)))))))))) := a0
  (cond (decide (a0.2.1 = 0))
  (some ((), (), (), (), a0, a1, ([], (0, (0, (0, (0, (0, (false, (false, (false, (false, ())))))))))), (v2.1, (v2.2.1, (v2.2.2.1, (v2.2.2.2.1, (a0.2.2.1, (a0.2.2.2.1, v2.2.2.2.2.2.2)))))), ()))
  (some ((), (), (), (), a0, a1, ([], (0, (0, (0, (0, (0, (false, (false, (false, (false, ())))))))))), v2, ())) : Option (Unit × (Unit × (Unit × (Unit × ((Str × (Int × (Int × (Int × (Int × (Int × (Bool × (Bool × (Bool × (Bool × Unit)))))))))) × ((Int × (Int × (Int × (Int × Unit)))) × ((Str × (Int × (Int × (Int × (Int × (Int × (Bool × (Bool × (Bool × (Bool × Unit)))))))))) × ((Str × (Int × (Int × (Int × (Int × (Int × (Bool × (Bool × (Bool × (Bool × Unit)))))))))) × Unit))))))))).bind fun r3 =>
  (cond (decide (r3.2.2.2.2.2.2.2.1.2.2.1 < r3.2.2.2.2.2.1.1))
  (some ((), (), (), true, r3.2.2.2.2.1, r3.2.2.2.2.2.2.1, r3.2.2.2.2.2.2.2.1, ()))
  (let v4 : Bool := (decide (r3.2.2.2.2.2.2.2.1.2.2.2.1 < r3.2.2.2.2.2.1.2.1))
  cond v4
  (some ((), (), (), true, r3.2.2.2.2.1, r3.2.2.2.2.2.2.1, r3.2.2.2.2.2.2.2.1, ()))
  (let v5 : Int := IntKind.i64.wrap ((IntKind.i64.wrap (r3.2.2.2.2.2.1.1 + r3.2.2.2.2.2.1.2.2.1)) - 1)
  cond ((decide (v5 < r3.2.2.2.2.2.2.2.1.2.2.2.2.1)))
  (some ((), (), (), true, r3.2.2.2.2.1, r3.2.2.2.2.2.2.1, r3.2.2.2.2.2.2.2.1, ()))
  (let v6 : Int := IntKind.i64.wrap (r3.2.2.2.2.2.1.2.1 + r3.2.2.2.2.2.1.2.2.2.1)
  let v7 : Bool := (decide ((IntKind.i64.wrap (v6 - 1)) < r3.2.2.2.2.2.2.2.1.2.2.2.2.2.1))
  some ((), (), (), v7, r3.2.2.2.2.1, r3.2.2.2.2.2.2.1, r3.2.2.2.2.2.2.2.1, ())))) : Option (Unit × (Unit × (Unit × (Bool × ((Str × (Int × (Int × (Int × (Int × (Int × (Bool × (Bool × (Bool × (Bool × Unit)))))))))) × ((Str × (Int × (Int × (Int × (Int × (Int × (Bool × (Bool × (Bool × (Bool × Unit)))))))))) × ((Str × (Int × (Int × (Int × (Int × (Int × (Bool × (Bool × (Bool × (Bool × Unit)))))))))) × Unit)))))))).bind fun r8 =>
  cond r8.2.2.2.1
  (let v9 : (Str × (Int × (Int × (Int × (Int × (Int × (Bool × (Bool × (Bool × (Bool × Unit)))))))))) := r8.2.2.2.2.1
  some (v9, ()))
  (((chanceryref2_inside (IntKind.i64.wrap (r8.2.2.2.2.2.2.1.2.2.1 + a2))).bind fun v10 =>
  cond (!v10.1)
  (some ((), (), (), true, r8.2.2.2.2.1, r8.2.2.2.2.2.1, (r8.2.2.2.2.2.2.1.1, (r8.2.2.2.2.2.2.1.2.1, (IntKind.i64.wrap (r8.2.2.2.2.2.2.1.2.2.1 + a2), (IntKind.i64.wrap (r8.2.2.2.2.2.2.1.2.2.2.1 + a3), (IntKind.i64.wrap (r8.2.2.2.2.2.2.1.2.2.2.2.1 + a2), (IntKind.i64.wrap (r8.2.2.2.2.2.2.1.2.2.2.2.2.1 + a3), r8.2.2.2.2.2.2.1.2.2.2.2.2.2)))))), ()))
  ((chanceryref2_inside (IntKind.i64.wrap (r8.2.2.2.2.2.2.1.2.2.2.2.1 + a2))).bind fun v11 =>
  cond ((!v11.1))
  (some ((), (), (), true, r8.2.2.2.2.1, r8.2.2.2.2.2.1, (r8.2.2.2.2.2.2.1.1, (r8.2.2.2.2.2.2.1.2.1, (IntKind.i64.wrap (r8.2.2.2.2.2.2.1.2.2.1 + a2), (IntKind.i64.wrap (r8.2.2.2.2.2.2.1.2.2.2.1 + a3), (IntKind.i64.wrap (r8.2.2.2.2.2.2.1.2.2.2.2.1 + a2), (IntKind.i64.wrap (r8.2.2.2.2.2.2.1.2.2.2.2.2.1 + a3), r8.2.2.2.2.2.2.1.2.2.2.2.2.2)))))), ()))
  ((chanceryref2_inside (IntKind.i64.wrap (r8.2.2.2.2.2.2.1.2.2.2.1 + a3))).bind fun v12 =>
  cond ((!v12.1))
  (some ((), (), (), true, r8.2.2.2.2.1, r8.2.2.2.2.2.1, (r8.2.2.2.2.2.2.1.1, (r8.2.2.2.2.2.2.1.2.1, (IntKind.i64.wrap (r8.2.2.2.2.2.2.1.2.2.1 + a2), (IntKind.i64.wrap (r8.2.2.2.2.2.2.1.2.2.2.1 + a3), (IntKind.i64.wrap (r8.2.2.2.2.2.2.1.2.2.2.2.1 + a2), (IntKind.i64.wrap (r8.2.2.2.2.2.2.1.2.2.2.2.2.1 + a3), r8.2.2.2.2.2.2.1.2.2.2.2.2.2)))))), ()))
  ((chanceryref2_inside (IntKind.i64.wrap (r8.2.2.2.2.2.2.1.2.2.2.2.2.1 + a3))).bind fun v13 =>
  some ((), (), (), (!v13.1), r8.2.2.2.2.1, r8.2.2.2.2.2.1, (r8.2.2.2.2.2.2.1.1, (r8.2.2.2.2.2.2.1.2.1, (IntKind.i64.wrap (r8.2.2.2.2.2.2.1.2.2.1 + a2), (IntKind.i64.wrap (r8.2.2.2.2.2.2.1.2.2.2.1 + a3), (IntKind.i64.wrap (r8.2.2.2.2.2.2.1.2.2.2.2.1 + a2), (IntKind.i64.wrap (r8.2.2.2.2.2.2.1.2.2.2.2.2.1 + a3), r8.2.2.2.2.2.2.1.2.2.2.2.2.2)))))), ())))) : Option (Unit × (Unit × (Unit × (Bool × ((Str × (Int × (Int × (Int × (Int × (Int × (Bool × (Bool × (Bool × (Bool × Unit)))))))))) × ((Str × (Int × (Int × (Int × (Int × (Int × (Bool × (Bool × (Bool × (Bool × Unit)))))))))) × ((Str × (Int × (Int × (Int × (Int × (Int × (Bool × (Bool × (Bool × (Bool × Unit)))))))))) × Unit)))))))).bind fun r14 =>
  cond r14.2.2.2.1
  (some (([], (4, (0, (0, (0, (0, (false, (false, (false, (false, ())))))))))), ()))
  ((cond (decide (r14.2.2.2.2.1.2.1 = 0))
  (some ((), (), r14.2.2.2.2.2.1, (r14.2.2.2.2.2.2.1.1, (r14.2.2.2.2.2.2.1.2.1, (r14.2.2.2.2.2.2.1.2.2.1, (r14.2.2.2.2.2.2.1.2.2.2.1, (0, (0, r14.2.2.2.2.2.2.1.2.2.2.2.2.2)))))), ()))
  (some ((), (), r14.2.2.2.2.2.1, r14.2.2.2.2.2.2.1, ())) : Option (Unit × (Unit × ((Str × (Int × (Int × (Int × (Int × (Int × (Bool × (Bool × (Bool × (Bool × Unit)))))))))) × ((Str × (Int × (Int × (Int × (Int × (Int × (Bool × (Bool × (Bool × (Bool × Unit)))))))))) × Unit))))).bind fun r15 =>
  let v16 : (Str × (Int × (Int × (Int × (Int × (Int × (Bool × (Bool × (Bool × (Bool × Unit)))))))))) := r15.2.2.2.1
  some (v16, ()))))

noncomputable def chancerylaw2_RefCopiedAndMoved (a0 : (Str × (Int × (Int × (Int × (Int × (Int × (Bool × (Bool × (Bool × (Bool × Unit))))))))))) (a1 : (Int × (Int × (Int × (Int × Unit))))) (a2 : Int) (a3 : Int) : Option (Bool × Unit) :=
  (chancerylaw2_refs).bind fun v1 =>
  cond (!v1.1)
  (some (false, ()))
  (let v2 : (Str × (Int × (Int × (Int × (Int × (Int × (Bool × (Bool × (Bool × (Bool × Unit)))))))))) := a0
  (cellref_Copied v2 a2 a3).bind fun v3 =>
  let v4 : (Str × (Int × (Int × (Int × (Int × (Int × (Bool × (Bool × (Bool × (Bool × Unit)))))))))) := a0
  (cellref_Moved v4 a1 a2 a3).bind fun v5 =>
  let v6 : (Str × (Int × (Int × (Int × (Int × (Int × (Bool × (Bool × (Bool × (Bool × Unit)))))))))) := a0
  (chanceryref2_RefError v6).bind fun v7 =>
  (cond (decide (v7.1 = 0))
  ((chancerylaw2_blockError a1 a2 a3).bind fun v8 =>
  ((chancerylaw2_far a2).bind fun v9 =>
  cond v9.1
  (some ((), (), (), (), true, a0, a1, v3.1, v5.1, ()))
  ((chancerylaw2_far a3).bind fun v10 =>
  some ((), (), (), (), v10.1, a0, a1, v3.1, v5.1, ())) : Option (Unit × (Unit × (Unit × (Unit × (Bool × ((Str × (Int × (Int × (Int × (Int × (Int × (Bool × (Bool × (Bool × (Bool × Unit)))))))))) × ((Int × (Int × (Int × (Int × Unit)))) × ((Str × (Int × (Int × (Int × (Int × (Int × (Bool × (Bool × (Bool × (Bool × Unit)))))))))) × ((Str × (Int × (Int × (Int × (Int × (Int × (Bool × (Bool × (Bool × (Bool × Unit)))))))))) × Unit)))))))))).bind fun r11 =>
  cond r11.2.2.2.2.1
  (some ((), (), (), (), 2, v8.1, r11.2.2.2.2.2.1, r11.2.2.2.2.2.2.1, r11.2.2.2.2.2.2.2.1, r11.2.2.2.2.2.2.2.2.1, ()))
  (some ((), (), (), (), v7.1, v8.1, r11.2.2.2.2.2.1, r11.2.2.2.2.2.2.1, r11.2.2.2.2.2.2.2.1, r11.2.2.2.2.2.2.2.2.1, ())))
  (some ((), (), (), (), v7.1, v7.1, a0, a1, v3.1, v5.1, ())) : Option (Unit × (Unit × (Unit × (Unit × (Int × (Int × ((Str × (Int × (Int × (Int × (Int × (Int × (Bool × (Bool × (Bool × (Bool × Unit)))))))))) × ((Int × (Int × (Int × (Int × Unit)))) × ((Str × (Int × (Int × (Int × (Int × (Int × (Bool × (Bool × (Bool × (Bool × Unit)))))))))) × ((Str × (Int × (Int × (Int × (Int × (Int × (Bool × (Bool × (Bool × (Bool × Unit)))))))))) × Unit))))))))))).bind fun r12 =>
  (cond (!decide (r12.2.2.2.2.1 = 0))
  (let v13 : (Str × (Int × (Int × (Int × (Int × (Int × (Bool × (Bool × (Bool × (Bool × Unit)))))))))) := r12.2.2.2.2.2.2.2.2.1
  cond (!Ty.beq (.pair .str (.pair (.int .i64) (.pair (.int .i64) (.pair (.int .i64) (.pair (.int .i64) (.pair (.int .i64) (.pair .bool (.pair .bool (.pair .bool (.pair .bool .unit)))))))))) v13 ([], 0, 0, 0, 0, 0, false, false, false, false, ()))
  (cond (true)
  (some ((), (), (), true, r12.2.2.2.2.2.2.1, r12.2.2.2.2.2.2.2.1, r12.2.2.2.2.2.2.2.2.2.1, ()))
  (cond (decide (r12.2.2.2.2.1 = 0))
  (cond (!decide (v3.2.1 = 0))
  (some ((), (), (), (true), r12.2.2.2.2.2.2.1, r12.2.2.2.2.2.2.2.1, r12.2.2.2.2.2.2.2.2.2.1, ()))
  (let v14 : (Str × (Int × (Int × (Int × (Int × (Int × (Bool × (Bool × (Bool × (Bool × Unit)))))))))) := r12.2.2.2.2.2.2.2.2.1
  let v15 : (Str × (Int × (Int × (Int × (Int × (Int × (Bool × (Bool × (Bool × (Bool × Unit)))))))))) := r12.2.2.2.2.2.2.1
  (chanceryref2_Copied v15 a2 a3).bind fun v16 =>
  let v17 : Bool := (!Ty.beq (.pair .str (.pair (.int .i64) (.pair (.int .i64) (.pair (.int .i64) (.pair (.int .i64) (.pair (.int .i64) (.pair .bool (.pair .bool (.pair .bool (.pair .bool .unit)))))))))) v14 v16.1)
  some ((), (), (), (v17), r12.2.2.2.2.2.2.1, r12.2.2.2.2.2.2.2.1, r12.2.2.2.2.2.2.2.2.2.1, ())))
  (some ((), (), (), false, r12.2.2.2.2.2.2.1, r12.2.2.2.2.2.2.2.1, r12.2.2.2.2.2.2.2.2.2.1, ()))))
  (let v18 : Bool := ((!decide (v3.2.1 = r12.2.2.2.2.1)))
  cond v18
  (some ((), (), (), true, r12.2.2.2.2.2.2.1, r12.2.2.2.2.2.2.2.1, r12.2.2.2.2.2.2.2.2.2.1, ()))
  (cond (decide (r12.2.2.2.2.1 = 0))
  (cond (!decide (v3.2.1 = 0))
  (some ((), (), (), (true), r12.2.2.2.2.2.2.1, r12.2.2.2.2.2.2.2.1, r12.2.2.2.2.2.2.2.2.2.1, ()))
  (let v19 : (Str × (Int × (Int × (Int × (Int × (Int × (Bool × (Bool × (Bool × (Bool × Unit)))))))))) := r12.2.2.2.2.2.2.2.2.1
  let v20 : (Str × (Int × (Int × (Int × (Int × (Int × (Bool × (Bool × (Bool × (Bool × Unit)))))))))) := r12.2.2.2.2.2.2.1
  (chanceryref2_Copied v20 a2 a3).bind fun v21 =>
  let v22 : Bool := (!Ty.beq (.pair .str (.pair (.int .i64) (.pair (.int .i64) (.pair (.int .i64) (.pair (.int .i64) (.pair (.int .i64) (.pair .bool (.pair .bool (.pair .bool (.pair .bool .unit)))))))))) v19 v21.1)
  some ((), (), (), (v22), r12.2.2.2.2.2.2.1, r12.2.2.2.2.2.2.2.1, r12.2.2.2.2.2.2.2.2.2.1, ())))
  (some ((), (), (), false, r12.2.2.2.2.2.2.1, r12.2.2.2.2.2.2.2.1, r12.2.2.2.2.2.2.2.2.2.1, ())))))
  (cond (decide (r12.2.2.2.2.1 = 0))
  (cond (!decide (v3.2.1 = 0))
  (some ((), (), (), (true), r12.2.2.2.2.2.2.1, r12.2.2.2.2.2.2.2.1, r12.2.2.2.2.2.2.2.2.2.1, ()))
  (let v23 : (Str × (Int × (Int × (Int × (Int × (Int × (Bool × (Bool × (Bool × (Bool × Unit)))))))))) := r12.2.2.2.2.2.2.2.2.1
  let v24 : (Str × (Int × (Int × (Int × (Int × (Int × (Bool × (Bool × (Bool × (Bool × Unit)))))))))) := r12.2.2.2.2.2.2.1
  (chanceryref2_Copied v24 a2 a3).bind fun v25 =>
  let v26 : Bool := (!Ty.beq (.pair .str (.pair (.int .i64) (.pair (.int .i64) (.pair (.int .i64) (.pair (.int .i64) (.pair (.int .i64) (.pair .bool (.pair .bool (.pair .bool (.pair .bool .unit)))))))))) v23 v25.1)
  some ((), (), (), (v26), r12.2.2.2.2.2.2.1, r12.2.2.2.2.2.2.2.1, r12.2.2.2.2.2.2.2.2.2.1, ())))
  (some ((), (), (), false, r12.2.2.2.2.2.2.1, r12.2.2.2.2.2.2.2.1, r12.2.2.2.2.2.2.2.2.2.1, ()))) : Option (Unit × (Unit × (Unit × (Bool × ((Str × (Int × (Int × (Int × (Int × (Int × (Bool × (Bool × (Bool × (Bool × Unit)))))))))) × ((Int × (Int × (Int × (Int × Unit)))) × ((Str × (Int × (Int × (Int × (Int × (Int × (Bool × (Bool × (Bool × (Bool × Unit)))))))))) × Unit)))))))).bind fun r27 =>
  cond r27.2.2.2.1
  (some (false, ()))
  (cond (!decide (r12.2.2.2.2.2.1 = 0))
  (let v28 : (Str × (Int × (Int × (Int × (Int × (Int × (Bool × (Bool × (Bool × (Bool × Unit)))))))))) := r27.2.2.2.2.2.2.1
  cond (Ty.beq (.pair .str (.pair (.int .i64) (.pair (.int .i64) (.pair (.int .i64) (.pair (.int .i64) (.pair (.int .i64) (.pair .bool (.pair .bool (.pair .bool (.pair .bool .unit)))))))))) v28 ([], 0, 0, 0, 0, 0, false, false, false, false, ()))
  (some ((decide (v5.2.1 = r12.2.2.2.2.2.1)), ()))
  (some (false, ())))
  (cond (decide (v5.2.1 = 0))
  (let v29 : (Str × (Int × (Int × (Int × (Int × (Int × (Bool × (Bool × (Bool × (Bool × Unit)))))))))) := r27.2.2.2.2.2.2.1
  let v30 : (Str × (Int × (Int × (Int × (Int × (Int × (Bool × (Bool × (Bool × (Bool × Unit)))))))))) := r27.2.2.2.2.1
  let v31 : (Int × (Int × (Int × (Int × Unit)))) := r27.2.2.2.2.2.1
  (chanceryref2_Moved v30 v31 a2 a3).bind fun v32 =>
  let v33 : Bool := (Ty.beq (.pair .str (.pair (.int .i64) (.pair (.int .i64) (.pair (.int .i64) (.pair (.int .i64) (.pair (.int .i64) (.pair .bool (.pair .bool (.pair .bool (.pair .bool .unit)))))))))) v29 v32.1)
  some (v33, ()))
  (some (false, ())))))

end Go.Proofs.YtjhcnnhkabhigaaDoor
