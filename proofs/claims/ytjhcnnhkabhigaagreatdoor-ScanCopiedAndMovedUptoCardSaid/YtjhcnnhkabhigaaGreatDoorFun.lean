/- Plain functions that the program's functions come to. Printed by a program (fegen.py). -/
import Derived.Test.YtjhcnnhkabhigaaGreatDoorFeLib
import Derived.Test.YtjhcnnhkabhigaaGreatDoorFeLaw
namespace Go.Proofs.YtjhcnnhkabhigaaGreatDoor
open Go Go.Fe

noncomputable def fscan_next_1 (a0 : Int) : Option (Bool × Unit) :=
  cond (decide (a0 = 32))
  (some (true, ()))
  (some ((decide (a0 = 9)), ()))

noncomputable def fscan_run_next_1_l1 (a0 : Str) (p1 : (Unit × (Int × Unit))) : Option ((Unit × (Int × Unit)) ⊕ (Int × Unit)) :=
  (cond (decide (p1.2.1 < (a0.length : Int)))
  ((idx a0 p1.2.1).bind fun v1 =>
  (fscan_next_1 (ofByte v1)).bind fun v2 =>
  some ((), v2.1, ()))
  (some ((), false, ())) : Option (Unit × (Bool × Unit))).bind fun r3 =>
  cond r3.2.1
  (some (.inl ((), IntKind.i64.wrap (p1.2.1 + 1), ())))
  (some (.inr p1.2))

noncomputable def fscan_run_next_1 (a0 : Str) : Option (Int × Unit) :=
  (loop (fscan_run_next_1_l1 a0) ((), 0, ())).bind fun r4 =>
  some r4

noncomputable def fscan_quoted_l1 (a0 : Str) (a1 : Int) (p1 : (Int × Unit)) : Option ((Int × Unit) ⊕ (Unit ⊕ (Int × Unit))) :=
  cond (decide (p1.1 < (a0.length : Int)))
  (((idx a0 p1.1).bind fun v1 =>
  cond (!decide ((ofByte v1) = a1))
  (some (.inl p1))
  ((cond (decide ((IntKind.i64.wrap (p1.1 + 1)) < (a0.length : Int)))
  ((idx a0 (IntKind.i64.wrap (p1.1 + 1))).bind fun v2 =>
  some ((decide ((ofByte v2) = a1)), ()))
  (some (false, ())) : Option (Bool × Unit)).bind fun r3 =>
  cond r3.1
  (some (.inl (IntKind.i64.wrap (p1.1 + 1), ())))
  (some (.inr (IntKind.i64.wrap (p1.1 + 1), ())))) : Option ((Int × Unit) ⊕ (Int × Unit))).bind fun r4 =>
  (match r4 with
  | .inl z5 => (some (.inl (IntKind.i64.wrap (z5.1 + 1), ())))
  | .inr z6 => (some (.inr (.inr z6)))))
  (some (.inr (.inl (()))))

noncomputable def fscan_quoted (a0 : Str) (a1 : Int) : Option (Int × Unit) :=
  (loop (fscan_quoted_l1 a0 a1) (1, ())).bind fun r7 =>
  (match r7 with
  | .inl _ => (some (0, ()))
  | .inr z9 => (some z9))

noncomputable def fscan_letter (a0 : Int) : Option (Bool × Unit) :=
  cond (decide ((65 : Int) ≤ a0))
  (cond ((decide (a0 ≤ 90)))
  (some (true, ()))
  (cond (decide ((97 : Int) ≤ a0))
  (some (((decide (a0 ≤ 122))), ()))
  (some (false, ()))))
  (cond (decide ((97 : Int) ≤ a0))
  (some (((decide (a0 ≤ 122))), ()))
  (some (false, ())))

noncomputable def fscan_digit (a0 : Int) : Option (Bool × Unit) :=
  cond (decide ((48 : Int) ≤ a0))
  (some ((decide (a0 ≤ 57)), ()))
  (some (false, ()))

noncomputable def fscan_corner (a0 : Int) : Option (Bool × Unit) :=
  (fscan_letter a0).bind fun v1 =>
  cond v1.1
  (some (true, ()))
  ((fscan_digit a0).bind fun v2 =>
  cond (v2.1)
  (some (true, ()))
  (some ((decide (a0 = 36)), ())))

noncomputable def fscan_run_corner_l1 (a0 : Str) (p1 : (Unit × (Int × Unit))) : Option ((Unit × (Int × Unit)) ⊕ (Int × Unit)) :=
  (cond (decide (p1.2.1 < (a0.length : Int)))
  ((idx a0 p1.2.1).bind fun v1 =>
  (fscan_corner (ofByte v1)).bind fun v2 =>
  some ((), v2.1, ()))
  (some ((), false, ())) : Option (Unit × (Bool × Unit))).bind fun r3 =>
  cond r3.2.1
  (some (.inl ((), IntKind.i64.wrap (p1.2.1 + 1), ())))
  (some (.inr p1.2))

noncomputable def fscan_run_corner (a0 : Str) : Option (Int × Unit) :=
  (loop (fscan_run_corner_l1 a0) ((), 0, ())).bind fun r4 =>
  some r4

noncomputable def stringslite_Cut (a0 : Str) (a1 : Str) : Option (Str × (Str × (Bool × Unit))) :=
  (sIndex (a0, a1, ())).bind fun v1 =>
  cond (decide (0 ≤ v1.1))
  ((cut a0 0 v1.1).bind fun v2 =>
  (cut a0 (IntKind.i64.wrap (v1.1 + (a1.length : Int))) (a0.length : Int)).bind fun v3 =>
  some (v2, v3, true, ()))
  (some (a0, [], false, ()))

noncomputable def strings_Cut (a0 : Str) (a1 : Str) : Option (Str × (Str × (Bool × Unit))) :=
  (stringslite_Cut a0 a1).bind fun v1 =>
  some v1

noncomputable def cellref_letter (a0 : Int) : Option (Bool × Unit) :=
  cond (decide ((65 : Int) ≤ a0))
  (cond ((decide (a0 ≤ 90)))
  (some (true, ()))
  (cond (decide ((97 : Int) ≤ a0))
  (some (((decide (a0 ≤ 122))), ()))
  (some (false, ()))))
  (cond (decide ((97 : Int) ≤ a0))
  (some (((decide (a0 ≤ 122))), ()))
  (some (false, ())))

noncomputable def cellref_digit (a0 : Int) : Option (Bool × Unit) :=
  cond (decide ((48 : Int) ≤ a0))
  (some ((decide (a0 ≤ 57)), ()))
  (some (false, ()))

noncomputable def cellref_Plain_l1 (a0 : Str) (p1 : (Int × Unit)) : Option ((Int × Unit) ⊕ (Unit ⊕ (Bool × Unit))) :=
  cond (decide (p1.1 < (a0.length : Int)))
  ((idx a0 p1.1).bind fun v1 =>
  ((cellref_letter (ofByte v1)).bind fun v2 =>
  cond (!v2.1)
  (cond (decide (p1.1 = 0))
  (some (true, ()))
  ((cellref_digit (ofByte v1)).bind fun v3 =>
  cond (!v3.1)
  (let v4 : Bool := ((!decide ((ofByte v1) = 95)))
  some (v4, ()))
  (some ((false), ()))))
  (some (false, ())) : Option (Bool × Unit)).bind fun r5 =>
  cond r5.1
  (some (.inr (.inr (false, ()))))
  (some (.inl (IntKind.i64.wrap (p1.1 + 1), ()))))
  (some (.inr (.inl (()))))

noncomputable def cellref_Plain (a0 : Str) : Option (Bool × Unit) :=
  (loop (cellref_Plain_l1 a0) (0, ())).bind fun r6 =>
  (match r6 with
  | .inl _ => (some (!decide (a0 = []), ()))
  | .inr z8 => (some z8))

noncomputable def _strings_Builder__WriteByte (a1 : Int) (o1 : (List Int)) : Option (Bool × (Unit × ((Unit × (Unit × Unit)) × ((List Int) × Unit)))) :=
  (cat o1 [a1]).bind fun v1 =>
  some (false, (), ((), ((), ())), v1, ())

noncomputable def _strings_Builder__Len (o0 : (List Int)) : Option (Int × (Unit × ((Unit × ((List Int) × Unit)) × Unit))) :=
  some ((o0.length : Int), (), ((), (o0, ())), ())

noncomputable def cellref_sheet_l1 (a0 : Str) (p1 : (Unit × (Int × ((Unit × (Unit × Unit)) × ((List Int) × Unit))))) : Option ((Unit × (Int × ((Unit × (Unit × Unit)) × ((List Int) × Unit)))) ⊕ (Unit ⊕ (Str × (Str × (Bool × Unit))))) :=
  cond (decide (p1.2.1 < (a0.length : Int)))
  (((idx a0 p1.2.1).bind fun v5 =>
  cond (!decide ((ofByte v5) = 39))
  ((idx a0 p1.2.1).bind fun v6 =>
  (_strings_Builder__WriteByte (ofByte v6) p1.2.2.2.1).bind fun v7 =>
  some (.inl ((), p1.2.1, ((), ((), ())), v7.2.2.2.1, ())))
  ((cond (decide ((IntKind.i64.wrap (p1.2.1 + 1)) < (a0.length : Int)))
  ((idx a0 (IntKind.i64.wrap (p1.2.1 + 1))).bind fun v8 =>
  some ((), (decide ((ofByte v8) = 39)), ((), ((), ())), p1.2.2.2.1, ()))
  (some ((), false, ((), ((), ())), p1.2.2.2.1, ())) : Option (Unit × (Bool × ((Unit × (Unit × Unit)) × ((List Int) × Unit))))).bind fun r9 =>
  cond r9.2.1
  ((_strings_Builder__WriteByte 39 r9.2.2.2.1).bind fun v10 =>
  some (.inl ((), IntKind.i64.wrap (p1.2.1 + 1), ((), ((), ())), v10.2.2.2.1, ())))
  ((cut a0 (IntKind.i64.wrap (p1.2.1 + 1)) (a0.length : Int)).bind fun v11 =>
  (sCutPrefix (v11, [33], ())).bind fun v12 =>
  (chk (decide (r9.2.2.2.1.length ≤ lim))).bind fun _ =>
  cond v12.2.1
  ((_strings_Builder__Len r9.2.2.2.1).bind fun v13 =>
  some (.inr (bytesStr r9.2.2.2.1, v12.1, (decide (0 < v13.1)), ())))
  (some (.inr (bytesStr r9.2.2.2.1, v12.1, false, ()))))) : Option ((Unit × (Int × ((Unit × (Unit × Unit)) × ((List Int) × Unit)))) ⊕ (Str × (Str × (Bool × Unit))))).bind fun r14 =>
  (match r14 with
  | .inl z15 => (some (.inl ((), IntKind.i64.wrap (z15.2.1 + 1), ((), ((), ())), z15.2.2.2.1, ())))
  | .inr z16 => (some (.inr (.inr z16)))))
  (some (.inr (.inl (()))))

noncomputable def cellref_sheet (a0 : Str) : Option (Str × (Str × (Bool × Unit))) :=
  (sHasPrefix (a0, [39], ())).bind fun v1 =>
  cond (!v1.1)
  ((strings_Cut a0 [33]).bind fun v2 =>
  (cond (!v2.2.2.1)
  (some (true, ()))
  (some ((decide (a0 = [35, 82, 69, 70, 33])), ())) : Option (Bool × Unit)).bind fun r3 =>
  cond r3.1
  (some ([], a0, true, ()))
  ((cellref_Plain v2.1).bind fun v4 =>
  some (v2.1, v2.2.1, v4.1, ())))
  ((loop (cellref_sheet_l1 a0) ((), 1, ((), ((), ())), [], ())).bind fun r17 =>
  (match r17 with
  | .inl _ => (some ([], [], false, ()))
  | .inr z19 => (some z19)))

noncomputable def cellref_place_l1 (p1 : (Str × (Unit × (Unit × ((Str × (Str × (Bool × (Bool × Unit)))) × ((Str × (Str × (Bool × (Bool × Unit)))) × Unit)))))) : Option ((Str × (Unit × (Unit × ((Str × (Str × (Bool × (Bool × Unit)))) × ((Str × (Str × (Bool × (Bool × Unit)))) × Unit))))) ⊕ (Str × (Unit × (Unit × ((Str × (Str × (Bool × (Bool × Unit)))) × ((Str × (Str × (Bool × (Bool × Unit)))) × Unit)))))) :=
  (cond (!decide (p1.1 = []))
  ((idx p1.1 0).bind fun v2 =>
  (cellref_letter (ofByte v2)).bind fun v3 =>
  some ((), (), v3.1, p1.2.2.2.1, p1.2.2.2.2.1, ()))
  (some ((), (), false, p1.2.2.2.1, p1.2.2.2.2.1, ())) : Option (Unit × (Unit × (Bool × ((Str × (Str × (Bool × (Bool × Unit)))) × ((Str × (Str × (Bool × (Bool × Unit)))) × Unit)))))).bind fun r4 =>
  cond r4.2.2.1
  ((cut p1.1 0 1).bind fun v5 =>
  (cat r4.2.2.2.2.1.1 v5).bind fun v6 =>
  (cut p1.1 1 (p1.1.length : Int)).bind fun v7 =>
  some (.inl (v7, (), (), r4.2.2.2.1, (v6, r4.2.2.2.2.1.2), ())))
  (some (.inr (p1.1, (), (), r4.2.2.2.1, r4.2.2.2.2.1, ())))

noncomputable def cellref_place_l2 (p2 : (Str × (Unit × (Unit × ((Str × (Str × (Bool × (Bool × Unit)))) × ((Str × (Str × (Bool × (Bool × Unit)))) × Unit)))))) : Option ((Str × (Unit × (Unit × ((Str × (Str × (Bool × (Bool × Unit)))) × ((Str × (Str × (Bool × (Bool × Unit)))) × Unit))))) ⊕ (Str × (Unit × (Unit × ((Str × (Str × (Bool × (Bool × Unit)))) × ((Str × (Str × (Bool × (Bool × Unit)))) × Unit)))))) :=
  (cond (!decide (p2.1 = []))
  ((idx p2.1 0).bind fun v11 =>
  (cellref_digit (ofByte v11)).bind fun v12 =>
  some ((), (), v12.1, p2.2.2.2.1, p2.2.2.2.2.1, ()))
  (some ((), (), false, p2.2.2.2.1, p2.2.2.2.2.1, ())) : Option (Unit × (Unit × (Bool × ((Str × (Str × (Bool × (Bool × Unit)))) × ((Str × (Str × (Bool × (Bool × Unit)))) × Unit)))))).bind fun r13 =>
  cond r13.2.2.1
  ((cut p2.1 0 1).bind fun v14 =>
  (cat r13.2.2.2.2.1.2.1 v14).bind fun v15 =>
  (cut p2.1 1 (p2.1.length : Int)).bind fun v16 =>
  some (.inl (v16, (), (), r13.2.2.2.1, (r13.2.2.2.2.1.1, (v15, r13.2.2.2.2.1.2.2)), ())))
  (some (.inr (p2.1, (), (), r13.2.2.2.1, r13.2.2.2.2.1, ())))

noncomputable def cellref_place (a0 : Str) : Option ((Str × (Str × (Bool × (Bool × Unit)))) × (Bool × Unit)) :=
  (sCutPrefix (a0, [36], ())).bind fun v1 =>
  (loop cellref_place_l1 (v1.1, (), (), ([], ([], (false, (false, ())))), ([], ([], (v1.2.1, (false, ())))), ())).bind fun r8 =>
  (cond (decide (r8.2.2.2.2.1.1 = []))
  (some (r8.1, (), (), r8.2.2.2.1, (r8.2.2.2.2.1.1, (r8.2.2.2.2.1.2.1, (false, (r8.2.2.2.2.1.2.2.1, ())))), ()))
  (cond (!decide (r8.1 = []))
  ((sCutPrefix (r8.1, [36], ())).bind fun v9 =>
  some (v9.1, (), (), r8.2.2.2.1, (r8.2.2.2.2.1.1, (r8.2.2.2.2.1.2.1, (r8.2.2.2.2.1.2.2.1, v9.2))), ()))
  (some (r8.1, (), (), r8.2.2.2.1, r8.2.2.2.2.1, ()))) : Option (Str × (Unit × (Unit × ((Str × (Str × (Bool × (Bool × Unit)))) × ((Str × (Str × (Bool × (Bool × Unit)))) × Unit)))))).bind fun r10 =>
  (loop cellref_place_l2 (r10.1, (), (), r10.2.2.2.1, r10.2.2.2.2.1, ())).bind fun r17 =>
  (cond (decide ((r17.2.2.2.2.1.1.length : Int) ≤ 7))
  (let v18 : Bool := (decide ((r17.2.2.2.2.1.2.1.length : Int) ≤ 10))
  cond v18
  ((sHasPrefix (r17.2.2.2.2.1.2.1, [48], ())).bind fun v19 =>
  cond ((!v19.1))
  (cond (!decide (r17.2.2.2.2.1.2.1 = []))
  (some ((), (), true, r17.2.2.2.1, r17.2.2.2.2.1, ()))
  (cond (!decide (r17.2.2.2.2.1.1 = []))
  (let v20 : Bool := (((!r17.2.2.2.2.1.2.2.2.1)))
  some ((), (), v20, r17.2.2.2.1, r17.2.2.2.2.1, ()))
  (some ((), (), (false), r17.2.2.2.1, r17.2.2.2.2.1, ()))))
  (some ((), (), false, r17.2.2.2.1, r17.2.2.2.2.1, ())))
  (some ((), (), false, r17.2.2.2.1, r17.2.2.2.2.1, ())))
  (some ((), (), false, r17.2.2.2.1, r17.2.2.2.2.1, ())) : Option (Unit × (Unit × (Bool × ((Str × (Str × (Bool × (Bool × Unit)))) × ((Str × (Str × (Bool × (Bool × Unit)))) × Unit)))))).bind fun r21 =>
  let v22 : (Str × (Str × (Bool × (Bool × Unit)))) := r21.2.2.2.2.1
  cond (decide (r17.1 = []))
  (some (v22, r21.2.2.1, ()))
  (some (v22, false, ()))

noncomputable def cellref_Column_l1 (a0 : Str) (p1 : (Int × (Int × Unit))) : Option ((Int × (Int × Unit)) ⊕ ((Int × Unit) ⊕ (Int × (Int × Unit)))) :=
  cond (decide (p1.2.1 < (a0.length : Int)))
  ((idx a0 p1.2.1).bind fun v2 =>
  (cellref_letter (ofByte v2)).bind fun v3 =>
  cond (!v3.1)
  (some (.inr (.inr (0, 10, ()))))
  ((idx a0 p1.2.1).bind fun v4 =>
  let v5 : Int := IntKind.i64.wrap ((IntKind.i64.wrap (26 * p1.1)) + (IntKind.i64.wrap (band .u8 (ofByte v4) 31)))
  some (.inl (v5, IntKind.i64.wrap (p1.2.1 + 1), ()))))
  (some (.inr (.inl (p1.1, ()))))

noncomputable def cellref_Column (a0 : Str) : Option (Int × (Int × Unit)) :=
  (cond (decide (a0 = []))
  (some (true, ()))
  (some ((decide (7 < (a0.length : Int))), ())) : Option (Bool × Unit)).bind fun r1 =>
  cond r1.1
  (some (0, 10, ()))
  ((loop (cellref_Column_l1 a0) (0, 0, ())).bind fun r6 =>
  (match r6 with
  | .inl z7 => (cond (decide (1073741824 < z7.1))
  (some (0, 2, ()))
  (some (IntKind.i64.wrap (z7.1 - 1), 0, ())))
  | .inr z8 => (some z8)))

noncomputable def cellref_corner__values (a0 : (Str × (Str × (Bool × (Bool × Unit))))) : Option (Int × (Int × (Int × Unit))) :=
  (cond (!decide (a0.2.1 = []))
  ((sAtoi (a0.2.1, ())).bind fun v1 =>
  some ((), IntKind.i64.wrap (v1.1 - 1), a0, ()))
  (some ((), 0, a0, ())) : Option (Unit × (Int × ((Str × (Str × (Bool × (Bool × Unit)))) × Unit)))).bind fun r2 =>
  (cond (!decide (r2.2.2.1.1 = []))
  ((cellref_Column r2.2.2.1.1).bind fun v3 =>
  some v3)
  (some (0, 0, ())) : Option (Int × (Int × Unit))).bind fun r4 =>
  (cond (!decide (r4.2.1 = 0))
  (some (true, ()))
  (some ((decide (1073741824 ≤ r2.2.1)), ())) : Option (Bool × Unit)).bind fun r5 =>
  cond r5.1
  (some (0, 0, 2, ()))
  (some (r2.2.1, r4.1, 0, ()))

noncomputable def cellref_ordered (a0 : (Str × (Int × (Int × (Int × (Int × (Int × (Bool × (Bool × (Bool × (Bool × Unit))))))))))) : Option ((Str × (Int × (Int × (Int × (Int × (Int × (Bool × (Bool × (Bool × (Bool × Unit)))))))))) × Unit) :=
  cond (decide (a0.2.1 = 0))
  (let v1 : (Str × (Int × (Int × (Int × (Int × (Int × (Bool × (Bool × (Bool × (Bool × Unit)))))))))) := a0
  some (v1, ()))
  ((cond (decide (a0.2.2.2.2.1 < a0.2.2.1))
  (some ((), (), (a0.1, (a0.2.1, (a0.2.2.2.2.1, (a0.2.2.2.1, (a0.2.2.1, (a0.2.2.2.2.2.1, (a0.2.2.2.2.2.2.2.2.1, (a0.2.2.2.2.2.2.2.1, (a0.2.2.2.2.2.2.1, a0.2.2.2.2.2.2.2.2.2))))))))), ([], (0, (0, (0, (0, (0, (false, (false, (false, (false, ())))))))))), ()))
  (some ((), (), a0, ([], (0, (0, (0, (0, (0, (false, (false, (false, (false, ())))))))))), ())) : Option (Unit × (Unit × ((Str × (Int × (Int × (Int × (Int × (Int × (Bool × (Bool × (Bool × (Bool × Unit)))))))))) × ((Str × (Int × (Int × (Int × (Int × (Int × (Bool × (Bool × (Bool × (Bool × Unit)))))))))) × Unit))))).bind fun r2 =>
  (cond (decide (r2.2.2.1.2.2.2.2.2.1 < r2.2.2.1.2.2.2.1))
  (some ((), (), (r2.2.2.1.1, (r2.2.2.1.2.1, (r2.2.2.1.2.2.1, (r2.2.2.1.2.2.2.2.2.1, (r2.2.2.1.2.2.2.2.1, (r2.2.2.1.2.2.2.1, (r2.2.2.1.2.2.2.2.2.2.1, (r2.2.2.1.2.2.2.2.2.2.2.2.2.1, (r2.2.2.1.2.2.2.2.2.2.2.2.1, (r2.2.2.1.2.2.2.2.2.2.2.1, ())))))))))), r2.2.2.2.1, ()))
  (some ((), (), r2.2.2.1, r2.2.2.2.1, ())) : Option (Unit × (Unit × ((Str × (Int × (Int × (Int × (Int × (Int × (Bool × (Bool × (Bool × (Bool × Unit)))))))))) × ((Str × (Int × (Int × (Int × (Int × (Int × (Bool × (Bool × (Bool × (Bool × Unit)))))))))) × Unit))))).bind fun r3 =>
  let v4 : (Str × (Int × (Int × (Int × (Int × (Int × (Bool × (Bool × (Bool × (Bool × Unit)))))))))) := r3.2.2.1
  some (v4, ()))

noncomputable def cellref_name_l1 (a0 : Str) (p1 : (Int × Unit)) : Option ((Int × Unit) ⊕ (Unit ⊕ (Int × Unit))) :=
  cond (decide (p1.1 < (a0.length : Int)))
  (((idx a0 p1.1).bind fun v1 =>
  cond (decide ((ofByte v1) < 32))
  (some (true, ()))
  ((idx a0 p1.1).bind fun v2 =>
  some ((decide (126 < (ofByte v2))), ())) : Option (Bool × Unit)).bind fun r3 =>
  cond r3.1
  (some (.inr (.inr (9, ()))))
  (some (.inl (IntKind.i64.wrap (p1.1 + 1), ()))))
  (some (.inr (.inl (()))))

noncomputable def cellref_name (a0 : Str) : Option (Int × Unit) :=
  cond (decide (200 < (a0.length : Int)))
  (some (3, ()))
  ((loop (cellref_name_l1 a0) (0, ())).bind fun r4 =>
  (match r4 with
  | .inl _ => (some (0, ()))
  | .inr z6 => (some z6)))

noncomputable def cellref_meaning (a0 : (Str × (Int × (Int × (Int × (Int × (Int × (Bool × (Bool × (Bool × (Bool × Unit))))))))))) : Option ((Str × (Int × (Int × (Int × (Int × (Int × (Bool × (Bool × (Bool × (Bool × Unit)))))))))) × Unit) :=
  (cond (decide (a0.2.1 = 0))
  (some ((), (), (a0.1, (a0.2.1, (a0.2.2.1, (a0.2.2.2.1, (0, (0, (a0.2.2.2.2.2.2.1, (a0.2.2.2.2.2.2.2.1, (false, (false, ())))))))))), ([], (0, (0, (0, (0, (0, (false, (false, (false, (false, ())))))))))), ()))
  (cond (decide (a0.2.1 = 2))
  (some ((), (), (a0.1, (a0.2.1, (a0.2.2.1, (0, (a0.2.2.2.2.1, (0, (a0.2.2.2.2.2.2.1, (false, (a0.2.2.2.2.2.2.2.2.1, (false, ())))))))))), ([], (0, (0, (0, (0, (0, (false, (false, (false, (false, ())))))))))), ()))
  (cond (decide (a0.2.1 = 3))
  (some ((), (), (a0.1, (a0.2.1, (0, (a0.2.2.2.1, (0, (a0.2.2.2.2.2.1, (false, (a0.2.2.2.2.2.2.2.1, (false, a0.2.2.2.2.2.2.2.2.2))))))))), ([], (0, (0, (0, (0, (0, (false, (false, (false, (false, ())))))))))), ()))
  (cond (decide (a0.2.1 = 4))
  (some ((), (), ([], (4, (0, (0, (0, (0, (false, (false, (false, (false, ())))))))))), ([], (0, (0, (0, (0, (0, (false, (false, (false, (false, ())))))))))), ()))
  (some ((), (), a0, ([], (0, (0, (0, (0, (0, (false, (false, (false, (false, ())))))))))), ()))))) : Option (Unit × (Unit × ((Str × (Int × (Int × (Int × (Int × (Int × (Bool × (Bool × (Bool × (Bool × Unit)))))))))) × ((Str × (Int × (Int × (Int × (Int × (Int × (Bool × (Bool × (Bool × (Bool × Unit)))))))))) × Unit))))).bind fun r1 =>
  let v2 : (Str × (Int × (Int × (Int × (Int × (Int × (Bool × (Bool × (Bool × (Bool × Unit)))))))))) := r1.2.2.1
  some (v2, ())

noncomputable def cellref_permitted (a0 : Int) : Option (Bool × Unit) :=
  cond (decide (0 ≤ a0))
  (some ((decide (a0 < 1073741824)), ()))
  (some (false, ()))

noncomputable def cellref_Check (a0 : (Str × (Int × (Int × (Int × (Int × (Int × (Bool × (Bool × (Bool × (Bool × Unit))))))))))) : Option (Int × Unit) :=
  (cond (decide (a0.2.1 < 0))
  (some ((), true, a0, ()))
  (some ((), (decide (4 < a0.2.1)), a0, ())) : Option (Unit × (Bool × ((Str × (Int × (Int × (Int × (Int × (Int × (Bool × (Bool × (Bool × (Bool × Unit)))))))))) × Unit)))).bind fun r1 =>
  cond r1.2.1
  (some (8, ()))
  ((cellref_name r1.2.2.1.1).bind fun v2 =>
  cond (!decide (v2.1 = 0))
  (some v2)
  (let v3 : (Str × (Int × (Int × (Int × (Int × (Int × (Bool × (Bool × (Bool × (Bool × Unit)))))))))) := r1.2.2.1
  let v4 : (Str × (Int × (Int × (Int × (Int × (Int × (Bool × (Bool × (Bool × (Bool × Unit)))))))))) := r1.2.2.1
  (cellref_meaning v4).bind fun v5 =>
  cond (!Ty.beq (.pair .str (.pair (.int .i64) (.pair (.int .i64) (.pair (.int .i64) (.pair (.int .i64) (.pair (.int .i64) (.pair .bool (.pair .bool (.pair .bool (.pair .bool .unit)))))))))) v3 v5.1)
  (some (4, ()))
  (((cellref_permitted r1.2.2.1.2.2.1).bind fun v6 =>
  cond (!v6.1)
  (some ((), true, r1.2.2.1, ()))
  ((cellref_permitted r1.2.2.1.2.2.2.1).bind fun v7 =>
  cond ((!v7.1))
  (some ((), true, r1.2.2.1, ()))
  ((cellref_permitted r1.2.2.1.2.2.2.2.1).bind fun v8 =>
  cond ((!v8.1))
  (some ((), true, r1.2.2.1, ()))
  ((cellref_permitted r1.2.2.1.2.2.2.2.2.1).bind fun v9 =>
  some ((), (!v9.1), r1.2.2.1, ())))) : Option (Unit × (Bool × ((Str × (Int × (Int × (Int × (Int × (Int × (Bool × (Bool × (Bool × (Bool × Unit)))))))))) × Unit)))).bind fun r10 =>
  cond r10.2.1
  (some (2, ()))
  ((cond (!decide (r10.2.2.1.2.1 = 0))
  (cond (decide (r10.2.2.1.2.2.2.2.1 < r10.2.2.1.2.2.1))
  (some (true, ()))
  (let v11 : Bool := (decide (r10.2.2.1.2.2.2.2.2.1 < r10.2.2.1.2.2.2.1))
  some (v11, ())))
  (some (false, ())) : Option (Bool × Unit)).bind fun r12 =>
  cond r12.1
  (some (5, ()))
  (some (0, ()))))))

noncomputable def cellref_Parse (a0 : Str) : Option ((Str × (Int × (Int × (Int × (Int × (Int × (Bool × (Bool × (Bool × (Bool × Unit)))))))))) × (Int × Unit)) :=
  cond (decide (500 < (a0.length : Int)))
  (some (([], (0, (0, (0, (0, (0, (false, (false, (false, (false, ())))))))))), 3, ()))
  (cond (decide (a0 = [35, 82, 69, 70, 33]))
  (some (([], (4, (0, (0, (0, (0, (false, (false, (false, (false, ())))))))))), 0, ()))
  ((cellref_sheet a0).bind fun v1 =>
  (strings_Cut v1.2.1 [58]).bind fun v2 =>
  (cellref_place v2.1).bind fun v3 =>
  (cond v2.2.2.1
  ((cellref_place v2.2.1).bind fun v4 =>
  some ((), (), (), v4.2.1, ([], (0, (0, (0, (0, (0, (false, (false, (false, (false, ())))))))))), v3.1, v4.1, ()))
  (some ((), (), (), true, ([], (0, (0, (0, (0, (0, (false, (false, (false, (false, ())))))))))), v3.1, v3.1, ())) : Option (Unit × (Unit × (Unit × (Bool × ((Str × (Int × (Int × (Int × (Int × (Int × (Bool × (Bool × (Bool × (Bool × Unit)))))))))) × ((Str × (Str × (Bool × (Bool × Unit)))) × ((Str × (Str × (Bool × (Bool × Unit)))) × Unit)))))))).bind fun r5 =>
  (cond (!decide (r5.2.2.2.2.2.1.1 = []))
  (some ((), (), (), (!decide (r5.2.2.2.2.2.1.2.1 = [])), r5.2.2.2.2.1, r5.2.2.2.2.2.1, r5.2.2.2.2.2.2.1, ()))
  (some ((), (), (), false, r5.2.2.2.2.1, r5.2.2.2.2.2.1, r5.2.2.2.2.2.2.1, ())) : Option (Unit × (Unit × (Unit × (Bool × ((Str × (Int × (Int × (Int × (Int × (Int × (Bool × (Bool × (Bool × (Bool × Unit)))))))))) × ((Str × (Str × (Bool × (Bool × Unit)))) × ((Str × (Str × (Bool × (Bool × Unit)))) × Unit)))))))).bind fun r6 =>
  (cond (!v1.2.2.1)
  (some ((), (), (), true, r6.2.2.2.2.1, r6.2.2.2.2.2.1, r6.2.2.2.2.2.2.1, ()))
  (cond ((!v3.2.1))
  (some ((), (), (), true, r6.2.2.2.2.1, r6.2.2.2.2.2.1, r6.2.2.2.2.2.2.1, ()))
  (cond ((!r5.2.2.2.1))
  (some ((), (), (), true, r6.2.2.2.2.1, r6.2.2.2.2.2.1, r6.2.2.2.2.2.2.1, ()))
  (let v7 : Bool := (!((decide (r6.2.2.2.2.2.1.1 = [])) == (decide (r6.2.2.2.2.2.2.1.1 = []))))
  cond v7
  (some ((), (), (), true, r6.2.2.2.2.1, r6.2.2.2.2.2.1, r6.2.2.2.2.2.2.1, ()))
  (let v8 : Bool := (!((decide (r6.2.2.2.2.2.1.2.1 = [])) == (decide (r6.2.2.2.2.2.2.1.2.1 = []))))
  cond v8
  (some ((), (), (), true, r6.2.2.2.2.1, r6.2.2.2.2.2.1, r6.2.2.2.2.2.2.1, ()))
  (cond (!v2.2.2.1)
  (some ((), (), (), ((!r6.2.2.2.1)), r6.2.2.2.2.1, r6.2.2.2.2.2.1, r6.2.2.2.2.2.2.1, ()))
  (some ((), (), (), false, r6.2.2.2.2.1, r6.2.2.2.2.2.1, r6.2.2.2.2.2.2.1, ()))))))) : Option (Unit × (Unit × (Unit × (Bool × ((Str × (Int × (Int × (Int × (Int × (Int × (Bool × (Bool × (Bool × (Bool × Unit)))))))))) × ((Str × (Str × (Bool × (Bool × Unit)))) × ((Str × (Str × (Bool × (Bool × Unit)))) × Unit)))))))).bind fun r9 =>
  cond r9.2.2.2.1
  (some (([], (0, (0, (0, (0, (0, (false, (false, (false, (false, ())))))))))), 10, ()))
  (let v10 : (Str × (Int × (Int × (Int × (Int × (Int × (Bool × (Bool × (Bool × (Bool × Unit)))))))))) := (v1.1, 0, 0, 0, 0, 0, r9.2.2.2.2.2.1.2.2.2.1, r9.2.2.2.2.2.1.2.2.1, false, false, ())
  let v11 : (Str × (Str × (Bool × (Bool × Unit)))) := r9.2.2.2.2.2.1
  (cellref_corner__values v11).bind fun v12 =>
  cond (!decide (v12.2.2.1 = 0))
  (some (([], (0, (0, (0, (0, (0, (false, (false, (false, (false, ())))))))))), v12.2.2.1, ()))
  ((cond v2.2.2.1
  (let v13 : (Str × (Str × (Bool × (Bool × Unit)))) := r9.2.2.2.2.2.2.1
  (cellref_corner__values v13).bind fun v14 =>
  cond (!decide (v14.2.2.1 = 0))
  (some (.inr ((), v14.2.2.1, ([], (0, (0, (0, (0, (0, (false, (false, (false, (false, ())))))))))), ())))
  (cond (!r6.2.2.2.1)
  (cond (decide (r9.2.2.2.2.2.1.2.1 = []))
  (some (.inl ((), (), r9.2.2.2.2.1, (v10.1, (3, (v12.1, (v12.2.1, (v14.1, (v14.2.1, (v10.2.2.2.2.2.2.1, (v10.2.2.2.2.2.2.2.1, (r9.2.2.2.2.2.2.1.2.2.2.1, (r9.2.2.2.2.2.2.1.2.2.1, ())))))))))), ())))
  (some (.inl ((), (), r9.2.2.2.2.1, (v10.1, (2, (v12.1, (v12.2.1, (v14.1, (v14.2.1, (v10.2.2.2.2.2.2.1, (v10.2.2.2.2.2.2.2.1, (r9.2.2.2.2.2.2.1.2.2.2.1, (r9.2.2.2.2.2.2.1.2.2.1, ())))))))))), ()))))
  (some (.inl ((), (), r9.2.2.2.2.1, (v10.1, (1, (v12.1, (v12.2.1, (v14.1, (v14.2.1, (v10.2.2.2.2.2.2.1, (v10.2.2.2.2.2.2.2.1, (r9.2.2.2.2.2.2.1.2.2.2.1, (r9.2.2.2.2.2.2.1.2.2.1, ())))))))))), ())))))
  (some (.inl ((), (), r9.2.2.2.2.1, (v10.1, (v10.2.1, (v12.1, (v12.2.1, v10.2.2.2.2)))), ()))) : Option ((Unit × (Unit × ((Str × (Int × (Int × (Int × (Int × (Int × (Bool × (Bool × (Bool × (Bool × Unit)))))))))) × ((Str × (Int × (Int × (Int × (Int × (Int × (Bool × (Bool × (Bool × (Bool × Unit)))))))))) × Unit)))) ⊕ (Unit × (Int × ((Str × (Int × (Int × (Int × (Int × (Int × (Bool × (Bool × (Bool × (Bool × Unit)))))))))) × Unit))))).bind fun r15 =>
  (match r15 with
  | .inl z16 => (let v17 : (Str × (Int × (Int × (Int × (Int × (Int × (Bool × (Bool × (Bool × (Bool × Unit)))))))))) := z16.2.2.2.1
  (cellref_ordered v17).bind fun v18 =>
  let v19 : (Str × (Int × (Int × (Int × (Int × (Int × (Bool × (Bool × (Bool × (Bool × Unit)))))))))) := v18.1
  (cellref_Check v19).bind fun v20 =>
  cond (!decide (v20.1 = 0))
  (some (([], (0, (0, (0, (0, (0, (false, (false, (false, (false, ())))))))))), v20.1, ()))
  (let v21 : (Str × (Int × (Int × (Int × (Int × (Int × (Bool × (Bool × (Bool × (Bool × Unit)))))))))) := v18.1
  some (v21, 0, ())))
  | .inr z22 => (some (z22.2.2.1, z22.2.1, ())))))))

noncomputable def fscan_isRef (a0 : Str) : Option (Bool × Unit) :=
  (cellref_Parse a0).bind fun v1 =>
  some (decide (v1.2.1 = 0), ())

noncomputable def fscan_area (a0 : Str) (a1 : Int) : Option (Int × Unit) :=
  ((cond (decide (a1 < (a0.length : Int)))
  ((idx a0 a1).bind fun v1 =>
  some ((decide ((ofByte v1) = 58)), ()))
  (some (false, ())) : Option (Bool × Unit)).bind fun r2 =>
  cond r2.1
  ((cut a0 (IntKind.i64.wrap (a1 + 1)) (a0.length : Int)).bind fun v3 =>
  (fscan_run_corner v3).bind fun v4 =>
  (cut a0 0 (IntKind.i64.wrap ((IntKind.i64.wrap (a1 + 1)) + v4.1))).bind fun v5 =>
  (fscan_isRef v5).bind fun v6 =>
  cond v6.1
  (some (.inr (IntKind.i64.wrap ((IntKind.i64.wrap (a1 + 1)) + v4.1), ())))
  (some (.inl (()))))
  (some (.inl (()))) : Option (Unit ⊕ (Int × Unit))).bind fun r7 =>
  (match r7 with
  | .inl _ => ((cut a0 0 a1).bind fun v9 =>
  (fscan_isRef v9).bind fun v10 =>
  cond v10.1
  (some (a1, ()))
  (some (0, ())))
  | .inr z11 => (some z11))

noncomputable def fscan_sheeted (a0 : Str) (a1 : Int) : Option (Int × Unit) :=
  (cond (decide ((a0.length : Int) ≤ a1))
  (some (true, ()))
  ((idx a0 a1).bind fun v1 =>
  some ((!decide ((ofByte v1) = 33)), ())) : Option (Bool × Unit)).bind fun r2 =>
  cond r2.1
  (some (0, ()))
  ((cut a0 (IntKind.i64.wrap (a1 + 1)) (a0.length : Int)).bind fun v3 =>
  (fscan_run_corner v3).bind fun v4 =>
  (fscan_area a0 (IntKind.i64.wrap ((IntKind.i64.wrap (a1 + 1)) + v4.1))).bind fun v5 =>
  some v5)

noncomputable def fscan_run_digit_l1 (a0 : Str) (p1 : (Unit × (Int × Unit))) : Option ((Unit × (Int × Unit)) ⊕ (Int × Unit)) :=
  (cond (decide (p1.2.1 < (a0.length : Int)))
  ((idx a0 p1.2.1).bind fun v1 =>
  (fscan_digit (ofByte v1)).bind fun v2 =>
  some ((), v2.1, ()))
  (some ((), false, ())) : Option (Unit × (Bool × Unit))).bind fun r3 =>
  cond r3.2.1
  (some (.inl ((), IntKind.i64.wrap (p1.2.1 + 1), ())))
  (some (.inr p1.2))

noncomputable def fscan_run_digit (a0 : Str) : Option (Int × Unit) :=
  (loop (fscan_run_digit_l1 a0) ((), 0, ())).bind fun r4 =>
  some r4

noncomputable def fscan_rows (a0 : Str) : Option (Int × Unit) :=
  (fscan_run_digit a0).bind fun v1 =>
  ((cond (decide (v1.1 < (a0.length : Int)))
  ((idx a0 v1.1).bind fun v2 =>
  some ((decide ((ofByte v2) = 58)), ()))
  (some (false, ())) : Option (Bool × Unit)).bind fun r3 =>
  cond r3.1
  ((cut a0 (IntKind.i64.wrap (v1.1 + 1)) (a0.length : Int)).bind fun v4 =>
  (fscan_run_corner v4).bind fun v5 =>
  (cut a0 0 (IntKind.i64.wrap ((IntKind.i64.wrap (v1.1 + 1)) + v5.1))).bind fun v6 =>
  (fscan_isRef v6).bind fun v7 =>
  cond v7.1
  (some (.inr (IntKind.i64.wrap ((IntKind.i64.wrap (v1.1 + 1)) + v5.1), ())))
  (some (.inl (()))))
  (some (.inl (()))) : Option (Unit ⊕ (Int × Unit))).bind fun r8 =>
  (match r8 with
  | .inl _ => (some (0, ()))
  | .inr z10 => (some z10))

noncomputable def fscan_number (a0 : Str) : Option (Int × Unit) :=
  (fscan_run_digit a0).bind fun v1 =>
  ((cond (decide (v1.1 < (a0.length : Int)))
  ((idx a0 v1.1).bind fun v2 =>
  some ((decide ((ofByte v2) = 46)), ()))
  (some (false, ())) : Option (Bool × Unit)).bind fun r3 =>
  cond r3.1
  ((cut a0 (IntKind.i64.wrap (v1.1 + 1)) (a0.length : Int)).bind fun v4 =>
  (fscan_run_digit v4).bind fun v5 =>
  cond (decide (0 < v5.1))
  (some (IntKind.i64.wrap (v1.1 + (IntKind.i64.wrap (1 + v5.1))), ()))
  (some v1))
  (some v1) : Option (Int × Unit)).bind fun r6 =>
  ((cond (decide (r6.1 < (a0.length : Int)))
  ((idx a0 r6.1).bind fun v7 =>
  some ((decide ((bor .u8 (ofByte v7) 32) = 101)), ()))
  (some (false, ())) : Option (Bool × Unit)).bind fun r8 =>
  cond r8.1
  (((cond (decide ((IntKind.i64.wrap (r6.1 + 1)) < (a0.length : Int)))
  ((idx a0 (IntKind.i64.wrap (r6.1 + 1))).bind fun v9 =>
  cond (decide ((ofByte v9) = 43))
  (some (true, ()))
  ((idx a0 (IntKind.i64.wrap (r6.1 + 1))).bind fun v10 =>
  let v11 : Bool := ((decide ((ofByte v10) = 45)))
  some (v11, ())))
  (some (false, ())) : Option (Bool × Unit)).bind fun r12 =>
  cond r12.1
  (some (IntKind.i64.wrap ((IntKind.i64.wrap (r6.1 + 1)) + 1), ()))
  (some (IntKind.i64.wrap (r6.1 + 1), ())) : Option (Int × Unit)).bind fun r13 =>
  (cut a0 r13.1 (a0.length : Int)).bind fun v14 =>
  (fscan_run_digit v14).bind fun v15 =>
  cond (decide (0 < v15.1))
  (some (IntKind.i64.wrap (r13.1 + v15.1), ()))
  (some r6))
  (some r6) : Option (Int × Unit)).bind fun r16 =>
  some r16

noncomputable def fscan_wordly (a0 : Int) : Option (Bool × Unit) :=
  (fscan_corner a0).bind fun v1 =>
  cond v1.1
  (some (true, ()))
  (cond ((decide (a0 = 95)))
  (some (true, ()))
  (some ((decide (a0 = 46)), ())))

noncomputable def fscan_run_wordly_l1 (a0 : Str) (p1 : (Unit × (Int × Unit))) : Option ((Unit × (Int × Unit)) ⊕ (Int × Unit)) :=
  (cond (decide (p1.2.1 < (a0.length : Int)))
  ((idx a0 p1.2.1).bind fun v1 =>
  (fscan_wordly (ofByte v1)).bind fun v2 =>
  some ((), v2.1, ()))
  (some ((), false, ())) : Option (Unit × (Bool × Unit))).bind fun r3 =>
  cond r3.2.1
  (some (.inl ((), IntKind.i64.wrap (p1.2.1 + 1), ())))
  (some (.inr p1.2))

noncomputable def fscan_run_wordly (a0 : Str) : Option (Int × Unit) :=
  (loop (fscan_run_wordly_l1 a0) ((), 0, ())).bind fun r4 =>
  some r4

noncomputable def strings_Index (a0 : Str) (a1 : Str) : Option (Int × Unit) :=
  (sIndex (a0, a1, ())).bind fun v1 =>
  some v1

noncomputable def strings_Contains (a0 : Str) (a1 : Str) : Option (Bool × Unit) :=
  (strings_Index a0 a1).bind fun v1 =>
  some (decide (0 ≤ v1.1), ())

noncomputable def fscan_brackets_l1 (a0 : Str) (p1 : (Int × (Int × Unit))) : Option ((Int × (Int × Unit)) ⊕ (Unit ⊕ (Int × Unit))) :=
  cond (decide (p1.2.1 < (a0.length : Int)))
  (((idx a0 p1.2.1).bind fun v1 =>
  cond (decide ((ofByte v1) = 91))
  (some (IntKind.i64.wrap (p1.1 + 1), ()))
  (cond (decide ((ofByte v1) = 93))
  (some (IntKind.i64.wrap (p1.1 - 1), ()))
  (some (p1.1, ()))) : Option (Int × Unit)).bind fun r2 =>
  cond (decide (r2.1 = 0))
  (some (.inr (.inr (IntKind.i64.wrap (p1.2.1 + 1), ()))))
  (some (.inl (r2.1, IntKind.i64.wrap (p1.2.1 + 1), ()))))
  (some (.inr (.inl (()))))

noncomputable def fscan_brackets (a0 : Str) : Option (Int × Unit) :=
  (loop (fscan_brackets_l1 a0) (0, 0, ())).bind fun r3 =>
  (match r3 with
  | .inl _ => (some (0, ()))
  | .inr z5 => (some z5))

noncomputable def fscan_word (a0 : Str) : Option (Int × (Int × Unit)) :=
  (fscan_run_wordly a0).bind fun v1 =>
  (cut a0 0 v1.1).bind fun v2 =>
  (cond (decide (v1.1 < (a0.length : Int)))
  ((idx a0 v1.1).bind fun v3 =>
  some (ofByte v3, ()))
  (some (0, ())) : Option (Int × Unit)).bind fun r4 =>
  (strings_Contains v2 [36]).bind fun v5 =>
  (cond (decide (r4.1 = 33))
  ((cellref_Plain v2).bind fun v6 =>
  some (v6.1, ()))
  (some (false, ())) : Option (Bool × Unit)).bind fun r7 =>
  cond r7.1
  ((fscan_sheeted a0 v1.1).bind fun v8 =>
  some (4, v8.1, ()))
  ((cond (decide (r4.1 = 40))
  (some ((!v5.1), ()))
  (some (false, ())) : Option (Bool × Unit)).bind fun r9 =>
  cond r9.1
  (some (6, v1.1, ()))
  ((cond (decide (r4.1 = 91))
  (some ((!v5.1), ()))
  (some (false, ())) : Option (Bool × Unit)).bind fun r10 =>
  cond r10.1
  ((cut a0 v1.1 (a0.length : Int)).bind fun v11 =>
  (fscan_brackets v11).bind fun v12 =>
  cond (decide (0 < v12.1))
  (some (7, IntKind.i64.wrap (v1.1 + v12.1), ()))
  (some (7, 0, ())))
  ((fscan_area a0 v1.1).bind fun v13 =>
  cond (decide (0 < v13.1))
  (some (4, v13.1, ()))
  (cond (!v5.1)
  (some (5, v1.1, ()))
  (some (5, 0, ()))))))

noncomputable def fscan_next_l1 (v6 : (List Str)) (a0 : Str) (p1 : (Int × Unit)) : Option ((Int × Unit) ⊕ (Unit ⊕ (Int × (Int × Unit)))) :=
  cond (decide (p1.1 < 7))
  ((idx v6 p1.1).bind fun v7 =>
  (sHasPrefix (a0, v7, ())).bind fun v8 =>
  cond v8.1
  (some (.inr (.inr (3, (v7.length : Int), ()))))
  (some (.inl (IntKind.i64.wrap (p1.1 + 1), ()))))
  (some (.inr (.inl (()))))

noncomputable def fscan_next (a0 : Str) : Option (Int × (Int × Unit)) :=
  (idx a0 0).bind fun v1 =>
  (cond (decide ((ofByte v1) = 32))
  (some (true, ()))
  (some ((decide ((ofByte v1) = 9)), ())) : Option (Bool × Unit)).bind fun r2 =>
  cond r2.1
  ((fscan_run_next_1 a0).bind fun v3 =>
  some (0, v3.1, ()))
  (cond (decide ((ofByte v1) = 34))
  ((fscan_quoted a0 (ofByte v1)).bind fun v4 =>
  some (2, v4.1, ()))
  (cond (decide ((ofByte v1) = 35))
  ((sHasPrefix (a0, [35, 82, 69, 70, 33], ())).bind fun v5 =>
  cond v5.1
  (some (4, 5, ()))
  (let v6 : (List Str) := [[35, 68, 73, 86, 47, 48, 33], [35, 86, 65, 76, 85, 69, 33], [35, 78, 65, 77, 69, 63], [35, 78, 85, 77, 33], [35, 78, 47, 65], [35, 83, 80, 73, 76, 76, 33], [35, 67, 89, 67, 76, 69, 33]]
  (loop (fscan_next_l1 v6 a0) (0, ())).bind fun r9 =>
  (match r9 with
  | .inl _ => (some (8, 1, ()))
  | .inr z11 => (some z11))))
  (cond (decide ((ofByte v1) = 39))
  ((fscan_quoted a0 (ofByte v1)).bind fun v12 =>
  cond (decide (0 < v12.1))
  ((fscan_sheeted a0 v12.1).bind fun v13 =>
  some (4, v13.1, ()))
  (some (4, 0, ())))
  ((fscan_digit (ofByte v1)).bind fun v14 =>
  cond v14.1
  ((fscan_rows a0).bind fun v15 =>
  cond (decide (0 < v15.1))
  (some (4, v15.1, ()))
  ((fscan_number a0).bind fun v16 =>
  some (1, v16.1, ())))
  (((fscan_letter (ofByte v1)).bind fun v17 =>
  cond v17.1
  (some (true, ()))
  (cond ((decide ((ofByte v1) = 95)))
  (some (true, ()))
  (some ((decide ((ofByte v1) = 36)), ()))) : Option (Bool × Unit)).bind fun r18 =>
  cond r18.1
  ((fscan_word a0).bind fun v19 =>
  some v19)
  (((sHasPrefix (a0, [60, 61], ())).bind fun v20 =>
  cond v20.1
  (some (true, ()))
  ((sHasPrefix (a0, [62, 61], ())).bind fun v21 =>
  cond (v21.1)
  (some (true, ()))
  ((sHasPrefix (a0, [60, 62], ())).bind fun v22 =>
  some (v22.1, ()))) : Option (Bool × Unit)).bind fun r23 =>
  cond r23.1
  (some (8, 2, ()))
  ((sIndexByte ([43, 45, 42, 47, 94, 38, 61, 60, 62, 37, 40, 41, 44, 59, 123, 125], ofByte v1, ())).bind fun v24 =>
  cond (decide (0 ≤ v24.1))
  (some (8, 1, ()))
  (some (8, 0, ())))))))))

noncomputable def fscan_Scan_l1 (a0 : Str) (p1 : (Unit × (Int × ((List (Int × (Str × Unit))) × Unit)))) : Option ((Unit × (Int × ((List (Int × (Str × Unit))) × Unit))) ⊕ ((Unit × ((List (Int × (Str × Unit))) × Unit)) ⊕ (Unit × (Int × (Int × Unit))))) :=
  cond (decide (p1.2.1 < (a0.length : Int)))
  ((cut a0 p1.2.1 (a0.length : Int)).bind fun v2 =>
  (fscan_next v2).bind fun v3 =>
  cond (decide (v3.2.1 = 0))
  (some (.inr (.inr ((), p1.2.1, 10, ()))))
  ((cut a0 p1.2.1 (IntKind.i64.wrap (p1.2.1 + v3.2.1))).bind fun v4 =>
  (cat p1.2.2.1 [(v3.1, v4, ())]).bind fun v5 =>
  some (.inl ((), IntKind.i64.wrap (p1.2.1 + v3.2.1), v5, ()))))
  (some (.inr (.inl ((), p1.2.2.1, ()))))

noncomputable def fscan_Scan (a0 : Str) : Option ((List (Int × (Str × Unit))) × (Int × (Int × Unit))) :=
  (sHasPrefix (a0, [61], ())).bind fun v1 =>
  cond (!v1.1)
  (some ([], 0, 10, ()))
  ((loop (fscan_Scan_l1 a0) ((), 1, [], ())).bind fun r6 =>
  (match r6 with
  | .inl z7 => (some (z7.2.1, 0, 0, ()))
  | .inr z8 => (some ([], z8.2.1, z8.2.2.1, ()))))

noncomputable def chancerylaw2_scans : Option (Bool × Unit) :=
  (fscan_Scan [61, 115, 117, 109, 40, 97, 49, 58, 66, 50, 44, 34, 120, 34, 41]).bind fun v1 =>
  cond (decide (v1.2.2.1 = 0))
  (cond ((decide (v1.2.1 = 0)))
  (cond ((decide ((v1.1.length : Int) = 6)))
  ((idx v1.1 0).bind fun v2 =>
  let v3 : Bool := (Ty.beq (.pair (.int .i64) (.pair .str .unit)) v2 (6, [115, 117, 109], ()))
  cond v3
  ((idx v1.1 2).bind fun v4 =>
  let v5 : Bool := (Ty.beq (.pair (.int .i64) (.pair .str .unit)) v4 (4, [97, 49, 58, 66, 50], ()))
  some (v5, ()))
  (some (false, ())))
  (some (false, ())))
  (some (false, ())))
  (some (false, ()))

noncomputable def chancerylaw2_long (a0 : Str) : Option (Str × Unit) :=
  (cut a0 0 (mn (a0.length : Int) 400)).bind fun v1 =>
  some (v1, ())

noncomputable def cellref_far (a0 : Int) : Option (Bool × Unit) :=
  cond (decide (a0 < (-1073741824)))
  (some (true, ()))
  (some ((decide (1073741824 < a0)), ()))

noncomputable def cellref_fitting (a0 : (Str × (Int × (Int × (Int × (Int × (Int × (Bool × (Bool × (Bool × (Bool × Unit))))))))))) : Option ((Str × (Int × (Int × (Int × (Int × (Int × (Bool × (Bool × (Bool × (Bool × Unit)))))))))) × Unit) :=
  let v1 : (Str × (Int × (Int × (Int × (Int × (Int × (Bool × (Bool × (Bool × (Bool × Unit)))))))))) := a0
  (cellref_meaning v1).bind fun v2 =>
  ((cellref_permitted v2.1.2.2.1).bind fun v3 =>
  cond (!v3.1)
  (some ((), (), true, v2.1, ([], (0, (0, (0, (0, (0, (false, (false, (false, (false, ())))))))))), ()))
  ((cellref_permitted v2.1.2.2.2.1).bind fun v4 =>
  cond ((!v4.1))
  (some ((), (), true, v2.1, ([], (0, (0, (0, (0, (0, (false, (false, (false, (false, ())))))))))), ()))
  ((cellref_permitted v2.1.2.2.2.2.1).bind fun v5 =>
  cond ((!v5.1))
  (some ((), (), true, v2.1, ([], (0, (0, (0, (0, (0, (false, (false, (false, (false, ())))))))))), ()))
  ((cellref_permitted v2.1.2.2.2.2.2.1).bind fun v6 =>
  some ((), (), (!v6.1), v2.1, ([], (0, (0, (0, (0, (0, (false, (false, (false, (false, ())))))))))), ())))) : Option (Unit × (Unit × (Bool × ((Str × (Int × (Int × (Int × (Int × (Int × (Bool × (Bool × (Bool × (Bool × Unit)))))))))) × ((Str × (Int × (Int × (Int × (Int × (Int × (Bool × (Bool × (Bool × (Bool × Unit)))))))))) × Unit)))))).bind fun r7 =>
  cond r7.2.2.1
  (some (([], (4, (0, (0, (0, (0, (false, (false, (false, (false, ())))))))))), ()))
  (let v8 : (Str × (Int × (Int × (Int × (Int × (Int × (Bool × (Bool × (Bool × (Bool × Unit)))))))))) := r7.2.2.2.1
  some (v8, ()))

noncomputable def cellref_Copied (a0 : (Str × (Int × (Int × (Int × (Int × (Int × (Bool × (Bool × (Bool × (Bool × Unit))))))))))) (a1 : Int) (a2 : Int) : Option ((Str × (Int × (Int × (Int × (Int × (Int × (Bool × (Bool × (Bool × (Bool × Unit)))))))))) × (Int × Unit)) :=
  let v1 : (Str × (Int × (Int × (Int × (Int × (Int × (Bool × (Bool × (Bool × (Bool × Unit)))))))))) := a0
  (cellref_Check v1).bind fun v2 =>
  cond (!decide (v2.1 = 0))
  (some (([], (0, (0, (0, (0, (0, (false, (false, (false, (false, ())))))))))), v2.1, ()))
  (((cellref_far a1).bind fun v3 =>
  cond v3.1
  (some ((), (), true, a0, ([], (0, (0, (0, (0, (0, (false, (false, (false, (false, ())))))))))), ()))
  ((cellref_far a2).bind fun v4 =>
  some ((), (), v4.1, a0, ([], (0, (0, (0, (0, (0, (false, (false, (false, (false, ())))))))))), ())) : Option (Unit × (Unit × (Bool × ((Str × (Int × (Int × (Int × (Int × (Int × (Bool × (Bool × (Bool × (Bool × Unit)))))))))) × ((Str × (Int × (Int × (Int × (Int × (Int × (Bool × (Bool × (Bool × (Bool × Unit)))))))))) × Unit)))))).bind fun r5 =>
  cond r5.2.2.1
  (some (([], (0, (0, (0, (0, (0, (false, (false, (false, (false, ())))))))))), 2, ()))
  (cond (!r5.2.2.2.1.2.2.2.2.2.2.1)
  (cond (!r5.2.2.2.1.2.2.2.2.2.2.2.2.1)
  (cond (!r5.2.2.2.1.2.2.2.2.2.2.2.1)
  (cond (!r5.2.2.2.1.2.2.2.2.2.2.2.2.2.1)
  (let v6 : (Str × (Int × (Int × (Int × (Int × (Int × (Bool × (Bool × (Bool × (Bool × Unit)))))))))) := (r5.2.2.2.1.1, (r5.2.2.2.1.2.1, (IntKind.i64.wrap (r5.2.2.2.1.2.2.1 + a1), (IntKind.i64.wrap (r5.2.2.2.1.2.2.2.1 + a2), (IntKind.i64.wrap (r5.2.2.2.1.2.2.2.2.1 + a1), (IntKind.i64.wrap (r5.2.2.2.1.2.2.2.2.2.1 + a2), r5.2.2.2.1.2.2.2.2.2.2))))))
  (cellref_meaning v6).bind fun v7 =>
  (cellref_ordered v7.1).bind fun v8 =>
  (cellref_fitting v8.1).bind fun v9 =>
  some (v9.1, 0, ()))
  (let v10 : (Str × (Int × (Int × (Int × (Int × (Int × (Bool × (Bool × (Bool × (Bool × Unit)))))))))) := (r5.2.2.2.1.1, (r5.2.2.2.1.2.1, (IntKind.i64.wrap (r5.2.2.2.1.2.2.1 + a1), (IntKind.i64.wrap (r5.2.2.2.1.2.2.2.1 + a2), (IntKind.i64.wrap (r5.2.2.2.1.2.2.2.2.1 + a1), r5.2.2.2.1.2.2.2.2.2)))))
  (cellref_meaning v10).bind fun v11 =>
  (cellref_ordered v11.1).bind fun v12 =>
  (cellref_fitting v12.1).bind fun v13 =>
  some (v13.1, 0, ())))
  (cond (!r5.2.2.2.1.2.2.2.2.2.2.2.2.2.1)
  (let v14 : (Str × (Int × (Int × (Int × (Int × (Int × (Bool × (Bool × (Bool × (Bool × Unit)))))))))) := (r5.2.2.2.1.1, (r5.2.2.2.1.2.1, (IntKind.i64.wrap (r5.2.2.2.1.2.2.1 + a1), (r5.2.2.2.1.2.2.2.1, (IntKind.i64.wrap (r5.2.2.2.1.2.2.2.2.1 + a1), (IntKind.i64.wrap (r5.2.2.2.1.2.2.2.2.2.1 + a2), r5.2.2.2.1.2.2.2.2.2.2))))))
  (cellref_meaning v14).bind fun v15 =>
  (cellref_ordered v15.1).bind fun v16 =>
  (cellref_fitting v16.1).bind fun v17 =>
  some (v17.1, 0, ()))
  (let v18 : (Str × (Int × (Int × (Int × (Int × (Int × (Bool × (Bool × (Bool × (Bool × Unit)))))))))) := (r5.2.2.2.1.1, (r5.2.2.2.1.2.1, (IntKind.i64.wrap (r5.2.2.2.1.2.2.1 + a1), (r5.2.2.2.1.2.2.2.1, (IntKind.i64.wrap (r5.2.2.2.1.2.2.2.2.1 + a1), r5.2.2.2.1.2.2.2.2.2)))))
  (cellref_meaning v18).bind fun v19 =>
  (cellref_ordered v19.1).bind fun v20 =>
  (cellref_fitting v20.1).bind fun v21 =>
  some (v21.1, 0, ()))))
  (cond (!r5.2.2.2.1.2.2.2.2.2.2.2.1)
  (cond (!r5.2.2.2.1.2.2.2.2.2.2.2.2.2.1)
  (let v22 : (Str × (Int × (Int × (Int × (Int × (Int × (Bool × (Bool × (Bool × (Bool × Unit)))))))))) := (r5.2.2.2.1.1, (r5.2.2.2.1.2.1, (IntKind.i64.wrap (r5.2.2.2.1.2.2.1 + a1), (IntKind.i64.wrap (r5.2.2.2.1.2.2.2.1 + a2), (r5.2.2.2.1.2.2.2.2.1, (IntKind.i64.wrap (r5.2.2.2.1.2.2.2.2.2.1 + a2), r5.2.2.2.1.2.2.2.2.2.2))))))
  (cellref_meaning v22).bind fun v23 =>
  (cellref_ordered v23.1).bind fun v24 =>
  (cellref_fitting v24.1).bind fun v25 =>
  some (v25.1, 0, ()))
  (let v26 : (Str × (Int × (Int × (Int × (Int × (Int × (Bool × (Bool × (Bool × (Bool × Unit)))))))))) := (r5.2.2.2.1.1, (r5.2.2.2.1.2.1, (IntKind.i64.wrap (r5.2.2.2.1.2.2.1 + a1), (IntKind.i64.wrap (r5.2.2.2.1.2.2.2.1 + a2), r5.2.2.2.1.2.2.2.2))))
  (cellref_meaning v26).bind fun v27 =>
  (cellref_ordered v27.1).bind fun v28 =>
  (cellref_fitting v28.1).bind fun v29 =>
  some (v29.1, 0, ())))
  (cond (!r5.2.2.2.1.2.2.2.2.2.2.2.2.2.1)
  (let v30 : (Str × (Int × (Int × (Int × (Int × (Int × (Bool × (Bool × (Bool × (Bool × Unit)))))))))) := (r5.2.2.2.1.1, (r5.2.2.2.1.2.1, (IntKind.i64.wrap (r5.2.2.2.1.2.2.1 + a1), (r5.2.2.2.1.2.2.2.1, (r5.2.2.2.1.2.2.2.2.1, (IntKind.i64.wrap (r5.2.2.2.1.2.2.2.2.2.1 + a2), r5.2.2.2.1.2.2.2.2.2.2))))))
  (cellref_meaning v30).bind fun v31 =>
  (cellref_ordered v31.1).bind fun v32 =>
  (cellref_fitting v32.1).bind fun v33 =>
  some (v33.1, 0, ()))
  (let v34 : (Str × (Int × (Int × (Int × (Int × (Int × (Bool × (Bool × (Bool × (Bool × Unit)))))))))) := (r5.2.2.2.1.1, (r5.2.2.2.1.2.1, (IntKind.i64.wrap (r5.2.2.2.1.2.2.1 + a1), r5.2.2.2.1.2.2.2)))
  (cellref_meaning v34).bind fun v35 =>
  (cellref_ordered v35.1).bind fun v36 =>
  (cellref_fitting v36.1).bind fun v37 =>
  some (v37.1, 0, ())))))
  (cond (!r5.2.2.2.1.2.2.2.2.2.2.2.2.1)
  (cond (!r5.2.2.2.1.2.2.2.2.2.2.2.1)
  (cond (!r5.2.2.2.1.2.2.2.2.2.2.2.2.2.1)
  (let v38 : (Str × (Int × (Int × (Int × (Int × (Int × (Bool × (Bool × (Bool × (Bool × Unit)))))))))) := (r5.2.2.2.1.1, (r5.2.2.2.1.2.1, (r5.2.2.2.1.2.2.1, (IntKind.i64.wrap (r5.2.2.2.1.2.2.2.1 + a2), (IntKind.i64.wrap (r5.2.2.2.1.2.2.2.2.1 + a1), (IntKind.i64.wrap (r5.2.2.2.1.2.2.2.2.2.1 + a2), r5.2.2.2.1.2.2.2.2.2.2))))))
  (cellref_meaning v38).bind fun v39 =>
  (cellref_ordered v39.1).bind fun v40 =>
  (cellref_fitting v40.1).bind fun v41 =>
  some (v41.1, 0, ()))
  (let v42 : (Str × (Int × (Int × (Int × (Int × (Int × (Bool × (Bool × (Bool × (Bool × Unit)))))))))) := (r5.2.2.2.1.1, (r5.2.2.2.1.2.1, (r5.2.2.2.1.2.2.1, (IntKind.i64.wrap (r5.2.2.2.1.2.2.2.1 + a2), (IntKind.i64.wrap (r5.2.2.2.1.2.2.2.2.1 + a1), r5.2.2.2.1.2.2.2.2.2)))))
  (cellref_meaning v42).bind fun v43 =>
  (cellref_ordered v43.1).bind fun v44 =>
  (cellref_fitting v44.1).bind fun v45 =>
  some (v45.1, 0, ())))
  (cond (!r5.2.2.2.1.2.2.2.2.2.2.2.2.2.1)
  (let v46 : (Str × (Int × (Int × (Int × (Int × (Int × (Bool × (Bool × (Bool × (Bool × Unit)))))))))) := (r5.2.2.2.1.1, (r5.2.2.2.1.2.1, (r5.2.2.2.1.2.2.1, (r5.2.2.2.1.2.2.2.1, (IntKind.i64.wrap (r5.2.2.2.1.2.2.2.2.1 + a1), (IntKind.i64.wrap (r5.2.2.2.1.2.2.2.2.2.1 + a2), r5.2.2.2.1.2.2.2.2.2.2))))))
  (cellref_meaning v46).bind fun v47 =>
  (cellref_ordered v47.1).bind fun v48 =>
  (cellref_fitting v48.1).bind fun v49 =>
  some (v49.1, 0, ()))
  (let v50 : (Str × (Int × (Int × (Int × (Int × (Int × (Bool × (Bool × (Bool × (Bool × Unit)))))))))) := (r5.2.2.2.1.1, (r5.2.2.2.1.2.1, (r5.2.2.2.1.2.2.1, (r5.2.2.2.1.2.2.2.1, (IntKind.i64.wrap (r5.2.2.2.1.2.2.2.2.1 + a1), r5.2.2.2.1.2.2.2.2.2)))))
  (cellref_meaning v50).bind fun v51 =>
  (cellref_ordered v51.1).bind fun v52 =>
  (cellref_fitting v52.1).bind fun v53 =>
  some (v53.1, 0, ()))))
  (cond (!r5.2.2.2.1.2.2.2.2.2.2.2.1)
  (cond (!r5.2.2.2.1.2.2.2.2.2.2.2.2.2.1)
  (let v54 : (Str × (Int × (Int × (Int × (Int × (Int × (Bool × (Bool × (Bool × (Bool × Unit)))))))))) := (r5.2.2.2.1.1, (r5.2.2.2.1.2.1, (r5.2.2.2.1.2.2.1, (IntKind.i64.wrap (r5.2.2.2.1.2.2.2.1 + a2), (r5.2.2.2.1.2.2.2.2.1, (IntKind.i64.wrap (r5.2.2.2.1.2.2.2.2.2.1 + a2), r5.2.2.2.1.2.2.2.2.2.2))))))
  (cellref_meaning v54).bind fun v55 =>
  (cellref_ordered v55.1).bind fun v56 =>
  (cellref_fitting v56.1).bind fun v57 =>
  some (v57.1, 0, ()))
  (let v58 : (Str × (Int × (Int × (Int × (Int × (Int × (Bool × (Bool × (Bool × (Bool × Unit)))))))))) := (r5.2.2.2.1.1, (r5.2.2.2.1.2.1, (r5.2.2.2.1.2.2.1, (IntKind.i64.wrap (r5.2.2.2.1.2.2.2.1 + a2), r5.2.2.2.1.2.2.2.2))))
  (cellref_meaning v58).bind fun v59 =>
  (cellref_ordered v59.1).bind fun v60 =>
  (cellref_fitting v60.1).bind fun v61 =>
  some (v61.1, 0, ())))
  (cond (!r5.2.2.2.1.2.2.2.2.2.2.2.2.2.1)
  (let v62 : (Str × (Int × (Int × (Int × (Int × (Int × (Bool × (Bool × (Bool × (Bool × Unit)))))))))) := (r5.2.2.2.1.1, (r5.2.2.2.1.2.1, (r5.2.2.2.1.2.2.1, (r5.2.2.2.1.2.2.2.1, (r5.2.2.2.1.2.2.2.2.1, (IntKind.i64.wrap (r5.2.2.2.1.2.2.2.2.2.1 + a2), r5.2.2.2.1.2.2.2.2.2.2))))))
  (cellref_meaning v62).bind fun v63 =>
  (cellref_ordered v63.1).bind fun v64 =>
  (cellref_fitting v64.1).bind fun v65 =>
  some (v65.1, 0, ()))
  (let v66 : (Str × (Int × (Int × (Int × (Int × (Int × (Bool × (Bool × (Bool × (Bool × Unit)))))))))) := r5.2.2.2.1
  (cellref_meaning v66).bind fun v67 =>
  (cellref_ordered v67.1).bind fun v68 =>
  (cellref_fitting v68.1).bind fun v69 =>
  some (v69.1, 0, ())))))))

noncomputable def fscan_Copied_1 (a0 : (Str × (Int × (Int × (Int × (Int × (Int × (Bool × (Bool × (Bool × (Bool × Unit))))))))))) (o0 : Int) (o1 : Int) : Option ((Str × (Int × (Int × (Int × (Int × (Int × (Bool × (Bool × (Bool × (Bool × Unit)))))))))) × (Unit × (Unit × ((Int × Unit) × ((Int × Unit) × Unit))))) :=
  let v1 : (Str × (Int × (Int × (Int × (Int × (Int × (Bool × (Bool × (Bool × (Bool × Unit)))))))))) := a0
  (cellref_Copied v1 o0 o1).bind fun v2 =>
  let v3 : (Str × (Int × (Int × (Int × (Int × (Int × (Bool × (Bool × (Bool × (Bool × Unit)))))))))) := v2.1
  some (v3, (), (), (o0, ()), (o1, ()), ())

noncomputable def cellref_letters_l1 (p1 : (Str × (Int × Unit))) : Option ((Str × (Int × Unit)) ⊕ (Str × Unit)) :=
  cond (decide (0 < p1.2.1))
  ((rem (IntKind.i64.wrap (p1.2.1 - 1)) 26).bind fun v1 =>
  (cat (bytesStr [IntKind.u8.wrap (65 + (IntKind.u8.wrap v1))]) p1.1).bind fun v2 =>
  (quo .i64 (IntKind.i64.wrap (p1.2.1 - 1)) 26).bind fun v3 =>
  some (.inl (v2, v3, ())))
  (some (.inr (p1.1, ())))

noncomputable def cellref_letters (a0 : Int) : Option (Str × Unit) :=
  (loop cellref_letters_l1 ([], IntKind.i64.wrap (a0 + 1), ())).bind fun r4 =>
  some r4

noncomputable def cellref_dollar (a0 : Bool) (a1 : Str) : Option (Str × Unit) :=
  cond a0
  ((cat [36] a1).bind fun v1 =>
  some (v1, ()))
  (some (a1, ()))

noncomputable def cellref_col (a0 : Int) (a1 : Bool) : Option (Str × Unit) :=
  (cellref_letters a0).bind fun v1 =>
  (cellref_dollar a1 v1.1).bind fun v2 =>
  some v2

noncomputable def cellref_row (a0 : Int) (a1 : Bool) : Option (Str × Unit) :=
  (sItoa (IntKind.i64.wrap (a0 + 1), ())).bind fun v1 =>
  (cellref_dollar a1 v1.1).bind fun v2 =>
  some v2

noncomputable def cellref_Print (a0 : (Str × (Int × (Int × (Int × (Int × (Int × (Bool × (Bool × (Bool × (Bool × Unit))))))))))) : Option (Str × (Int × Unit)) :=
  let v1 : (Str × (Int × (Int × (Int × (Int × (Int × (Bool × (Bool × (Bool × (Bool × Unit)))))))))) := a0
  (cellref_Check v1).bind fun v2 =>
  cond (!decide (v2.1 = 0))
  (some ([], v2.1, ()))
  ((cond (!decide (a0.1 = []))
  ((cat a0.1 [33]).bind fun v3 =>
  (cellref_Plain a0.1).bind fun v4 =>
  cond (!v4.1)
  ((sReplaceAll (a0.1, [39], [39, 39], ())).bind fun v5 =>
  (cat [39] v5.1).bind fun v6 =>
  (cat v6 [39, 33]).bind fun v7 =>
  some ((), v7, a0, ()))
  (some ((), v3, a0, ())))
  (some ((), [], a0, ())) : Option (Unit × (Str × ((Str × (Int × (Int × (Int × (Int × (Int × (Bool × (Bool × (Bool × (Bool × Unit)))))))))) × Unit)))).bind fun r8 =>
  cond (decide (r8.2.2.1.2.1 = 0))
  ((cellref_col r8.2.2.1.2.2.2.1 r8.2.2.1.2.2.2.2.2.2.2.1).bind fun v9 =>
  (cat r8.2.1 v9.1).bind fun v10 =>
  (cellref_row r8.2.2.1.2.2.1 r8.2.2.1.2.2.2.2.2.2.1).bind fun v11 =>
  (cat v10 v11.1).bind fun v12 =>
  some (v12, 0, ()))
  (cond (decide (r8.2.2.1.2.1 = 1))
  ((cellref_col r8.2.2.1.2.2.2.1 r8.2.2.1.2.2.2.2.2.2.2.1).bind fun v13 =>
  (cat r8.2.1 v13.1).bind fun v14 =>
  (cellref_row r8.2.2.1.2.2.1 r8.2.2.1.2.2.2.2.2.2.1).bind fun v15 =>
  (cat v14 v15.1).bind fun v16 =>
  (cat v16 [58]).bind fun v17 =>
  (cellref_col r8.2.2.1.2.2.2.2.2.1 r8.2.2.1.2.2.2.2.2.2.2.2.2.1).bind fun v18 =>
  (cat v17 v18.1).bind fun v19 =>
  (cellref_row r8.2.2.1.2.2.2.2.1 r8.2.2.1.2.2.2.2.2.2.2.2.1).bind fun v20 =>
  (cat v19 v20.1).bind fun v21 =>
  some (v21, 0, ()))
  (cond (decide (r8.2.2.1.2.1 = 2))
  ((cellref_row r8.2.2.1.2.2.1 r8.2.2.1.2.2.2.2.2.2.1).bind fun v22 =>
  (cat r8.2.1 v22.1).bind fun v23 =>
  (cat v23 [58]).bind fun v24 =>
  (cellref_row r8.2.2.1.2.2.2.2.1 r8.2.2.1.2.2.2.2.2.2.2.2.1).bind fun v25 =>
  (cat v24 v25.1).bind fun v26 =>
  some (v26, 0, ()))
  (cond (decide (r8.2.2.1.2.1 = 3))
  ((cellref_col r8.2.2.1.2.2.2.1 r8.2.2.1.2.2.2.2.2.2.2.1).bind fun v27 =>
  (cat r8.2.1 v27.1).bind fun v28 =>
  (cat v28 [58]).bind fun v29 =>
  (cellref_col r8.2.2.1.2.2.2.2.2.1 r8.2.2.1.2.2.2.2.2.2.2.2.2.1).bind fun v30 =>
  (cat v29 v30.1).bind fun v31 =>
  some (v31, 0, ()))
  (some ([35, 82, 69, 70, 33], 0, ()))))))

noncomputable def _strings_Builder__WriteString (a1 : Str) (o1 : (List Int)) : Option (Int × (Bool × (Unit × ((Unit × (Unit × Unit)) × ((List Int) × Unit))))) :=
  (cat o1 (strBytes a1)).bind fun v1 =>
  some ((a1.length : Int), false, (), ((), ((), ())), v1, ())

noncomputable def fscan_replaced_Copied_1_l1 (v1 : ((List (Int × (Str × Unit))) × (Int × (Int × Unit)))) (p1 : ((Unit × (Unit × Unit)) × (Unit × (Int × ((Int × Unit) × ((Int × Unit) × ((Unit × (Unit × Unit)) × ((List Int) × Unit)))))))) : Option (((Unit × (Unit × Unit)) × (Unit × (Int × ((Int × Unit) × ((Int × Unit) × ((Unit × (Unit × Unit)) × ((List Int) × Unit))))))) ⊕ ((Unit × (Unit × Unit)) × (Unit × ((Int × Unit) × ((Int × Unit) × ((Unit × (Unit × Unit)) × ((List Int) × Unit))))))) :=
  cond (decide (p1.2.2.1 < (v1.1.length : Int)))
  ((idx v1.1 p1.2.2.1).bind fun v3 =>
  (cond (decide (v3.1 = 4))
  ((cellref_Parse v3.2.1).bind fun v4 =>
  let v5 : (Str × (Int × (Int × (Int × (Int × (Int × (Bool × (Bool × (Bool × (Bool × Unit)))))))))) := v4.1
  (fscan_Copied_1 v5 p1.2.2.2.1.1 p1.2.2.2.2.1.1).bind fun v6 =>
  let v7 : (Str × (Int × (Int × (Int × (Int × (Int × (Bool × (Bool × (Bool × (Bool × Unit)))))))))) := v6.1
  let v8 : (Str × (Int × (Int × (Int × (Int × (Int × (Bool × (Bool × (Bool × (Bool × Unit)))))))))) := v4.1
  cond (!Ty.beq (.pair .str (.pair (.int .i64) (.pair (.int .i64) (.pair (.int .i64) (.pair (.int .i64) (.pair (.int .i64) (.pair .bool (.pair .bool (.pair .bool (.pair .bool .unit)))))))))) v7 v8)
  (let v9 : (Str × (Int × (Int × (Int × (Int × (Int × (Bool × (Bool × (Bool × (Bool × Unit)))))))))) := v6.1
  (cellref_Print v9).bind fun v10 =>
  some (((), ((), ())), (), (), v6.2.2.2.1, v6.2.2.2.2.1, ((), ((), ())), (v3.1, (v10.1, ())), p1.2.2.2.2.2.2.1, ()))
  (some (((), ((), ())), (), (), v6.2.2.2.1, v6.2.2.2.2.1, ((), ((), ())), v3, p1.2.2.2.2.2.2.1, ())))
  (some (((), ((), ())), (), (), p1.2.2.2.1, p1.2.2.2.2.1, ((), ((), ())), v3, p1.2.2.2.2.2.2.1, ())) : Option ((Unit × (Unit × Unit)) × (Unit × (Unit × ((Int × Unit) × ((Int × Unit) × ((Unit × (Unit × Unit)) × ((Int × (Str × Unit)) × ((List Int) × Unit))))))))).bind fun r11 =>
  (_strings_Builder__WriteString r11.2.2.2.2.2.2.1.2.1 r11.2.2.2.2.2.2.2.1).bind fun v12 =>
  some (.inl (((), ((), ())), (), IntKind.i64.wrap (p1.2.2.1 + 1), r11.2.2.2.1, r11.2.2.2.2.1, ((), ((), ())), v12.2.2.2.2.1, ())))
  (some (.inr (((), ((), ())), (), p1.2.2.2.1, p1.2.2.2.2.1, ((), ((), ())), p1.2.2.2.2.2.2.1, ())))

noncomputable def fscan_replaced_Copied_1 (a0 : Str) (o0 : Int) (o1 : Int) : Option (Str × ((Unit × (Unit × Unit)) × ((Int × Unit) × ((Int × Unit) × Unit)))) :=
  (fscan_Scan a0).bind fun v1 =>
  cond (!decide (v1.2.2.1 = 0))
  (some (a0, ((), ((), ())), (o0, ()), (o1, ()), ()))
  ((_strings_Builder__WriteByte 61 []).bind fun v2 =>
  (loop (fscan_replaced_Copied_1_l1 v1) (((), ((), ())), (), 0, (o0, ()), (o1, ()), ((), ((), ())), v2.2.2.2.1, ())).bind fun r13 =>
  (chk (decide (r13.2.2.2.2.2.1.length ≤ lim))).bind fun _ =>
  some (bytesStr r13.2.2.2.2.2.1, ((), ((), ())), r13.2.2.1, r13.2.2.2.1, ()))

noncomputable def fscan_Copied (a0 : Str) (a1 : Int) (a2 : Int) : Option (Str × (Int × Unit)) :=
  (cellref_Copied ([], 0, 0, 0, 0, 0, false, false, false, false, ()) a1 a2).bind fun v1 =>
  cond (!decide (v1.2.1 = 0))
  (some ([], v1.2.1, ()))
  ((fscan_replaced_Copied_1 a0 a1 a2).bind fun v2 =>
  some (v2.1, 0, ()))

noncomputable def cellref_Moved (a0 : (Str × (Int × (Int × (Int × (Int × (Int × (Bool × (Bool × (Bool × (Bool × Unit))))))))))) (a1 : (Int × (Int × (Int × (Int × Unit))))) (a2 : Int) (a3 : Int) : Option ((Str × (Int × (Int × (Int × (Int × (Int × (Bool × (Bool × (Bool × (Bool × Unit)))))))))) × (Int × Unit)) :=
  let v1 : (Str × (Int × (Int × (Int × (Int × (Int × (Bool × (Bool × (Bool × (Bool × Unit)))))))))) := a0
  (cellref_Check v1).bind fun v2 =>
  cond (!decide (v2.1 = 0))
  (some (([], (0, (0, (0, (0, (0, (false, (false, (false, (false, ())))))))))), v2.1, ()))
  (((cellref_permitted a1.1).bind fun v3 =>
  cond (!v3.1)
  (some ((), (), (), true, a0, a1, ([], (0, (0, (0, (0, (0, (false, (false, (false, (false, ())))))))))), ()))
  ((cellref_permitted a1.2.1).bind fun v4 =>
  cond ((!v4.1))
  (some ((), (), (), true, a0, a1, ([], (0, (0, (0, (0, (0, (false, (false, (false, (false, ())))))))))), ()))
  (cond ((decide (a1.2.2.1 < 1)))
  (some ((), (), (), true, a0, a1, ([], (0, (0, (0, (0, (0, (false, (false, (false, (false, ())))))))))), ()))
  (cond ((decide (1073741824 < a1.2.2.1)))
  (some ((), (), (), true, a0, a1, ([], (0, (0, (0, (0, (0, (false, (false, (false, (false, ())))))))))), ()))
  (cond ((decide (a1.2.2.2.1 < 1)))
  (some ((), (), (), true, a0, a1, ([], (0, (0, (0, (0, (0, (false, (false, (false, (false, ())))))))))), ()))
  (cond ((decide (1073741824 < a1.2.2.2.1)))
  (some ((), (), (), true, a0, a1, ([], (0, (0, (0, (0, (0, (false, (false, (false, (false, ())))))))))), ()))
  ((cellref_far a2).bind fun v5 =>
  cond (v5.1)
  (some ((), (), (), true, a0, a1, ([], (0, (0, (0, (0, (0, (false, (false, (false, (false, ())))))))))), ()))
  ((cellref_far a3).bind fun v6 =>
  some ((), (), (), v6.1, a0, a1, ([], (0, (0, (0, (0, (0, (false, (false, (false, (false, ())))))))))), ())))))))) : Option (Unit × (Unit × (Unit × (Bool × ((Str × (Int × (Int × (Int × (Int × (Int × (Bool × (Bool × (Bool × (Bool × Unit)))))))))) × ((Int × (Int × (Int × (Int × Unit)))) × ((Str × (Int × (Int × (Int × (Int × (Int × (Bool × (Bool × (Bool × (Bool × Unit)))))))))) × Unit)))))))).bind fun r7 =>
  cond r7.2.2.2.1
  (some (([], (0, (0, (0, (0, (0, (false, (false, (false, (false, ())))))))))), 2, ()))
  ((cond (!decide (r7.2.2.2.2.1.2.1 = 0))
  (some ((), (), (), (!decide (r7.2.2.2.2.1.2.1 = 1)), r7.2.2.2.2.1, r7.2.2.2.2.2.1, r7.2.2.2.2.2.2.1, ()))
  (some ((), (), (), false, r7.2.2.2.2.1, r7.2.2.2.2.2.1, r7.2.2.2.2.2.2.1, ())) : Option (Unit × (Unit × (Unit × (Bool × ((Str × (Int × (Int × (Int × (Int × (Int × (Bool × (Bool × (Bool × (Bool × Unit)))))))))) × ((Int × (Int × (Int × (Int × Unit)))) × ((Str × (Int × (Int × (Int × (Int × (Int × (Bool × (Bool × (Bool × (Bool × Unit)))))))))) × Unit)))))))).bind fun r8 =>
  cond r8.2.2.2.1
  (let v9 : (Str × (Int × (Int × (Int × (Int × (Int × (Bool × (Bool × (Bool × (Bool × Unit)))))))))) := r8.2.2.2.2.1
  some (v9, 0, ()))
  ((cond (decide (r8.2.2.2.2.1.2.2.1 < r8.2.2.2.2.2.1.1))
  (some ((), (), true, r8.2.2.2.2.1, r8.2.2.2.2.2.2.1, ()))
  (let v10 : Bool := (decide ((IntKind.i64.wrap (r8.2.2.2.2.2.1.1 + r8.2.2.2.2.2.1.2.2.1)) ≤ (mx r8.2.2.2.2.1.2.2.1 r8.2.2.2.2.1.2.2.2.2.1)))
  cond v10
  (some ((), (), true, r8.2.2.2.2.1, r8.2.2.2.2.2.2.1, ()))
  (let v11 : Bool := (decide (r8.2.2.2.2.1.2.2.2.1 < r8.2.2.2.2.2.1.2.1))
  cond v11
  (some ((), (), true, r8.2.2.2.2.1, r8.2.2.2.2.2.2.1, ()))
  (let v12 : Int := IntKind.i64.wrap (r8.2.2.2.2.2.1.2.1 + r8.2.2.2.2.2.1.2.2.2.1)
  let v13 : Bool := (decide (v12 ≤ (mx r8.2.2.2.2.1.2.2.2.1 r8.2.2.2.2.1.2.2.2.2.2.1)))
  some ((), (), v13, r8.2.2.2.2.1, r8.2.2.2.2.2.2.1, ())))) : Option (Unit × (Unit × (Bool × ((Str × (Int × (Int × (Int × (Int × (Int × (Bool × (Bool × (Bool × (Bool × Unit)))))))))) × ((Str × (Int × (Int × (Int × (Int × (Int × (Bool × (Bool × (Bool × (Bool × Unit)))))))))) × Unit)))))).bind fun r14 =>
  cond r14.2.2.1
  (let v15 : (Str × (Int × (Int × (Int × (Int × (Int × (Bool × (Bool × (Bool × (Bool × Unit)))))))))) := r14.2.2.2.1
  some (v15, 0, ()))
  (let v16 : (Str × (Int × (Int × (Int × (Int × (Int × (Bool × (Bool × (Bool × (Bool × Unit)))))))))) := (r14.2.2.2.1.1, (r14.2.2.2.1.2.1, (IntKind.i64.wrap (r14.2.2.2.1.2.2.1 + a2), (IntKind.i64.wrap (r14.2.2.2.1.2.2.2.1 + a3), (IntKind.i64.wrap (r14.2.2.2.1.2.2.2.2.1 + a2), (IntKind.i64.wrap (r14.2.2.2.1.2.2.2.2.2.1 + a3), r14.2.2.2.1.2.2.2.2.2.2))))))
  (cellref_fitting v16).bind fun v17 =>
  some (v17.1, 0, ())))))

noncomputable def fscan_meant (a0 : (Str × (Int × (Int × (Int × (Int × (Int × (Bool × (Bool × (Bool × (Bool × Unit))))))))))) (a1 : Str) (a2 : Bool) : Option (Bool × Unit) :=
  cond (decide (a0.1 = []))
  (some (a2, ()))
  (some (decide (a0.1 = a1), ()))

noncomputable def fscan_Moved_1 (a0 : (Str × (Int × (Int × (Int × (Int × (Int × (Bool × (Bool × (Bool × (Bool × Unit))))))))))) (o0 : Str) (o1 : Bool) (o2 : Int) (o2_1 : Int) (o2_2 : Int) (o2_3 : Int) (o3 : Int) (o4 : Int) : Option ((Str × (Int × (Int × (Int × (Int × (Int × (Bool × (Bool × (Bool × (Bool × Unit)))))))))) × (Unit × (Unit × (Unit × (Unit × (Unit × ((Str × Unit) × ((Bool × Unit) × ((Int × (Int × (Int × (Int × Unit)))) × ((Int × Unit) × ((Int × Unit) × Unit))))))))))) :=
  (let v1 : (Str × (Int × (Int × (Int × (Int × (Int × (Bool × (Bool × (Bool × (Bool × Unit)))))))))) := a0
  (fscan_meant v1 o0 o1).bind fun v2 =>
  cond v2.1
  (let v3 : (Str × (Int × (Int × (Int × (Int × (Int × (Bool × (Bool × (Bool × (Bool × Unit)))))))))) := a0
  (cellref_Moved v3 (o2, (o2_1, (o2_2, (o2_3, ())))) o3 o4).bind fun v4 =>
  some ((), (), (), (), (), (), (), (o0, ()), (o1, ()), (o2, (o2_1, (o2_2, (o2_3, ())))), (o3, ()), (o4, ()), v4.1, ([], (0, (0, (0, (0, (0, (false, (false, (false, (false, ())))))))))), ()))
  (some ((), (), (), (), (), (), (), (o0, ()), (o1, ()), (o2, (o2_1, (o2_2, (o2_3, ())))), (o3, ()), (o4, ()), a0, ([], (0, (0, (0, (0, (0, (false, (false, (false, (false, ())))))))))), ())) : Option (Unit × (Unit × (Unit × (Unit × (Unit × (Unit × (Unit × ((Str × Unit) × ((Bool × Unit) × ((Int × (Int × (Int × (Int × Unit)))) × ((Int × Unit) × ((Int × Unit) × ((Str × (Int × (Int × (Int × (Int × (Int × (Bool × (Bool × (Bool × (Bool × Unit)))))))))) × ((Str × (Int × (Int × (Int × (Int × (Int × (Bool × (Bool × (Bool × (Bool × Unit)))))))))) × Unit))))))))))))))).bind fun r5 =>
  let v6 : (Str × (Int × (Int × (Int × (Int × (Int × (Bool × (Bool × (Bool × (Bool × Unit)))))))))) := r5.2.2.2.2.2.2.2.2.2.2.2.2.1
  some (v6, (), (), (), (), (), r5.2.2.2.2.2.2.2.1, r5.2.2.2.2.2.2.2.2.1, r5.2.2.2.2.2.2.2.2.2.1, r5.2.2.2.2.2.2.2.2.2.2.1, r5.2.2.2.2.2.2.2.2.2.2.2.1, ())

noncomputable def fscan_replaced_Moved_1_l1 (v1 : ((List (Int × (Str × Unit))) × (Int × (Int × Unit)))) (p1 : ((Unit × (Unit × (Unit × (Unit × (Unit × Unit))))) × (Unit × (Int × ((Str × Unit) × ((Bool × Unit) × ((Int × (Int × (Int × (Int × Unit)))) × ((Int × Unit) × ((Int × Unit) × ((Unit × (Unit × Unit)) × ((List Int) × Unit))))))))))) : Option (((Unit × (Unit × (Unit × (Unit × (Unit × Unit))))) × (Unit × (Int × ((Str × Unit) × ((Bool × Unit) × ((Int × (Int × (Int × (Int × Unit)))) × ((Int × Unit) × ((Int × Unit) × ((Unit × (Unit × Unit)) × ((List Int) × Unit)))))))))) ⊕ ((Unit × (Unit × (Unit × (Unit × (Unit × Unit))))) × (Unit × ((Str × Unit) × ((Bool × Unit) × ((Int × (Int × (Int × (Int × Unit)))) × ((Int × Unit) × ((Int × Unit) × ((Unit × (Unit × Unit)) × ((List Int) × Unit)))))))))) :=
  cond (decide (p1.2.2.1 < (v1.1.length : Int)))
  ((idx v1.1 p1.2.2.1).bind fun v3 =>
  (cond (decide (v3.1 = 4))
  ((cellref_Parse v3.2.1).bind fun v4 =>
  let v5 : (Str × (Int × (Int × (Int × (Int × (Int × (Bool × (Bool × (Bool × (Bool × Unit)))))))))) := v4.1
  (fscan_Moved_1 v5 p1.2.2.2.1.1 p1.2.2.2.2.1.1 p1.2.2.2.2.2.1.1 p1.2.2.2.2.2.1.2.1 p1.2.2.2.2.2.1.2.2.1 p1.2.2.2.2.2.1.2.2.2.1 p1.2.2.2.2.2.2.1.1 p1.2.2.2.2.2.2.2.1.1).bind fun v6 =>
  let v7 : (Str × (Int × (Int × (Int × (Int × (Int × (Bool × (Bool × (Bool × (Bool × Unit)))))))))) := v6.1
  let v8 : (Str × (Int × (Int × (Int × (Int × (Int × (Bool × (Bool × (Bool × (Bool × Unit)))))))))) := v4.1
  cond (!Ty.beq (.pair .str (.pair (.int .i64) (.pair (.int .i64) (.pair (.int .i64) (.pair (.int .i64) (.pair (.int .i64) (.pair .bool (.pair .bool (.pair .bool (.pair .bool .unit)))))))))) v7 v8)
  (let v9 : (Str × (Int × (Int × (Int × (Int × (Int × (Bool × (Bool × (Bool × (Bool × Unit)))))))))) := v6.1
  (cellref_Print v9).bind fun v10 =>
  some (((), ((), ((), ((), ((), ()))))), (), (), v6.2.2.2.2.2.2.1, v6.2.2.2.2.2.2.2.1, v6.2.2.2.2.2.2.2.2.1, v6.2.2.2.2.2.2.2.2.2.1, v6.2.2.2.2.2.2.2.2.2.2.1, ((), ((), ())), (v3.1, (v10.1, ())), p1.2.2.2.2.2.2.2.2.2.1, ()))
  (some (((), ((), ((), ((), ((), ()))))), (), (), v6.2.2.2.2.2.2.1, v6.2.2.2.2.2.2.2.1, v6.2.2.2.2.2.2.2.2.1, v6.2.2.2.2.2.2.2.2.2.1, v6.2.2.2.2.2.2.2.2.2.2.1, ((), ((), ())), v3, p1.2.2.2.2.2.2.2.2.2.1, ())))
  (some (((), ((), ((), ((), ((), ()))))), (), (), p1.2.2.2.1, p1.2.2.2.2.1, p1.2.2.2.2.2.1, p1.2.2.2.2.2.2.1, p1.2.2.2.2.2.2.2.1, ((), ((), ())), v3, p1.2.2.2.2.2.2.2.2.2.1, ())) : Option ((Unit × (Unit × (Unit × (Unit × (Unit × Unit))))) × (Unit × (Unit × ((Str × Unit) × ((Bool × Unit) × ((Int × (Int × (Int × (Int × Unit)))) × ((Int × Unit) × ((Int × Unit) × ((Unit × (Unit × Unit)) × ((Int × (Str × Unit)) × ((List Int) × Unit)))))))))))).bind fun r11 =>
  (_strings_Builder__WriteString r11.2.2.2.2.2.2.2.2.2.1.2.1 r11.2.2.2.2.2.2.2.2.2.2.1).bind fun v12 =>
  some (.inl (((), ((), ((), ((), ((), ()))))), (), IntKind.i64.wrap (p1.2.2.1 + 1), r11.2.2.2.1, r11.2.2.2.2.1, r11.2.2.2.2.2.1, r11.2.2.2.2.2.2.1, r11.2.2.2.2.2.2.2.1, ((), ((), ())), v12.2.2.2.2.1, ())))
  (some (.inr (((), ((), ((), ((), ((), ()))))), (), p1.2.2.2.1, p1.2.2.2.2.1, p1.2.2.2.2.2.1, p1.2.2.2.2.2.2.1, p1.2.2.2.2.2.2.2.1, ((), ((), ())), p1.2.2.2.2.2.2.2.2.2.1, ())))

noncomputable def fscan_replaced_Moved_1 (a0 : Str) (o0 : Str) (o1 : Bool) (o2 : Int) (o2_1 : Int) (o2_2 : Int) (o2_3 : Int) (o3 : Int) (o4 : Int) : Option (Str × ((Unit × (Unit × (Unit × (Unit × (Unit × Unit))))) × ((Str × Unit) × ((Bool × Unit) × ((Int × (Int × (Int × (Int × Unit)))) × ((Int × Unit) × ((Int × Unit) × Unit))))))) :=
  (fscan_Scan a0).bind fun v1 =>
  cond (!decide (v1.2.2.1 = 0))
  (some (a0, ((), ((), ((), ((), ((), ()))))), (o0, ()), (o1, ()), (o2, (o2_1, (o2_2, (o2_3, ())))), (o3, ()), (o4, ()), ()))
  ((_strings_Builder__WriteByte 61 []).bind fun v2 =>
  (loop (fscan_replaced_Moved_1_l1 v1) (((), ((), ((), ((), ((), ()))))), (), 0, (o0, ()), (o1, ()), (o2, (o2_1, (o2_2, (o2_3, ())))), (o3, ()), (o4, ()), ((), ((), ())), v2.2.2.2.1, ())).bind fun r13 =>
  (chk (decide (r13.2.2.2.2.2.2.2.2.1.length ≤ lim))).bind fun _ =>
  some (bytesStr r13.2.2.2.2.2.2.2.2.1, ((), ((), ((), ((), ((), ()))))), r13.2.2.1, r13.2.2.2.1, r13.2.2.2.2.1, r13.2.2.2.2.2.1, r13.2.2.2.2.2.2.1, ()))

noncomputable def fscan_Moved (a0 : Str) (a1 : Str) (a2 : Bool) (a3 : (Int × (Int × (Int × (Int × Unit))))) (a4 : Int) (a5 : Int) : Option (Str × (Int × Unit)) :=
  (cellref_Moved ([], 0, 0, 0, 0, 0, false, false, false, false, ()) a3 a4 a5).bind fun v1 =>
  cond (!decide (v1.2.1 = 0))
  (some ([], v1.2.1, ()))
  ((fscan_replaced_Moved_1 a0 a1 a2 a3.1 a3.2.1 a3.2.2.1 a3.2.2.2.1 a4 a5).bind fun v2 =>
  some (v2.1, 0, ()))

noncomputable def chancerylaw2_far (a0 : Int) : Option (Bool × Unit) :=
  cond (decide (a0 < (-1073741824)))
  (some (true, ()))
  (some ((decide (1073741824 < a0)), ()))

noncomputable def chanceryref2_Has (a0 : Str) (a1 : Str) : Option (Bool × Unit) :=
  cond (decide ((a1.length : Int) ≤ (a0.length : Int)))
  ((cut a0 0 (a1.length : Int)).bind fun v1 =>
  some ((decide (v1 = a1)), ()))
  (some (false, ()))

noncomputable def chanceryref2_Token_1 (a0 : Int) : Option (Bool × Unit) :=
  cond (decide (a0 = 32))
  (some (true, ()))
  (some ((decide (a0 = 9)), ()))

noncomputable def chanceryref2_span_Token_1_l1 (a0 : Str) (p1 : (Unit × (Int × Unit))) : Option ((Unit × (Int × Unit)) ⊕ (Unit ⊕ (Int × Unit))) :=
  cond (decide (p1.2.1 < (a0.length : Int)))
  ((idx a0 p1.2.1).bind fun v1 =>
  (chanceryref2_Token_1 (ofByte v1)).bind fun v2 =>
  cond (!v2.1)
  (some (.inr (.inr p1.2)))
  (some (.inl ((), IntKind.i64.wrap (p1.2.1 + 1), ()))))
  (some (.inr (.inl (()))))

noncomputable def chanceryref2_span_Token_1 (a0 : Str) : Option (Int × Unit) :=
  (loop (chanceryref2_span_Token_1_l1 a0) ((), 0, ())).bind fun r3 =>
  (match r3 with
  | .inl _ => (some ((a0.length : Int), ()))
  | .inr z5 => (some z5))

noncomputable def chanceryref2_closing_l1 (a0 : Str) (p1 : (Int × Unit)) : Option ((Int × Unit) ⊕ (Unit ⊕ (Int × Unit))) :=
  cond (decide (p1.1 < (a0.length : Int)))
  (((idx a0 p1.1).bind fun v1 =>
  (idx a0 0).bind fun v2 =>
  cond (decide ((ofByte v1) = (ofByte v2)))
  ((cond (decide ((IntKind.i64.wrap (p1.1 + 1)) = (a0.length : Int)))
  (some (true, ()))
  ((idx a0 (IntKind.i64.wrap (p1.1 + 1))).bind fun v3 =>
  (idx a0 0).bind fun v4 =>
  some ((!decide ((ofByte v3) = (ofByte v4))), ())) : Option (Bool × Unit)).bind fun r5 =>
  cond r5.1
  (some (.inr (IntKind.i64.wrap (p1.1 + 1), ())))
  (some (.inl (IntKind.i64.wrap (p1.1 + 1), ()))))
  (some (.inl p1)) : Option ((Int × Unit) ⊕ (Int × Unit))).bind fun r6 =>
  (match r6 with
  | .inl z7 => (some (.inl (IntKind.i64.wrap (z7.1 + 1), ())))
  | .inr z8 => (some (.inr (.inr z8)))))
  (some (.inr (.inl (()))))

noncomputable def chanceryref2_closing (a0 : Str) : Option (Int × Unit) :=
  (loop (chanceryref2_closing_l1 a0) (1, ())).bind fun r9 =>
  (match r9 with
  | .inl _ => (some (0, ()))
  | .inr z11 => (some z11))

noncomputable def chanceryref2_Letter (a0 : Int) : Option (Bool × Unit) :=
  cond (decide (65 ≤ a0))
  (cond ((decide (a0 ≤ 90)))
  (some (true, ()))
  (cond (decide (97 ≤ a0))
  (some (((decide (a0 ≤ 122))), ()))
  (some (false, ()))))
  (cond (decide (97 ≤ a0))
  (some (((decide (a0 ≤ 122))), ()))
  (some (false, ())))

noncomputable def chanceryref2_Digit (a0 : Int) : Option (Bool × Unit) :=
  cond (decide (48 ≤ a0))
  (some ((decide (a0 ≤ 57)), ()))
  (some (false, ()))

noncomputable def chanceryref2_refByte (a0 : Int) : Option (Bool × Unit) :=
  (chanceryref2_Letter a0).bind fun v1 =>
  cond v1.1
  (some (true, ()))
  ((chanceryref2_Digit a0).bind fun v2 =>
  cond (v2.1)
  (some (true, ()))
  (some ((decide (a0 = 36)), ())))

noncomputable def chanceryref2_span_refByte_l1 (a0 : Str) (p1 : (Unit × (Int × Unit))) : Option ((Unit × (Int × Unit)) ⊕ (Unit ⊕ (Int × Unit))) :=
  cond (decide (p1.2.1 < (a0.length : Int)))
  ((idx a0 p1.2.1).bind fun v1 =>
  (chanceryref2_refByte (ofByte v1)).bind fun v2 =>
  cond (!v2.1)
  (some (.inr (.inr p1.2)))
  (some (.inl ((), IntKind.i64.wrap (p1.2.1 + 1), ()))))
  (some (.inr (.inl (()))))

noncomputable def chanceryref2_span_refByte (a0 : Str) : Option (Int × Unit) :=
  (loop (chanceryref2_span_refByte_l1 a0) ((), 0, ())).bind fun r3 =>
  (match r3 with
  | .inl _ => (some ((a0.length : Int), ()))
  | .inr z5 => (some z5))

noncomputable def chanceryref2_Plain_1 (a0 : Int) : Option (Bool × Unit) :=
  (chanceryref2_Letter a0).bind fun v1 =>
  cond v1.1
  (some (true, ()))
  ((chanceryref2_Digit a0).bind fun v2 =>
  cond (v2.1)
  (some (true, ()))
  (some ((decide (a0 = 95)), ())))

noncomputable def chanceryref2_All_Plain_1_l1 (a0 : Str) (p1 : (Unit × (Int × Unit))) : Option ((Unit × (Int × Unit)) ⊕ (Unit ⊕ (Bool × Unit))) :=
  cond (decide (p1.2.1 < (a0.length : Int)))
  ((idx a0 p1.2.1).bind fun v1 =>
  (chanceryref2_Plain_1 (ofByte v1)).bind fun v2 =>
  cond (!v2.1)
  (some (.inr (.inr (false, ()))))
  (some (.inl ((), IntKind.i64.wrap (p1.2.1 + 1), ()))))
  (some (.inr (.inl (()))))

noncomputable def chanceryref2_All_Plain_1 (a0 : Str) : Option (Bool × Unit) :=
  (loop (chanceryref2_All_Plain_1_l1 a0) ((), 0, ())).bind fun r3 =>
  (match r3 with
  | .inl _ => (some (true, ()))
  | .inr z5 => (some z5))

noncomputable def chanceryref2_Plain (a0 : Str) : Option (Bool × Unit) :=
  cond (!decide (a0 = []))
  ((idx a0 0).bind fun v1 =>
  (chanceryref2_Letter (ofByte v1)).bind fun v2 =>
  cond (v2.1)
  ((chanceryref2_All_Plain_1 a0).bind fun v3 =>
  some (v3.1, ()))
  (some (false, ())))
  (some (false, ()))

noncomputable def chanceryref2_readSide_2 (a0 : Int) : Option (Bool × Unit) :=
  some (decide (a0 = 36), ())

noncomputable def chanceryref2_readSide_1_readSide_2_l1 (p1 : (Unit × (Unit × (Unit × ((Int × Unit) × ((Str × Unit) × Unit)))))) : Option ((Unit × (Unit × (Unit × ((Int × Unit) × ((Str × Unit) × Unit))))) ⊕ (Unit × (Unit × ((Int × Unit) × ((Str × Unit) × Unit))))) :=
  (cond (decide (p1.2.2.2.1.1 < (p1.2.2.2.2.1.1.length : Int)))
  ((idx p1.2.2.2.2.1.1 p1.2.2.2.1.1).bind fun v1 =>
  (chanceryref2_readSide_2 (ofByte v1)).bind fun v2 =>
  some ((), (), (), v2.1, p1.2.2.2.1, p1.2.2.2.2.1, ()))
  (some ((), (), (), false, p1.2.2.2.1, p1.2.2.2.2.1, ())) : Option (Unit × (Unit × (Unit × (Bool × ((Int × Unit) × ((Str × Unit) × Unit))))))).bind fun r3 =>
  cond r3.2.2.2.1
  (some (.inl ((), (), (), (IntKind.i64.wrap (r3.2.2.2.2.1.1 + 1), ()), r3.2.2.2.2.2.1, ())))
  (some (.inr ((), (), r3.2.2.2.2.1, r3.2.2.2.2.2.1, ())))

noncomputable def chanceryref2_readSide_1_readSide_2 (o0 : Int) (o1 : Str) : Option (Str × (Unit × (Unit × ((Int × Unit) × ((Str × Unit) × Unit))))) :=
  (loop chanceryref2_readSide_1_readSide_2_l1 ((), (), (), (o0, ()), (o1, ()), ())).bind fun r4 =>
  (cut r4.2.2.2.1.1 o0 r4.2.2.1.1).bind fun v5 =>
  some (v5, (), (), r4.2.2.1, r4.2.2.2.1, ())

noncomputable def chanceryref2_readSide_1_Letter_l1 (p1 : (Unit × (Unit × (Unit × ((Int × Unit) × ((Str × Unit) × Unit)))))) : Option ((Unit × (Unit × (Unit × ((Int × Unit) × ((Str × Unit) × Unit))))) ⊕ (Unit × (Unit × ((Int × Unit) × ((Str × Unit) × Unit))))) :=
  (cond (decide (p1.2.2.2.1.1 < (p1.2.2.2.2.1.1.length : Int)))
  ((idx p1.2.2.2.2.1.1 p1.2.2.2.1.1).bind fun v1 =>
  (chanceryref2_Letter (ofByte v1)).bind fun v2 =>
  some ((), (), (), v2.1, p1.2.2.2.1, p1.2.2.2.2.1, ()))
  (some ((), (), (), false, p1.2.2.2.1, p1.2.2.2.2.1, ())) : Option (Unit × (Unit × (Unit × (Bool × ((Int × Unit) × ((Str × Unit) × Unit))))))).bind fun r3 =>
  cond r3.2.2.2.1
  (some (.inl ((), (), (), (IntKind.i64.wrap (r3.2.2.2.2.1.1 + 1), ()), r3.2.2.2.2.2.1, ())))
  (some (.inr ((), (), r3.2.2.2.2.1, r3.2.2.2.2.2.1, ())))

noncomputable def chanceryref2_readSide_1_Letter (o0 : Int) (o1 : Str) : Option (Str × (Unit × (Unit × ((Int × Unit) × ((Str × Unit) × Unit))))) :=
  (loop chanceryref2_readSide_1_Letter_l1 ((), (), (), (o0, ()), (o1, ()), ())).bind fun r4 =>
  (cut r4.2.2.2.1.1 o0 r4.2.2.1.1).bind fun v5 =>
  some (v5, (), (), r4.2.2.1, r4.2.2.2.1, ())

noncomputable def chanceryref2_readSide_1_Digit_l1 (p1 : (Unit × (Unit × (Unit × ((Int × Unit) × ((Str × Unit) × Unit)))))) : Option ((Unit × (Unit × (Unit × ((Int × Unit) × ((Str × Unit) × Unit))))) ⊕ (Unit × (Unit × ((Int × Unit) × ((Str × Unit) × Unit))))) :=
  (cond (decide (p1.2.2.2.1.1 < (p1.2.2.2.2.1.1.length : Int)))
  ((idx p1.2.2.2.2.1.1 p1.2.2.2.1.1).bind fun v1 =>
  (chanceryref2_Digit (ofByte v1)).bind fun v2 =>
  some ((), (), (), v2.1, p1.2.2.2.1, p1.2.2.2.2.1, ()))
  (some ((), (), (), false, p1.2.2.2.1, p1.2.2.2.2.1, ())) : Option (Unit × (Unit × (Unit × (Bool × ((Int × Unit) × ((Str × Unit) × Unit))))))).bind fun r3 =>
  cond r3.2.2.2.1
  (some (.inl ((), (), (), (IntKind.i64.wrap (r3.2.2.2.2.1.1 + 1), ()), r3.2.2.2.2.2.1, ())))
  (some (.inr ((), (), r3.2.2.2.2.1, r3.2.2.2.2.2.1, ())))

noncomputable def chanceryref2_readSide_1_Digit (o0 : Int) (o1 : Str) : Option (Str × (Unit × (Unit × ((Int × Unit) × ((Str × Unit) × Unit))))) :=
  (loop chanceryref2_readSide_1_Digit_l1 ((), (), (), (o0, ()), (o1, ()), ())).bind fun r4 =>
  (cut r4.2.2.2.1.1 o0 r4.2.2.1.1).bind fun v5 =>
  some (v5, (), (), r4.2.2.1, r4.2.2.2.1, ())

noncomputable def chanceryref2_readSide_3 (a0 : Int) : Option (Bool × Unit) :=
  some (decide (a0 = 36), ())

noncomputable def chanceryref2_readSide_1_readSide_3_l1 (p1 : (Unit × (Unit × (Unit × ((Int × Unit) × ((Str × Unit) × Unit)))))) : Option ((Unit × (Unit × (Unit × ((Int × Unit) × ((Str × Unit) × Unit))))) ⊕ (Unit × (Unit × ((Int × Unit) × ((Str × Unit) × Unit))))) :=
  (cond (decide (p1.2.2.2.1.1 < (p1.2.2.2.2.1.1.length : Int)))
  ((idx p1.2.2.2.2.1.1 p1.2.2.2.1.1).bind fun v1 =>
  (chanceryref2_readSide_3 (ofByte v1)).bind fun v2 =>
  some ((), (), (), v2.1, p1.2.2.2.1, p1.2.2.2.2.1, ()))
  (some ((), (), (), false, p1.2.2.2.1, p1.2.2.2.2.1, ())) : Option (Unit × (Unit × (Unit × (Bool × ((Int × Unit) × ((Str × Unit) × Unit))))))).bind fun r3 =>
  cond r3.2.2.2.1
  (some (.inl ((), (), (), (IntKind.i64.wrap (r3.2.2.2.2.1.1 + 1), ()), r3.2.2.2.2.2.1, ())))
  (some (.inr ((), (), r3.2.2.2.2.1, r3.2.2.2.2.2.1, ())))

noncomputable def chanceryref2_readSide_1_readSide_3 (o0 : Int) (o1 : Str) : Option (Str × (Unit × (Unit × ((Int × Unit) × ((Str × Unit) × Unit))))) :=
  (loop chanceryref2_readSide_1_readSide_3_l1 ((), (), (), (o0, ()), (o1, ()), ())).bind fun r4 =>
  (cut r4.2.2.2.1.1 o0 r4.2.2.1.1).bind fun v5 =>
  some (v5, (), (), r4.2.2.1, r4.2.2.2.1, ())

noncomputable def chanceryref2_Upper_l1 (a0 : Str) (p1 : (Str × (Int × Unit))) : Option ((Str × (Int × Unit)) ⊕ (Str × Unit)) :=
  cond (decide (p1.2.1 < (a0.length : Int)))
  ((idx a0 p1.2.1).bind fun v1 =>
  ((cond (decide (97 ≤ (ofByte v1)))
  (some ((decide ((ofByte v1) ≤ 122)), ()))
  (some (false, ())) : Option (Bool × Unit)).bind fun r2 =>
  cond r2.1
  (some (IntKind.u8.wrap ((ofByte v1) - 32), ()))
  (some (ofByte v1, ())) : Option (Int × Unit)).bind fun r3 =>
  (cat p1.1 (bytesStr [r3.1])).bind fun v4 =>
  some (.inl (v4, IntKind.i64.wrap (p1.2.1 + 1), ())))
  (some (.inr (p1.1, ())))

noncomputable def chanceryref2_Upper (a0 : Str) : Option (Str × Unit) :=
  (loop (chanceryref2_Upper_l1 a0) ([], 0, ())).bind fun r5 =>
  some r5

noncomputable def chanceryref2_Column_l1 (a0 : Str) (p1 : (Int × (Int × (Int × Unit)))) : Option ((Int × (Int × (Int × Unit))) ⊕ (Int × Unit)) :=
  cond (decide (0 ≤ p1.2.2.1))
  ((cut a0 p1.2.2.1 (IntKind.i64.wrap (p1.2.2.1 + 1))).bind fun v1 =>
  (chanceryref2_Upper v1).bind fun v2 =>
  (idx v2.1 0).bind fun v3 =>
  let v4 : Int := IntKind.i64.wrap (p1.2.1 * (IntKind.i64.wrap (IntKind.u8.wrap ((ofByte v3) - 65))))
  some (.inl (IntKind.i64.wrap (p1.1 + v4), IntKind.i64.wrap (p1.2.1 * 26), IntKind.i64.wrap (p1.2.2.1 - 1), ())))
  (some (.inr (p1.1, ())))

noncomputable def chanceryref2_Column_l2 (p2 : (Str × (Int × (Int × Unit)))) : Option ((Str × (Int × (Int × Unit))) ⊕ (Int × Unit)) :=
  cond (decide (1 < (p2.1.length : Int)))
  ((cut p2.1 1 (p2.1.length : Int)).bind fun v6 =>
  some (.inl (v6, IntKind.i64.wrap (p2.2.1 + p2.2.2.1), IntKind.i64.wrap (p2.2.2.1 * 26), ())))
  (some (.inr (p2.2.1, ())))

noncomputable def chanceryref2_Column (a0 : Str) : Option (Int × Unit) :=
  (loop (chanceryref2_Column_l1 a0) (0, 1, IntKind.i64.wrap ((a0.length : Int) - 1), ())).bind fun r5 =>
  (loop chanceryref2_Column_l2 (a0, r5.1, 26, ())).bind fun r7 =>
  some r7

noncomputable def chanceryref2_readSide_l1 (z9 : (Unit × (Unit × (Unit × (Unit × (Str × ((Str × Unit) × ((Int × (Int × (Bool × (Bool × Unit)))) × ((Int × (Int × (Bool × (Bool × Unit)))) × ((Int × Unit) × Unit)))))))))) (p1 : (Unit × (Unit × (Int × (Int × ((Int × (Int × (Bool × (Bool × Unit)))) × ((Int × (Int × (Bool × (Bool × Unit)))) × Unit))))))) : Option ((Unit × (Unit × (Int × (Int × ((Int × (Int × (Bool × (Bool × Unit)))) × ((Int × (Int × (Bool × (Bool × Unit)))) × Unit)))))) ⊕ (Unit × (Unit × (Int × ((Int × (Int × (Bool × (Bool × Unit)))) × ((Int × (Int × (Bool × (Bool × Unit)))) × Unit)))))) :=
  cond (decide (p1.2.2.2.1 < (z9.2.2.2.2.1.length : Int)))
  ((idx z9.2.2.2.2.1 p1.2.2.2.1).bind fun v18 =>
  let v19 : Int := IntKind.i64.wrap ((IntKind.i64.wrap (10 * p1.2.2.1)) + (IntKind.i64.wrap (IntKind.u8.wrap ((ofByte v18) - 48))))
  some (.inl ((), (), v19, IntKind.i64.wrap (p1.2.2.2.1 + 1), p1.2.2.2.2.1, p1.2.2.2.2.2.1, ())))
  (some (.inr ((), (), p1.2.2.1, p1.2.2.2.2.1, p1.2.2.2.2.2.1, ())))

noncomputable def chanceryref2_readSide (a0 : Str) : Option ((Int × (Int × (Bool × (Bool × Unit)))) × (Int × Unit)) :=
  (chanceryref2_readSide_1_readSide_2 0 a0).bind fun v1 =>
  (chanceryref2_readSide_1_Letter v1.2.2.2.1.1 v1.2.2.2.2.1.1).bind fun v2 =>
  (cond (decide (v2.1 = []))
  ((chanceryref2_readSide_1_Digit v2.2.2.2.1.1 v2.2.2.2.2.1.1).bind fun v3 =>
  some (.inl ((), (), (), (), v3.1, v3.2.2.2.2.1, (0, (0, (false, (false, ())))), ((-1), ((-1), (decide ((v1.1.length : Int) = 1), (false, ())))), v3.2.2.2.1, ())))
  ((chanceryref2_readSide_1_readSide_3 v2.2.2.2.1.1 v2.2.2.2.2.1.1).bind fun v4 =>
  (chanceryref2_readSide_1_Digit v4.2.2.2.1.1 v4.2.2.2.2.1.1).bind fun v5 =>
  (cond (decide (1 < (v4.1.length : Int)))
  (some ((), (), (), (), true, v5.2.2.2.2.1, (0, (0, (false, (false, ())))), ((-1), ((-1), (false, (decide ((v1.1.length : Int) = 1), ())))), v5.2.2.2.1, ()))
  (cond (decide ((v4.1.length : Int) = 1))
  (some ((), (), (), (), ((decide (v5.1 = []))), v5.2.2.2.2.1, (0, (0, (false, (false, ())))), ((-1), ((-1), (false, (decide ((v1.1.length : Int) = 1), ())))), v5.2.2.2.1, ()))
  (some ((), (), (), (), false, v5.2.2.2.2.1, (0, (0, (false, (false, ())))), ((-1), ((-1), (false, (decide ((v1.1.length : Int) = 1), ())))), v5.2.2.2.1, ()))) : Option (Unit × (Unit × (Unit × (Unit × (Bool × ((Str × Unit) × ((Int × (Int × (Bool × (Bool × Unit)))) × ((Int × (Int × (Bool × (Bool × Unit)))) × ((Int × Unit) × Unit)))))))))).bind fun r6 =>
  cond r6.2.2.2.2.1
  (let v7 : (Int × (Int × (Bool × (Bool × Unit)))) := r6.2.2.2.2.2.2.2.1
  some (.inr ((), 0, v7, ())))
  (some (.inl ((), (), (), (), v5.1, r6.2.2.2.2.2.1, r6.2.2.2.2.2.2.1, (r6.2.2.2.2.2.2.2.1.1, (r6.2.2.2.2.2.2.2.1.2.1, (decide ((v4.1.length : Int) = 1), r6.2.2.2.2.2.2.2.1.2.2.2))), r6.2.2.2.2.2.2.2.2.1, ())))) : Option ((Unit × (Unit × (Unit × (Unit × (Str × ((Str × Unit) × ((Int × (Int × (Bool × (Bool × Unit)))) × ((Int × (Int × (Bool × (Bool × Unit)))) × ((Int × Unit) × Unit))))))))) ⊕ (Unit × (Int × ((Int × (Int × (Bool × (Bool × Unit)))) × Unit))))).bind fun r8 =>
  (match r8 with
  | .inl z9 => ((cond (decide (1 < (v1.1.length : Int)))
  (some ((), (), true, z9.2.2.2.2.2.2.1, z9.2.2.2.2.2.2.2.1, ()))
  (let v10 : Bool := (decide (z9.2.2.2.2.2.2.2.2.1.1 < (z9.2.2.2.2.2.1.1.length : Int)))
  cond v10
  (some ((), (), true, z9.2.2.2.2.2.2.1, z9.2.2.2.2.2.2.2.1, ()))
  (cond (decide (v2.1 = []))
  (let v11 : Bool := ((decide (z9.2.2.2.2.1 = [])))
  cond v11
  (some ((), (), true, z9.2.2.2.2.2.2.1, z9.2.2.2.2.2.2.2.1, ()))
  (cond ((decide (7 < (v2.1.length : Int))))
  (some ((), (), true, z9.2.2.2.2.2.2.1, z9.2.2.2.2.2.2.2.1, ()))
  (cond ((decide (10 < (z9.2.2.2.2.1.length : Int))))
  (some ((), (), true, z9.2.2.2.2.2.2.1, z9.2.2.2.2.2.2.2.1, ()))
  (cond (!decide (z9.2.2.2.2.1 = []))
  ((idx z9.2.2.2.2.1 0).bind fun v12 =>
  let v13 : Bool := ((decide ((ofByte v12) = 48)))
  some ((), (), v13, z9.2.2.2.2.2.2.1, z9.2.2.2.2.2.2.2.1, ()))
  (some ((), (), false, z9.2.2.2.2.2.2.1, z9.2.2.2.2.2.2.2.1, ()))))))
  (cond (false)
  (some ((), (), true, z9.2.2.2.2.2.2.1, z9.2.2.2.2.2.2.2.1, ()))
  (cond ((decide (7 < (v2.1.length : Int))))
  (some ((), (), true, z9.2.2.2.2.2.2.1, z9.2.2.2.2.2.2.2.1, ()))
  (cond ((decide (10 < (z9.2.2.2.2.1.length : Int))))
  (some ((), (), true, z9.2.2.2.2.2.2.1, z9.2.2.2.2.2.2.2.1, ()))
  (cond (!decide (z9.2.2.2.2.1 = []))
  ((idx z9.2.2.2.2.1 0).bind fun v14 =>
  let v15 : Bool := ((decide ((ofByte v14) = 48)))
  some ((), (), v15, z9.2.2.2.2.2.2.1, z9.2.2.2.2.2.2.2.1, ()))
  (some ((), (), false, z9.2.2.2.2.2.2.1, z9.2.2.2.2.2.2.2.1, ())))))))) : Option (Unit × (Unit × (Bool × ((Int × (Int × (Bool × (Bool × Unit)))) × ((Int × (Int × (Bool × (Bool × Unit)))) × Unit)))))).bind fun r16 =>
  cond r16.2.2.1
  (let v17 : (Int × (Int × (Bool × (Bool × Unit)))) := r16.2.2.2.2.1
  some (v17, 0, ()))
  ((cond (!decide (z9.2.2.2.2.1 = []))
  ((loop (chanceryref2_readSide_l1 z9) ((), (), 0, 0, r16.2.2.2.1, r16.2.2.2.2.1, ())).bind fun r20 =>
  some ((), (), r20.2.2.2.1, (IntKind.i64.wrap (r20.2.2.1 - 1), r20.2.2.2.2.1.2), ()))
  (some ((), (), r16.2.2.2.1, r16.2.2.2.2.1, ())) : Option (Unit × (Unit × ((Int × (Int × (Bool × (Bool × Unit)))) × ((Int × (Int × (Bool × (Bool × Unit)))) × Unit))))).bind fun r21 =>
  (cond (!decide (v2.1 = []))
  ((chanceryref2_Column v2.1).bind fun v22 =>
  some ((), (), r21.2.2.1, (r21.2.2.2.1.1, (v22.1, r21.2.2.2.1.2.2)), ()))
  (some ((), (), r21.2.2.1, r21.2.2.2.1, ())) : Option (Unit × (Unit × ((Int × (Int × (Bool × (Bool × Unit)))) × ((Int × (Int × (Bool × (Bool × Unit)))) × Unit))))).bind fun r23 =>
  (cond (decide (1073741824 ≤ r23.2.2.2.1.1))
  (some ((), (), true, r23.2.2.1, r23.2.2.2.1, ()))
  (some ((), (), (decide (1073741824 ≤ r23.2.2.2.1.2.1)), r23.2.2.1, r23.2.2.2.1, ())) : Option (Unit × (Unit × (Bool × ((Int × (Int × (Bool × (Bool × Unit)))) × ((Int × (Int × (Bool × (Bool × Unit)))) × Unit)))))).bind fun r24 =>
  cond r24.2.2.1
  (let v25 : (Int × (Int × (Bool × (Bool × Unit)))) := r24.2.2.2.2.1
  some (v25, 2, ()))
  (let v26 : (Int × (Int × (Bool × (Bool × Unit)))) := r24.2.2.2.2.1
  some (v26, 1, ()))))
  | .inr z27 => (some (z27.2.2.1, z27.2.1, ())))

noncomputable def chanceryref2_Sorted (a0 : (Str × (Int × (Int × (Int × (Int × (Int × (Bool × (Bool × (Bool × (Bool × Unit))))))))))) : Option ((Str × (Int × (Int × (Int × (Int × (Int × (Bool × (Bool × (Bool × (Bool × Unit)))))))))) × Unit) :=
  (cond (decide (a0.2.2.2.2.1 < a0.2.2.1))
  (some ((), (), (a0.1, (a0.2.1, (a0.2.2.2.2.1, (a0.2.2.2.1, (a0.2.2.1, (a0.2.2.2.2.2.1, (a0.2.2.2.2.2.2.2.2.1, (a0.2.2.2.2.2.2.2.1, (a0.2.2.2.2.2.2.1, a0.2.2.2.2.2.2.2.2.2))))))))), ([], (0, (0, (0, (0, (0, (false, (false, (false, (false, ())))))))))), ()))
  (some ((), (), a0, ([], (0, (0, (0, (0, (0, (false, (false, (false, (false, ())))))))))), ())) : Option (Unit × (Unit × ((Str × (Int × (Int × (Int × (Int × (Int × (Bool × (Bool × (Bool × (Bool × Unit)))))))))) × ((Str × (Int × (Int × (Int × (Int × (Int × (Bool × (Bool × (Bool × (Bool × Unit)))))))))) × Unit))))).bind fun r1 =>
  (cond (decide (r1.2.2.1.2.2.2.2.2.1 < r1.2.2.1.2.2.2.1))
  (some ((), (), (r1.2.2.1.1, (r1.2.2.1.2.1, (r1.2.2.1.2.2.1, (r1.2.2.1.2.2.2.2.2.1, (r1.2.2.1.2.2.2.2.1, (r1.2.2.1.2.2.2.1, (r1.2.2.1.2.2.2.2.2.2.1, (r1.2.2.1.2.2.2.2.2.2.2.2.2.1, (r1.2.2.1.2.2.2.2.2.2.2.2.1, (r1.2.2.1.2.2.2.2.2.2.2.1, ())))))))))), r1.2.2.2.1, ()))
  (some ((), (), r1.2.2.1, r1.2.2.2.1, ())) : Option (Unit × (Unit × ((Str × (Int × (Int × (Int × (Int × (Int × (Bool × (Bool × (Bool × (Bool × Unit)))))))))) × ((Str × (Int × (Int × (Int × (Int × (Int × (Bool × (Bool × (Bool × (Bool × Unit)))))))))) × Unit))))).bind fun r2 =>
  let v3 : (Str × (Int × (Int × (Int × (Int × (Int × (Bool × (Bool × (Bool × (Bool × Unit)))))))))) := r2.2.2.1
  some (v3, ())

noncomputable def chanceryref2_SheetError_1 (a0 : Int) : Option (Bool × Unit) :=
  cond (decide (32 ≤ a0))
  (some ((decide (a0 ≤ 126)), ()))
  (some (false, ()))

noncomputable def chanceryref2_All_SheetError_1_l1 (a0 : Str) (p1 : (Unit × (Int × Unit))) : Option ((Unit × (Int × Unit)) ⊕ (Unit ⊕ (Bool × Unit))) :=
  cond (decide (p1.2.1 < (a0.length : Int)))
  ((idx a0 p1.2.1).bind fun v1 =>
  (chanceryref2_SheetError_1 (ofByte v1)).bind fun v2 =>
  cond (!v2.1)
  (some (.inr (.inr (false, ()))))
  (some (.inl ((), IntKind.i64.wrap (p1.2.1 + 1), ()))))
  (some (.inr (.inl (()))))

noncomputable def chanceryref2_All_SheetError_1 (a0 : Str) : Option (Bool × Unit) :=
  (loop (chanceryref2_All_SheetError_1_l1 a0) ((), 0, ())).bind fun r3 =>
  (match r3 with
  | .inl _ => (some (true, ()))
  | .inr z5 => (some z5))

noncomputable def chanceryref2_SheetError (a0 : Str) : Option (Int × Unit) :=
  cond (decide (200 < (a0.length : Int)))
  (some (3, ()))
  ((chanceryref2_All_SheetError_1 a0).bind fun v1 =>
  cond (!v1.1)
  (some (9, ()))
  (some (0, ())))

noncomputable def chanceryref2_inside (a0 : Int) : Option (Bool × Unit) :=
  cond (decide (0 ≤ a0))
  (some ((decide (a0 < 1073741824)), ()))
  (some (false, ()))

noncomputable def chanceryref2_RefError (a0 : (Str × (Int × (Int × (Int × (Int × (Int × (Bool × (Bool × (Bool × (Bool × Unit))))))))))) : Option (Int × Unit) :=
  (cond (decide (a0.2.1 < 0))
  (some ((), true, a0, ()))
  (some ((), (decide (4 < a0.2.1)), a0, ())) : Option (Unit × (Bool × ((Str × (Int × (Int × (Int × (Int × (Int × (Bool × (Bool × (Bool × (Bool × Unit)))))))))) × Unit)))).bind fun r1 =>
  cond r1.2.1
  (some (8, ()))
  ((chanceryref2_SheetError r1.2.2.1.1).bind fun v2 =>
  cond (!decide (v2.1 = 0))
  (some v2)
  ((cond (decide (r1.2.2.1.2.2.1 = 0))
  (some ((), (!r1.2.2.1.2.2.2.2.2.2.1), r1.2.2.1, ()))
  (some ((), false, r1.2.2.1, ())) : Option (Unit × (Bool × ((Str × (Int × (Int × (Int × (Int × (Int × (Bool × (Bool × (Bool × (Bool × Unit)))))))))) × Unit)))).bind fun r3 =>
  (cond (decide (r3.2.2.1.2.2.2.1 = 0))
  (some ((), (!r3.2.2.1.2.2.2.2.2.2.2.1), r3.2.2.1, ()))
  (some ((), false, r3.2.2.1, ())) : Option (Unit × (Bool × ((Str × (Int × (Int × (Int × (Int × (Int × (Bool × (Bool × (Bool × (Bool × Unit)))))))))) × Unit)))).bind fun r4 =>
  (cond (decide (r4.2.2.1.2.2.2.2.1 = 0))
  (some ((), (!r4.2.2.1.2.2.2.2.2.2.2.2.1), r4.2.2.1, ()))
  (some ((), false, r4.2.2.1, ())) : Option (Unit × (Bool × ((Str × (Int × (Int × (Int × (Int × (Int × (Bool × (Bool × (Bool × (Bool × Unit)))))))))) × Unit)))).bind fun r5 =>
  (cond (decide (r5.2.2.1.2.2.2.2.2.1 = 0))
  (some ((), (!r5.2.2.1.2.2.2.2.2.2.2.2.2.1), r5.2.2.1, ()))
  (some ((), false, r5.2.2.1, ())) : Option (Unit × (Bool × ((Str × (Int × (Int × (Int × (Int × (Int × (Bool × (Bool × (Bool × (Bool × Unit)))))))))) × Unit)))).bind fun r6 =>
  ((cond (decide (r6.2.2.1.2.1 = 0))
  (cond r5.2.1
  (some ((), (!(r6.2.1)), r6.2.2.1, ()))
  (some ((), true, r6.2.2.1, ())))
  (some ((), false, r6.2.2.1, ())) : Option (Unit × (Bool × ((Str × (Int × (Int × (Int × (Int × (Int × (Bool × (Bool × (Bool × (Bool × Unit)))))))))) × Unit)))).bind fun r7 =>
  cond r7.2.1
  (some ((), true, r7.2.2.1, ()))
  ((cond (decide (r7.2.2.1.2.1 = 2))
  (cond r4.2.1
  (some ((), (!(r6.2.1)), r7.2.2.1, ()))
  (some ((), true, r7.2.2.1, ())))
  (some ((), false, r7.2.2.1, ())) : Option (Unit × (Bool × ((Str × (Int × (Int × (Int × (Int × (Int × (Bool × (Bool × (Bool × (Bool × Unit)))))))))) × Unit)))).bind fun r8 =>
  cond r8.2.1
  (some ((), true, r8.2.2.1, ()))
  ((cond (decide (r8.2.2.1.2.1 = 3))
  (cond r3.2.1
  (some ((), (!(r5.2.1)), r8.2.2.1, ()))
  (some ((), true, r8.2.2.1, ())))
  (some ((), false, r8.2.2.1, ())) : Option (Unit × (Bool × ((Str × (Int × (Int × (Int × (Int × (Int × (Bool × (Bool × (Bool × (Bool × Unit)))))))))) × Unit)))).bind fun r9 =>
  cond r9.2.1
  (some ((), true, r9.2.2.1, ()))
  (cond (decide (r9.2.2.1.2.1 = 4))
  (cond r3.2.1
  (cond (r4.2.1)
  (cond (r5.2.1)
  (cond (r6.2.1)
  (let v10 : Bool := (!((decide (r9.2.2.1.1 = []))))
  some ((), v10, r9.2.2.1, ()))
  (some ((), true, r9.2.2.1, ())))
  (some ((), true, r9.2.2.1, ())))
  (some ((), true, r9.2.2.1, ())))
  (some ((), true, r9.2.2.1, ())))
  (some ((), false, r9.2.2.1, ()))))) : Option (Unit × (Bool × ((Str × (Int × (Int × (Int × (Int × (Int × (Bool × (Bool × (Bool × (Bool × Unit)))))))))) × Unit)))).bind fun r11 =>
  cond r11.2.1
  (some (4, ()))
  (((chanceryref2_inside r11.2.2.1.2.2.1).bind fun v12 =>
  cond (!v12.1)
  (some ((), true, r11.2.2.1, ()))
  ((chanceryref2_inside r11.2.2.1.2.2.2.1).bind fun v13 =>
  cond (!v13.1)
  (some ((), true, r11.2.2.1, ()))
  ((chanceryref2_inside r11.2.2.1.2.2.2.2.1).bind fun v14 =>
  cond (!v14.1)
  (some ((), true, r11.2.2.1, ()))
  ((chanceryref2_inside r11.2.2.1.2.2.2.2.2.1).bind fun v15 =>
  some ((), !v15.1, r11.2.2.1, ())))) : Option (Unit × (Bool × ((Str × (Int × (Int × (Int × (Int × (Int × (Bool × (Bool × (Bool × (Bool × Unit)))))))))) × Unit)))).bind fun r16 =>
  cond r16.2.1
  (some (2, ()))
  ((cond (decide (1 ≤ r16.2.2.1.2.1))
  (cond ((decide (r16.2.2.1.2.1 ≤ 3)))
  (cond (decide (r16.2.2.1.2.2.2.2.1 < r16.2.2.1.2.2.1))
  (some (true, ()))
  (let v17 : Bool := (decide (r16.2.2.1.2.2.2.2.2.1 < r16.2.2.1.2.2.2.1))
  some (v17, ())))
  (some (false, ())))
  (some (false, ())) : Option (Bool × Unit)).bind fun r18 =>
  cond r18.1
  (some (5, ()))
  (some (0, ()))))))

noncomputable def chanceryref2_ReadRef_l1 (a0 : Str) (p1 : (Unit × (Str × (Int × ((Str × (Int × (Int × (Int × (Int × (Int × (Bool × (Bool × (Bool × (Bool × Unit)))))))))) × Unit))))) : Option ((Unit × (Str × (Int × ((Str × (Int × (Int × (Int × (Int × (Int × (Bool × (Bool × (Bool × (Bool × Unit)))))))))) × Unit)))) ⊕ (Unit × (Str × (Int × ((Str × (Int × (Int × (Int × (Int × (Int × (Bool × (Bool × (Bool × (Bool × Unit)))))))))) × Unit))))) :=
  (cond (decide (p1.2.2.1 < (a0.length : Int)))
  ((idx a0 p1.2.2.1).bind fun v3 =>
  cond (!decide ((ofByte v3) = 39))
  (some ((), true, p1.2.2.2.1, ()))
  (cond (decide ((IntKind.i64.wrap (p1.2.2.1 + 1)) < (a0.length : Int)))
  ((idx a0 (IntKind.i64.wrap (p1.2.2.1 + 1))).bind fun v4 =>
  let v5 : Bool := ((decide ((ofByte v4) = 39)))
  some ((), v5, p1.2.2.2.1, ()))
  (some ((), (false), p1.2.2.2.1, ()))))
  (some ((), false, p1.2.2.2.1, ())) : Option (Unit × (Bool × ((Str × (Int × (Int × (Int × (Int × (Int × (Bool × (Bool × (Bool × (Bool × Unit)))))))))) × Unit)))).bind fun r6 =>
  cond r6.2.1
  ((cut a0 p1.2.2.1 (IntKind.i64.wrap (p1.2.2.1 + 1))).bind fun v7 =>
  (cat p1.2.1 v7).bind fun v8 =>
  ((idx a0 p1.2.2.1).bind fun v9 =>
  cond (decide ((ofByte v9) = 39))
  (some ((), IntKind.i64.wrap (p1.2.2.1 + 1), r6.2.2.1, ()))
  (some ((), p1.2.2.1, r6.2.2.1, ())) : Option (Unit × (Int × ((Str × (Int × (Int × (Int × (Int × (Int × (Bool × (Bool × (Bool × (Bool × Unit)))))))))) × Unit)))).bind fun r10 =>
  some (.inl ((), v8, IntKind.i64.wrap (r10.2.1 + 1), r10.2.2.1, ())))
  (some (.inr ((), p1.2.1, p1.2.2.1, r6.2.2.1, ())))

noncomputable def chanceryref2_ReadRef_l2 (a0 : Str) (p2 : (Unit × (Str × (Str × (Int × ((Str × (Int × (Int × (Int × (Int × (Int × (Bool × (Bool × (Bool × (Bool × Unit)))))))))) × Unit)))))) : Option ((Unit × (Str × (Str × (Int × ((Str × (Int × (Int × (Int × (Int × (Int × (Bool × (Bool × (Bool × (Bool × Unit)))))))))) × Unit))))) ⊕ ((Unit × (Str × (Str × ((Str × (Int × (Int × (Int × (Int × (Int × (Bool × (Bool × (Bool × (Bool × Unit)))))))))) × Unit)))) ⊕ (Unit × (Int × ((Str × (Int × (Int × (Int × (Int × (Int × (Bool × (Bool × (Bool × (Bool × Unit)))))))))) × Unit))))) :=
  cond (decide (p2.2.2.2.1 < (a0.length : Int)))
  ((idx a0 p2.2.2.2.1).bind fun v16 =>
  cond (decide ((ofByte v16) = 33))
  ((cut a0 0 p2.2.2.2.1).bind fun v17 =>
  (cut a0 (IntKind.i64.wrap (p2.2.2.2.1 + 1)) (a0.length : Int)).bind fun v18 =>
  (chanceryref2_Plain v17).bind fun v19 =>
  cond (!v19.1)
  (some (.inr (.inr ((), 10, ([], (0, (0, (0, (0, (0, (false, (false, (false, (false, ())))))))))), ()))))
  (some (.inr (.inl ((), v17, v18, p2.2.2.2.2.1, ())))))
  (some (.inl ((), p2.2.1, p2.2.2.1, IntKind.i64.wrap (p2.2.2.2.1 + 1), p2.2.2.2.2.1, ()))))
  (some (.inr (.inl ((), p2.2.1, p2.2.2.1, p2.2.2.2.2.1, ()))))

noncomputable def chanceryref2_ReadRef_l3 (z24 : (Unit × (Str × (Str × ((Str × (Int × (Int × (Int × (Int × (Int × (Bool × (Bool × (Bool × (Bool × Unit)))))))))) × Unit))))) (p3 : (Unit × (Str × (Str × (Bool × (Int × ((Str × (Int × (Int × (Int × (Int × (Int × (Bool × (Bool × (Bool × (Bool × Unit)))))))))) × Unit))))))) : Option ((Unit × (Str × (Str × (Bool × (Int × ((Str × (Int × (Int × (Int × (Int × (Int × (Bool × (Bool × (Bool × (Bool × Unit)))))))))) × Unit)))))) ⊕ (Unit × (Str × (Str × (Bool × ((Str × (Int × (Int × (Int × (Int × (Int × (Bool × (Bool × (Bool × (Bool × Unit)))))))))) × Unit)))))) :=
  cond (decide (p3.2.2.2.2.1 < (z24.2.2.1.length : Int)))
  ((idx z24.2.2.1 p3.2.2.2.2.1).bind fun v25 =>
  cond (decide ((ofByte v25) = 58))
  ((cut z24.2.2.1 0 p3.2.2.2.2.1).bind fun v26 =>
  (cut z24.2.2.1 (IntKind.i64.wrap (p3.2.2.2.2.1 + 1)) (z24.2.2.1.length : Int)).bind fun v27 =>
  some (.inr ((), v26, v27, true, p3.2.2.2.2.2.1, ())))
  (some (.inl ((), p3.2.1, p3.2.2.1, p3.2.2.2.1, IntKind.i64.wrap (p3.2.2.2.2.1 + 1), p3.2.2.2.2.2.1, ()))))
  (some (.inr ((), p3.2.1, p3.2.2.1, p3.2.2.2.1, p3.2.2.2.2.2.1, ())))

noncomputable def chanceryref2_ReadRef (a0 : Str) : Option ((Str × (Int × (Int × (Int × (Int × (Int × (Bool × (Bool × (Bool × (Bool × Unit)))))))))) × (Int × Unit)) :=
  cond (decide (500 < (a0.length : Int)))
  (some (([], (0, (0, (0, (0, (0, (false, (false, (false, (false, ())))))))))), 3, ()))
  (cond (decide (a0 = [35, 82, 69, 70, 33]))
  (some (([], (4, (0, (0, (0, (0, (false, (false, (false, (false, ())))))))))), 0, ()))
  (((cond (!decide (a0 = []))
  ((idx a0 0).bind fun v1 =>
  some ((), (decide ((ofByte v1) = 39)), ([], (0, (0, (0, (0, (0, (false, (false, (false, (false, ())))))))))), ()))
  (some ((), false, ([], (0, (0, (0, (0, (0, (false, (false, (false, (false, ())))))))))), ())) : Option (Unit × (Bool × ((Str × (Int × (Int × (Int × (Int × (Int × (Bool × (Bool × (Bool × (Bool × Unit)))))))))) × Unit)))).bind fun r2 =>
  cond r2.2.1
  ((loop (chanceryref2_ReadRef_l1 a0) ((), [], 1, r2.2.2.1, ())).bind fun r11 =>
  (cond (decide (r11.2.1 = []))
  (some ((), true, r11.2.2.2.1, ()))
  (let v12 : Bool := (decide ((a0.length : Int) ≤ (IntKind.i64.wrap (r11.2.2.1 + 1))))
  cond v12
  (some ((), true, r11.2.2.2.1, ()))
  ((idx a0 (IntKind.i64.wrap (r11.2.2.1 + 1))).bind fun v13 =>
  some ((), (!decide ((ofByte v13) = 33)), r11.2.2.2.1, ()))) : Option (Unit × (Bool × ((Str × (Int × (Int × (Int × (Int × (Int × (Bool × (Bool × (Bool × (Bool × Unit)))))))))) × Unit)))).bind fun r14 =>
  cond r14.2.1
  (some (.inr ((), 10, ([], (0, (0, (0, (0, (0, (false, (false, (false, (false, ())))))))))), ())))
  ((cut a0 (IntKind.i64.wrap (r11.2.2.1 + 2)) (a0.length : Int)).bind fun v15 =>
  some (.inl ((), r11.2.1, v15, r14.2.2.1, ()))))
  ((loop (chanceryref2_ReadRef_l2 a0) ((), [], a0, 0, r2.2.2.1, ())).bind fun r20 =>
  (match r20 with
  | .inl z21 => (some (.inl ((), z21.2.1, z21.2.2.1, z21.2.2.2.1, ())))
  | .inr z22 => (some (.inr ((), z22.2.1, z22.2.2.1, ()))))) : Option ((Unit × (Str × (Str × ((Str × (Int × (Int × (Int × (Int × (Int × (Bool × (Bool × (Bool × (Bool × Unit)))))))))) × Unit)))) ⊕ (Unit × (Int × ((Str × (Int × (Int × (Int × (Int × (Int × (Bool × (Bool × (Bool × (Bool × Unit)))))))))) × Unit))))).bind fun r23 =>
  (match r23 with
  | .inl z24 => ((loop (chanceryref2_ReadRef_l3 z24) ((), z24.2.2.1, [], false, 0, z24.2.2.2.1, ())).bind fun r28 =>
  (chanceryref2_readSide r28.2.1).bind fun v29 =>
  (cond r28.2.2.2.1
  ((chanceryref2_readSide r28.2.2.1).bind fun v30 =>
  some ((), (), (), v30.2.1, r28.2.2.2.2.1, v29.1, v30.1, ()))
  (some ((), (), (), 1, r28.2.2.2.2.1, v29.1, v29.1, ())) : Option (Unit × (Unit × (Unit × (Int × ((Str × (Int × (Int × (Int × (Int × (Int × (Bool × (Bool × (Bool × (Bool × Unit)))))))))) × ((Int × (Int × (Bool × (Bool × Unit)))) × ((Int × (Int × (Bool × (Bool × Unit)))) × Unit)))))))).bind fun r31 =>
  (cond (decide (v29.2.1 = 0))
  (some ((), (), (), true, r31.2.2.2.2.1, r31.2.2.2.2.2.1, r31.2.2.2.2.2.2.1, ()))
  (cond ((decide (r31.2.2.2.1 = 0)))
  (some ((), (), (), true, r31.2.2.2.2.1, r31.2.2.2.2.2.1, r31.2.2.2.2.2.2.1, ()))
  (let v32 : Bool := (!((decide (r31.2.2.2.2.2.1.1 < 0)) == (decide (r31.2.2.2.2.2.2.1.1 < 0))))
  cond v32
  (some ((), (), (), true, r31.2.2.2.2.1, r31.2.2.2.2.2.1, r31.2.2.2.2.2.2.1, ()))
  (let v33 : Bool := (!((decide (r31.2.2.2.2.2.1.2.1 < 0)) == (decide (r31.2.2.2.2.2.2.1.2.1 < 0))))
  cond v33
  (some ((), (), (), true, r31.2.2.2.2.1, r31.2.2.2.2.2.1, r31.2.2.2.2.2.2.1, ()))
  (cond (!r28.2.2.2.1)
  (cond (decide (r31.2.2.2.2.2.1.1 < 0))
  (some ((), (), (), (true), r31.2.2.2.2.1, r31.2.2.2.2.2.1, r31.2.2.2.2.2.2.1, ()))
  (let v34 : Bool := ((decide (r31.2.2.2.2.2.1.2.1 < 0)))
  some ((), (), (), v34, r31.2.2.2.2.1, r31.2.2.2.2.2.1, r31.2.2.2.2.2.2.1, ())))
  (some ((), (), (), false, r31.2.2.2.2.1, r31.2.2.2.2.2.1, r31.2.2.2.2.2.2.1, ())))))) : Option (Unit × (Unit × (Unit × (Bool × ((Str × (Int × (Int × (Int × (Int × (Int × (Bool × (Bool × (Bool × (Bool × Unit)))))))))) × ((Int × (Int × (Bool × (Bool × Unit)))) × ((Int × (Int × (Bool × (Bool × Unit)))) × Unit)))))))).bind fun r35 =>
  cond r35.2.2.2.1
  (some (([], (0, (0, (0, (0, (0, (false, (false, (false, (false, ())))))))))), 10, ()))
  ((cond (decide (v29.2.1 = 2))
  (some ((), (), (), true, r35.2.2.2.2.1, r35.2.2.2.2.2.1, r35.2.2.2.2.2.2.1, ()))
  (some ((), (), (), (decide (r31.2.2.2.1 = 2)), r35.2.2.2.2.1, r35.2.2.2.2.2.1, r35.2.2.2.2.2.2.1, ())) : Option (Unit × (Unit × (Unit × (Bool × ((Str × (Int × (Int × (Int × (Int × (Int × (Bool × (Bool × (Bool × (Bool × Unit)))))))))) × ((Int × (Int × (Bool × (Bool × Unit)))) × ((Int × (Int × (Bool × (Bool × Unit)))) × Unit)))))))).bind fun r36 =>
  cond r36.2.2.2.1
  (some (([], (0, (0, (0, (0, (0, (false, (false, (false, (false, ())))))))))), 2, ()))
  (let v37 : (Str × (Int × (Int × (Int × (Int × (Int × (Bool × (Bool × (Bool × (Bool × Unit)))))))))) := (z24.2.1, 0, mx r36.2.2.2.2.2.1.1 0, mx r36.2.2.2.2.2.1.2.1 0, 0, 0, r36.2.2.2.2.2.1.2.2.1, r36.2.2.2.2.2.1.2.2.2.1, false, false, ())
  (cond (!r28.2.2.2.1)
  (some ((), (), (), r36.2.2.2.2.1, r36.2.2.2.2.2.2.1, v37, ()))
  (cond (decide (r36.2.2.2.2.2.1.1 < 0))
  (some ((), (), (), r36.2.2.2.2.1, r36.2.2.2.2.2.2.1, (v37.1, (3, v37.2.2)), ()))
  (cond (decide (r36.2.2.2.2.2.1.2.1 < 0))
  (some ((), (), (), r36.2.2.2.2.1, r36.2.2.2.2.2.2.1, (v37.1, (2, v37.2.2)), ()))
  (some ((), (), (), r36.2.2.2.2.1, r36.2.2.2.2.2.2.1, (v37.1, (1, v37.2.2)), ())))) : Option (Unit × (Unit × (Unit × ((Str × (Int × (Int × (Int × (Int × (Int × (Bool × (Bool × (Bool × (Bool × Unit)))))))))) × ((Int × (Int × (Bool × (Bool × Unit)))) × ((Str × (Int × (Int × (Int × (Int × (Int × (Bool × (Bool × (Bool × (Bool × Unit)))))))))) × Unit))))))).bind fun r38 =>
  (cond r28.2.2.2.1
  (let v39 : (Str × (Int × (Int × (Int × (Int × (Int × (Bool × (Bool × (Bool × (Bool × Unit)))))))))) := (r38.2.2.2.2.2.1.1, (r38.2.2.2.2.2.1.2.1, (r38.2.2.2.2.2.1.2.2.1, (r38.2.2.2.2.2.1.2.2.2.1, (mx r38.2.2.2.2.1.1 0, (mx r38.2.2.2.2.1.2.1 0, (r38.2.2.2.2.2.1.2.2.2.2.2.2.1, (r38.2.2.2.2.2.1.2.2.2.2.2.2.2.1, r38.2.2.2.2.1.2.2))))))))
  (chanceryref2_Sorted v39).bind fun v40 =>
  some ((), (), r38.2.2.2.1, v40.1, ()))
  (some ((), (), r38.2.2.2.1, r38.2.2.2.2.2.1, ())) : Option (Unit × (Unit × ((Str × (Int × (Int × (Int × (Int × (Int × (Bool × (Bool × (Bool × (Bool × Unit)))))))))) × ((Str × (Int × (Int × (Int × (Int × (Int × (Bool × (Bool × (Bool × (Bool × Unit)))))))))) × Unit))))).bind fun r41 =>
  let v42 : (Str × (Int × (Int × (Int × (Int × (Int × (Bool × (Bool × (Bool × (Bool × Unit)))))))))) := r41.2.2.2.1
  (chanceryref2_RefError v42).bind fun v43 =>
  cond (!decide (v43.1 = 0))
  (some (([], (0, (0, (0, (0, (0, (false, (false, (false, (false, ())))))))))), v43.1, ()))
  (let v44 : (Str × (Int × (Int × (Int × (Int × (Int × (Bool × (Bool × (Bool × (Bool × Unit)))))))))) := r41.2.2.2.1
  some (v44, 0, ())))))
  | .inr z45 => (some (z45.2.2.1, z45.2.1, ())))))

noncomputable def chanceryref2_isRef (a0 : Str) : Option (Bool × Unit) :=
  (chanceryref2_ReadRef a0).bind fun v1 =>
  some (decide (v1.2.1 = 0), ())

noncomputable def chanceryref2_longRef (a0 : Str) (a1 : Int) : Option (Int × Unit) :=
  ((cond (decide (a1 < (a0.length : Int)))
  ((idx a0 a1).bind fun v1 =>
  some ((decide ((ofByte v1) = 58)), ()))
  (some (false, ())) : Option (Bool × Unit)).bind fun r2 =>
  cond r2.1
  ((cut a0 (IntKind.i64.wrap (a1 + 1)) (a0.length : Int)).bind fun v3 =>
  (chanceryref2_span_refByte v3).bind fun v4 =>
  (cut a0 0 (IntKind.i64.wrap ((IntKind.i64.wrap (a1 + 1)) + v4.1))).bind fun v5 =>
  (chanceryref2_isRef v5).bind fun v6 =>
  cond v6.1
  (some (.inr (IntKind.i64.wrap ((IntKind.i64.wrap (a1 + 1)) + v4.1), ())))
  (some (.inl (()))))
  (some (.inl (()))) : Option (Unit ⊕ (Int × Unit))).bind fun r7 =>
  (match r7 with
  | .inl _ => ((cut a0 0 a1).bind fun v9 =>
  (chanceryref2_isRef v9).bind fun v10 =>
  cond v10.1
  (some (a1, ()))
  (some (0, ())))
  | .inr z11 => (some z11))

noncomputable def chanceryref2_span_Digit_l1 (a0 : Str) (p1 : (Unit × (Int × Unit))) : Option ((Unit × (Int × Unit)) ⊕ (Unit ⊕ (Int × Unit))) :=
  cond (decide (p1.2.1 < (a0.length : Int)))
  ((idx a0 p1.2.1).bind fun v1 =>
  (chanceryref2_Digit (ofByte v1)).bind fun v2 =>
  cond (!v2.1)
  (some (.inr (.inr p1.2)))
  (some (.inl ((), IntKind.i64.wrap (p1.2.1 + 1), ()))))
  (some (.inr (.inl (()))))

noncomputable def chanceryref2_span_Digit (a0 : Str) : Option (Int × Unit) :=
  (loop (chanceryref2_span_Digit_l1 a0) ((), 0, ())).bind fun r3 =>
  (match r3 with
  | .inl _ => (some ((a0.length : Int), ()))
  | .inr z5 => (some z5))

noncomputable def chanceryref2_numberLength_l1 (a0 : Str) (r8 : (Int × Unit)) (p1 : (Int × Unit)) : Option ((Int × Unit) ⊕ (Unit ⊕ (Int × Unit))) :=
  cond (decide (p1.1 < 6))
  ((idx [[101], [69], [101, 43], [69, 43], [101, 45], [69, 45]] p1.1).bind fun v9 =>
  ((cut a0 r8.1 (a0.length : Int)).bind fun v10 =>
  (chanceryref2_Has v10 v9).bind fun v11 =>
  cond v11.1
  (let v12 : Bool := (decide ((IntKind.i64.wrap (r8.1 + (v9.length : Int))) < (a0.length : Int)))
  cond v12
  ((idx a0 (IntKind.i64.wrap (r8.1 + (v9.length : Int)))).bind fun v13 =>
  (chanceryref2_Digit (ofByte v13)).bind fun v14 =>
  some (v14.1, ()))
  (some (false, ())))
  (some (false, ())) : Option (Bool × Unit)).bind fun r15 =>
  cond r15.1
  ((cut a0 (IntKind.i64.wrap (r8.1 + (v9.length : Int))) (a0.length : Int)).bind fun v16 =>
  (chanceryref2_span_Digit v16).bind fun v17 =>
  let v18 : Int := IntKind.i64.wrap ((IntKind.i64.wrap (r8.1 + (v9.length : Int))) + v17.1)
  some (.inr (.inr (v18, ()))))
  (some (.inl (IntKind.i64.wrap (p1.1 + 1), ()))))
  (some (.inr (.inl (()))))

noncomputable def chanceryref2_numberLength (a0 : Str) : Option (Int × Unit) :=
  (chanceryref2_span_Digit a0).bind fun v1 =>
  ((cond (decide ((IntKind.i64.wrap (v1.1 + 1)) < (a0.length : Int)))
  ((idx a0 v1.1).bind fun v2 =>
  cond ((decide ((ofByte v2) = 46)))
  ((idx a0 (IntKind.i64.wrap (v1.1 + 1))).bind fun v3 =>
  (chanceryref2_Digit (ofByte v3)).bind fun v4 =>
  some (v4.1, ()))
  (some (false, ())))
  (some (false, ())) : Option (Bool × Unit)).bind fun r5 =>
  cond r5.1
  ((cut a0 (IntKind.i64.wrap (v1.1 + 1)) (a0.length : Int)).bind fun v6 =>
  (chanceryref2_span_Digit v6).bind fun v7 =>
  some (IntKind.i64.wrap (v1.1 + (IntKind.i64.wrap (1 + v7.1))), ()))
  (some v1) : Option (Int × Unit)).bind fun r8 =>
  (loop (chanceryref2_numberLength_l1 a0 r8) (0, ())).bind fun r19 =>
  (match r19 with
  | .inl _ => (some r8)
  | .inr z21 => (some z21))

noncomputable def chanceryref2_wordToken_1 (a0 : Int) : Option (Bool × Unit) :=
  (chanceryref2_refByte a0).bind fun v1 =>
  cond v1.1
  (some (true, ()))
  (cond ((decide (a0 = 95)))
  (some (true, ()))
  (some ((decide (a0 = 46)), ())))

noncomputable def chanceryref2_span_wordToken_1_l1 (a0 : Str) (p1 : (Unit × (Int × Unit))) : Option ((Unit × (Int × Unit)) ⊕ (Unit ⊕ (Int × Unit))) :=
  cond (decide (p1.2.1 < (a0.length : Int)))
  ((idx a0 p1.2.1).bind fun v1 =>
  (chanceryref2_wordToken_1 (ofByte v1)).bind fun v2 =>
  cond (!v2.1)
  (some (.inr (.inr p1.2)))
  (some (.inl ((), IntKind.i64.wrap (p1.2.1 + 1), ()))))
  (some (.inr (.inl (()))))

noncomputable def chanceryref2_span_wordToken_1 (a0 : Str) : Option (Int × Unit) :=
  (loop (chanceryref2_span_wordToken_1_l1 a0) ((), 0, ())).bind fun r3 =>
  (match r3 with
  | .inl _ => (some ((a0.length : Int), ()))
  | .inr z5 => (some z5))

noncomputable def chanceryref2_Index_l1 (a0 : Str) (a1 : Int) (p1 : (Int × Unit)) : Option ((Int × Unit) ⊕ (Unit ⊕ (Int × Unit))) :=
  cond (decide (p1.1 < (a0.length : Int)))
  ((idx a0 p1.1).bind fun v1 =>
  cond (decide ((ofByte v1) = a1))
  (some (.inr (.inr p1)))
  (some (.inl (IntKind.i64.wrap (p1.1 + 1), ()))))
  (some (.inr (.inl (()))))

noncomputable def chanceryref2_Index (a0 : Str) (a1 : Int) : Option (Int × Unit) :=
  (loop (chanceryref2_Index_l1 a0 a1) (0, ())).bind fun r2 =>
  (match r2 with
  | .inl _ => (some ((-1), ()))
  | .inr z4 => (some z4))

noncomputable def chanceryref2_wordToken_l1 (v3 : Str) (v1 : (Int × Unit)) (p1 : (Int × (Int × Unit))) : Option ((Int × (Int × Unit)) ⊕ (Unit ⊕ (Int × (Int × Unit)))) :=
  cond (decide (p1.2.1 < (v3.length : Int)))
  (((idx v3 p1.2.1).bind fun v15 =>
  cond (decide ((ofByte v15) = 91))
  (some (IntKind.i64.wrap (p1.1 + 1), ()))
  (some (p1.1, ())) : Option (Int × Unit)).bind fun r16 =>
  ((idx v3 p1.2.1).bind fun v17 =>
  cond (decide ((ofByte v17) = 93))
  (some (IntKind.i64.wrap (r16.1 - 1), ()))
  (some r16) : Option (Int × Unit)).bind fun r18 =>
  cond (decide (r18.1 = 0))
  (some (.inr (.inr (7, IntKind.i64.wrap ((IntKind.i64.wrap (v1.1 + p1.2.1)) + 1), ()))))
  (some (.inl (r18.1, IntKind.i64.wrap (p1.2.1 + 1), ()))))
  (some (.inr (.inl (()))))

noncomputable def chanceryref2_wordToken (a0 : Str) : Option (Int × (Int × Unit)) :=
  (chanceryref2_span_wordToken_1 a0).bind fun v1 =>
  (cut a0 0 v1.1).bind fun v2 =>
  (cut a0 v1.1 (a0.length : Int)).bind fun v3 =>
  (chanceryref2_Index v2 36).bind fun v4 =>
  ((chanceryref2_Has v3 [33]).bind fun v5 =>
  cond v5.1
  ((chanceryref2_Plain v2).bind fun v6 =>
  some (v6.1, ()))
  (some (false, ())) : Option (Bool × Unit)).bind fun r7 =>
  cond r7.1
  ((cut v3 1 (v3.length : Int)).bind fun v8 =>
  (chanceryref2_span_refByte v8).bind fun v9 =>
  (chanceryref2_longRef a0 (IntKind.i64.wrap ((IntKind.i64.wrap (v1.1 + 1)) + v9.1))).bind fun v10 =>
  some (4, v10.1, ()))
  (((chanceryref2_Has v3 [40]).bind fun v11 =>
  cond v11.1
  (some ((!(decide (0 ≤ v4.1))), ()))
  (some (false, ())) : Option (Bool × Unit)).bind fun r12 =>
  cond r12.1
  (some (6, v1.1, ()))
  (((chanceryref2_Has v3 [91]).bind fun v13 =>
  cond v13.1
  (some ((!(decide (0 ≤ v4.1))), ()))
  (some (false, ())) : Option (Bool × Unit)).bind fun r14 =>
  cond r14.1
  ((loop (chanceryref2_wordToken_l1 v3 v1) (0, 0, ())).bind fun r19 =>
  (match r19 with
  | .inl _ => (some (7, 0, ()))
  | .inr z21 => (some z21)))
  ((chanceryref2_longRef a0 v1.1).bind fun v22 =>
  cond (decide (0 < v22.1))
  (some (4, v22.1, ()))
  (cond (decide (0 ≤ v4.1))
  (some (5, 0, ()))
  (some (5, v1.1, ()))))))

noncomputable def chanceryref2_Token_l1 (a0 : Str) (p1 : (Int × Unit)) : Option ((Int × Unit) ⊕ (Unit ⊕ (Int × (Int × Unit)))) :=
  cond (decide (p1.1 < 9))
  ((cond (decide (0 < p1.1))
  ((idx ([[], [35, 68, 73, 86, 47, 48, 33], [35, 86, 65, 76, 85, 69, 33], [35, 82, 69, 70, 33], [35, 78, 65, 77, 69, 63], [35, 78, 85, 77, 33], [35, 78, 47, 65], [35, 83, 80, 73, 76, 76, 33], [35, 67, 89, 67, 76, 69, 33]] : (List Str)) p1.1).bind fun v4 =>
  (chanceryref2_Has a0 v4).bind fun v5 =>
  some (v5.1, ()))
  (some (false, ())) : Option (Bool × Unit)).bind fun r6 =>
  cond r6.1
  (cond (decide (p1.1 = 3))
  (some (.inr (.inr (4, 5, ()))))
  ((idx ([[], [35, 68, 73, 86, 47, 48, 33], [35, 86, 65, 76, 85, 69, 33], [35, 82, 69, 70, 33], [35, 78, 65, 77, 69, 63], [35, 78, 85, 77, 33], [35, 78, 47, 65], [35, 83, 80, 73, 76, 76, 33], [35, 67, 89, 67, 76, 69, 33]] : (List Str)) p1.1).bind fun v7 =>
  some (.inr (.inr (3, (v7.length : Int), ())))))
  (some (.inl (IntKind.i64.wrap (p1.1 + 1), ()))))
  (some (.inr (.inl (()))))

noncomputable def chanceryref2_Token (a0 : Str) : Option (Int × (Int × Unit)) :=
  (idx a0 0).bind fun v1 =>
  (chanceryref2_span_Token_1 a0).bind fun v2 =>
  cond (decide (0 < v2.1))
  (some (0, v2.1, ()))
  (cond (decide ((ofByte v1) = 34))
  ((chanceryref2_closing a0).bind fun v3 =>
  some (2, v3.1, ()))
  (cond (decide ((ofByte v1) = 35))
  ((loop (chanceryref2_Token_l1 a0) (0, ())).bind fun r8 =>
  (match r8 with
  | .inl _ => (some (8, 1, ()))
  | .inr z10 => (some z10)))
  (cond (decide ((ofByte v1) = 39))
  ((chanceryref2_closing a0).bind fun v11 =>
  (cond (decide (v11.1 = 0))
  (some (true, ()))
  (cond ((decide ((a0.length : Int) ≤ v11.1)))
  (some (true, ()))
  ((idx a0 v11.1).bind fun v12 =>
  some ((!decide ((ofByte v12) = 33)), ()))) : Option (Bool × Unit)).bind fun r13 =>
  cond r13.1
  (some (4, 0, ()))
  ((cut a0 (IntKind.i64.wrap (v11.1 + 1)) (a0.length : Int)).bind fun v14 =>
  (chanceryref2_span_refByte v14).bind fun v15 =>
  (chanceryref2_longRef a0 (IntKind.i64.wrap ((IntKind.i64.wrap (v11.1 + 1)) + v15.1))).bind fun v16 =>
  some (4, v16.1, ())))
  ((chanceryref2_Digit (ofByte v1)).bind fun v17 =>
  cond v17.1
  ((chanceryref2_span_Digit a0).bind fun v18 =>
  ((cond (decide (v18.1 < (a0.length : Int)))
  ((idx a0 v18.1).bind fun v19 =>
  some ((decide ((ofByte v19) = 58)), ()))
  (some (false, ())) : Option (Bool × Unit)).bind fun r20 =>
  cond r20.1
  ((cut a0 (IntKind.i64.wrap (v18.1 + 1)) (a0.length : Int)).bind fun v21 =>
  (chanceryref2_span_refByte v21).bind fun v22 =>
  (cut a0 0 (IntKind.i64.wrap ((IntKind.i64.wrap (v18.1 + 1)) + v22.1))).bind fun v23 =>
  (chanceryref2_isRef v23).bind fun v24 =>
  cond v24.1
  (some (.inr (4, IntKind.i64.wrap ((IntKind.i64.wrap (v18.1 + 1)) + v22.1), ())))
  (some (.inl (()))))
  (some (.inl (()))) : Option (Unit ⊕ (Int × (Int × Unit)))).bind fun r25 =>
  (match r25 with
  | .inl _ => ((chanceryref2_numberLength a0).bind fun v27 =>
  some (1, v27.1, ()))
  | .inr z28 => (some z28)))
  (((chanceryref2_Letter (ofByte v1)).bind fun v29 =>
  cond v29.1
  (some (true, ()))
  (cond ((decide ((ofByte v1) = 95)))
  (some (true, ()))
  (some ((decide ((ofByte v1) = 36)), ()))) : Option (Bool × Unit)).bind fun r30 =>
  cond r30.1
  ((chanceryref2_wordToken a0).bind fun v31 =>
  some v31)
  (((chanceryref2_Has a0 [60, 61]).bind fun v32 =>
  cond v32.1
  (some (true, ()))
  ((chanceryref2_Has a0 [62, 61]).bind fun v33 =>
  cond (v33.1)
  (some (true, ()))
  ((chanceryref2_Has a0 [60, 62]).bind fun v34 =>
  some (v34.1, ()))) : Option (Bool × Unit)).bind fun r35 =>
  cond r35.1
  (some (8, 2, ()))
  ((chanceryref2_Index [43, 45, 42, 47, 94, 38, 61, 60, 62, 37, 40, 41, 44, 59, 123, 125] (ofByte v1)).bind fun v36 =>
  cond (decide (0 ≤ v36.1))
  (some (8, 1, ()))
  (some (8, 0, ())))))))))

noncomputable def chanceryref2_Scan_l1 (a0 : Str) (p1 : (Unit × (Int × ((List (Int × (Str × Unit))) × Unit)))) : Option ((Unit × (Int × ((List (Int × (Str × Unit))) × Unit))) ⊕ ((Unit × ((List (Int × (Str × Unit))) × Unit)) ⊕ (Unit × (Int × Unit)))) :=
  cond (decide (p1.2.1 < (a0.length : Int)))
  ((cut a0 p1.2.1 (a0.length : Int)).bind fun v2 =>
  (chanceryref2_Token v2).bind fun v3 =>
  cond (decide (v3.2.1 = 0))
  (some (.inr (.inr ((), p1.2.1, ()))))
  ((cut a0 p1.2.1 (IntKind.i64.wrap (p1.2.1 + v3.2.1))).bind fun v4 =>
  (cat p1.2.2.1 [(v3.1, v4, ())]).bind fun v5 =>
  some (.inl ((), IntKind.i64.wrap (p1.2.1 + v3.2.1), v5, ()))))
  (some (.inr (.inl ((), p1.2.2.1, ()))))

noncomputable def chanceryref2_Scan (a0 : Str) : Option ((List (Int × (Str × Unit))) × (Int × Unit)) :=
  (chanceryref2_Has a0 [61]).bind fun v1 =>
  cond (!v1.1)
  (some ([], 0, ()))
  ((loop (chanceryref2_Scan_l1 a0) ((), 1, [], ())).bind fun r6 =>
  (match r6 with
  | .inl z7 => (some (z7.2.1, (-1), ()))
  | .inr z8 => (some ([], z8.2.1, ()))))

noncomputable def chanceryref2_Copied_1 (a0 : Int) (a1 : Int) (a2 : Bool) : Option (Int × Unit) :=
  cond a2
  (some (a0, ()))
  (some (IntKind.i64.wrap (a0 + a1), ()))

noncomputable def chanceryref2_Copied (a0 : (Str × (Int × (Int × (Int × (Int × (Int × (Bool × (Bool × (Bool × (Bool × Unit))))))))))) (a1 : Int) (a2 : Int) : Option ((Str × (Int × (Int × (Int × (Int × (Int × (Bool × (Bool × (Bool × (Bool × Unit)))))))))) × Unit) :=
  let v1 : (Str × (Int × (Int × (Int × (Int × (Int × (Bool × (Bool × (Bool × (Bool × Unit)))))))))) := a0
  ((cond (!decide (a0.2.1 = 3))
  (some ((), (), (), (), (!decide (a0.2.1 = 4)), a0, ([], (0, (0, (0, (0, (0, (false, (false, (false, (false, ())))))))))), v1, ()))
  (some ((), (), (), (), false, a0, ([], (0, (0, (0, (0, (0, (false, (false, (false, (false, ())))))))))), v1, ())) : Option (Unit × (Unit × (Unit × (Unit × (Bool × ((Str × (Int × (Int × (Int × (Int × (Int × (Bool × (Bool × (Bool × (Bool × Unit)))))))))) × ((Str × (Int × (Int × (Int × (Int × (Int × (Bool × (Bool × (Bool × (Bool × Unit)))))))))) × ((Str × (Int × (Int × (Int × (Int × (Int × (Bool × (Bool × (Bool × (Bool × Unit)))))))))) × Unit))))))))).bind fun r2 =>
  cond r2.2.2.2.2.1
  ((chanceryref2_Copied_1 r2.2.2.2.2.2.1.2.2.1 a1 r2.2.2.2.2.2.1.2.2.2.2.2.2.1).bind fun v3 =>
  cond (!decide (r2.2.2.2.2.2.1.2.1 = 0))
  ((chanceryref2_Copied_1 r2.2.2.2.2.2.1.2.2.2.2.1 a1 r2.2.2.2.2.2.1.2.2.2.2.2.2.2.2.1).bind fun v4 =>
  some ((), (), (), (), r2.2.2.2.2.2.1, r2.2.2.2.2.2.2.1, (r2.2.2.2.2.2.2.2.1.1, (r2.2.2.2.2.2.2.2.1.2.1, (v3.1, (r2.2.2.2.2.2.2.2.1.2.2.2.1, (v4.1, r2.2.2.2.2.2.2.2.1.2.2.2.2.2))))), ()))
  (some ((), (), (), (), r2.2.2.2.2.2.1, r2.2.2.2.2.2.2.1, (r2.2.2.2.2.2.2.2.1.1, (r2.2.2.2.2.2.2.2.1.2.1, (v3.1, r2.2.2.2.2.2.2.2.1.2.2.2))), ())))
  (some ((), (), (), (), r2.2.2.2.2.2.1, r2.2.2.2.2.2.2.1, r2.2.2.2.2.2.2.2.1, ())) : Option (Unit × (Unit × (Unit × (Unit × ((Str × (Int × (Int × (Int × (Int × (Int × (Bool × (Bool × (Bool × (Bool × Unit)))))))))) × ((Str × (Int × (Int × (Int × (Int × (Int × (Bool × (Bool × (Bool × (Bool × Unit)))))))))) × ((Str × (Int × (Int × (Int × (Int × (Int × (Bool × (Bool × (Bool × (Bool × Unit)))))))))) × Unit)))))))).bind fun r5 =>
  ((cond (!decide (r5.2.2.2.2.1.2.1 = 2))
  (some ((), (), (), (), (!decide (r5.2.2.2.2.1.2.1 = 4)), r5.2.2.2.2.1, r5.2.2.2.2.2.1, r5.2.2.2.2.2.2.1, ()))
  (some ((), (), (), (), false, r5.2.2.2.2.1, r5.2.2.2.2.2.1, r5.2.2.2.2.2.2.1, ())) : Option (Unit × (Unit × (Unit × (Unit × (Bool × ((Str × (Int × (Int × (Int × (Int × (Int × (Bool × (Bool × (Bool × (Bool × Unit)))))))))) × ((Str × (Int × (Int × (Int × (Int × (Int × (Bool × (Bool × (Bool × (Bool × Unit)))))))))) × ((Str × (Int × (Int × (Int × (Int × (Int × (Bool × (Bool × (Bool × (Bool × Unit)))))))))) × Unit))))))))).bind fun r6 =>
  cond r6.2.2.2.2.1
  ((chanceryref2_Copied_1 r6.2.2.2.2.2.1.2.2.2.1 a2 r6.2.2.2.2.2.1.2.2.2.2.2.2.2.1).bind fun v7 =>
  cond (!decide (r6.2.2.2.2.2.1.2.1 = 0))
  ((chanceryref2_Copied_1 r6.2.2.2.2.2.1.2.2.2.2.2.1 a2 r6.2.2.2.2.2.1.2.2.2.2.2.2.2.2.2.1).bind fun v8 =>
  some ((), (), (), r6.2.2.2.2.2.1, r6.2.2.2.2.2.2.1, (r6.2.2.2.2.2.2.2.1.1, (r6.2.2.2.2.2.2.2.1.2.1, (r6.2.2.2.2.2.2.2.1.2.2.1, (v7.1, (r6.2.2.2.2.2.2.2.1.2.2.2.2.1, (v8.1, r6.2.2.2.2.2.2.2.1.2.2.2.2.2.2)))))), ()))
  (some ((), (), (), r6.2.2.2.2.2.1, r6.2.2.2.2.2.2.1, (r6.2.2.2.2.2.2.2.1.1, (r6.2.2.2.2.2.2.2.1.2.1, (r6.2.2.2.2.2.2.2.1.2.2.1, (v7.1, r6.2.2.2.2.2.2.2.1.2.2.2.2)))), ())))
  (some ((), (), (), r6.2.2.2.2.2.1, r6.2.2.2.2.2.2.1, r6.2.2.2.2.2.2.2.1, ())) : Option (Unit × (Unit × (Unit × ((Str × (Int × (Int × (Int × (Int × (Int × (Bool × (Bool × (Bool × (Bool × Unit)))))))))) × ((Str × (Int × (Int × (Int × (Int × (Int × (Bool × (Bool × (Bool × (Bool × Unit)))))))))) × ((Str × (Int × (Int × (Int × (Int × (Int × (Bool × (Bool × (Bool × (Bool × Unit)))))))))) × Unit))))))).bind fun r9 =>
  ((cond (decide (1 ≤ r9.2.2.2.1.2.1))
  (some ((), (), (decide (r9.2.2.2.1.2.1 ≤ 3)), r9.2.2.2.2.1, r9.2.2.2.2.2.1, ()))
  (some ((), (), false, r9.2.2.2.2.1, r9.2.2.2.2.2.1, ())) : Option (Unit × (Unit × (Bool × ((Str × (Int × (Int × (Int × (Int × (Int × (Bool × (Bool × (Bool × (Bool × Unit)))))))))) × ((Str × (Int × (Int × (Int × (Int × (Int × (Bool × (Bool × (Bool × (Bool × Unit)))))))))) × Unit)))))).bind fun r10 =>
  cond r10.2.2.1
  (let v11 : (Str × (Int × (Int × (Int × (Int × (Int × (Bool × (Bool × (Bool × (Bool × Unit)))))))))) := r10.2.2.2.2.1
  (chanceryref2_Sorted v11).bind fun v12 =>
  some ((), (), r10.2.2.2.1, v12.1, ()))
  (some ((), (), r10.2.2.2.1, r10.2.2.2.2.1, ())) : Option (Unit × (Unit × ((Str × (Int × (Int × (Int × (Int × (Int × (Bool × (Bool × (Bool × (Bool × Unit)))))))))) × ((Str × (Int × (Int × (Int × (Int × (Int × (Bool × (Bool × (Bool × (Bool × Unit)))))))))) × Unit))))).bind fun r13 =>
  ((chanceryref2_inside r13.2.2.2.1.2.2.1).bind fun v14 =>
  cond (!v14.1)
  (some ((), (), true, r13.2.2.1, r13.2.2.2.1, ()))
  ((chanceryref2_inside r13.2.2.2.1.2.2.2.2.1).bind fun v15 =>
  cond ((!v15.1))
  (some ((), (), true, r13.2.2.1, r13.2.2.2.1, ()))
  ((chanceryref2_inside r13.2.2.2.1.2.2.2.1).bind fun v16 =>
  cond ((!v16.1))
  (some ((), (), true, r13.2.2.1, r13.2.2.2.1, ()))
  ((chanceryref2_inside r13.2.2.2.1.2.2.2.2.2.1).bind fun v17 =>
  some ((), (), (!v17.1), r13.2.2.1, r13.2.2.2.1, ())))) : Option (Unit × (Unit × (Bool × ((Str × (Int × (Int × (Int × (Int × (Int × (Bool × (Bool × (Bool × (Bool × Unit)))))))))) × ((Str × (Int × (Int × (Int × (Int × (Int × (Bool × (Bool × (Bool × (Bool × Unit)))))))))) × Unit)))))).bind fun r18 =>
  cond r18.2.2.1
  (some (([], (4, (0, (0, (0, (0, (false, (false, (false, (false, ())))))))))), ()))
  (let v19 : (Str × (Int × (Int × (Int × (Int × (Int × (Bool × (Bool × (Bool × (Bool × Unit)))))))))) := r18.2.2.2.2.1
  some (v19, ()))

noncomputable def chancerylaw2_ScanCopiedAndMoved_1 (a0 : (Str × (Int × (Int × (Int × (Int × (Int × (Bool × (Bool × (Bool × (Bool × Unit))))))))))) (o0 : Int) (o1 : Int) : Option ((Str × (Int × (Int × (Int × (Int × (Int × (Bool × (Bool × (Bool × (Bool × Unit)))))))))) × (Unit × (Unit × ((Int × Unit) × ((Int × Unit) × Unit))))) :=
  let v1 : (Str × (Int × (Int × (Int × (Int × (Int × (Bool × (Bool × (Bool × (Bool × Unit)))))))))) := a0
  (chanceryref2_Copied v1 o0 o1).bind fun v2 =>
  some (v2.1, (), (), (o0, ()), (o1, ()), ())

noncomputable def chanceryref2_Letters_l1 (p1 : (Int × (Int × (Int × Unit)))) : Option ((Int × (Int × (Int × Unit))) ⊕ (Int × (Int × Unit))) :=
  cond (decide (p1.2.2.1 ≤ p1.1))
  (some (.inl (IntKind.i64.wrap (p1.1 - p1.2.2.1), IntKind.i64.wrap (p1.2.1 + 1), IntKind.i64.wrap (p1.2.2.1 * 26), ())))
  (some (.inr (p1.1, p1.2.1, ())))

noncomputable def chanceryref2_Letters_l2 (p2 : (Int × (Unit × (Int × ((List Int) × Unit))))) : Option ((Int × (Unit × (Int × ((List Int) × Unit)))) ⊕ (Unit × ((List Int) × Unit))) :=
  cond (decide (0 ≤ p2.2.2.1))
  ((rem p2.1 26).bind fun v3 =>
  (chk (inb p2.2.2.1 p2.2.2.2.1.length)).bind fun _ =>
  let v4 : List Int := p2.2.2.2.1.set p2.2.2.1.toNat (IntKind.u8.wrap (IntKind.i64.wrap (65 + v3)))
  (quo .i64 p2.1 26).bind fun v5 =>
  some (.inl (v5, (), IntKind.i64.wrap (p2.2.2.1 - 1), v4, ())))
  (some (.inr ((), p2.2.2.2.1, ())))

noncomputable def chanceryref2_Letters (a0 : Int) : Option (Str × Unit) :=
  (loop chanceryref2_Letters_l1 (a0, 1, 26, ())).bind fun r1 =>
  (mk r1.2.1 r1.2.1 0).bind fun v2 =>
  (loop chanceryref2_Letters_l2 (r1.1, (), IntKind.i64.wrap (r1.2.1 - 1), v2, ())).bind fun r6 =>
  some (bytesStr r6.2.1, ())

noncomputable def chanceryref2_mark (a0 : Str) (a1 : Bool) : Option (Str × Unit) :=
  cond a1
  ((cat [36] a0).bind fun v1 =>
  some (v1, ()))
  (some (a0, ()))

noncomputable def chanceryref2_Decimal_s (rec : Int → Option (Str × Unit)) (a0 : Int) : Option (Str × Unit) :=
  cond (decide (a0 ≤ (-10)))
  ((quo .i64 a0 10).bind fun v1 =>
  (rec v1).bind fun v2 =>
  (rem a0 10).bind fun v3 =>
  (cat v2.1 (bytesStr [IntKind.u8.wrap (IntKind.i64.wrap (48 - v3))])).bind fun v4 =>
  some (v4, ()))
  (cond (decide (a0 < 0))
  ((cat [45] (bytesStr [IntKind.u8.wrap (IntKind.i64.wrap (48 - a0))])).bind fun v5 =>
  some (v5, ()))
  (cond (decide (10 ≤ a0))
  ((quo .i64 a0 10).bind fun v6 =>
  (rec v6).bind fun v7 =>
  (rem a0 10).bind fun v8 =>
  (cat v7.1 (bytesStr [IntKind.u8.wrap (IntKind.i64.wrap (48 + v8))])).bind fun v9 =>
  some (v9, ()))
  (some (bytesStr [IntKind.u8.wrap (IntKind.i64.wrap (48 + a0))], ()))))

noncomputable def chanceryref2_Decimal_f : Nat → Int → Option (Str × Unit)
  | 0 => fun _ => none
  | n + 1 => chanceryref2_Decimal_s (chanceryref2_Decimal_f n)

noncomputable def chanceryref2_Decimal (a0 : Int) : Option (Str × Unit) := chanceryref2_Decimal_f rounds a0

noncomputable def chanceryref2_RefText_l1 (a0 : (Str × (Int × (Int × (Int × (Int × (Int × (Bool × (Bool × (Bool × (Bool × Unit))))))))))) (p1 : (Unit × (Str × (Int × ((Str × (Int × (Int × (Int × (Int × (Int × (Bool × (Bool × (Bool × (Bool × Unit)))))))))) × Unit))))) : Option ((Unit × (Str × (Int × ((Str × (Int × (Int × (Int × (Int × (Int × (Bool × (Bool × (Bool × (Bool × Unit)))))))))) × Unit)))) ⊕ (Unit × (Str × ((Str × (Int × (Int × (Int × (Int × (Int × (Bool × (Bool × (Bool × (Bool × Unit)))))))))) × Unit)))) :=
  cond (decide (p1.2.2.1 < (a0.1.length : Int)))
  (((cut p1.2.2.2.1.1 p1.2.2.1 (IntKind.i64.wrap (p1.2.2.1 + 1))).bind fun v2 =>
  (cat p1.2.1 v2).bind fun v3 =>
  (idx p1.2.2.2.1.1 p1.2.2.1).bind fun v4 =>
  cond (decide ((ofByte v4) = 39))
  ((cat v3 [39]).bind fun v5 =>
  some ((), v5, p1.2.2.2.1, ()))
  (some ((), v3, p1.2.2.2.1, ())) : Option (Unit × (Str × ((Str × (Int × (Int × (Int × (Int × (Int × (Bool × (Bool × (Bool × (Bool × Unit)))))))))) × Unit)))).bind fun r6 =>
  some (.inl ((), r6.2.1, IntKind.i64.wrap (p1.2.2.1 + 1), r6.2.2.1, ())))
  (some (.inr ((), p1.2.1, p1.2.2.2.1, ())))

noncomputable def chanceryref2_RefText (a0 : (Str × (Int × (Int × (Int × (Int × (Int × (Bool × (Bool × (Bool × (Bool × Unit))))))))))) : Option (Str × Unit) :=
  cond (decide (a0.2.1 = 4))
  (some ([35, 82, 69, 70, 33], ()))
  ((cond (!decide (a0.1 = []))
  (((chanceryref2_Plain a0.1).bind fun v1 =>
  cond (!v1.1)
  ((loop (chanceryref2_RefText_l1 a0) ((), [39], 0, a0, ())).bind fun r7 =>
  (cat r7.2.1 [39]).bind fun v8 =>
  some ((), v8, r7.2.2.1, ()))
  (some ((), a0.1, a0, ())) : Option (Unit × (Str × ((Str × (Int × (Int × (Int × (Int × (Int × (Bool × (Bool × (Bool × (Bool × Unit)))))))))) × Unit)))).bind fun r9 =>
  (cat r9.2.1 [33]).bind fun v10 =>
  some ((), v10, r9.2.2.1, ()))
  (some ((), [], a0, ())) : Option (Unit × (Str × ((Str × (Int × (Int × (Int × (Int × (Int × (Bool × (Bool × (Bool × (Bool × Unit)))))))))) × Unit)))).bind fun r11 =>
  (cond (!decide (r11.2.2.1.2.1 = 2))
  ((chanceryref2_Letters r11.2.2.1.2.2.2.1).bind fun v12 =>
  (chanceryref2_mark v12.1 r11.2.2.1.2.2.2.2.2.2.2.1).bind fun v13 =>
  (chk (inb 0 2)).bind fun _ =>
  let v14 : List Str := (List.replicate 2 []).set (0 : Int).toNat v13.1
  (chanceryref2_Letters r11.2.2.1.2.2.2.2.2.1).bind fun v15 =>
  (chanceryref2_mark v15.1 r11.2.2.1.2.2.2.2.2.2.2.2.2.1).bind fun v16 =>
  (chk (inb 1 2)).bind fun _ =>
  let v17 : List Str := v14.set (1 : Int).toNat v16.1
  some ((), (), r11.2.2.1, v17, ()))
  (some ((), (), r11.2.2.1, (List.replicate 2 []), ())) : Option (Unit × (Unit × ((Str × (Int × (Int × (Int × (Int × (Int × (Bool × (Bool × (Bool × (Bool × Unit)))))))))) × ((List Str) × Unit))))).bind fun r18 =>
  (cond (!decide (r18.2.2.1.2.1 = 3))
  ((chk (inb 0 2)).bind fun _ =>
  (chanceryref2_Decimal (IntKind.i64.wrap (r18.2.2.1.2.2.1 + 1))).bind fun v19 =>
  (chanceryref2_mark v19.1 r18.2.2.1.2.2.2.2.2.2.1).bind fun v20 =>
  (cat (r18.2.2.2.1.getD (0 : Int).toNat []) v20.1).bind fun v21 =>
  (chk (inb 0 2)).bind fun _ =>
  let v22 : List Str := r18.2.2.2.1.set (0 : Int).toNat v21
  (chk (inb 1 2)).bind fun _ =>
  (chanceryref2_Decimal (IntKind.i64.wrap (r18.2.2.1.2.2.2.2.1 + 1))).bind fun v23 =>
  (chanceryref2_mark v23.1 r18.2.2.1.2.2.2.2.2.2.2.2.1).bind fun v24 =>
  (cat (v22.getD (1 : Int).toNat []) v24.1).bind fun v25 =>
  (chk (inb 1 2)).bind fun _ =>
  let v26 : List Str := v22.set (1 : Int).toNat v25
  some ((), (), r18.2.2.1, v26, ()))
  (some ((), (), r18.2.2.1, r18.2.2.2.1, ())) : Option (Unit × (Unit × ((Str × (Int × (Int × (Int × (Int × (Int × (Bool × (Bool × (Bool × (Bool × Unit)))))))))) × ((List Str) × Unit))))).bind fun r27 =>
  cond (decide (r27.2.2.1.2.1 = 0))
  ((chk (inb 0 2)).bind fun _ =>
  (cat r11.2.1 (r27.2.2.2.1.getD (0 : Int).toNat [])).bind fun v28 =>
  some (v28, ()))
  ((chk (inb 0 2)).bind fun _ =>
  (cat r11.2.1 (r27.2.2.2.1.getD (0 : Int).toNat [])).bind fun v29 =>
  (cat v29 [58]).bind fun v30 =>
  (chk (inb 1 2)).bind fun _ =>
  (cat v30 (r27.2.2.2.1.getD (1 : Int).toNat [])).bind fun v31 =>
  some (v31, ())))

noncomputable def chanceryref2_Rewritten_ScanCopiedAndMoved_1_l1 (v1 : ((List (Int × (Str × Unit))) × (Int × Unit))) (p1 : ((Unit × (Unit × Unit)) × (Str × (Int × ((Int × Unit) × ((Int × Unit) × Unit)))))) : Option (((Unit × (Unit × Unit)) × (Str × (Int × ((Int × Unit) × ((Int × Unit) × Unit))))) ⊕ ((Unit × (Unit × Unit)) × (Str × ((Int × Unit) × ((Int × Unit) × Unit))))) :=
  cond (decide (p1.2.2.1 < (v1.1.length : Int)))
  ((idx v1.1 p1.2.2.1).bind fun v2 =>
  (cond (decide (v2.1 = 4))
  ((chanceryref2_ReadRef v2.2.1).bind fun v3 =>
  let v4 : (Str × (Int × (Int × (Int × (Int × (Int × (Bool × (Bool × (Bool × (Bool × Unit)))))))))) := v3.1
  (chancerylaw2_ScanCopiedAndMoved_1 v4 p1.2.2.2.1.1 p1.2.2.2.2.1.1).bind fun v5 =>
  let v6 : (Str × (Int × (Int × (Int × (Int × (Int × (Bool × (Bool × (Bool × (Bool × Unit)))))))))) := v5.1
  let v7 : (Str × (Int × (Int × (Int × (Int × (Int × (Bool × (Bool × (Bool × (Bool × Unit)))))))))) := v3.1
  cond (!Ty.beq (.pair .str (.pair (.int .i64) (.pair (.int .i64) (.pair (.int .i64) (.pair (.int .i64) (.pair (.int .i64) (.pair .bool (.pair .bool (.pair .bool (.pair .bool .unit)))))))))) v6 v7)
  (let v8 : (Str × (Int × (Int × (Int × (Int × (Int × (Bool × (Bool × (Bool × (Bool × Unit)))))))))) := v5.1
  (chanceryref2_RefText v8).bind fun v9 =>
  some (((), ((), ())), (), v5.2.2.2.1, v5.2.2.2.2.1, (v2.1, v9), ()))
  (some (((), ((), ())), (), v5.2.2.2.1, v5.2.2.2.2.1, v2, ())))
  (some (((), ((), ())), (), p1.2.2.2.1, p1.2.2.2.2.1, v2, ())) : Option ((Unit × (Unit × Unit)) × (Unit × ((Int × Unit) × ((Int × Unit) × ((Int × (Str × Unit)) × Unit)))))).bind fun r10 =>
  (cat p1.2.1 r10.2.2.2.2.1.2.1).bind fun v11 =>
  some (.inl (((), ((), ())), v11, IntKind.i64.wrap (p1.2.2.1 + 1), r10.2.2.1, r10.2.2.2.1, ())))
  (some (.inr (((), ((), ())), p1.2.1, p1.2.2.2.1, p1.2.2.2.2.1, ())))

noncomputable def chanceryref2_Rewritten_ScanCopiedAndMoved_1 (a0 : Str) (o0 : Int) (o1 : Int) : Option (Str × ((Unit × (Unit × Unit)) × ((Int × Unit) × ((Int × Unit) × Unit)))) :=
  (chanceryref2_Scan a0).bind fun v1 =>
  cond (decide (0 ≤ v1.2.1))
  (some (a0, ((), ((), ())), (o0, ()), (o1, ()), ()))
  ((loop (chanceryref2_Rewritten_ScanCopiedAndMoved_1_l1 v1) (((), ((), ())), [61], 0, (o0, ()), (o1, ()), ())).bind fun r12 =>
  some (r12.2.1, ((), ((), ())), r12.2.2.1, r12.2.2.2.1, ()))

noncomputable def chancerylaw2_blockError (a0 : (Int × (Int × (Int × (Int × Unit))))) (a1 : Int) (a2 : Int) : Option (Int × Unit) :=
  (cond (decide (a0.1 < 0))
  (some (true, ()))
  (cond ((decide (1073741824 ≤ a0.1)))
  (some (true, ()))
  (cond ((decide (a0.2.1 < 0)))
  (some (true, ()))
  (cond ((decide (1073741824 ≤ a0.2.1)))
  (some (true, ()))
  (cond ((decide (a0.2.2.1 < 1)))
  (some (true, ()))
  (cond ((decide (1073741824 < a0.2.2.1)))
  (some (true, ()))
  (cond ((decide (a0.2.2.2.1 < 1)))
  (some (true, ()))
  (cond ((decide (1073741824 < a0.2.2.2.1)))
  (some (true, ()))
  ((chancerylaw2_far a1).bind fun v1 =>
  cond (v1.1)
  (some (true, ()))
  ((chancerylaw2_far a2).bind fun v2 =>
  some (v2.1, ())))))))))) : Option (Bool × Unit)).bind fun r3 =>
  cond r3.1
  (some (2, ()))
  (some (0, ()))

noncomputable def chanceryref2_Belongs (a0 : (Str × (Int × (Int × (Int × (Int × (Int × (Bool × (Bool × (Bool × (Bool × Unit))))))))))) (a1 : Str) (a2 : Bool) : Option (Bool × Unit) :=
  cond (decide (a0.1 = []))
  (cond (a2)
  (some (true, ()))
  (cond (!decide (a0.1 = []))
  (some (((decide (a0.1 = a1))), ()))
  (some (false, ()))))
  (cond (!decide (a0.1 = []))
  (some (((decide (a0.1 = a1))), ()))
  (some (false, ())))

noncomputable def chanceryref2_Moved (a0 : (Str × (Int × (Int × (Int × (Int × (Int × (Bool × (Bool × (Bool × (Bool × Unit))))))))))) (a1 : (Int × (Int × (Int × (Int × Unit))))) (a2 : Int) (a3 : Int) : Option ((Str × (Int × (Int × (Int × (Int × (Int × (Bool × (Bool × (Bool × (Bool × Unit)))))))))) × Unit) :=
  cond (decide (1 < a0.2.1))
  (let v1 : (Str × (Int × (Int × (Int × (Int × (Int × (Bool × (Bool × (Bool × (Bool × Unit)))))))))) := a0
  some (v1, ()))
  (let v2 : (Str × (Int × (Int × (Int × (Int × (Int × (Bool × (Bool × (Bool × (Bool × Unit)))))))))) := a0
  (cond (decide (a0.2.1 = 0))
  (some ((), (), (), (), a0, a1, ([], (0, (0, (0, (0, (0, (false, (false, (false, (false, ())))))))))), (v2.1, (v2.2.1, (v2.2.2.1, (v2.2.2.2.1, (a0.2.2.1, (a0.2.2.2.1, v2.2.2.2.2.2.2)))))), ()))
  (some ((), (), (), (), a0, a1, ([], (0, (0, (0, (0, (0, (false, (false, (false, (false, ())))))))))), v2, ())) : Option (Unit × (Unit × (Unit × (Unit × ((Str × (Int × (Int × (Int × (Int × (Int × (Bool × (Bool × (Bool × (Bool × Unit)))))))))) × ((Int × (Int × (Int × (Int × Unit)))) × ((Str × (Int × (Int × (Int × (Int × (Int × (Bool × (Bool × (Bool × (Bool × Unit)))))))))) × ((Str × (Int × (Int × (Int × (Int × (Int × (Bool × (Bool × (Bool × (Bool × Unit)))))))))) × Unit))))))))).bind fun r3 =>
  (cond (decide (r3.2.2.2.2.2.2.2.1.2.2.1 < r3.2.2.2.2.2.1.1))
  (some ((), (), (), true, r3.2.2.2.2.1, r3.2.2.2.2.2.2.1, r3.2.2.2.2.2.2.2.1, ()))
  (let v4 : Bool := (decide (r3.2.2.2.2.2.2.2.1.2.2.2.1 < r3.2.2.2.2.2.1.2.1))
  cond v4
  (some ((), (), (), true, r3.2.2.2.2.1, r3.2.2.2.2.2.2.1, r3.2.2.2.2.2.2.2.1, ()))
  (let v5 : Int := IntKind.i64.wrap ((IntKind.i64.wrap (r3.2.2.2.2.2.1.1 + r3.2.2.2.2.2.1.2.2.1)) - 1)
  cond ((decide (v5 < r3.2.2.2.2.2.2.2.1.2.2.2.2.1)))
  (some ((), (), (), true, r3.2.2.2.2.1, r3.2.2.2.2.2.2.1, r3.2.2.2.2.2.2.2.1, ()))
  (let v6 : Int := IntKind.i64.wrap (r3.2.2.2.2.2.1.2.1 + r3.2.2.2.2.2.1.2.2.2.1)
  let v7 : Bool := (decide ((IntKind.i64.wrap (v6 - 1)) < r3.2.2.2.2.2.2.2.1.2.2.2.2.2.1))
  some ((), (), (), v7, r3.2.2.2.2.1, r3.2.2.2.2.2.2.1, r3.2.2.2.2.2.2.2.1, ())))) : Option (Unit × (Unit × (Unit × (Bool × ((Str × (Int × (Int × (Int × (Int × (Int × (Bool × (Bool × (Bool × (Bool × Unit)))))))))) × ((Str × (Int × (Int × (Int × (Int × (Int × (Bool × (Bool × (Bool × (Bool × Unit)))))))))) × ((Str × (Int × (Int × (Int × (Int × (Int × (Bool × (Bool × (Bool × (Bool × Unit)))))))))) × Unit)))))))).bind fun r8 =>
  cond r8.2.2.2.1
  (let v9 : (Str × (Int × (Int × (Int × (Int × (Int × (Bool × (Bool × (Bool × (Bool × Unit)))))))))) := r8.2.2.2.2.1
  some (v9, ()))
  (((chanceryref2_inside (IntKind.i64.wrap (r8.2.2.2.2.2.2.1.2.2.1 + a2))).bind fun v10 =>
  cond (!v10.1)
  (some ((), (), (), true, r8.2.2.2.2.1, r8.2.2.2.2.2.1, (r8.2.2.2.2.2.2.1.1, (r8.2.2.2.2.2.2.1.2.1, (IntKind.i64.wrap (r8.2.2.2.2.2.2.1.2.2.1 + a2), (IntKind.i64.wrap (r8.2.2.2.2.2.2.1.2.2.2.1 + a3), (IntKind.i64.wrap (r8.2.2.2.2.2.2.1.2.2.2.2.1 + a2), (IntKind.i64.wrap (r8.2.2.2.2.2.2.1.2.2.2.2.2.1 + a3), r8.2.2.2.2.2.2.1.2.2.2.2.2.2)))))), ()))
  ((chanceryref2_inside (IntKind.i64.wrap (r8.2.2.2.2.2.2.1.2.2.2.2.1 + a2))).bind fun v11 =>
  cond ((!v11.1))
  (some ((), (), (), true, r8.2.2.2.2.1, r8.2.2.2.2.2.1, (r8.2.2.2.2.2.2.1.1, (r8.2.2.2.2.2.2.1.2.1, (IntKind.i64.wrap (r8.2.2.2.2.2.2.1.2.2.1 + a2), (IntKind.i64.wrap (r8.2.2.2.2.2.2.1.2.2.2.1 + a3), (IntKind.i64.wrap (r8.2.2.2.2.2.2.1.2.2.2.2.1 + a2), (IntKind.i64.wrap (r8.2.2.2.2.2.2.1.2.2.2.2.2.1 + a3), r8.2.2.2.2.2.2.1.2.2.2.2.2.2)))))), ()))
  ((chanceryref2_inside (IntKind.i64.wrap (r8.2.2.2.2.2.2.1.2.2.2.1 + a3))).bind fun v12 =>
  cond ((!v12.1))
  (some ((), (), (), true, r8.2.2.2.2.1, r8.2.2.2.2.2.1, (r8.2.2.2.2.2.2.1.1, (r8.2.2.2.2.2.2.1.2.1, (IntKind.i64.wrap (r8.2.2.2.2.2.2.1.2.2.1 + a2), (IntKind.i64.wrap (r8.2.2.2.2.2.2.1.2.2.2.1 + a3), (IntKind.i64.wrap (r8.2.2.2.2.2.2.1.2.2.2.2.1 + a2), (IntKind.i64.wrap (r8.2.2.2.2.2.2.1.2.2.2.2.2.1 + a3), r8.2.2.2.2.2.2.1.2.2.2.2.2.2)))))), ()))
  ((chanceryref2_inside (IntKind.i64.wrap (r8.2.2.2.2.2.2.1.2.2.2.2.2.1 + a3))).bind fun v13 =>
  some ((), (), (), (!v13.1), r8.2.2.2.2.1, r8.2.2.2.2.2.1, (r8.2.2.2.2.2.2.1.1, (r8.2.2.2.2.2.2.1.2.1, (IntKind.i64.wrap (r8.2.2.2.2.2.2.1.2.2.1 + a2), (IntKind.i64.wrap (r8.2.2.2.2.2.2.1.2.2.2.1 + a3), (IntKind.i64.wrap (r8.2.2.2.2.2.2.1.2.2.2.2.1 + a2), (IntKind.i64.wrap (r8.2.2.2.2.2.2.1.2.2.2.2.2.1 + a3), r8.2.2.2.2.2.2.1.2.2.2.2.2.2)))))), ())))) : Option (Unit × (Unit × (Unit × (Bool × ((Str × (Int × (Int × (Int × (Int × (Int × (Bool × (Bool × (Bool × (Bool × Unit)))))))))) × ((Str × (Int × (Int × (Int × (Int × (Int × (Bool × (Bool × (Bool × (Bool × Unit)))))))))) × ((Str × (Int × (Int × (Int × (Int × (Int × (Bool × (Bool × (Bool × (Bool × Unit)))))))))) × Unit)))))))).bind fun r14 =>
  cond r14.2.2.2.1
  (some (([], (4, (0, (0, (0, (0, (false, (false, (false, (false, ())))))))))), ()))
  ((cond (decide (r14.2.2.2.2.1.2.1 = 0))
  (some ((), (), r14.2.2.2.2.2.1, (r14.2.2.2.2.2.2.1.1, (r14.2.2.2.2.2.2.1.2.1, (r14.2.2.2.2.2.2.1.2.2.1, (r14.2.2.2.2.2.2.1.2.2.2.1, (0, (0, r14.2.2.2.2.2.2.1.2.2.2.2.2.2)))))), ()))
  (some ((), (), r14.2.2.2.2.2.1, r14.2.2.2.2.2.2.1, ())) : Option (Unit × (Unit × ((Str × (Int × (Int × (Int × (Int × (Int × (Bool × (Bool × (Bool × (Bool × Unit)))))))))) × ((Str × (Int × (Int × (Int × (Int × (Int × (Bool × (Bool × (Bool × (Bool × Unit)))))))))) × Unit))))).bind fun r15 =>
  let v16 : (Str × (Int × (Int × (Int × (Int × (Int × (Bool × (Bool × (Bool × (Bool × Unit)))))))))) := r15.2.2.2.1
  some (v16, ()))))

noncomputable def chancerylaw2_ScanCopiedAndMoved_2 (a0 : (Str × (Int × (Int × (Int × (Int × (Int × (Bool × (Bool × (Bool × (Bool × Unit))))))))))) (o0 : Str) (o1 : Bool) (o2 : Int) (o2_1 : Int) (o2_2 : Int) (o2_3 : Int) (o3 : Int) (o4 : Int) : Option ((Str × (Int × (Int × (Int × (Int × (Int × (Bool × (Bool × (Bool × (Bool × Unit)))))))))) × (Unit × (Unit × (Unit × (Unit × (Unit × ((Str × Unit) × ((Bool × Unit) × ((Int × (Int × (Int × (Int × Unit)))) × ((Int × Unit) × ((Int × Unit) × Unit))))))))))) :=
  let v1 : (Str × (Int × (Int × (Int × (Int × (Int × (Bool × (Bool × (Bool × (Bool × Unit)))))))))) := a0
  (chanceryref2_Belongs v1 o0 o1).bind fun v2 =>
  cond v2.1
  (let v3 : (Str × (Int × (Int × (Int × (Int × (Int × (Bool × (Bool × (Bool × (Bool × Unit)))))))))) := a0
  (chanceryref2_Moved v3 (o2, (o2_1, (o2_2, (o2_3, ())))) o3 o4).bind fun v4 =>
  some (v4.1, (), (), (), (), (), (o0, ()), (o1, ()), (o2, (o2_1, (o2_2, (o2_3, ())))), (o3, ()), (o4, ()), ()))
  (let v5 : (Str × (Int × (Int × (Int × (Int × (Int × (Bool × (Bool × (Bool × (Bool × Unit)))))))))) := a0
  some (v5, (), (), (), (), (), (o0, ()), (o1, ()), (o2, (o2_1, (o2_2, (o2_3, ())))), (o3, ()), (o4, ()), ()))

noncomputable def chanceryref2_Rewritten_ScanCopiedAndMoved_2_l1 (v1 : ((List (Int × (Str × Unit))) × (Int × Unit))) (p1 : ((Unit × (Unit × (Unit × (Unit × (Unit × Unit))))) × (Str × (Int × ((Str × Unit) × ((Bool × Unit) × ((Int × (Int × (Int × (Int × Unit)))) × ((Int × Unit) × ((Int × Unit) × Unit))))))))) : Option (((Unit × (Unit × (Unit × (Unit × (Unit × Unit))))) × (Str × (Int × ((Str × Unit) × ((Bool × Unit) × ((Int × (Int × (Int × (Int × Unit)))) × ((Int × Unit) × ((Int × Unit) × Unit)))))))) ⊕ ((Unit × (Unit × (Unit × (Unit × (Unit × Unit))))) × (Str × ((Str × Unit) × ((Bool × Unit) × ((Int × (Int × (Int × (Int × Unit)))) × ((Int × Unit) × ((Int × Unit) × Unit)))))))) :=
  cond (decide (p1.2.2.1 < (v1.1.length : Int)))
  ((idx v1.1 p1.2.2.1).bind fun v2 =>
  (cond (decide (v2.1 = 4))
  ((chanceryref2_ReadRef v2.2.1).bind fun v3 =>
  let v4 : (Str × (Int × (Int × (Int × (Int × (Int × (Bool × (Bool × (Bool × (Bool × Unit)))))))))) := v3.1
  (chancerylaw2_ScanCopiedAndMoved_2 v4 p1.2.2.2.1.1 p1.2.2.2.2.1.1 p1.2.2.2.2.2.1.1 p1.2.2.2.2.2.1.2.1 p1.2.2.2.2.2.1.2.2.1 p1.2.2.2.2.2.1.2.2.2.1 p1.2.2.2.2.2.2.1.1 p1.2.2.2.2.2.2.2.1.1).bind fun v5 =>
  let v6 : (Str × (Int × (Int × (Int × (Int × (Int × (Bool × (Bool × (Bool × (Bool × Unit)))))))))) := v5.1
  let v7 : (Str × (Int × (Int × (Int × (Int × (Int × (Bool × (Bool × (Bool × (Bool × Unit)))))))))) := v3.1
  cond (!Ty.beq (.pair .str (.pair (.int .i64) (.pair (.int .i64) (.pair (.int .i64) (.pair (.int .i64) (.pair (.int .i64) (.pair .bool (.pair .bool (.pair .bool (.pair .bool .unit)))))))))) v6 v7)
  (let v8 : (Str × (Int × (Int × (Int × (Int × (Int × (Bool × (Bool × (Bool × (Bool × Unit)))))))))) := v5.1
  (chanceryref2_RefText v8).bind fun v9 =>
  some (((), ((), ((), ((), ((), ()))))), (), v5.2.2.2.2.2.2.1, v5.2.2.2.2.2.2.2.1, v5.2.2.2.2.2.2.2.2.1, v5.2.2.2.2.2.2.2.2.2.1, v5.2.2.2.2.2.2.2.2.2.2.1, (v2.1, v9), ()))
  (some (((), ((), ((), ((), ((), ()))))), (), v5.2.2.2.2.2.2.1, v5.2.2.2.2.2.2.2.1, v5.2.2.2.2.2.2.2.2.1, v5.2.2.2.2.2.2.2.2.2.1, v5.2.2.2.2.2.2.2.2.2.2.1, v2, ())))
  (some (((), ((), ((), ((), ((), ()))))), (), p1.2.2.2.1, p1.2.2.2.2.1, p1.2.2.2.2.2.1, p1.2.2.2.2.2.2.1, p1.2.2.2.2.2.2.2.1, v2, ())) : Option ((Unit × (Unit × (Unit × (Unit × (Unit × Unit))))) × (Unit × ((Str × Unit) × ((Bool × Unit) × ((Int × (Int × (Int × (Int × Unit)))) × ((Int × Unit) × ((Int × Unit) × ((Int × (Str × Unit)) × Unit))))))))).bind fun r10 =>
  (cat p1.2.1 r10.2.2.2.2.2.2.2.1.2.1).bind fun v11 =>
  some (.inl (((), ((), ((), ((), ((), ()))))), v11, IntKind.i64.wrap (p1.2.2.1 + 1), r10.2.2.1, r10.2.2.2.1, r10.2.2.2.2.1, r10.2.2.2.2.2.1, r10.2.2.2.2.2.2.1, ())))
  (some (.inr (((), ((), ((), ((), ((), ()))))), p1.2.1, p1.2.2.2.1, p1.2.2.2.2.1, p1.2.2.2.2.2.1, p1.2.2.2.2.2.2.1, p1.2.2.2.2.2.2.2.1, ())))

noncomputable def chanceryref2_Rewritten_ScanCopiedAndMoved_2 (a0 : Str) (o0 : Str) (o1 : Bool) (o2 : Int) (o2_1 : Int) (o2_2 : Int) (o2_3 : Int) (o3 : Int) (o4 : Int) : Option (Str × ((Unit × (Unit × (Unit × (Unit × (Unit × Unit))))) × ((Str × Unit) × ((Bool × Unit) × ((Int × (Int × (Int × (Int × Unit)))) × ((Int × Unit) × ((Int × Unit) × Unit))))))) :=
  (chanceryref2_Scan a0).bind fun v1 =>
  cond (decide (0 ≤ v1.2.1))
  (some (a0, ((), ((), ((), ((), ((), ()))))), (o0, ()), (o1, ()), (o2, (o2_1, (o2_2, (o2_3, ())))), (o3, ()), (o4, ()), ()))
  ((loop (chanceryref2_Rewritten_ScanCopiedAndMoved_2_l1 v1) (((), ((), ((), ((), ((), ()))))), [61], 0, (o0, ()), (o1, ()), (o2, (o2_1, (o2_2, (o2_3, ())))), (o3, ()), (o4, ()), ())).bind fun r12 =>
  some (r12.2.1, ((), ((), ((), ((), ((), ()))))), r12.2.2.1, r12.2.2.2.1, r12.2.2.2.2.1, r12.2.2.2.2.2.1, r12.2.2.2.2.2.2.1, ()))

noncomputable def chancerylaw2_ScanCopiedAndMoved (a0 : Str) (a1 : Str) (a2 : Bool) (a3 : (Int × (Int × (Int × (Int × Unit))))) (a4 : Int) (a5 : Int) : Option (Bool × Unit) :=
  (chancerylaw2_scans).bind fun v1 =>
  cond (!v1.1)
  (some (false, ()))
  ((chancerylaw2_long a0).bind fun v2 =>
  (fscan_Copied v2.1 a4 a5).bind fun v3 =>
  (fscan_Moved v2.1 a1 a2 a3 a4 a5).bind fun v4 =>
  ((chancerylaw2_far a4).bind fun v5 =>
  cond v5.1
  (some ((), (), (), (), (), true, (a1, ()), (a2, ()), a3, (a4, ()), (a5, ()), ()))
  ((chancerylaw2_far a5).bind fun v6 =>
  some ((), (), (), (), (), v6.1, (a1, ()), (a2, ()), a3, (a4, ()), (a5, ()), ())) : Option (Unit × (Unit × (Unit × (Unit × (Unit × (Bool × ((Str × Unit) × ((Bool × Unit) × ((Int × (Int × (Int × (Int × Unit)))) × ((Int × Unit) × ((Int × Unit) × Unit)))))))))))).bind fun r7 =>
  cond r7.2.2.2.2.2.1
  (cond (decide (v3.1 = []))
  (cond ((decide (v3.2.1 = 2)))
  (cond ((decide (v4.1 = [])))
  (some ((decide (v4.2.1 = 2)), ()))
  (some (false, ())))
  (some (false, ())))
  (some (false, ())))
  ((cond (!decide (v3.2.1 = 0))
  (some ((), (), (), (), (), true, r7.2.2.2.2.2.2.1, r7.2.2.2.2.2.2.2.1, r7.2.2.2.2.2.2.2.2.1, r7.2.2.2.2.2.2.2.2.2.1, r7.2.2.2.2.2.2.2.2.2.2.1, ()))
  ((chanceryref2_Rewritten_ScanCopiedAndMoved_1 v2.1 r7.2.2.2.2.2.2.2.2.2.1.1 r7.2.2.2.2.2.2.2.2.2.2.1.1).bind fun v8 =>
  some ((), (), (), (), (), (!decide (v3.1 = v8.1)), r7.2.2.2.2.2.2.1, r7.2.2.2.2.2.2.2.1, r7.2.2.2.2.2.2.2.2.1, v8.2.2.1, v8.2.2.2.1, ())) : Option (Unit × (Unit × (Unit × (Unit × (Unit × (Bool × ((Str × Unit) × ((Bool × Unit) × ((Int × (Int × (Int × (Int × Unit)))) × ((Int × Unit) × ((Int × Unit) × Unit)))))))))))).bind fun r9 =>
  cond r9.2.2.2.2.2.1
  (some (false, ()))
  (let v10 : (Int × (Int × (Int × (Int × Unit)))) := r9.2.2.2.2.2.2.2.2.1
  (chancerylaw2_blockError v10 r9.2.2.2.2.2.2.2.2.2.1.1 r9.2.2.2.2.2.2.2.2.2.2.1.1).bind fun v11 =>
  cond (!decide (v11.1 = 0))
  (cond (decide (v4.1 = []))
  (some ((decide (v4.2.1 = v11.1)), ()))
  (some (false, ())))
  (cond (decide (v4.2.1 = 0))
  ((chanceryref2_Rewritten_ScanCopiedAndMoved_2 v2.1 r9.2.2.2.2.2.2.1.1 r9.2.2.2.2.2.2.2.1.1 r9.2.2.2.2.2.2.2.2.1.1 r9.2.2.2.2.2.2.2.2.1.2.1 r9.2.2.2.2.2.2.2.2.1.2.2.1 r9.2.2.2.2.2.2.2.2.1.2.2.2.1 r9.2.2.2.2.2.2.2.2.2.1.1 r9.2.2.2.2.2.2.2.2.2.2.1.1).bind fun v12 =>
  some ((decide (v4.1 = v12.1)), ()))
  (some (false, ()))))))

end Go.Proofs.YtjhcnnhkabhigaaGreatDoor
