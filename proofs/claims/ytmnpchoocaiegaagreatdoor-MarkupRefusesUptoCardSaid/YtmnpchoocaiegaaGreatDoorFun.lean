/- Plain functions that the program's functions come to. Printed by a program (fegen.py). -/
import Derived.Test.YtmnpchoocaiegaaGreatDoorFeLib
import Derived.Test.YtmnpchoocaiegaaGreatDoorFeLaw
namespace Go.Proofs.YtmnpchoocaiegaaGreatDoor
open Go Go.Fe

abbrev TA6 : Type := (Str × (Int × Unit))
abbrev TA7 : Type := (Int × (Int × (Int × (Int × (Int × (Str × (Str × (Str × Unit))))))))
abbrev TA8 : Type := (Int × (Int × (Int × (Int × Unit))))
abbrev TA10 : Type := (Unit × Unit)
abbrev TA11 : Type := (Unit × (TA6 × Unit))
abbrev TA12 : Type := (Bool × Unit)
abbrev TA3 : Type := (Str × ((List Str) × ((List Str) × TA12)))
abbrev TA14 : Type := ((List Int) × Unit)
abbrev TA5 : Type := ((Unit × TA10) × TA14)
abbrev TA15 : Type := (List (Str × (Str × Unit)))
abbrev TA4 : Type := (Int × (Int × (Str × (Int × (TA15 × Unit)))))
abbrev TA2 : Type := (Int × (Int × ((List TA4) × ((List TA8) × Unit))))
abbrev TA9 : Type := (Int × (Int × (TA15 × Unit)))
abbrev TA0 : Type := (Int × (Int × (TA15 × ((List TA9) × (TA2 × ((List TA7) × Unit))))))
abbrev TA1 : Type := (Int × (Int × (TA15 × ((List TA9) × (Int × (Int × ((List TA4) × ((List TA8) × ((List TA7) × Unit)))))))))
abbrev TA16 : Type := ((List TA0) × Unit)
abbrev TA17 : Type := (TA6 × (TA2 × (TA3 × ((Int × (Int × (Unit × TA10))) × ((List TA4) × ((List TA8) × Unit))))))
abbrev TA18 : Type := ((Int × Unit) ⊕ (Unit ⊕ (Int × Unit)))
abbrev TA19 : Type := (Unit × (Unit × (Unit × (Unit × (TA6 × (TA2 × (TA3 × ((Int × (Int × (Unit × TA10))) × ((List TA4) × Unit)))))))))
abbrev TA20 : Type := (Unit × (Int × TA5))
abbrev TA21 : Type := (Unit × (Bool × (TA6 × Unit)))
abbrev TA22 : Type := (TA6 × (TA1 × (TA3 × (TA1 × Unit))))
abbrev TA23 : Type := (Unit × (Unit × (Int × ((Unit × TA10) × ((Unit × TA10) × ((List Int) × TA14))))))
abbrev TA24 : Type := (Unit × (Bool × (TA7 × Unit)))
abbrev TA25 : Type := (Unit × (Int × (TA16 × Unit)))
abbrev TA26 : Type := ((List Str) × Unit)
abbrev TA13 : Type := (Unit × (Unit × (Unit × (TA6 × (TA3 × ((Str × (Unit × (Unit × TA12))) × ((List Str) × TA26)))))))
abbrev TA27 : Type := (Unit × (Unit × (Unit × (TA6 × (TA3 × ((List TA9) × Unit))))))
abbrev TA28 : Type := (Unit × (Unit × (Unit × (TA6 × (TA3 × ((List TA7) × Unit))))))
abbrev TA29 : Type := ((Int × Unit) ⊕ (Unit ⊕ TA12))
abbrev TA30 : Type := (Unit × (Unit × (Unit × (TA6 × (TA10 × (TA3 × TA16))))))
abbrev TA31 : Type := (TA20 ⊕ (Unit × TA5))
abbrev TA32 : Type := ((Unit × TA10) × (TA2 × TA14))
abbrev TA33 : Type := (Unit × (Unit × (Unit × (Unit × (Unit × (TA6 × (TA3 × ((List TA9) × (TA3 × ((Str × Nat) × Unit))))))))))

noncomputable def doc_First : Option (TA16 × Unit) :=
  let v1 : TA0 := (1, 0, [], [(0, 2, [], ())], (0, (0, ([], ([], ())))), [], ())
  let v2 : TA0 := (2, 1, [], [(10, 0, [], ())], (0, (0, ([], ([], ())))), [], ())
  some (([v1, v2], ()), ())

noncomputable def attr_Name_l1 (a0 : Str) (p1 : (Int × Unit)) : Option TA29 :=
  cond (decide (p1.1 < (a0.length : Int)))
  ((idx a0 p1.1).bind fun v4 =>
  (cond (decide ((ofByte v4) < 97))
  (cond (decide ((ofByte v4) < 48))
  (cond (true)
  (cond ((!decide ((ofByte v4) = 46)))
  (some ((!decide ((ofByte v4) = 45)), ()))
  (some (false, ())))
  (some (false, ())))
  (let v5 : Bool := ((decide (57 < (ofByte v4))))
  cond v5
  (cond ((!decide ((ofByte v4) = 46)))
  (some ((!decide ((ofByte v4) = 45)), ()))
  (some (false, ())))
  (some (false, ()))))
  (cond ((decide (122 < (ofByte v4))))
  (cond (decide ((ofByte v4) < 48))
  (cond (true)
  (cond ((!decide ((ofByte v4) = 46)))
  (some ((!decide ((ofByte v4) = 45)), ()))
  (some (false, ())))
  (some (false, ())))
  (let v6 : Bool := ((decide (57 < (ofByte v4))))
  cond v6
  (cond ((!decide ((ofByte v4) = 46)))
  (some ((!decide ((ofByte v4) = 45)), ()))
  (some (false, ())))
  (some (false, ()))))
  (some (false, ()))) : Option TA12).bind fun r7 =>
  cond r7.1
  (some (.inr (.inr (false, ()))))
  (some (.inl (IntKind.i64.wrap (p1.1 + 1), ()))))
  (some (.inr (.inl (()))))

noncomputable def attr_Name (a0 : Str) : Option TA12 :=
  (cond (decide (a0 = []))
  (some (true, ()))
  (cond ((decide (24 < (a0.length : Int))))
  (some (true, ()))
  ((idx a0 0).bind fun v1 =>
  cond ((decide ((ofByte v1) < 97)))
  (some (true, ()))
  ((idx a0 0).bind fun v2 =>
  some ((decide (122 < (ofByte v2))), ())))) : Option TA12).bind fun r3 =>
  cond r3.1
  (some (false, ()))
  ((loop (attr_Name_l1 a0) (0, ())).bind fun r8 =>
  (match r8 with
  | .inl _ => (some (true, ()))
  | .inr z10 => (some z10)))

noncomputable def attr_Value_l1 (a0 : Str) (p1 : (Int × Unit)) : Option TA29 :=
  cond (decide (p1.1 < (a0.length : Int)))
  (((idx a0 p1.1).bind fun v2 =>
  cond (decide ((ofByte v2) < 32))
  (some (true, ()))
  ((idx a0 p1.1).bind fun v3 =>
  some ((decide (126 < (ofByte v3))), ())) : Option TA12).bind fun r4 =>
  cond r4.1
  (some (.inr (.inr (false, ()))))
  (some (.inl (IntKind.i64.wrap (p1.1 + 1), ()))))
  (some (.inr (.inl (()))))

noncomputable def attr_Value (a0 : Str) : Option TA12 :=
  (cond (decide (a0 = []))
  (some (true, ()))
  (some ((decide (200 < (a0.length : Int))), ())) : Option TA12).bind fun r1 =>
  cond r1.1
  (some (false, ()))
  ((loop (attr_Value_l1 a0) (0, ())).bind fun r5 =>
  (match r5 with
  | .inl _ => (some (true, ()))
  | .inr z7 => (some z7)))

noncomputable def attr_check_l1 (a0 : TA15) (a1 : Bool) (p1 : (Int × Unit)) : Option TA18 :=
  cond (decide (p1.1 < (a0.length : Int)))
  ((idx a0 p1.1).bind fun v1 =>
  (attr_Name v1.1).bind fun v2 =>
  cond (!v2.1)
  (some (.inr (.inr (9, ()))))
  (((attr_Value v1.2.1).bind fun v3 =>
  cond (!v3.1)
  (cond a1
  (some ((), (!((decide (v1.2.1 = [])))), v1, ()))
  (some ((), true, v1, ())))
  (some ((), false, v1, ())) : Option (Unit × (Bool × ((Str × (Str × Unit)) × Unit)))).bind fun r4 =>
  cond r4.2.1
  (some (.inr (.inr (23, ()))))
  ((cond (decide (0 < p1.1))
  ((idx a0 (IntKind.i64.wrap (p1.1 - 1))).bind fun v5 =>
  some ((!Op.bytesLess v5.1 r4.2.2.1.1), ()))
  (some (false, ())) : Option TA12).bind fun r6 =>
  cond r6.1
  (some (.inr (.inr (5, ()))))
  (some (.inl (IntKind.i64.wrap (p1.1 + 1), ()))))))
  (some (.inr (.inl (()))))

noncomputable def attr_check (a0 : TA15) (a1 : Bool) : Option (Int × Unit) :=
  (loop (attr_check_l1 a0 a1) (0, ())).bind fun r7 =>
  (match r7 with
  | .inl _ => (some (0, ()))
  | .inr z9 => (some z9))

noncomputable def attr_Check (a0 : TA15) : Option (Int × Unit) :=
  (attr_check a0 false).bind fun v1 =>
  some v1

noncomputable def doc_Texts (a0 : Int) : Option TA12 :=
  cond (decide (a0 = 1))
  (some (true, ()))
  (cond ((decide (a0 = 3)))
  (some (true, ()))
  (cond ((decide (a0 = 4)))
  (some (true, ()))
  (some ((decide (a0 = 12)), ()))))

noncomputable def doc_Grids (a0 : Int) : Option TA12 :=
  cond (decide (a0 = 2))
  (some (true, ()))
  (some ((decide (a0 = 6)), ()))

noncomputable def doc_Lists (a0 : Int) : Option TA12 :=
  cond (decide (a0 = 0))
  (some (true, ()))
  (some ((decide (a0 = 7)), ()))

noncomputable def api_Rect__l1 (a0 : (List TA8)) (a1 : (List TA8)) (p1 : (Int × Unit)) : Option TA29 :=
  cond (decide (p1.1 < (a0.length : Int)))
  ((idx a0 p1.1).bind fun v1 =>
  (idx a1 p1.1).bind fun v2 =>
  cond (!Ty.beq (.pair (.int .i64) (.pair (.int .i64) (.pair (.int .i64) (.pair (.int .i64) .unit)))) v1 v2)
  (some (.inr (.inr (false, ()))))
  (some (.inl (IntKind.i64.wrap (p1.1 + 1), ()))))
  (some (.inr (.inl (()))))

noncomputable def api_Rect_ (a0 : (List TA8)) (a1 : (List TA8)) : Option TA12 :=
  cond (!decide ((a0.length : Int) = (a1.length : Int)))
  (some (false, ()))
  ((loop (api_Rect__l1 a0 a1) (0, ())).bind fun r3 =>
  (match r3 with
  | .inl _ => (some (true, ()))
  | .inr z5 => (some z5)))

noncomputable def attr_Same_l1 (a0 : TA15) (a1 : TA15) (p1 : (Int × Unit)) : Option TA29 :=
  cond (decide (p1.1 < (a0.length : Int)))
  ((idx a0 p1.1).bind fun v1 =>
  (idx a1 p1.1).bind fun v2 =>
  cond (!Ty.beq (.pair .str (.pair .str .unit)) v1 v2)
  (some (.inr (.inr (false, ()))))
  (some (.inl (IntKind.i64.wrap (p1.1 + 1), ()))))
  (some (.inr (.inl (()))))

noncomputable def attr_Same (a0 : TA15) (a1 : TA15) : Option TA12 :=
  cond (!decide ((a0.length : Int) = (a1.length : Int)))
  (some (false, ()))
  ((loop (attr_Same_l1 a0 a1) (0, ())).bind fun r3 =>
  (match r3 with
  | .inl _ => (some (true, ()))
  | .inr z5 => (some z5)))

noncomputable def grid_SameCell (a0 : TA4) (a1 : TA4) : Option TA12 :=
  cond (decide (a0.1 = a1.1))
  (cond ((decide (a0.2.1 = a1.2.1)))
  (cond ((decide (a0.2.2.1 = a1.2.2.1)))
  (cond ((decide (a0.2.2.2.1 = a1.2.2.2.1)))
  ((attr_Same a0.2.2.2.2.1 a1.2.2.2.2.1).bind fun v1 =>
  some (v1.1, ()))
  (some (false, ())))
  (some (false, ())))
  (some (false, ())))
  (some (false, ()))

noncomputable def api_Cell__SameCell_l1 (a0 : (List TA4)) (a1 : (List TA4)) (p1 : (Unit × (Int × Unit))) : Option ((Unit × (Int × Unit)) ⊕ (Unit ⊕ TA12)) :=
  cond (decide (p1.2.1 < (a0.length : Int)))
  ((idx a0 p1.2.1).bind fun v1 =>
  (idx a1 p1.2.1).bind fun v2 =>
  let v3 : TA4 := v1
  let v4 : TA4 := v2
  (grid_SameCell v3 v4).bind fun v5 =>
  cond (!v5.1)
  (some (.inr (.inr (false, ()))))
  (some (.inl ((), IntKind.i64.wrap (p1.2.1 + 1), ()))))
  (some (.inr (.inl (()))))

noncomputable def api_Cell__SameCell (a0 : (List TA4)) (a1 : (List TA4)) : Option TA12 :=
  cond (!decide ((a0.length : Int) = (a1.length : Int)))
  (some (false, ()))
  ((loop (api_Cell__SameCell_l1 a0 a1) ((), 0, ())).bind fun r6 =>
  (match r6 with
  | .inl _ => (some (true, ()))
  | .inr z8 => (some z8)))

noncomputable def grid_Same (a0 : TA2) (a1 : TA2) : Option TA12 :=
  cond (decide (a0.1 = a1.1))
  (cond ((decide (a0.2.1 = a1.2.1)))
  ((api_Rect_ a0.2.2.2.1 a1.2.2.2.1).bind fun v1 =>
  cond (v1.1)
  ((api_Cell__SameCell a0.2.2.1 a1.2.2.1).bind fun v2 =>
  some (v2.1, ()))
  (some (false, ())))
  (some (false, ())))
  (some (false, ()))

noncomputable def doc_Draws (a0 : Int) : Option TA12 :=
  cond (decide (a0 = 8))
  (some (true, ()))
  (cond ((decide (a0 = 9)))
  (some (true, ()))
  (some ((decide (a0 = 10)), ())))

noncomputable def flow_Char (a0 : Int) : Option TA12 :=
  cond (decide (a0 = 9))
  (some (true, ()))
  (cond ((decide (a0 = 10)))
  (some (true, ()))
  (cond (decide (32 ≤ a0))
  (cond (((decide (a0 < 127))))
  (some (true, ()))
  (cond (decide (160 ≤ a0))
  (cond (((decide (a0 < 55296))))
  (some (true, ()))
  (cond (decide (57343 < a0))
  (some (((decide (a0 ≤ 1114111))), ()))
  (some (false, ()))))
  (cond (false)
  (some (true, ()))
  (cond (decide (57343 < a0))
  (some (((decide (a0 ≤ 1114111))), ()))
  (some (false, ()))))))
  (cond (false)
  (some (true, ()))
  (cond (decide (160 ≤ a0))
  (cond (((decide (a0 < 55296))))
  (some (true, ()))
  (cond (decide (57343 < a0))
  (some (((decide (a0 ≤ 1114111))), ()))
  (some (false, ()))))
  (cond (false)
  (some (true, ()))
  (cond (decide (57343 < a0))
  (some (((decide (a0 ≤ 1114111))), ()))
  (some (false, ()))))))))

noncomputable def flow_elem (a0 : TA9) : Option (Int × Unit) :=
  cond ((!decide (a0.1 = 0)) == (!decide (a0.2.1 = 0)))
  (some (4, ()))
  (((cond (decide (a0.2.1 = 0))
  ((flow_Char a0.1).bind fun v1 =>
  some ((), (!v1.1), a0, ()))
  (some ((), false, a0, ())) : Option (Unit × (Bool × (TA9 × Unit)))).bind fun r2 =>
  cond r2.2.1
  (some ((), true, r2.2.2.1, ()))
  (cond (!decide (r2.2.2.1.2.1 = 0))
  (cond (decide (r2.2.2.1.2.1 < 1))
  (some ((), true, r2.2.2.1, ()))
  (let v3 : Bool := ((decide (1073741824 < r2.2.2.1.2.1)))
  some ((), v3, r2.2.2.1, ())))
  (some ((), false, r2.2.2.1, ()))) : Option (Unit × (Bool × (TA9 × Unit)))).bind fun r4 =>
  cond r4.2.1
  (some (2, ()))
  ((attr_Check r4.2.2.1.2.2.1).bind fun v5 =>
  some v5))

noncomputable def flow_Check_l1 (a0 : (List TA9)) (a1 : Bool) (p1 : (Int × Unit)) : Option TA18 :=
  cond (decide (p1.1 < (a0.length : Int)))
  ((idx a0 p1.1).bind fun v1 =>
  (flow_elem v1).bind fun v2 =>
  cond (!decide (v2.1 = 0))
  (some (.inr (.inr v2)))
  ((cond (!a1)
  (some ((decide (v1.2.1 = 0)), ()))
  (some (false, ())) : Option TA12).bind fun r3 =>
  cond r3.1
  (some (.inr (.inr (8, ()))))
  (some (.inl (IntKind.i64.wrap (p1.1 + 1), ())))))
  (some (.inr (.inl (()))))

noncomputable def flow_Check (a0 : (List TA9)) (a1 : Bool) : Option (Int × Unit) :=
  (loop (flow_Check_l1 a0 a1) (0, ())).bind fun r4 =>
  (match r4 with
  | .inl _ => ((cond a1
  (cond (decide ((a0.length : Int) = 0))
  (some (true, ()))
  ((idx a0 (IntKind.i64.wrap ((a0.length : Int) - 1))).bind fun v6 =>
  some (((!decide (v6.1 = 10))), ())))
  (some (false, ())) : Option TA12).bind fun r7 =>
  cond r7.1
  (some (11, ()))
  (some (0, ())))
  | .inr z8 => (some z8))

noncomputable def grid_Text_l1 (p1 : (Str × Unit)) : Option ((Str × Unit) ⊕ (Unit ⊕ TA12)) :=
  cond (!decide (p1.1 = []))
  ((sRune p1).bind fun v1 =>
  (cond (decide (v1.1 = 65533))
  (cond ((decide (v1.2.1 = 1)))
  (some (true, ()))
  (cond ((decide (v1.1 = 10)))
  (some (true, ()))
  ((flow_Char (IntKind.i64.wrap v1.1)).bind fun v2 =>
  some ((!v2.1), ()))))
  (cond ((decide (v1.1 = 10)))
  (some (true, ()))
  ((flow_Char (IntKind.i64.wrap v1.1)).bind fun v3 =>
  some ((!v3.1), ()))) : Option TA12).bind fun r4 =>
  cond r4.1
  (some (.inr (.inr (false, ()))))
  ((cut p1.1 v1.2.1 (p1.1.length : Int)).bind fun v5 =>
  some (.inl (v5, ()))))
  (some (.inr (.inl (()))))

noncomputable def grid_Text (a0 : Str) : Option TA12 :=
  (loop grid_Text_l1 (a0, ())).bind fun r6 =>
  (match r6 with
  | .inl _ => (some (true, ()))
  | .inr z8 => (some z8))

noncomputable def grid_empty (a0 : TA4) : Option TA12 :=
  cond (decide (a0.2.2.1 = []))
  (cond ((decide (a0.2.2.2.1 = 0)))
  (some ((decide ((a0.2.2.2.2.1.length : Int) = 0)), ()))
  (some (false, ())))
  (some (false, ()))

noncomputable def cmp_isNaN_int_ (a0 : Int) : Option TA12 :=
  some (!decide (a0 = a0), ())

noncomputable def cmp_Compare_int_ (a0 : Int) (a1 : Int) : Option (Int × Unit) :=
  (cmp_isNaN_int_ a0).bind fun v1 =>
  (cmp_isNaN_int_ a1).bind fun v2 =>
  cond v1.1
  (cond v2.1
  (some (0, ()))
  (some ((-1), ())))
  (cond v2.1
  (some (1, ()))
  (cond (decide (a0 < a1))
  (some ((-1), ()))
  (cond (decide (a1 < a0))
  (some (1, ()))
  (some (0, ())))))

noncomputable def cmp_Or_int__l1 (a0 : (List Int)) (p1 : (Int × Unit)) : Option TA18 :=
  cond (decide (p1.1 < (a0.length : Int)))
  ((idx a0 p1.1).bind fun v1 =>
  cond (!decide (v1 = 0))
  (some (.inr (.inr (v1, ()))))
  (some (.inl (IntKind.i64.wrap (p1.1 + 1), ()))))
  (some (.inr (.inl (()))))

noncomputable def cmp_Or_int_ (a0 : (List Int)) : Option (Int × Unit) :=
  (loop (cmp_Or_int__l1 a0) (0, ())).bind fun r2 =>
  (match r2 with
  | .inl _ => (some (0, ()))
  | .inr z4 => (some z4))

noncomputable def grid_order (a0 : TA4) (a1 : TA4) : Option (Int × Unit) :=
  (cmp_Compare_int_ a0.1 a1.1).bind fun v1 =>
  (cmp_Compare_int_ a0.2.1 a1.2.1).bind fun v2 =>
  (cmp_Or_int_ [v1.1, v2.1]).bind fun v3 =>
  some v3

noncomputable def grid_cells_l1 (a0 : (List TA4)) (a1 : Int) (a2 : Int) (a3 : Bool) (p1 : (Int × Unit)) : Option TA18 :=
  cond (decide (p1.1 < (a0.length : Int)))
  ((idx a0 p1.1).bind fun v1 =>
  (cond (decide (v1.1 < 0))
  (some ((), true, v1, ()))
  (cond ((decide (a1 ≤ v1.1)))
  (some ((), true, v1, ()))
  (cond ((decide (v1.2.1 < 0)))
  (some ((), true, v1, ()))
  (some ((), (decide (a2 ≤ v1.2.1)), v1, ())))) : Option (Unit × (Bool × (TA4 × Unit)))).bind fun r2 =>
  cond r2.2.1
  (some (.inr (.inr (2, ()))))
  ((cond (decide (r2.2.2.1.2.2.2.1 < 0))
  (some ((), true, r2.2.2.1, ()))
  (some ((), (decide (1073741824 < r2.2.2.1.2.2.2.1)), r2.2.2.1, ())) : Option (Unit × (Bool × (TA4 × Unit)))).bind fun r3 =>
  cond r3.2.1
  (some (.inr (.inr (2, ()))))
  ((grid_Text r3.2.2.1.2.2.1).bind fun v4 =>
  cond (!v4.1)
  (some (.inr (.inr (23, ()))))
  ((attr_Check r3.2.2.1.2.2.2.2.1).bind fun v5 =>
  cond (!decide (v5.1 = 0))
  (some (.inr (.inr v5)))
  ((let v6 : TA4 := r3.2.2.1
  (grid_empty v6).bind fun v7 =>
  cond v7.1
  (some ((), (!a3), r3.2.2.1, ()))
  (some ((), false, r3.2.2.1, ())) : Option (Unit × (Bool × (TA4 × Unit)))).bind fun r8 =>
  cond r8.2.1
  (some (.inr (.inr (4, ()))))
  ((cond (decide (0 < p1.1))
  ((idx a0 (IntKind.i64.wrap (p1.1 - 1))).bind fun v9 =>
  let v10 : TA4 := r8.2.2.1
  (grid_order v9 v10).bind fun v11 =>
  some ((decide (0 ≤ v11.1)), ()))
  (some (false, ())) : Option TA12).bind fun r12 =>
  cond r12.1
  (some (.inr (.inr (5, ()))))
  (some (.inl (IntKind.i64.wrap (p1.1 + 1), ())))))))))
  (some (.inr (.inl (()))))

noncomputable def grid_cells (a0 : (List TA4)) (a1 : Int) (a2 : Int) (a3 : Bool) : Option (Int × Unit) :=
  (loop (grid_cells_l1 a0 a1 a2 a3) (0, ())).bind fun r13 =>
  (match r13 with
  | .inl _ => (some (0, ()))
  | .inr z15 => (some z15))

noncomputable def grid_inside (a0 : TA8) (a1 : Int) (a2 : Int) : Option TA12 :=
  cond (decide (0 ≤ a0.1))
  (cond ((decide (0 ≤ a0.2.1)))
  (cond ((decide (1 ≤ a0.2.2.1)))
  (cond ((decide (1 ≤ a0.2.2.2.1)))
  (cond ((decide (a0.1 < a1)))
  (cond ((decide (a0.2.1 < a2)))
  (let v1 : Bool := (decide (a0.2.2.1 ≤ (IntKind.i64.wrap (a1 - a0.1))))
  cond v1
  (let v2 : Bool := (decide (a0.2.2.2.1 ≤ (IntKind.i64.wrap (a2 - a0.2.1))))
  some (v2, ()))
  (some (false, ())))
  (some (false, ())))
  (some (false, ())))
  (some (false, ())))
  (some (false, ())))
  (some (false, ())))
  (some (false, ()))

noncomputable def grid_before (a0 : TA8) (a1 : TA8) : Option TA12 :=
  cond (decide (a0.1 < a1.1))
  (some (true, ()))
  (cond (decide (a0.1 = a1.1))
  (some (((decide (a0.2.1 < a1.2.1))), ()))
  (some (false, ())))

noncomputable def grid_meets (a0 : TA8) (a1 : TA8) : Option TA12 :=
  cond (decide (a0.1 < (IntKind.i64.wrap (a1.1 + a1.2.2.1))))
  (let v1 : Bool := (decide (a1.1 < (IntKind.i64.wrap (a0.1 + a0.2.2.1))))
  cond v1
  (let v2 : Bool := (decide (a0.2.1 < (IntKind.i64.wrap (a1.2.1 + a1.2.2.2.1))))
  cond v2
  (let v3 : Bool := (decide (a1.2.1 < (IntKind.i64.wrap (a0.2.1 + a0.2.2.2.1))))
  some (v3, ()))
  (some (false, ())))
  (some (false, ())))
  (some (false, ()))

noncomputable def grid_Check_1 (a0 : TA8) (o0 : Int) (o0_1 : Int) (o0_2 : Int) (o0_3 : Int) : Option (Bool × (Unit × (TA8 × Unit))) :=
  (grid_meets a0 (o0, (o0_1, (o0_2, (o0_3, ()))))).bind fun v1 =>
  some (v1.1, (), (o0, (o0_1, (o0_2, (o0_3, ())))), ())

noncomputable def api_Rect__Check_1x_l1 (a0 : (List TA8)) (p1 : (TA10 × (Int × (TA8 × Unit)))) : Option ((TA10 × (Int × (TA8 × Unit))) ⊕ ((TA10 × (TA8 × Unit)) ⊕ (TA10 × (Int × (TA8 × Unit))))) :=
  cond (decide (p1.2.1 < (a0.length : Int)))
  ((idx a0 p1.2.1).bind fun v1 =>
  (grid_Check_1 v1 p1.2.2.1.1 p1.2.2.1.2.1 p1.2.2.1.2.2.1 p1.2.2.1.2.2.2.1).bind fun v2 =>
  cond v2.1
  (some (.inr (.inr (((), ()), p1.2.1, v2.2.2.1, ()))))
  (some (.inl (((), ()), IntKind.i64.wrap (p1.2.1 + 1), v2.2.2.1, ()))))
  (some (.inr (.inl (((), ()), p1.2.2.1, ()))))

noncomputable def api_Rect__Check_1x (a0 : (List TA8)) (o0 : Int) (o0_1 : Int) (o0_2 : Int) (o0_3 : Int) : Option (Int × (TA10 × (TA8 × Unit))) :=
  (loop (api_Rect__Check_1x_l1 a0) (((), ()), 0, (o0, (o0_1, (o0_2, (o0_3, ())))), ())).bind fun r3 =>
  (match r3 with
  | .inl z4 => (some ((-1), ((), ()), z4.2.1, ()))
  | .inr z5 => (some (z5.2.1, ((), ()), z5.2.2.1, ())))

noncomputable def api_Rect__Check_1 (a0 : (List TA8)) (o0 : Int) (o0_1 : Int) (o0_2 : Int) (o0_3 : Int) : Option (Bool × (TA10 × (TA8 × Unit))) :=
  (api_Rect__Check_1x a0 o0 o0_1 o0_2 o0_3).bind fun v1 =>
  some (decide (0 ≤ v1.1), ((), ()), v1.2.2.1, ())

noncomputable def grid_Check_l1 (r1 : (Unit × (Bool × (TA2 × Unit)))) (p1 : (Unit × (Int × (TA2 × Unit)))) : Option ((Unit × (Int × (TA2 × Unit))) ⊕ (Unit ⊕ (Int × Unit))) :=
  cond (decide (p1.2.1 < (r1.2.2.1.2.2.2.1.length : Int)))
  ((idx r1.2.2.1.2.2.2.1 p1.2.1).bind fun v3 =>
  (grid_inside v3 p1.2.2.1.1 p1.2.2.1.2.1).bind fun v4 =>
  cond (!v4.1)
  (some (.inr (.inr (2, ()))))
  ((cond (decide (v3.2.2.1 = 1))
  (some ((), (), (decide (v3.2.2.2.1 = 1)), p1.2.2.1, v3, ()))
  (some ((), (), false, p1.2.2.1, v3, ())) : Option (Unit × (Unit × (Bool × (TA2 × (TA8 × Unit)))))).bind fun r5 =>
  cond r5.2.2.1
  (some (.inr (.inr (4, ()))))
  ((cond (decide (0 < p1.2.1))
  ((idx r5.2.2.2.1.2.2.2.1 (IntKind.i64.wrap (p1.2.1 - 1))).bind fun v6 =>
  let v7 : TA8 := r5.2.2.2.2.1
  (grid_before v6 v7).bind fun v8 =>
  some ((), (), (!v8.1), r5.2.2.2.1, r5.2.2.2.2.1, ()))
  (some ((), (), false, r5.2.2.2.1, r5.2.2.2.2.1, ())) : Option (Unit × (Unit × (Bool × (TA2 × (TA8 × Unit)))))).bind fun r9 =>
  cond r9.2.2.1
  (some (.inr (.inr (5, ()))))
  ((cut r9.2.2.2.1.2.2.2.1 0 p1.2.1).bind fun v10 =>
  (api_Rect__Check_1 v10 r9.2.2.2.2.1.1 r9.2.2.2.2.1.2.1 r9.2.2.2.2.1.2.2.1 r9.2.2.2.2.1.2.2.2.1).bind fun v11 =>
  cond v11.1
  (some (.inr (.inr (21, ()))))
  (some (.inl ((), IntKind.i64.wrap (p1.2.1 + 1), r9.2.2.2.1, ())))))))
  (some (.inr (.inl (()))))

noncomputable def grid_Check (a0 : TA2) : Option (Int × Unit) :=
  (cond (decide (a0.1 < 0))
  (some ((), true, a0, ()))
  (cond ((decide (2147483647 < a0.1)))
  (some ((), true, a0, ()))
  (cond ((decide (a0.2.1 < 0)))
  (some ((), true, a0, ()))
  (some ((), (decide (2147483647 < a0.2.1)), a0, ())))) : Option (Unit × (Bool × (TA2 × Unit)))).bind fun r1 =>
  cond r1.2.1
  (some (2, ()))
  ((grid_cells r1.2.2.1.2.2.1 r1.2.2.1.1 r1.2.2.1.2.1 false).bind fun v2 =>
  cond (!decide (v2.1 = 0))
  (some v2)
  ((loop (grid_Check_l1 r1) ((), 0, r1.2.2.1, ())).bind fun r12 =>
  (match r12 with
  | .inl _ => (some (0, ()))
  | .inr z14 => (some z14))))

noncomputable def doc_CheckCells_l1 (a1 : (List TA4)) (a0 : Int) (p1 : (Int × Unit)) : Option TA18 :=
  cond (decide (p1.1 < (a1.length : Int)))
  ((idx a1 p1.1).bind fun v1 =>
  (cond (decide (a0 = 2))
  (cond (!decide (v1.2.2.1 = []))
  (cond (true)
  (some (true, ()))
  (cond (decide (a0 = 6))
  (some (((!decide (v1.2.2.2.1 = 0))), ()))
  (some (false, ()))))
  (let v2 : Bool := ((decide (0 < (v1.2.2.2.2.1.length : Int))))
  cond v2
  (some (true, ()))
  (cond (decide (a0 = 6))
  (some (((!decide (v1.2.2.2.1 = 0))), ()))
  (some (false, ())))))
  (cond (decide (a0 = 6))
  (some (((!decide (v1.2.2.2.1 = 0))), ()))
  (some (false, ()))) : Option TA12).bind fun r3 =>
  cond r3.1
  (some (.inr (.inr (4, ()))))
  (some (.inl (IntKind.i64.wrap (p1.1 + 1), ()))))
  (some (.inr (.inl (()))))

noncomputable def doc_CheckCells (a0 : Int) (a1 : (List TA4)) : Option (Int × Unit) :=
  (loop (doc_CheckCells_l1 a1 a0) (0, ())).bind fun r4 =>
  (match r4 with
  | .inl _ => (some (0, ()))
  | .inr z6 => (some z6))

noncomputable def replica_Place_l1 (a0 : Str) (p1 : (Int × Unit)) : Option TA29 :=
  cond (decide (p1.1 < (a0.length : Int)))
  (((idx a0 p1.1).bind fun v3 =>
  cond (decide ((ofByte v3) < 97))
  (some (true, ()))
  ((idx a0 p1.1).bind fun v4 =>
  some ((decide (122 < (ofByte v4))), ())) : Option TA12).bind fun r5 =>
  cond r5.1
  (some (.inr (.inr (false, ()))))
  (some (.inl (IntKind.i64.wrap (p1.1 + 1), ()))))
  (some (.inr (.inl (()))))

noncomputable def replica_Place (a0 : Str) : Option TA12 :=
  (cond (decide (a0 = []))
  (some (true, ()))
  (cond ((decide (200 < (a0.length : Int))))
  (some (true, ()))
  ((idx a0 (IntKind.i64.wrap ((a0.length : Int) - 1))).bind fun v1 =>
  some ((decide ((ofByte v1) = 97)), ()))) : Option TA12).bind fun r2 =>
  cond r2.1
  (some (false, ()))
  ((loop (replica_Place_l1 a0) (0, ())).bind fun r6 =>
  (match r6 with
  | .inl _ => (some (true, ()))
  | .inr z8 => (some z8)))

noncomputable def replica_op (a0 : TA7) : Option (Int × Unit) :=
  (cond (!decide (a0.2.2.1 = 0))
  (some ((), (!decide (a0.2.2.1 = 1)), a0, ()))
  (some ((), false, a0, ())) : Option TA24).bind fun r1 =>
  cond r1.2.1
  (some (8, ()))
  ((cond (decide (r1.2.2.1.1 < 1))
  (some ((), true, r1.2.2.1, ()))
  (cond ((decide (1073741824 < r1.2.2.1.1)))
  (some ((), true, r1.2.2.1, ()))
  (cond ((decide (r1.2.2.1.2.1 < 0)))
  (some ((), true, r1.2.2.1, ()))
  (cond ((decide (1000 < r1.2.2.1.2.1)))
  (some ((), true, r1.2.2.1, ()))
  (cond ((decide (r1.2.2.1.2.2.2.1 < 1)))
  (some ((), true, r1.2.2.1, ()))
  (some ((), (decide (1073741824 < r1.2.2.1.2.2.2.1)), r1.2.2.1, ())))))) : Option TA24).bind fun r2 =>
  cond r2.2.1
  (some (2, ()))
  (((cond (decide (r2.2.2.1.2.2.1 = 0))
  (cond (!decide (r2.2.2.1.2.2.2.2.2.2.1 = []))
  (some ((), true, r2.2.2.1, ()))
  (let v3 : Bool := ((!decide (r2.2.2.1.2.2.2.2.2.2.2.1 = [])))
  some ((), v3, r2.2.2.1, ())))
  (some ((), false, r2.2.2.1, ())) : Option TA24).bind fun r4 =>
  cond r4.2.1
  (some ((), true, r4.2.2.1, ()))
  (cond (decide (r4.2.2.1.2.2.1 = 1))
  (cond (!decide (r4.2.2.1.2.2.2.2.1 = 0))
  (some ((), true, r4.2.2.1, ()))
  (let v5 : Bool := ((!decide (r4.2.2.1.2.2.2.2.2.1 = [])))
  some ((), v5, r4.2.2.1, ())))
  (some ((), false, r4.2.2.1, ()))) : Option TA24).bind fun r6 =>
  cond r6.2.1
  (some (4, ()))
  ((cond (decide (r6.2.2.1.2.2.1 = 0))
  (cond (decide (r6.2.2.1.2.2.2.2.1 < (-1)))
  (some ((), true, r6.2.2.1, ()))
  (let v7 : Bool := ((decide (1073741824 < r6.2.2.1.2.2.2.2.1)))
  some ((), v7, r6.2.2.1, ())))
  (some ((), false, r6.2.2.1, ())) : Option TA24).bind fun r8 =>
  cond r8.2.1
  (some (2, ()))
  (((cond (decide (r8.2.2.1.2.2.1 = 0))
  ((replica_Place r8.2.2.1.2.2.2.2.2.1).bind fun v9 =>
  some ((), (!v9.1), r8.2.2.1, ()))
  (some ((), false, r8.2.2.1, ())) : Option TA24).bind fun r10 =>
  cond r10.2.1
  (some ((), true, r10.2.2.1, ()))
  (cond (decide (r10.2.2.1.2.2.1 = 1))
  ((attr_Name r10.2.2.1.2.2.2.2.2.2.1).bind fun v11 =>
  some ((), (!v11.1), r10.2.2.1, ()))
  (some ((), false, r10.2.2.1, ()))) : Option TA24).bind fun r12 =>
  cond r12.2.1
  (some (9, ()))
  ((cond (decide (r12.2.2.1.2.2.1 = 1))
  (cond ((!decide (r12.2.2.1.2.2.2.2.2.2.2.1 = [])))
  ((attr_Value r12.2.2.1.2.2.2.2.2.2.2.1).bind fun v13 =>
  some ((!v13.1), ()))
  (some (false, ())))
  (some (false, ())) : Option TA12).bind fun r14 =>
  cond r14.1
  (some (23, ()))
  (some (0, ())))))))

noncomputable def replica_stamps (a0 : TA7) (a1 : TA7) : Option (Int × Unit) :=
  (cmp_Compare_int_ a0.1 a1.1).bind fun v1 =>
  (cmp_Compare_int_ a0.2.1 a1.2.1).bind fun v2 =>
  (cmp_Or_int_ [v1.1, v2.1]).bind fun v3 =>
  some v3

noncomputable def replica_Check_l1 (a0 : (List TA7)) (p1 : (Int × Unit)) : Option TA18 :=
  cond (decide (p1.1 < (a0.length : Int)))
  ((idx a0 p1.1).bind fun v1 =>
  let v2 : TA7 := v1
  (replica_op v2).bind fun v3 =>
  cond (!decide (v3.1 = 0))
  (some (.inr (.inr v3)))
  ((cond (decide (0 < p1.1))
  ((idx a0 (IntKind.i64.wrap (p1.1 - 1))).bind fun v4 =>
  let v5 : TA7 := v1
  (replica_stamps v4 v5).bind fun v6 =>
  some ((decide (0 ≤ v6.1)), ()))
  (some (false, ())) : Option TA12).bind fun r7 =>
  cond r7.1
  (some (.inr (.inr (5, ()))))
  (some (.inl (IntKind.i64.wrap (p1.1 + 1), ())))))
  (some (.inr (.inl (()))))

noncomputable def replica_Check (a0 : (List TA7)) : Option (Int × Unit) :=
  (loop (replica_Check_l1 a0) (0, ())).bind fun r8 =>
  (match r8 with
  | .inl _ => (some (0, ()))
  | .inr z10 => (some z10))

noncomputable def doc_CheckNode (a0 : TA0) : Option (Int × Unit) :=
  (cond (decide (a0.1 < 1))
  (some ((), true, (a0.1, (a0.2.1, (a0.2.2.1, (a0.2.2.2.1, (a0.2.2.2.2.1.1, (a0.2.2.2.2.1.2.1, (a0.2.2.2.2.1.2.2.1, (a0.2.2.2.2.1.2.2.2.1, a0.2.2.2.2.2)))))))), ()))
  (some ((), (decide (1073741824 < a0.1)), (a0.1, (a0.2.1, (a0.2.2.1, (a0.2.2.2.1, (a0.2.2.2.2.1.1, (a0.2.2.2.2.1.2.1, (a0.2.2.2.2.1.2.2.1, (a0.2.2.2.2.1.2.2.2.1, a0.2.2.2.2.2)))))))), ())) : Option (Unit × (Bool × (TA1 × Unit)))).bind fun r1 =>
  cond r1.2.1
  (some (2, ()))
  ((cond (decide (r1.2.2.1.2.1 < 0))
  (some ((), true, r1.2.2.1, ()))
  (cond ((decide (13 ≤ r1.2.2.1.2.1)))
  (some ((), true, r1.2.2.1, ()))
  (let v2 : Bool := (!((decide (r1.2.2.1.1 = 1)) == (decide (r1.2.2.1.2.1 = 0))))
  some ((), v2, r1.2.2.1, ()))) : Option (Unit × (Bool × (TA1 × Unit)))).bind fun r3 =>
  cond r3.2.1
  (some (8, ()))
  ((attr_Check r3.2.2.1.2.2.1).bind fun v4 =>
  cond (!decide (v4.1 = 0))
  (some v4)
  (((doc_Texts r3.2.2.1.2.1).bind fun v5 =>
  cond v5.1
  ((doc_Grids r3.2.2.1.2.1).bind fun v6 =>
  some ((), true, v6.1, r3.2.2.1, ()))
  ((doc_Lists r3.2.2.1.2.1).bind fun v7 =>
  (doc_Grids r3.2.2.1.2.1).bind fun v8 =>
  some ((), v7.1, v8.1, r3.2.2.1, ())) : Option (Unit × (Bool × (Bool × (TA1 × Unit))))).bind fun r9 =>
  (cond (!r9.2.1)
  (let v10 : Bool := (decide (0 < (r9.2.2.2.1.2.2.2.1.length : Int)))
  cond v10
  (some ((), true, r9.2.2.2.1, ()))
  (cond (!r9.2.2.1)
  (let v11 : TA2 := (r9.2.2.2.1.2.2.2.2.1, (r9.2.2.2.1.2.2.2.2.2.1, (r9.2.2.2.1.2.2.2.2.2.2.1, (r9.2.2.2.1.2.2.2.2.2.2.2.1, ()))))
  (grid_Same v11 (0, 0, [], [], ())).bind fun v12 =>
  cond (((!v12.1)))
  (some ((), true, r9.2.2.2.1, ()))
  ((doc_Draws r9.2.2.2.1.2.1).bind fun v13 =>
  cond (!v13.1)
  (let v14 : Bool := (decide (0 < (r9.2.2.2.1.2.2.2.2.2.2.2.2.1.length : Int)))
  some ((), v14, r9.2.2.2.1, ()))
  (some ((), false, r9.2.2.2.1, ()))))
  (cond (false)
  (some ((), true, r9.2.2.2.1, ()))
  ((doc_Draws r9.2.2.2.1.2.1).bind fun v15 =>
  cond (!v15.1)
  (let v16 : Bool := (decide (0 < (r9.2.2.2.1.2.2.2.2.2.2.2.2.1.length : Int)))
  some ((), v16, r9.2.2.2.1, ()))
  (some ((), false, r9.2.2.2.1, ()))))))
  (cond (!r9.2.2.1)
  (let v17 : TA2 := (r9.2.2.2.1.2.2.2.2.1, (r9.2.2.2.1.2.2.2.2.2.1, (r9.2.2.2.1.2.2.2.2.2.2.1, (r9.2.2.2.1.2.2.2.2.2.2.2.1, ()))))
  (grid_Same v17 (0, 0, [], [], ())).bind fun v18 =>
  cond (((!v18.1)))
  (some ((), true, r9.2.2.2.1, ()))
  ((doc_Draws r9.2.2.2.1.2.1).bind fun v19 =>
  cond (!v19.1)
  (let v20 : Bool := (decide (0 < (r9.2.2.2.1.2.2.2.2.2.2.2.2.1.length : Int)))
  some ((), v20, r9.2.2.2.1, ()))
  (some ((), false, r9.2.2.2.1, ()))))
  (cond (false)
  (some ((), true, r9.2.2.2.1, ()))
  ((doc_Draws r9.2.2.2.1.2.1).bind fun v21 =>
  cond (!v21.1)
  (let v22 : Bool := (decide (0 < (r9.2.2.2.1.2.2.2.2.2.2.2.2.1.length : Int)))
  some ((), v22, r9.2.2.2.1, ()))
  (some ((), false, r9.2.2.2.1, ()))))) : Option (Unit × (Bool × (TA1 × Unit)))).bind fun r23 =>
  cond r23.2.1
  (some (4, ()))
  (cond r9.2.1
  ((doc_Texts r23.2.2.1.2.1).bind fun v24 =>
  (flow_Check r23.2.2.1.2.2.2.1 v24.1).bind fun v25 =>
  some v25)
  (cond r9.2.2.1
  (let v26 : TA2 := (r23.2.2.1.2.2.2.2.1, (r23.2.2.1.2.2.2.2.2.1, (r23.2.2.1.2.2.2.2.2.2.1, (r23.2.2.1.2.2.2.2.2.2.2.1, ()))))
  (grid_Check v26).bind fun v27 =>
  cond (!decide (v27.1 = 0))
  (some v27)
  ((doc_CheckCells r23.2.2.1.2.1 r23.2.2.1.2.2.2.2.2.2.1).bind fun v28 =>
  some v28))
  ((replica_Check r23.2.2.1.2.2.2.2.2.2.2.2.1).bind fun v29 =>
  some v29))))))

noncomputable def flow_Refs_l1 (a0 : (List TA9)) (p1 : (Unit × (Int × TA14))) : Option ((Unit × (Int × TA14)) ⊕ (Unit × TA14)) :=
  cond (decide (p1.2.1 < (a0.length : Int)))
  (((idx a0 p1.2.1).bind fun v1 =>
  cond (!decide (v1.2.1 = 0))
  ((cat p1.2.2.1 [v1.2.1]).bind fun v2 =>
  some ((), v2, ()))
  (some ((), p1.2.2.1, ())) : Option (Unit × TA14)).bind fun r3 =>
  some (.inl ((), IntKind.i64.wrap (p1.2.1 + 1), r3.2.1, ())))
  (some (.inr ((), p1.2.2.1, ())))

noncomputable def flow_Refs (a0 : (List TA9)) : Option (Unit × TA14) :=
  (loop (flow_Refs_l1 a0) ((), 0, [], ())).bind fun r4 =>
  some ((), r4.2.1, ())

noncomputable def doc_Refs_l1 (a0 : TA0) (p1 : (Unit × (Int × TA14))) : Option ((Unit × (Int × TA14)) ⊕ (Unit × TA14)) :=
  cond (decide (p1.2.1 < (a0.2.2.2.2.1.2.2.1.length : Int)))
  (((idx a0.2.2.2.2.1.2.2.1 p1.2.1).bind fun v2 =>
  cond (!decide (v2.2.2.2.1 = 0))
  ((cat p1.2.2.1 [v2.2.2.2.1]).bind fun v3 =>
  some ((), v3, ()))
  (some ((), p1.2.2.1, ())) : Option (Unit × TA14)).bind fun r4 =>
  some (.inl ((), IntKind.i64.wrap (p1.2.1 + 1), r4.2.1, ())))
  (some (.inr ((), p1.2.2.1, ())))

noncomputable def doc_Refs (a0 : TA0) : Option TA14 :=
  (flow_Refs a0.2.2.2.1).bind fun v1 =>
  (loop (doc_Refs_l1 a0) ((), 0, v1.2.1, ())).bind fun r5 =>
  some r5.2

noncomputable def doc_find_1 (a0 : TA0) (a1 : Int) : Option (Int × Unit) :=
  cond (decide (a0.1 < a1))
  (some ((-1), ()))
  (cond (decide (a1 < a0.1))
  (some (1, ()))
  (some (0, ())))

noncomputable def api_Node_int__find_1_l1 (a0 : (List TA0)) (a1 : Int) (p1 : (Unit × (Int × (Int × Unit)))) : Option ((Unit × (Int × (Int × Unit))) ⊕ (Unit × (Int × Unit))) :=
  cond (decide (p1.2.1 < p1.2.2.1))
  (let v1 : Int := IntKind.u64.wrap (IntKind.i64.wrap (p1.2.1 + p1.2.2.1))
  (shc 1).bind fun v2 =>
  (idx a0 (IntKind.i64.wrap (shr .u64 v1 v2))).bind fun v3 =>
  (doc_find_1 v3 a1).bind fun v4 =>
  cond (decide (v4.1 < 0))
  (some (.inl ((), IntKind.i64.wrap ((IntKind.i64.wrap (shr .u64 v1 v2)) + 1), p1.2.2.1, ())))
  (some (.inl ((), p1.2.1, IntKind.i64.wrap (shr .u64 v1 v2), ()))))
  (some (.inr ((), p1.2.1, ())))

noncomputable def api_Node_int__find_1 (a0 : (List TA0)) (a1 : Int) : Option (Int × TA12) :=
  (loop (api_Node_int__find_1_l1 a0 a1) ((), 0, (a0.length : Int), ())).bind fun r5 =>
  cond (decide (r5.2.1 < (a0.length : Int)))
  ((idx a0 r5.2.1).bind fun v6 =>
  (doc_find_1 v6 a1).bind fun v7 =>
  some (r5.2.1, (decide (v7.1 = 0)), ()))
  (some (r5.2.1, false, ()))

noncomputable def doc_find (a0 : TA16) (a1 : Int) : Option (Int × TA12) :=
  (api_Node_int__find_1 a0.1 a1).bind fun v1 =>
  some v1

noncomputable def slices_Index_int_int__l1 (a0 : (List Int)) (a1 : Int) (p1 : (Int × Unit)) : Option TA18 :=
  cond (decide (p1.1 < (a0.length : Int)))
  ((idx a0 p1.1).bind fun v1 =>
  cond (decide (a1 = v1))
  (some (.inr (.inr p1)))
  (some (.inl (IntKind.i64.wrap (p1.1 + 1), ()))))
  (some (.inr (.inl (()))))

noncomputable def slices_Index_int_int_ (a0 : (List Int)) (a1 : Int) : Option (Int × Unit) :=
  (loop (slices_Index_int_int__l1 a0 a1) (0, ())).bind fun r2 =>
  (match r2 with
  | .inl _ => (some ((-1), ()))
  | .inr z4 => (some z4))

noncomputable def slices_Contains_int_int_ (a0 : (List Int)) (a1 : Int) : Option TA12 :=
  (slices_Index_int_int_ a0 a1).bind fun v1 =>
  some (decide (0 ≤ v1.1), ())

noncomputable def doc_Permitted (a0 : Int) (a1 : Int) : Option TA12 :=
  (cond (decide (a0 = 0))
  (some ((), [1, 6, 7, 10, 11, 12], ()))
  (cond (decide (a0 = 1))
  (some ((), [2, 4, 5, 10], ()))
  (cond (decide (a0 = 3))
  (some ((), [4, 5, 10], ()))
  ((cond (decide (a0 = 4))
  (some ((), true, ()))
  (some ((), decide (a0 = 12), ())) : Option (Unit × TA12)).bind fun r1 =>
  cond r1.2.1
  (some ((), [5], ()))
  (cond (decide (a0 = 2))
  (some ((), [3], ()))
  (cond (decide (a0 = 7))
  (some ((), [8, 9], ()))
  (some ((), [], ()))))))) : Option (Unit × TA14)).bind fun r2 =>
  (slices_Contains_int_int_ r2.2.1 a1).bind fun v3 =>
  some v3

noncomputable def doc_CheckRefs_l1 (a2 : (List Int)) (a1 : Int) (p1 : TA25) : Option (TA25 ⊕ (Unit ⊕ (Int × Unit))) :=
  cond (decide (p1.2.1 < (a2.length : Int)))
  ((idx a2 p1.2.1).bind fun v1 =>
  (doc_find p1.2.2.1 v1).bind fun v2 =>
  cond (!v2.2.1)
  (some (.inr (.inr (7, ()))))
  ((idx p1.2.2.1.1 v2.1).bind fun v3 =>
  (doc_Permitted a1 v3.2.1).bind fun v4 =>
  cond (!v4.1)
  (some (.inr (.inr (8, ()))))
  (some (.inl ((), IntKind.i64.wrap (p1.2.1 + 1), p1.2.2.1, ())))))
  (some (.inr (.inl (()))))

noncomputable def doc_CheckRefs (a0 : TA16) (a1 : Int) (a2 : (List Int)) : Option (Int × Unit) :=
  (loop (doc_CheckRefs_l1 a2 a1) ((), 0, a0, ())).bind fun r5 =>
  (match r5 with
  | .inl _ => (some (0, ()))
  | .inr z7 => (some z7))

noncomputable def doc_Check_l1 (a0 : TA16) (p1 : TA25) : Option (TA25 ⊕ ((Unit × (TA16 × Unit)) ⊕ (Int × Unit))) :=
  cond (decide (p1.2.1 < (a0.1.length : Int)))
  ((idx a0.1 p1.2.1).bind fun v1 =>
  let v2 : TA0 := (v1.1, (v1.2.1, (v1.2.2.1, (v1.2.2.2.1, (v1.2.2.2.2.1, v1.2.2.2.2.2)))))
  (doc_CheckNode v2).bind fun v3 =>
  cond (!decide (v3.1 = 0))
  (some (.inr (.inr v3)))
  ((cond (decide (p1.2.1 = 0))
  (cond ((!decide (v1.1 = 1)))
  (some ((), true, p1.2.2.1, ()))
  (cond (decide (0 < p1.2.1))
  ((idx p1.2.2.1.1 (IntKind.i64.wrap (p1.2.1 - 1))).bind fun v4 =>
  some ((), ((decide (v1.1 ≤ v4.1))), p1.2.2.1, ()))
  (some ((), false, p1.2.2.1, ()))))
  (cond (decide (0 < p1.2.1))
  ((idx p1.2.2.1.1 (IntKind.i64.wrap (p1.2.1 - 1))).bind fun v5 =>
  some ((), ((decide (v1.1 ≤ v5.1))), p1.2.2.1, ()))
  (some ((), false, p1.2.2.1, ()))) : Option (Unit × (Bool × (TA16 × Unit)))).bind fun r6 =>
  cond r6.2.1
  (some (.inr (.inr (5, ()))))
  (some (.inl ((), IntKind.i64.wrap (p1.2.1 + 1), r6.2.2.1, ())))))
  (some (.inr (.inl ((), p1.2.2.1, ()))))

noncomputable def doc_Check_l2 (z8 : (Unit × (TA16 × Unit))) (p2 : TA25) : Option (TA25 ⊕ (Unit ⊕ (Int × Unit))) :=
  cond (decide (p2.2.1 < (z8.2.1.1.length : Int)))
  ((idx z8.2.1.1 p2.2.1).bind fun v9 =>
  let v10 : TA0 := (v9.1, (v9.2.1, (v9.2.2.1, (v9.2.2.2.1, (v9.2.2.2.2.1, v9.2.2.2.2.2)))))
  (doc_Refs v10).bind fun v11 =>
  (doc_CheckRefs p2.2.2.1 v9.2.1 v11.1).bind fun v12 =>
  cond (!decide (v12.1 = 0))
  (some (.inr (.inr v12)))
  (some (.inl ((), IntKind.i64.wrap (p2.2.1 + 1), p2.2.2.1, ()))))
  (some (.inr (.inl (()))))

noncomputable def doc_Check (a0 : TA16) : Option (Int × Unit) :=
  cond (decide ((a0.1.length : Int) = 0))
  (some (11, ()))
  ((loop (doc_Check_l1 a0) ((), 0, a0, ())).bind fun r7 =>
  (match r7 with
  | .inl z8 => ((loop (doc_Check_l2 z8) ((), 0, z8.2.1, ())).bind fun r13 =>
  (match r13 with
  | .inl _ => (some (0, ()))
  | .inr z15 => (some z15)))
  | .inr z16 => (some z16)))

noncomputable def _strings_Builder__WriteString (a1 : Str) (o1 : (List Int)) : Option (Int × (Bool × (Unit × TA5))) :=
  (cat o1 (strBytes a1)).bind fun v1 =>
  some ((a1.length : Int), false, (), ((), ((), ())), v1, ())

noncomputable def _strings_Builder__WriteByte (a1 : Int) (o1 : (List Int)) : Option (Bool × (Unit × TA5)) :=
  (cat o1 [a1]).bind fun v1 =>
  some (false, (), ((), ((), ())), v1, ())

noncomputable def markup_writer__escape_l1 (a1 : Str) (p1 : TA20) : Option TA31 :=
  cond (decide (p1.2.1 < (a1.length : Int)))
  (((idx a1 p1.2.1).bind fun v1 =>
  cond (decide ((ofByte v1) = 38))
  ((_strings_Builder__WriteString [38, 97, 109, 112, 59] p1.2.2.2.1).bind fun v2 =>
  some ((), ((), ((), ())), v2.2.2.2.2.1, ()))
  (cond (decide ((ofByte v1) = 60))
  ((_strings_Builder__WriteString [38, 108, 116, 59] p1.2.2.2.1).bind fun v3 =>
  some ((), ((), ((), ())), v3.2.2.2.2.1, ()))
  (cond (decide ((ofByte v1) = 62))
  ((_strings_Builder__WriteString [38, 103, 116, 59] p1.2.2.2.1).bind fun v4 =>
  some ((), ((), ((), ())), v4.2.2.2.2.1, ()))
  (cond (decide ((ofByte v1) = 34))
  ((_strings_Builder__WriteString [38, 113, 117, 111, 116, 59] p1.2.2.2.1).bind fun v5 =>
  some ((), ((), ((), ())), v5.2.2.2.2.1, ()))
  (cond (decide ((ofByte v1) < 32))
  ((sItoa (IntKind.i64.wrap (ofByte v1), ())).bind fun v6 =>
  (cat [38, 35] v6.1).bind fun v7 =>
  (cat v7 [59]).bind fun v8 =>
  (_strings_Builder__WriteString v8 p1.2.2.2.1).bind fun v9 =>
  some ((), ((), ((), ())), v9.2.2.2.2.1, ()))
  ((_strings_Builder__WriteByte (ofByte v1) p1.2.2.2.1).bind fun v10 =>
  some ((), ((), ((), ())), v10.2.2.2.1, ())))))) : Option (Unit × TA5)).bind fun r11 =>
  some (.inl ((), IntKind.i64.wrap (p1.2.1 + 1), ((), ((), ())), r11.2.2.1, ())))
  (some (.inr ((), ((), ((), ())), p1.2.2.2.1, ())))

noncomputable def markup_writer__escape (a1 : Str) (o1 : (List Int)) : Option (Unit × TA5) :=
  (loop (markup_writer__escape_l1 a1) ((), 0, ((), ((), ())), o1, ())).bind fun r12 =>
  some ((), ((), ((), ())), r12.2.2.1, ())

noncomputable def markup_writer__open_l1 (a2 : (List Str)) (p1 : TA20) : Option TA31 :=
  cond (decide (p1.2.1 < (a2.length : Int)))
  ((idx a2 p1.2.1).bind fun v3 =>
  (cat [32] v3).bind fun v4 =>
  (cat v4 [61, 34]).bind fun v5 =>
  (_strings_Builder__WriteString v5 p1.2.2.2.1).bind fun v6 =>
  (idx a2 (IntKind.i64.wrap (p1.2.1 + 1))).bind fun v7 =>
  (markup_writer__escape v7 v6.2.2.2.2.1).bind fun v8 =>
  (_strings_Builder__WriteByte 34 v8.2.2.1).bind fun v9 =>
  some (.inl ((), IntKind.i64.wrap (p1.2.1 + 2), ((), ((), ())), v9.2.2.2.1, ())))
  (some (.inr ((), ((), ((), ())), p1.2.2.2.1, ())))

noncomputable def markup_writer__open (a1 : Str) (a2 : (List Str)) (o1 : (List Int)) : Option (Unit × TA5) :=
  (cat [60] a1).bind fun v1 =>
  (_strings_Builder__WriteString v1 o1).bind fun v2 =>
  (loop (markup_writer__open_l1 a2) ((), 0, ((), ((), ())), v2.2.2.2.2.1, ())).bind fun r10 =>
  (_strings_Builder__WriteByte 62 r10.2.2.1).bind fun v11 =>
  some ((), ((), ((), ())), v11.2.2.2.1, ())

noncomputable def markup_kinds : Option TA26 :=
  some ([[114, 111, 111, 116], [116, 101, 120, 116], [116, 97, 98, 108, 101], [99, 101, 108, 108], [110, 111, 116, 101], [102, 105, 101, 108, 100], [115, 104, 101, 101, 116], [100, 101, 99, 107], [115, 108, 105, 100, 101], [109, 97, 115, 116, 101, 114], [100, 114, 97, 119], [115, 116, 121, 108, 101], [114, 101, 109, 97, 114, 107]], ())

noncomputable def markup_writer__shut (a1 : Str) (o1 : (List Int)) : Option (Unit × TA5) :=
  (cat [60, 47] a1).bind fun v1 =>
  (cat v1 [62]).bind fun v2 =>
  (_strings_Builder__WriteString v2 o1).bind fun v3 =>
  some ((), ((), ((), ())), v3.2.2.2.2.1, ())

noncomputable def markup_writer__attrs_l1 (a1 : TA15) (p1 : TA20) : Option TA31 :=
  cond (decide (p1.2.1 < (a1.length : Int)))
  ((idx a1 p1.2.1).bind fun v1 =>
  (markup_writer__open [97] [[110], v1.1] p1.2.2.2.1).bind fun v2 =>
  (markup_writer__escape v1.2.1 v2.2.2.1).bind fun v3 =>
  (markup_writer__shut [97] v3.2.2.1).bind fun v4 =>
  some (.inl ((), IntKind.i64.wrap (p1.2.1 + 1), ((), ((), ())), v4.2.2.1, ())))
  (some (.inr ((), ((), ((), ())), p1.2.2.2.1, ())))

noncomputable def markup_writer__attrs (a1 : TA15) (o1 : (List Int)) : Option (Unit × TA5) :=
  (loop (markup_writer__attrs_l1 a1) ((), 0, ((), ((), ())), o1, ())).bind fun r5 =>
  some ((), ((), ((), ())), r5.2.2.1, ())

noncomputable def utf8_appendRuneNonASCII (a1 : Int) (o0 : (List Int)) : Option (Unit × TA14) :=
  cond (decide ((IntKind.u32.wrap a1) ≤ 2047))
  ((shc 6).bind fun v1 =>
  (cat o0 [bor .u8 192 (IntKind.u8.wrap (shr .i32 a1 v1)), bor .u8 128 (band .u8 (IntKind.u8.wrap a1) 63)]).bind fun v2 =>
  some ((), v2, ()))
  ((cond (decide ((IntKind.u32.wrap a1) < 55296))
  (some ((), true, o0, ()))
  (cond (decide ((57343 : Int) < (IntKind.u32.wrap a1)))
  (some ((), (decide ((IntKind.u32.wrap a1) ≤ 65535)), o0, ()))
  (some ((), false, o0, ()))) : Option (Unit × (Bool × TA14))).bind fun r3 =>
  cond r3.2.1
  ((shc 12).bind fun v4 =>
  (shc 6).bind fun v5 =>
  (cat r3.2.2.1 [bor .u8 224 (IntKind.u8.wrap (shr .i32 a1 v4)), bor .u8 128 (band .u8 (IntKind.u8.wrap (shr .i32 a1 v5)) 63), bor .u8 128 (band .u8 (IntKind.u8.wrap a1) 63)]).bind fun v6 =>
  some ((), v6, ()))
  ((cond (decide (65535 < (IntKind.u32.wrap a1)))
  (some ((), (decide ((IntKind.u32.wrap a1) ≤ 1114111)), r3.2.2.1, ()))
  (some ((), false, r3.2.2.1, ())) : Option (Unit × (Bool × TA14))).bind fun r7 =>
  cond r7.2.1
  ((shc 18).bind fun v8 =>
  (shc 12).bind fun v9 =>
  (shc 6).bind fun v10 =>
  let v11 : Int := bor .u8 128 (band .u8 (IntKind.u8.wrap (shr .i32 a1 v10)) 63)
  (cat r7.2.2.1 [bor .u8 240 (IntKind.u8.wrap (shr .i32 a1 v8)), bor .u8 128 (band .u8 (IntKind.u8.wrap (shr .i32 a1 v9)) 63), v11, bor .u8 128 (band .u8 (IntKind.u8.wrap a1) 63)]).bind fun v12 =>
  some ((), v12, ()))
  ((cat r7.2.2.1 [239, 191, 189]).bind fun v13 =>
  some ((), v13, ()))))

noncomputable def utf8_AppendRune (a1 : Int) (o0 : (List Int)) : Option (Unit × TA14) :=
  cond (decide ((IntKind.u32.wrap a1) ≤ 127))
  ((cat o0 [IntKind.u8.wrap a1]).bind fun v1 =>
  some ((), v1, ()))
  ((utf8_appendRuneNonASCII a1 o0).bind fun v2 =>
  some ((), v2.2.1, ()))

noncomputable def _strings_Builder__WriteRune (a1 : Int) (o1 : (List Int)) : Option (Int × (Bool × (Unit × TA5))) :=
  (utf8_AppendRune a1 o1).bind fun v1 =>
  some (IntKind.i64.wrap ((v1.2.1.length : Int) - (o1.length : Int)), false, (), ((), ((), ())), v1.2.1, ())

noncomputable def markup_writer__text (a1 : Str) (o1 : (List Int)) : Option (Unit × TA5) :=
  (markup_writer__open [115] [] o1).bind fun v1 =>
  (markup_writer__escape a1 v1.2.2.1).bind fun v2 =>
  (markup_writer__shut [115] v2.2.2.1).bind fun v3 =>
  some ((), ((), ((), ())), v3.2.2.1, ())

noncomputable def markup_writer__flow_l1 (a1 : (List TA9)) (p2 : TA20) (p1 : TA23) : Option (TA23 ⊕ TA23) :=
  (cond (decide (p1.2.2.1 < (a1.length : Int)))
  ((idx a1 p1.2.2.1).bind fun v12 =>
  cond ((decide (v12.2.1 = 0)))
  ((idx a1 p1.2.2.1).bind fun v13 =>
  (idx a1 p2.2.1).bind fun v14 =>
  (attr_Same v13.2.2.1 v14.2.2.1).bind fun v15 =>
  some ((), (), v15.1, ((), ((), ())), ((), ((), ())), p1.2.2.2.2.2.1, p1.2.2.2.2.2.2.1, ()))
  (some ((), (), false, ((), ((), ())), ((), ((), ())), p1.2.2.2.2.2.1, p1.2.2.2.2.2.2.1, ())))
  (some ((), (), false, ((), ((), ())), ((), ((), ())), p1.2.2.2.2.2.1, p1.2.2.2.2.2.2.1, ())) : Option (Unit × (Unit × (Bool × ((Unit × TA10) × ((Unit × TA10) × ((List Int) × TA14))))))).bind fun r16 =>
  cond r16.2.2.1
  ((idx a1 p1.2.2.1).bind fun v17 =>
  (_strings_Builder__WriteRune (IntKind.i32.wrap v17.1) r16.2.2.2.2.2.2.1).bind fun v18 =>
  some (.inl ((), (), IntKind.i64.wrap (p1.2.2.1 + 1), ((), ((), ())), ((), ((), ())), r16.2.2.2.2.2.1, v18.2.2.2.2.1, ())))
  (some (.inr ((), (), p1.2.2.1, ((), ((), ())), ((), ((), ())), r16.2.2.2.2.2.1, r16.2.2.2.2.2.2.1, ())))

noncomputable def markup_writer__flow_l2 (a1 : (List TA9)) (p2 : TA20) : Option TA31 :=
  cond (decide (p2.2.1 < (a1.length : Int)))
  ((idx a1 p2.2.1).bind fun v2 =>
  cond (!decide (v2.2.1 = 0))
  ((idx a1 p2.2.1).bind fun v3 =>
  (sItoa (v3.2.1, ())).bind fun v4 =>
  (markup_writer__open [111] [[114, 101, 102], v4.1] p2.2.2.2.1).bind fun v5 =>
  (idx a1 p2.2.1).bind fun v6 =>
  (markup_writer__attrs v6.2.2.1 v5.2.2.1).bind fun v7 =>
  (markup_writer__shut [111] v7.2.2.1).bind fun v8 =>
  some (.inl ((), IntKind.i64.wrap (p2.2.1 + 1), ((), ((), ())), v8.2.2.1, ())))
  ((markup_writer__open [114] [] p2.2.2.2.1).bind fun v9 =>
  (idx a1 p2.2.1).bind fun v10 =>
  (markup_writer__attrs v10.2.2.1 v9.2.2.1).bind fun v11 =>
  (loop (markup_writer__flow_l1 a1 p2) ((), (), p2.2.1, ((), ((), ())), ((), ((), ())), v11.2.2.1, [], ())).bind fun r19 =>
  (chk (decide (r19.2.2.2.2.2.2.1.length ≤ lim))).bind fun _ =>
  (markup_writer__text (bytesStr r19.2.2.2.2.2.2.1) r19.2.2.2.2.2.1).bind fun v20 =>
  (markup_writer__shut [114] v20.2.2.1).bind fun v21 =>
  some (.inl ((), r19.2.2.1, ((), ((), ())), v21.2.2.1, ()))))
  (some (.inr ((), ((), ((), ())), p2.2.2.2.1, ())))

noncomputable def markup_writer__flow (a1 : (List TA9)) (o1 : (List Int)) : Option (Unit × TA5) :=
  (markup_writer__open [102, 108, 111, 119] [] o1).bind fun v1 =>
  (loop (markup_writer__flow_l2 a1) ((), 0, ((), ((), ())), v1.2.2.1, ())).bind fun r22 =>
  (markup_writer__shut [102, 108, 111, 119] r22.2.2.1).bind fun v23 =>
  some ((), ((), ((), ())), v23.2.2.1, ())

noncomputable def markup_writer__grid_l1 (a1 : TA2) (p1 : (Unit × (Unit × (Int × TA32)))) : Option ((Unit × (Unit × (Int × TA32))) ⊕ (Unit × (Unit × TA32))) :=
  cond (decide (p1.2.2.1 < (a1.2.2.1.length : Int)))
  ((idx a1.2.2.1 p1.2.2.1).bind fun v4 =>
  (sItoa (v4.1, ())).bind fun v5 =>
  (sItoa (v4.2.1, ())).bind fun v6 =>
  (markup_writer__open [99] [[114, 111, 119], v5.1, [99, 111, 108], v6.1] p1.2.2.2.2.2.1).bind fun v7 =>
  (markup_writer__attrs v4.2.2.2.2.1 v7.2.2.1).bind fun v8 =>
  (cond (!decide (v4.2.2.1 = []))
  ((markup_writer__text v4.2.2.1 v8.2.2.1).bind fun v9 =>
  some ((), (), (), ((), ((), ())), p1.2.2.2.2.1, v4, v9.2.2.1, ()))
  (some ((), (), (), ((), ((), ())), p1.2.2.2.2.1, v4, v8.2.2.1, ())) : Option (Unit × (Unit × (Unit × ((Unit × TA10) × (TA2 × (TA4 × TA14))))))).bind fun r10 =>
  (cond (!decide (r10.2.2.2.2.2.1.2.2.2.1 = 0))
  ((sItoa (r10.2.2.2.2.2.1.2.2.2.1, ())).bind fun v11 =>
  (markup_writer__open [111] [[114, 101, 102], v11.1] r10.2.2.2.2.2.2.1).bind fun v12 =>
  (markup_writer__shut [111] v12.2.2.1).bind fun v13 =>
  some ((), (), ((), ((), ())), r10.2.2.2.2.1, v13.2.2.1, ()))
  (some ((), (), ((), ((), ())), r10.2.2.2.2.1, r10.2.2.2.2.2.2.1, ())) : Option (Unit × (Unit × TA32))).bind fun r14 =>
  (markup_writer__shut [99] r14.2.2.2.2.1).bind fun v15 =>
  some (.inl ((), (), IntKind.i64.wrap (p1.2.2.1 + 1), ((), ((), ())), r14.2.2.2.1, v15.2.2.1, ())))
  (some (.inr ((), (), ((), ((), ())), p1.2.2.2.2.1, p1.2.2.2.2.2.1, ())))

noncomputable def markup_writer__grid_l2 (r16 : (Unit × (Unit × TA32))) (p2 : TA20) : Option TA31 :=
  cond (decide (p2.2.1 < (r16.2.2.2.1.2.2.2.1.length : Int)))
  ((idx r16.2.2.2.1.2.2.2.1 p2.2.1).bind fun v17 =>
  (sItoa (v17.1, ())).bind fun v18 =>
  (sItoa (v17.2.1, ())).bind fun v19 =>
  (sItoa (v17.2.2.1, ())).bind fun v20 =>
  (sItoa v17.2.2.2).bind fun v21 =>
  (markup_writer__open [109] [[114, 111, 119], v18.1, [99, 111, 108], v19.1, [104], v20.1, [119], v21.1] p2.2.2.2.1).bind fun v22 =>
  (markup_writer__shut [109] v22.2.2.1).bind fun v23 =>
  some (.inl ((), IntKind.i64.wrap (p2.2.1 + 1), ((), ((), ())), v23.2.2.1, ())))
  (some (.inr ((), ((), ((), ())), p2.2.2.2.1, ())))

noncomputable def markup_writer__grid (a1 : TA2) (o1 : (List Int)) : Option (Unit × TA5) :=
  (sItoa (a1.1, ())).bind fun v1 =>
  (sItoa (a1.2.1, ())).bind fun v2 =>
  (markup_writer__open [103, 114, 105, 100] [[114, 111, 119, 115], v1.1, [99, 111, 108, 115], v2.1] o1).bind fun v3 =>
  (loop (markup_writer__grid_l1 a1) ((), (), 0, ((), ((), ())), a1, v3.2.2.1, ())).bind fun r16 =>
  (loop (markup_writer__grid_l2 r16) ((), 0, ((), ((), ())), r16.2.2.2.2.1, ())).bind fun r24 =>
  (markup_writer__shut [103, 114, 105, 100] r24.2.2.1).bind fun v25 =>
  some ((), ((), ((), ())), v25.2.2.1, ())

noncomputable def markup_writer__draw_l1 (a1 : (List TA7)) (p1 : TA20) : Option TA31 :=
  cond (decide (p1.2.1 < (a1.length : Int)))
  (((idx a1 p1.2.1).bind fun v2 =>
  (sItoa (v2.1, ())).bind fun v3 =>
  (sItoa (v2.2.1, ())).bind fun v4 =>
  (sItoa (v2.2.2.2.1, ())).bind fun v5 =>
  cond (decide (v2.2.2.1 = 0))
  ((sItoa (v2.2.2.2.2.1, ())).bind fun v6 =>
  (cat [[99, 108, 111, 99, 107], v3.1, [115, 105, 116, 101], v4.1, [105, 116, 101, 109], v5.1] [[112, 97, 114, 101, 110, 116], v6.1, [112, 108, 97, 99, 101], v2.2.2.2.2.2.1]).bind fun v7 =>
  (markup_writer__open [109, 111, 118, 101] v7 p1.2.2.2.1).bind fun v8 =>
  (markup_writer__shut [109, 111, 118, 101] v8.2.2.1).bind fun v9 =>
  some ((), ((), ((), ())), v9.2.2.1, ()))
  ((cat [[99, 108, 111, 99, 107], v3.1, [115, 105, 116, 101], v4.1, [105, 116, 101, 109], v5.1] [[110], v2.2.2.2.2.2.2.1]).bind fun v10 =>
  (markup_writer__open [115, 101, 116] v10 p1.2.2.2.1).bind fun v11 =>
  (markup_writer__escape v2.2.2.2.2.2.2.2.1 v11.2.2.1).bind fun v12 =>
  (markup_writer__shut [115, 101, 116] v12.2.2.1).bind fun v13 =>
  some ((), ((), ((), ())), v13.2.2.1, ())) : Option (Unit × TA5)).bind fun r14 =>
  some (.inl ((), IntKind.i64.wrap (p1.2.1 + 1), ((), ((), ())), r14.2.2.1, ())))
  (some (.inr ((), ((), ((), ())), p1.2.2.2.1, ())))

noncomputable def markup_writer__draw (a1 : (List TA7)) (o1 : (List Int)) : Option (Unit × TA5) :=
  (markup_writer__open [100, 114, 97, 119] [] o1).bind fun v1 =>
  (loop (markup_writer__draw_l1 a1) ((), 0, ((), ((), ())), v1.2.2.1, ())).bind fun r15 =>
  (markup_writer__shut [100, 114, 97, 119] r15.2.2.1).bind fun v16 =>
  some ((), ((), ((), ())), v16.2.2.1, ())

noncomputable def markup_writer__node (a1 : TA0) (o1 : (List Int)) : Option (Unit × TA5) :=
  (sItoa (a1.1, ())).bind fun v1 =>
  (markup_kinds).bind fun v2 =>
  (idx v2.1 a1.2.1).bind fun v3 =>
  (markup_writer__open [110, 111, 100, 101] [[105, 100], v1.1, [107, 105, 110, 100], v3] o1).bind fun v4 =>
  (markup_writer__attrs a1.2.2.1 v4.2.2.1).bind fun v5 =>
  (((doc_Texts a1.2.1).bind fun v6 =>
  cond v6.1
  (some ((), (), true, ((), ((), ())), (a1.1, (a1.2.1, (a1.2.2.1, (a1.2.2.2.1, (a1.2.2.2.2.1.1, (a1.2.2.2.2.1.2.1, (a1.2.2.2.2.1.2.2.1, (a1.2.2.2.2.1.2.2.2.1, a1.2.2.2.2.2)))))))), v5.2.2.1, ()))
  ((doc_Lists a1.2.1).bind fun v7 =>
  some ((), (), v7.1, ((), ((), ())), (a1.1, (a1.2.1, (a1.2.2.1, (a1.2.2.2.1, (a1.2.2.2.2.1.1, (a1.2.2.2.2.1.2.1, (a1.2.2.2.2.1.2.2.1, (a1.2.2.2.2.1.2.2.2.1, a1.2.2.2.2.2)))))))), v5.2.2.1, ())) : Option (Unit × (Unit × (Bool × ((Unit × TA10) × (TA1 × TA14)))))).bind fun r8 =>
  cond r8.2.2.1
  ((markup_writer__flow r8.2.2.2.2.1.2.2.2.1 r8.2.2.2.2.2.1).bind fun v9 =>
  some ((), ((), ((), ())), v9.2.2.1, ()))
  ((doc_Grids r8.2.2.2.2.1.2.1).bind fun v10 =>
  cond v10.1
  (let v11 : TA2 := (r8.2.2.2.2.1.2.2.2.2.1, (r8.2.2.2.2.1.2.2.2.2.2.1, (r8.2.2.2.2.1.2.2.2.2.2.2.1, (r8.2.2.2.2.1.2.2.2.2.2.2.2.1, ()))))
  (markup_writer__grid v11 r8.2.2.2.2.2.1).bind fun v12 =>
  some ((), ((), ((), ())), v12.2.2.1, ()))
  ((doc_Draws r8.2.2.2.2.1.2.1).bind fun v13 =>
  cond v13.1
  ((markup_writer__draw r8.2.2.2.2.1.2.2.2.2.2.2.2.2.1 r8.2.2.2.2.2.1).bind fun v14 =>
  some ((), ((), ((), ())), v14.2.2.1, ()))
  (some ((), ((), ((), ())), r8.2.2.2.2.2.1, ())))) : Option (Unit × TA5)).bind fun r15 =>
  (markup_writer__shut [110, 111, 100, 101] r15.2.2.1).bind fun v16 =>
  some ((), ((), ((), ())), v16.2.2.1, ())

noncomputable def markup_Print_l1 (a0 : TA16) (p1 : TA20) : Option TA31 :=
  cond (decide (p1.2.1 < (a0.1.length : Int)))
  ((idx a0.1 p1.2.1).bind fun v3 =>
  let v4 : TA0 := (v3.1, (v3.2.1, (v3.2.2.1, (v3.2.2.2.1, (v3.2.2.2.2.1, v3.2.2.2.2.2)))))
  (markup_writer__node v4 p1.2.2.2.1).bind fun v5 =>
  some (.inl ((), IntKind.i64.wrap (p1.2.1 + 1), ((), ((), ())), v5.2.2.1, ())))
  (some (.inr ((), ((), ((), ())), p1.2.2.2.1, ())))

noncomputable def markup_Print (a0 : TA16) : Option TA6 :=
  (doc_Check a0).bind fun v1 =>
  cond (!decide (v1.1 = 0))
  (some ([], v1.1, ()))
  ((markup_writer__open [100, 111, 99] [] []).bind fun v2 =>
  (loop (markup_Print_l1 a0) ((), 0, ((), ((), ())), v2.2.2.1, ())).bind fun r6 =>
  (markup_writer__shut [100, 111, 99] r6.2.2.1).bind fun v7 =>
  (_strings_Builder__WriteByte 10 v7.2.2.1).bind fun v8 =>
  (chk (decide (v8.2.2.2.1.length ≤ lim))).bind fun _ =>
  some (bytesStr v8.2.2.2.1, 0, ()))

noncomputable def chanceryref2_Has (a0 : Str) (a1 : Str) : Option TA12 :=
  cond (decide ((a1.length : Int) ≤ (a0.length : Int)))
  ((cut a0 0 (a1.length : Int)).bind fun v1 =>
  some ((decide (v1 = a1)), ()))
  (some (false, ()))

noncomputable def chancerylaw2_flats : Option TA12 :=
  (doc_First).bind fun v1 =>
  (markup_Print v1.1).bind fun v2 =>
  cond (decide (v2.2.1 = 0))
  ((chanceryref2_Has v2.1 [60, 100, 111, 99, 62, 60, 110, 111, 100, 101, 32, 105, 100, 61, 34, 49, 34, 32, 107, 105, 110, 100, 61, 34, 114, 111, 111, 116, 34, 62]).bind fun v3 =>
  some (v3.1, ()))
  (some (false, ()))

noncomputable def markup_reader__space_l1 (p1 : TA11) : Option (TA11 ⊕ TA11) :=
  (cond (decide (p1.2.1.2.1 < (p1.2.1.1.length : Int)))
  ((idx p1.2.1.1 p1.2.1.2.1).bind fun v1 =>
  (sIndexByte ([32, 9, 10, 13], ofByte v1, ())).bind fun v2 =>
  some ((), (decide (0 ≤ v2.1)), p1.2.1, ()))
  (some ((), false, p1.2.1, ())) : Option TA21).bind fun r3 =>
  cond r3.2.1
  (some (.inl ((), (r3.2.2.1.1, (IntKind.i64.wrap (r3.2.2.1.2.1 + 1), ())), ())))
  (some (.inr ((), r3.2.2.1, ())))

noncomputable def markup_reader__space (o0 : Str) (o0_1 : Int) : Option TA11 :=
  (loop markup_reader__space_l1 ((), (o0, (o0_1, ())), ())).bind fun r4 =>
  some ((), r4.2.1, ())

noncomputable def markup_letter (a0 : Int) : Option TA12 :=
  cond (decide (97 ≤ a0))
  (some ((decide (a0 ≤ 122)), ()))
  (some (false, ()))

noncomputable def markup_reader__next_l1 (p1 : (Unit × (Int × (TA6 × Unit)))) : Option ((Unit × (Int × (TA6 × Unit))) ⊕ (Unit × (Int × (TA6 × Unit)))) :=
  (cond (decide (p1.2.1 < (p1.2.2.1.1.length : Int)))
  ((idx p1.2.2.1.1 p1.2.1).bind fun v8 =>
  (markup_letter (ofByte v8)).bind fun v9 =>
  some ((), v9.1, p1.2.2.1, ()))
  (some ((), false, p1.2.2.1, ())) : Option TA21).bind fun r10 =>
  cond r10.2.1
  (some (.inl ((), IntKind.i64.wrap (p1.2.1 + 1), r10.2.2.1, ())))
  (some (.inr ((), p1.2.1, r10.2.2.1, ())))

noncomputable def markup_reader__next (o0 : Str) (o0_1 : Int) : Option ((Str × TA11) ⊕ Unit) :=
  (markup_reader__space o0 o0_1).bind fun v1 =>
  (cond (decide (v1.2.1.2.1 = (v1.2.1.1.length : Int)))
  (some (.inr ((), ())))
  (some (.inl ((), v1.2.1, ()))) : Option (TA11 ⊕ TA10)).bind fun r2 =>
  (match r2 with
  | .inl z3 => (((idx z3.2.1.1 z3.2.1.2.1).bind fun v4 =>
  cond (!decide ((ofByte v4) = 60))
  (some ((), true, z3.2.1, ()))
  ((cut z3.2.1.1 z3.2.1.2.1 (z3.2.1.1.length : Int)).bind fun v5 =>
  (sHasPrefix (v5, [60, 47], ())).bind fun v6 =>
  some ((), v6.1, z3.2.1, ())) : Option TA21).bind fun r7 =>
  cond r7.2.1
  (some (.inl ([], (), r7.2.2.1, ())))
  ((loop markup_reader__next_l1 ((), IntKind.i64.wrap (r7.2.2.1.2.1 + 1), r7.2.2.1, ())).bind fun r11 =>
  (cut r11.2.2.1.1 (IntKind.i64.wrap (r11.2.2.1.2.1 + 1)) r11.2.1).bind fun v12 =>
  some (.inl (v12, (), r11.2.2.1, ()))))
  | .inr z13 => (some (.inr z13.1)))

noncomputable def markup_reader__want_l1 (a1 : Str) (p1 : (Unit × (Int × (TA6 × Unit)))) : Option ((Unit × (Int × (TA6 × Unit))) ⊕ (TA11 ⊕ TA10)) :=
  cond (decide (p1.2.1 < (a1.length : Int)))
  (((cond (decide (p1.2.2.1.2.1 = (p1.2.2.1.1.length : Int)))
  (some ((), true, p1.2.2.1, ()))
  ((idx p1.2.2.1.1 p1.2.2.1.2.1).bind fun v1 =>
  (idx a1 p1.2.1).bind fun v2 =>
  some ((), (!decide ((ofByte v1) = (ofByte v2))), p1.2.2.1, ())) : Option TA21).bind fun r3 =>
  cond r3.2.1
  (some (.inr ((), ())))
  (some (.inl ((), r3.2.2.1, ()))) : Option (TA11 ⊕ TA10)).bind fun r4 =>
  (match r4 with
  | .inl z5 => (some (.inl ((), IntKind.i64.wrap (p1.2.1 + 1), (z5.2.1.1, (IntKind.i64.wrap (z5.2.1.2.1 + 1), ())), ())))
  | .inr z6 => (some (.inr (.inr z6)))))
  (some (.inr (.inl ((), p1.2.2.1, ()))))

noncomputable def markup_reader__want (a1 : Str) (o0 : Str) (o0_1 : Int) : Option (TA11 ⊕ Unit) :=
  (loop (markup_reader__want_l1 a1) ((), 0, (o0, (o0_1, ())), ())).bind fun r7 =>
  (match r7 with
  | .inl z8 => (some (.inl ((), z8.2.1, ())))
  | .inr z9 => (some (.inr z9.1)))

noncomputable def markup_reader__word_l1 (p1 : TA11) : Option (TA11 ⊕ TA11) :=
  (cond (decide (p1.2.1.2.1 < (p1.2.1.1.length : Int)))
  ((idx p1.2.1.1 p1.2.1.2.1).bind fun v1 =>
  (markup_letter (ofByte v1)).bind fun v2 =>
  some ((), v2.1, p1.2.1, ()))
  (some ((), false, p1.2.1, ())) : Option TA21).bind fun r3 =>
  cond r3.2.1
  (some (.inl ((), (r3.2.2.1.1, (IntKind.i64.wrap (r3.2.2.1.2.1 + 1), ())), ())))
  (some (.inr ((), r3.2.2.1, ())))

noncomputable def markup_reader__word (o0 : Str) (o0_1 : Int) : Option ((Str × TA11) ⊕ Unit) :=
  (loop markup_reader__word_l1 ((), (o0, (o0_1, ())), ())).bind fun r4 =>
  (cond (decide (r4.2.1.2.1 = o0_1))
  (some (.inr ((), ())))
  (some (.inl ((), r4.2.1, ()))) : Option (TA11 ⊕ TA10)).bind fun r5 =>
  (match r5 with
  | .inl z6 => ((cut z6.2.1.1 o0_1 z6.2.1.2.1).bind fun v7 =>
  some (.inl (v7, (), z6.2.1, ())))
  | .inr z8 => (some (.inr z8.1)))

noncomputable def stringslite_Cut (a0 : Str) (a1 : Str) : Option (Str × (Str × TA12)) :=
  (sIndex (a0, a1, ())).bind fun v1 =>
  cond (decide (0 ≤ v1.1))
  ((cut a0 0 v1.1).bind fun v2 =>
  (cut a0 (IntKind.i64.wrap (v1.1 + (a1.length : Int))) (a0.length : Int)).bind fun v3 =>
  some (v2, v3, true, ()))
  (some (a0, [], false, ()))

noncomputable def strings_Cut (a0 : Str) (a1 : Str) : Option (Str × (Str × TA12)) :=
  (stringslite_Cut a0 a1).bind fun v1 =>
  some v1

noncomputable def slices_Index_string_string__l1 (a0 : (List Str)) (a1 : Str) (p1 : (Int × Unit)) : Option TA18 :=
  cond (decide (p1.1 < (a0.length : Int)))
  ((idx a0 p1.1).bind fun v1 =>
  cond (decide (a1 = v1))
  (some (.inr (.inr p1)))
  (some (.inl (IntKind.i64.wrap (p1.1 + 1), ()))))
  (some (.inr (.inl (()))))

noncomputable def slices_Index_string_string_ (a0 : (List Str)) (a1 : Str) : Option (Int × Unit) :=
  (loop (slices_Index_string_string__l1 a0 a1) (0, ())).bind fun r2 =>
  (match r2 with
  | .inl _ => (some ((-1), ()))
  | .inr z4 => (some z4))

noncomputable def utf8_ValidRune (a0 : Int) : Option TA12 :=
  (cond (decide ((0 : Int) ≤ a0))
  (some ((decide (a0 < 55296)), ()))
  (some (false, ())) : Option TA12).bind fun r1 =>
  cond r1.1
  (some (true, ()))
  ((cond (decide ((57343 : Int) < a0))
  (some ((decide (a0 ≤ 1114111)), ()))
  (some (false, ())) : Option TA12).bind fun r2 =>
  cond r2.1
  (some (true, ()))
  (some (false, ())))

noncomputable def markup_reader__reference (o0 : Str) (o0_1 : Int) : Option ((Int × TA11) ⊕ Unit) :=
  (cut o0 (IntKind.i64.wrap (o0_1 + 1)) (o0.length : Int)).bind fun v1 =>
  (strings_Cut v1 [59]).bind fun v2 =>
  (slices_Index_string_string_ [[97, 109, 112], [108, 116], [103, 116], [113, 117, 111, 116]] v2.1).bind fun v3 =>
  (cond v2.2.2.1
  (some ((), (decide (0 ≤ v3.1)), (o0, (o0_1, ())), ()))
  (some ((), false, (o0, (o0_1, ())), ())) : Option TA21).bind fun r4 =>
  cond r4.2.1
  (let v5 : Int := IntKind.i64.wrap (r4.2.2.1.2.1 + (IntKind.i64.wrap ((v2.1.length : Int) + 2)))
  (idx [38, 60, 62, 34] v3.1).bind fun v6 =>
  some (.inl (IntKind.i32.wrap (ofByte v6), (), (r4.2.2.1.1, (v5, ())), ())))
  ((sCutPrefix (v2.1, [35], ())).bind fun v7 =>
  (sAtoi (v7.1, ())).bind fun v8 =>
  ((cond (!v2.2.2.1)
  (some ((), true, r4.2.2.1, ()))
  (cond ((!v7.2.1))
  (some ((), true, r4.2.2.1, ()))
  (cond ((!(v8.2.1 == false)))
  (some ((), true, r4.2.2.1, ()))
  (cond ((decide (7 < (v7.1.length : Int))))
  (some ((), true, r4.2.2.1, ()))
  ((idx v7.1 0).bind fun v9 =>
  cond ((decide ((ofByte v9) < 48)))
  (some ((), true, r4.2.2.1, ()))
  ((idx v7.1 0).bind fun v10 =>
  cond ((decide (57 < (ofByte v10))))
  (some ((), true, r4.2.2.1, ()))
  ((utf8_ValidRune (IntKind.i32.wrap v8.1)).bind fun v11 =>
  some ((), (!v11.1), r4.2.2.1, ()))))))) : Option TA21).bind fun r12 =>
  cond r12.2.1
  (some (.inr ((), ())))
  (some (.inl ((), r12.2.2.1, ()))) : Option (TA11 ⊕ TA10)).bind fun r13 =>
  (match r13 with
  | .inl z14 => (let v15 : Int := IntKind.i64.wrap (z14.2.1.2.1 + (IntKind.i64.wrap ((v2.1.length : Int) + 2)))
  some (.inl (IntKind.i32.wrap v8.1, (), (z14.2.1.1, (v15, ())), ())))
  | .inr z16 => (some (.inr z16.1))))

noncomputable def _strings_Builder__WriteStringx (a1 : Str) (o1 : (List Int)) : Option (Int × (Bool × (Unit × TA5))) :=
  (cat o1 (strBytes a1)).bind fun v1 =>
  some ((a1.length : Int), false, (), ((), ((), ())), v1, ())

noncomputable def markup_reader__text_l1 (a1 : Int) (p1 : (Unit × (Unit × (TA6 × TA5)))) : Option ((Unit × (Unit × (TA6 × TA5))) ⊕ (TA10 ⊕ (Unit × (Str × (TA6 × Unit))))) :=
  (cond (decide (p1.2.2.1.2.1 = (p1.2.2.1.1.length : Int)))
  (some (.inr ((), ())))
  (some (.inl ((), (), p1.2.2.1, ((), ((), ())), p1.2.2.2.2.1, ()))) : Option ((Unit × (Unit × (TA6 × TA5))) ⊕ TA10)).bind fun r1 =>
  (match r1 with
  | .inl z2 => ((cut z2.2.2.1.1 z2.2.2.1.2.1 (z2.2.2.1.1.length : Int)).bind fun v3 =>
  (sRune (v3, ())).bind fun v4 =>
  ((idx z2.2.2.1.1 z2.2.2.1.2.1).bind fun v5 =>
  cond (decide ((ofByte v5) = a1))
  ((chk (decide (z2.2.2.2.2.1.length ≤ lim))).bind fun _ =>
  some (.inr (.inr (.inr ((), bytesStr z2.2.2.2.2.1, z2.2.2.1, ())))))
  ((idx z2.2.2.1.1 z2.2.2.1.2.1).bind fun v6 =>
  cond (decide ((ofByte v6) = 38))
  ((markup_reader__reference z2.2.2.1.1 z2.2.2.1.2.1).bind fun v7 =>
  (match v7 with
  | .inl v8 => ((_strings_Builder__WriteRune v8.1 z2.2.2.2.2.1).bind fun v10 =>
  some (.inr (.inl ((), (), v8.2.2.1, ((), ((), ())), v10.2.2.2.2.1, ()))))
  | .inr q9 => (some (.inr (.inr (.inl (q9, ())))))))
  ((cond (decide (v4.1 = 65533))
  (cond ((decide (v4.2.1 = 1)))
  (some ((), (), true, z2.2.2.1, ((), ((), ())), z2.2.2.2.2.1, ()))
  (cond ((decide (v4.1 < 32)))
  (some ((), (), true, z2.2.2.1, ((), ((), ())), z2.2.2.2.2.1, ()))
  (cond ((decide (v4.1 = 60)))
  (some ((), (), true, z2.2.2.1, ((), ((), ())), z2.2.2.2.2.1, ()))
  (cond ((decide (v4.1 = 62)))
  (some ((), (), true, z2.2.2.1, ((), ((), ())), z2.2.2.2.2.1, ()))
  (some ((), (), (decide (v4.1 = 34)), z2.2.2.1, ((), ((), ())), z2.2.2.2.2.1, ()))))))
  (cond ((decide (v4.1 < 32)))
  (some ((), (), true, z2.2.2.1, ((), ((), ())), z2.2.2.2.2.1, ()))
  (cond ((decide (v4.1 = 60)))
  (some ((), (), true, z2.2.2.1, ((), ((), ())), z2.2.2.2.2.1, ()))
  (cond ((decide (v4.1 = 62)))
  (some ((), (), true, z2.2.2.1, ((), ((), ())), z2.2.2.2.2.1, ()))
  (some ((), (), (decide (v4.1 = 34)), z2.2.2.1, ((), ((), ())), z2.2.2.2.2.1, ()))))) : Option (Unit × (Unit × (Bool × (TA6 × TA5))))).bind fun r11 =>
  cond r11.2.2.1
  (some (.inr (.inr (.inl ((), ())))))
  (some (.inl ((), (), r11.2.2.2.1, ((), ((), ())), r11.2.2.2.2.2.1, ()))))) : Option ((Unit × (Unit × (TA6 × TA5))) ⊕ ((Unit × (Unit × (TA6 × TA5))) ⊕ (TA10 ⊕ (Unit × (Str × (TA6 × Unit))))))).bind fun r12 =>
  (match r12 with
  | .inl z13 => ((cut z13.2.2.1.1 z13.2.2.1.2.1 (IntKind.i64.wrap (z13.2.2.1.2.1 + v4.2.1))).bind fun v14 =>
  (_strings_Builder__WriteStringx v14 z13.2.2.2.2.1).bind fun v15 =>
  some (.inl ((), (), (z13.2.2.1.1, (IntKind.i64.wrap (z13.2.2.1.2.1 + v4.2.1), ())), ((), ((), ())), v15.2.2.2.2.1, ())))
  | .inr (.inl z16) => (some (.inl ((), (), z16.2.2.1, ((), ((), ())), z16.2.2.2.2.1, ())))
  | .inr (.inr (.inl z17)) => (some (.inr (.inl z17)))
  | .inr (.inr (.inr z18)) => (some (.inr (.inr ((), z18.2.1, z18.2.2.1, ()))))))
  | .inr z19 => (some (.inr (.inl z19))))

noncomputable def markup_reader__text (a1 : Int) (o0 : Str) (o0_1 : Int) : Option ((Str × TA11) ⊕ Unit) :=
  (loop (markup_reader__text_l1 a1) ((), (), (o0, (o0_1, ())), ((), ((), ())), [], ())).bind fun r20 =>
  (match r20 with
  | .inl z21 => (some (.inr z21.1))
  | .inr z22 => (some (.inl (z22.2.1, (), z22.2.2.1, ()))))

noncomputable def markup_reader__open_l1 (p1 : TA13) : Option (TA13 ⊕ (TA13 ⊕ TA10)) :=
  (markup_reader__space p1.2.2.2.1.1 p1.2.2.2.1.2.1).bind fun v7 =>
  (cond (decide (v7.2.1.2.1 < (v7.2.1.1.length : Int)))
  ((idx v7.2.1.1 v7.2.1.2.1).bind fun v8 =>
  cond (decide ((ofByte v8) = 62))
  (some ((), (), (), true, v7.2.1, p1.2.2.2.2.1, (p1.2.2.2.2.2.1.1, ((), ((), p1.2.2.2.2.2.1.2.2.2))), p1.2.2.2.2.2.2.1, p1.2.2.2.2.2.2.2.1, ()))
  ((idx v7.2.1.1 v7.2.1.2.1).bind fun v9 =>
  let v10 : Bool := ((decide ((ofByte v9) = 47)))
  some ((), (), (), v10, v7.2.1, p1.2.2.2.2.1, (p1.2.2.2.2.2.1.1, ((), ((), p1.2.2.2.2.2.1.2.2.2))), p1.2.2.2.2.2.2.1, p1.2.2.2.2.2.2.2.1, ())))
  (some ((), (), (), false, v7.2.1, p1.2.2.2.2.1, (p1.2.2.2.2.2.1.1, ((), ((), p1.2.2.2.2.2.1.2.2.2))), p1.2.2.2.2.2.2.1, p1.2.2.2.2.2.2.2.1, ())) : Option (Unit × (Unit × (Unit × (Bool × (TA6 × (TA3 × ((Str × (Unit × (Unit × TA12))) × ((List Str) × TA26))))))))).bind fun r11 =>
  cond r11.2.2.2.1
  (some (.inr (.inl ((), (), (), r11.2.2.2.2.1, r11.2.2.2.2.2.1, (r11.2.2.2.2.2.2.1.1, ((), ((), r11.2.2.2.2.2.2.1.2.2.2))), r11.2.2.2.2.2.2.2.1, r11.2.2.2.2.2.2.2.2.1, ()))))
  ((cond (decide (r11.2.2.2.2.1.2.1 = p1.2.2.2.1.2.1))
  (some (.inr ((), ())))
  (some (.inl ((), (), (), r11.2.2.2.2.1, r11.2.2.2.2.2.1, (r11.2.2.2.2.2.2.1.1, ((), ((), r11.2.2.2.2.2.2.1.2.2.2))), r11.2.2.2.2.2.2.2.1, r11.2.2.2.2.2.2.2.2.1, ()))) : Option (TA13 ⊕ TA10)).bind fun r12 =>
  (match r12 with
  | .inl z13 => ((markup_reader__word z13.2.2.2.1.1 z13.2.2.2.1.2.1).bind fun v14 =>
  (match v14 with
  | .inl v15 => ((cat z13.2.2.2.2.2.2.1 [v15.1]).bind fun v17 =>
  (markup_reader__want [61, 34] v15.2.2.1.1 v15.2.2.1.2.1).bind fun v18 =>
  (match v18 with
  | .inl v19 => ((markup_reader__text 34 v19.2.1.1 v19.2.1.2.1).bind fun v21 =>
  (match v21 with
  | .inl v22 => ((cat z13.2.2.2.2.2.2.2.1 [v22.1]).bind fun v24 =>
  some (.inl ((), (), (), (v22.2.2.1.1, (IntKind.i64.wrap (v22.2.2.1.2.1 + 1), ())), z13.2.2.2.2.1, (z13.2.2.2.2.2.1.1, ((), ((), z13.2.2.2.2.2.1.2.2.2))), v17, v24, ())))
  | .inr q23 => (some (.inr (.inr (q23, ()))))))
  | .inr q20 => (some (.inr (.inr (q20, ()))))))
  | .inr q16 => (some (.inr (.inr (q16, ()))))))
  | .inr z25 => (some (.inr (.inr z25)))))

noncomputable def markup_reader__open (o0 : Str) (o0_1 : Int) : Option ((TA3 × TA11) ⊕ Unit) :=
  (markup_reader__want [60] o0 o0_1).bind fun v1 =>
  (match v1 with
  | .inl v2 => ((markup_reader__word v2.2.1.1 v2.2.1.2.1).bind fun v4 =>
  (match v4 with
  | .inl v5 => ((loop markup_reader__open_l1 ((), (), (), v5.2.2.1, ([], ([], ([], (false, ())))), (v5.1, ((), ((), (false, ())))), [], [], ())).bind fun r26 =>
  (match r26 with
  | .inl z27 => (((idx z27.2.2.2.1.1 z27.2.2.2.1.2.1).bind fun v28 =>
  cond (decide ((ofByte v28) = 47))
  (some ((), (), (), (z27.2.2.2.1.1, (IntKind.i64.wrap (z27.2.2.2.1.2.1 + 1), ())), z27.2.2.2.2.1, (z27.2.2.2.2.2.1.1, ((), ((), (true, ())))), z27.2.2.2.2.2.2.1, z27.2.2.2.2.2.2.2.1, ()))
  (some ((), (), (), z27.2.2.2.1, z27.2.2.2.2.1, (z27.2.2.2.2.2.1.1, ((), ((), z27.2.2.2.2.2.1.2.2.2))), z27.2.2.2.2.2.2.1, z27.2.2.2.2.2.2.2.1, ())) : Option TA13).bind fun r29 =>
  (markup_reader__want [62] r29.2.2.2.1.1 r29.2.2.2.1.2.1).bind fun v30 =>
  (match v30 with
  | .inl v31 => (let v33 : TA3 := (r29.2.2.2.2.2.1.1, (r29.2.2.2.2.2.2.1, (r29.2.2.2.2.2.2.2.1, r29.2.2.2.2.2.1.2.2.2)))
  some (.inl (v33, (), v31.2.1, ())))
  | .inr q32 => (some (.inr q32))))
  | .inr z34 => (some (.inr z34.1))))
  | .inr q6 => (some (.inr q6))))
  | .inr q3 => (some (.inr q3)))

noncomputable def markup_reader__wants_l1 (a2 : (List Str)) (p1 : (Unit × (Unit × (Unit × (Int × (TA6 × (TA3 × TA26))))))) : Option ((Unit × (Unit × (Unit × (Int × (TA6 × (TA3 × TA26)))))) ⊕ ((Unit × (Unit × (TA6 × TA26))) ⊕ TA10)) :=
  cond (decide (p1.2.2.2.1 < (a2.length : Int)))
  ((idx a2 p1.2.2.2.1).bind fun v4 =>
  (slices_Index_string_string_ p1.2.2.2.2.2.1.2.1 v4).bind fun v5 =>
  (cond (decide (v5.1 < 0))
  (some (.inr ((), ())))
  (some (.inl ((), (), (), p1.2.2.2.2.1, p1.2.2.2.2.2.1, p1.2.2.2.2.2.2.1, ()))) : Option ((Unit × (Unit × (Unit × (TA6 × (TA3 × TA26))))) ⊕ TA10)).bind fun r6 =>
  (match r6 with
  | .inl z7 => ((idx z7.2.2.2.2.1.2.2.1 v5.1).bind fun v8 =>
  (chk (inb p1.2.2.2.1 z7.2.2.2.2.2.1.length)).bind fun _ =>
  let v9 : List Str := z7.2.2.2.2.2.1.set p1.2.2.2.1.toNat v8
  some (.inl ((), (), (), IntKind.i64.wrap (p1.2.2.2.1 + 1), z7.2.2.2.1, z7.2.2.2.2.1, v9, ())))
  | .inr z10 => (some (.inr (.inr z10)))))
  (some (.inr (.inl ((), (), p1.2.2.2.2.1, p1.2.2.2.2.2.2.1, ()))))

noncomputable def markup_reader__wants (a1 : TA3) (a2 : (List Str)) (o0 : Str) (o0_1 : Int) : Option (((List Str) × TA11) ⊕ Unit) :=
  (mk (a2.length : Int) (a2.length : Int) []).bind fun v1 =>
  (cond (!decide ((a1.2.1.length : Int) = (a2.length : Int)))
  (some (.inr ((), ())))
  (some (.inl ((), (), (), (o0, (o0_1, ())), a1, v1, ()))) : Option ((Unit × (Unit × (Unit × (TA6 × (TA3 × TA26))))) ⊕ TA10)).bind fun r2 =>
  (match r2 with
  | .inl z3 => ((loop (markup_reader__wants_l1 a2) ((), (), (), 0, z3.2.2.2.1, z3.2.2.2.2.1, z3.2.2.2.2.2.1, ())).bind fun r11 =>
  (match r11 with
  | .inl z12 => (some (.inl (z12.2.2.2.1, (), z12.2.2.1, ())))
  | .inr z13 => (some (.inr z13.1))))
  | .inr z14 => (some (.inr z14.1)))

noncomputable def markup_reader__number (a1 : Str) (a2 : Bool) (o0 : Str) (o0_1 : Int) : Option ((Int × TA11) ⊕ Unit) :=
  (cond a2
  ((sTrimPrefix (a1, [45], ())).bind fun v1 =>
  some ((), v1.1, (o0, (o0_1, ())), ()))
  (some ((), a1, (o0, (o0_1, ())), ())) : Option (Unit × (Str × (TA6 × Unit)))).bind fun r2 =>
  (sAtoi (a1, ())).bind fun v3 =>
  ((cond (!(v3.2.1 == false))
  (some ((), true, r2.2.2.1, ()))
  (cond ((decide (10 < (r2.2.1.length : Int))))
  (some ((), true, r2.2.2.1, ()))
  ((idx r2.2.1 0).bind fun v4 =>
  cond ((decide ((ofByte v4) < 48)))
  (some ((), true, r2.2.2.1, ()))
  ((idx r2.2.1 0).bind fun v5 =>
  cond ((decide (57 < (ofByte v5))))
  (some ((), true, r2.2.2.1, ()))
  ((idx r2.2.1 0).bind fun v6 =>
  cond (decide ((ofByte v6) = 48))
  (let v7 : Bool := ((decide (1 < (a1.length : Int))))
  some ((), v7, r2.2.2.1, ()))
  (some ((), false, r2.2.2.1, ())))))) : Option TA21).bind fun r8 =>
  cond r8.2.1
  (some (.inr ((), ())))
  (some (.inl ((), r8.2.2.1, ()))) : Option (TA11 ⊕ TA10)).bind fun r9 =>
  (match r9 with
  | .inl z10 => (some (.inl (v3.1, (), z10.2.1, ())))
  | .inr z11 => (some (.inr z11.1)))

noncomputable def markup_reader__inside (a1 : TA3) (o0 : Str) (o0_1 : Int) : Option ((Str × TA11) ⊕ Unit) :=
  cond a1.2.2.2.1
  (some (.inl ([], (), (o0, (o0_1, ())), ())))
  ((markup_reader__text 60 o0 o0_1).bind fun v1 =>
  (match v1 with
  | .inl v2 => ((cat [60, 47] a1.1).bind fun v4 =>
  (cat v4 [62]).bind fun v5 =>
  (markup_reader__want v5 v2.2.2.1.1 v2.2.2.1.2.1).bind fun v6 =>
  (match v6 with
  | .inl v7 => (some (.inl (v2.1, (), v7.2.1, ())))
  | .inr q8 => (some (.inr q8))))
  | .inr q3 => (some (.inr q3))))

noncomputable def markup_reader__attrs_l1 (p1 : (Unit × (Unit × (Unit × (TA6 × (TA3 × (TA15 × Unit))))))) : Option ((Unit × (Unit × (Unit × (TA6 × (TA3 × (TA15 × Unit)))))) ⊕ ((Unit × (Unit × (TA6 × (TA15 × Unit)))) ⊕ TA10)) :=
  (cond (!p1.2.2.2.2.1.2.2.2.1)
  ((markup_reader__next p1.2.2.2.1.1 p1.2.2.2.1.2.1).bind fun v1 =>
  (match v1 with
  | .inl v2 => (some (.inl ((), (), (), (decide (v2.1 = [97])), v2.2.2.1, p1.2.2.2.2.1, p1.2.2.2.2.2.1, ())))
  | .inr q3 => (some (.inr (q3, ())))))
  (some (.inl ((), (), (), false, p1.2.2.2.1, p1.2.2.2.2.1, p1.2.2.2.2.2.1, ()))) : Option ((Unit × (Unit × (Unit × (Bool × (TA6 × (TA3 × (TA15 × Unit))))))) ⊕ TA10)).bind fun r4 =>
  (match r4 with
  | .inl z5 => (cond z5.2.2.2.1
  ((markup_reader__open z5.2.2.2.2.1.1 z5.2.2.2.2.1.2.1).bind fun v6 =>
  (match v6 with
  | .inl v7 => ((markup_reader__wants v7.1 [[110]] v7.2.2.1.1 v7.2.2.1.2.1).bind fun v9 =>
  (match v9 with
  | .inl v10 => ((idx v10.1 0).bind fun v12 =>
  (markup_reader__inside v7.1 v10.2.2.1.1 v10.2.2.1.2.1).bind fun v13 =>
  (match v13 with
  | .inl v14 => ((cat z5.2.2.2.2.2.2.1 [(v12, v14.1, ())]).bind fun v16 =>
  some (.inl ((), (), (), v14.2.2.1, z5.2.2.2.2.2.1, v16, ())))
  | .inr q15 => (some (.inr (.inr (q15, ()))))))
  | .inr q11 => (some (.inr (.inr (q11, ()))))))
  | .inr q8 => (some (.inr (.inr (q8, ()))))))
  (some (.inr (.inl ((), (), z5.2.2.2.2.1, z5.2.2.2.2.2.2.1, ())))))
  | .inr z17 => (some (.inr (.inr z17))))

noncomputable def markup_reader__attrs (a1 : TA3) (o0 : Str) (o0_1 : Int) : Option ((TA15 × TA11) ⊕ Unit) :=
  (loop markup_reader__attrs_l1 ((), (), (), (o0, (o0_1, ())), a1, [], ())).bind fun r18 =>
  (match r18 with
  | .inl z19 => (some (.inl (z19.2.2.2.1, (), z19.2.2.1, ())))
  | .inr z20 => (some (.inr z20.1)))

noncomputable def markup_reader__string (a1 : TA3) (o0 : Str) (o0_1 : Int) : Option ((Str × TA11) ⊕ Unit) :=
  (cond a1.2.2.2.1
  (some (.inl ((), true, (o0, (o0_1, ())), ())))
  ((markup_reader__next o0 o0_1).bind fun v1 =>
  (match v1 with
  | .inl v2 => (some (.inl ((), (!decide (v2.1 = [115])), v2.2.2.1, ())))
  | .inr q3 => (some (.inr (q3, ()))))) : Option (TA21 ⊕ TA10)).bind fun r4 =>
  (match r4 with
  | .inl z5 => (cond z5.2.1
  (some (.inl ([], (), z5.2.2.1, ())))
  ((markup_reader__open z5.2.2.1.1 z5.2.2.1.2.1).bind fun v6 =>
  (match v6 with
  | .inl v7 => ((markup_reader__wants v7.1 [] v7.2.2.1.1 v7.2.2.1.2.1).bind fun v9 =>
  (match v9 with
  | .inl v10 => ((markup_reader__inside v7.1 v10.2.2.1.1 v10.2.2.1.2.1).bind fun v12 =>
  (match v12 with
  | .inl v13 => (some (.inl (v13.1, (), v13.2.2.1, ())))
  | .inr q14 => (some (.inr q14))))
  | .inr q11 => (some (.inr q11))))
  | .inr q8 => (some (.inr q8)))))
  | .inr z15 => (some (.inr z15.1)))

noncomputable def api_Attr__raw (a0 : TA15) : Option (TA15 × Unit) :=
  cond (List.isEmpty a0)
  (agree
  (some ([], ()))
  ((cat [] a0).bind fun v1 =>
  some (v1, ())))
  ((cat [] a0).bind fun v1 =>
  some (v1, ()))

noncomputable def api_Attr_ (a0 : TA15) : Option (TA15 × Unit) :=
  (cat [] a0).bind fun v1 =>
  some (v1, ())

theorem api_Attr__raw_eq : api_Attr__raw = api_Attr_ := by
  funext a0
  cases a0 with
  | nil => exact if_pos rfl
  | cons _ _ => rfl

noncomputable def markup_reader__shut (a1 : TA3) (o0 : Str) (o0_1 : Int) : Option (TA11 ⊕ Unit) :=
  cond a1.2.2.2.1
  (some (.inl ((), (o0, (o0_1, ())), ())))
  ((markup_reader__space o0 o0_1).bind fun v1 =>
  (cat [60, 47] a1.1).bind fun v2 =>
  (cat v2 [62]).bind fun v3 =>
  (markup_reader__want v3 v1.2.1.1 v1.2.1.2.1).bind fun v4 =>
  (match v4 with
  | .inl v5 => (some (.inl ((), v5.2.1, ())))
  | .inr q6 => (some (.inr q6))))

noncomputable def markup_reader__object (a1 : TA3) (o0 : Str) (o0_1 : Int) : Option ((Int × TA11) ⊕ Unit) :=
  (markup_reader__wants a1 [[114, 101, 102]] o0 o0_1).bind fun v1 =>
  (match v1 with
  | .inl v2 => ((idx v2.1 0).bind fun v4 =>
  (markup_reader__number v4 false v2.2.2.1.1 v2.2.2.1.2.1).bind fun v5 =>
  (match v5 with
  | .inl v6 => (some (.inl (v6.1, (), v6.2.2.1, ())))
  | .inr q7 => (some (.inr q7))))
  | .inr q3 => (some (.inr q3)))

noncomputable def markup_reader__flow_l1 (v17 : (TA15 × TA11)) (p1 : TA33) : Option (TA33 ⊕ (Unit × (Unit × (Unit × (Unit × (TA6 × (TA3 × ((List TA9) × (TA3 × Unit))))))))) :=
  cond (decide (p1.2.2.2.2.2.2.2.2.2.1.2 < p1.2.2.2.2.2.2.2.2.2.1.1.length))
  (let v22 : Int := IntKind.i64.wrap ((runeAt p1.2.2.2.2.2.2.2.2.2.1.1 p1.2.2.2.2.2.2.2.2.2.1.2).1 : Int)
  (api_Attr_ v17.1).bind fun v23 =>
  (cat p1.2.2.2.2.2.2.2.1 [(v22, 0, v23.1, ())]).bind fun v24 =>
  some (.inl ((), (), (), (), (), p1.2.2.2.2.2.1, p1.2.2.2.2.2.2.1, v24, p1.2.2.2.2.2.2.2.2.1, (p1.2.2.2.2.2.2.2.2.2.1.1, p1.2.2.2.2.2.2.2.2.2.1.2 + (runeAt p1.2.2.2.2.2.2.2.2.2.1.1 p1.2.2.2.2.2.2.2.2.2.1.2).2), ())))
  (some (.inr ((), (), (), (), p1.2.2.2.2.2.1, p1.2.2.2.2.2.2.1, p1.2.2.2.2.2.2.2.1, p1.2.2.2.2.2.2.2.2.1, ())))

noncomputable def markup_reader__flow_l2 (p2 : TA27) : Option (TA27 ⊕ (TA27 ⊕ TA10)) :=
  cond (!p2.2.2.2.2.1.2.2.2.1)
  ((markup_reader__next p2.2.2.2.1.1 p2.2.2.2.1.2.1).bind fun v7 =>
  (match v7 with
  | .inl v8 => (cond (decide (v8.1 = [114]))
  ((markup_reader__open v8.2.2.1.1 v8.2.2.1.2.1).bind fun v10 =>
  (match v10 with
  | .inl v11 => ((markup_reader__wants v11.1 [] v11.2.2.1.1 v11.2.2.1.2.1).bind fun v13 =>
  (match v13 with
  | .inl v14 => ((markup_reader__attrs v11.1 v14.2.2.1.1 v14.2.2.1.2.1).bind fun v16 =>
  (match v16 with
  | .inl v17 => ((markup_reader__string v11.1 v17.2.2.1.1 v17.2.2.1.2.1).bind fun v19 =>
  (match v19 with
  | .inl v20 => ((loop (markup_reader__flow_l1 v17) ((), (), (), (), (), v20.2.2.1, p2.2.2.2.2.1, p2.2.2.2.2.2.1, v11.1, (v20.1, 0), ())).bind fun r25 =>
  let v26 : TA3 := r25.2.2.2.2.2.2.2.1
  (markup_reader__shut v26 r25.2.2.2.2.1.1 r25.2.2.2.2.1.2.1).bind fun v27 =>
  (match v27 with
  | .inl v28 => (some (.inl ((), (), (), v28.2.1, r25.2.2.2.2.2.1, r25.2.2.2.2.2.2.1, ())))
  | .inr q29 => (some (.inr (.inr (q29, ()))))))
  | .inr q21 => (some (.inr (.inr (q21, ()))))))
  | .inr q18 => (some (.inr (.inr (q18, ()))))))
  | .inr q15 => (some (.inr (.inr (q15, ()))))))
  | .inr q12 => (some (.inr (.inr (q12, ()))))))
  (cond (decide (v8.1 = [111]))
  ((markup_reader__open v8.2.2.1.1 v8.2.2.1.2.1).bind fun v30 =>
  (match v30 with
  | .inl v31 => ((markup_reader__object v31.1 v31.2.2.1.1 v31.2.2.1.2.1).bind fun v33 =>
  (match v33 with
  | .inl v34 => ((markup_reader__attrs v31.1 v34.2.2.1.1 v34.2.2.1.2.1).bind fun v36 =>
  (match v36 with
  | .inl v37 => ((cat p2.2.2.2.2.2.1 [(0, v34.1, v37.1, ())]).bind fun v39 =>
  (markup_reader__shut v31.1 v37.2.2.1.1 v37.2.2.1.2.1).bind fun v40 =>
  (match v40 with
  | .inl v41 => (some (.inl ((), (), (), v41.2.1, p2.2.2.2.2.1, v39, ())))
  | .inr q42 => (some (.inr (.inr (q42, ()))))))
  | .inr q38 => (some (.inr (.inr (q38, ()))))))
  | .inr q35 => (some (.inr (.inr (q35, ()))))))
  | .inr q32 => (some (.inr (.inr (q32, ()))))))
  (some (.inr (.inl ((), (), (), v8.2.2.1, p2.2.2.2.2.1, p2.2.2.2.2.2.1, ()))))))
  | .inr q9 => (some (.inr (.inr (q9, ()))))))
  (some (.inr (.inl ((), (), (), p2.2.2.2.1, p2.2.2.2.2.1, p2.2.2.2.2.2.1, ()))))

noncomputable def markup_reader__flow (o0 : Str) (o0_1 : Int) : Option (((List TA9) × TA11) ⊕ Unit) :=
  (markup_reader__open o0 o0_1).bind fun v1 =>
  (match v1 with
  | .inl v2 => ((markup_reader__wants v2.1 [] v2.2.2.1.1 v2.2.2.1.2.1).bind fun v4 =>
  (match v4 with
  | .inl v5 => ((loop markup_reader__flow_l2 ((), (), (), v5.2.2.1, v2.1, [], ())).bind fun r43 =>
  (match r43 with
  | .inl z44 => (let v45 : TA3 := z44.2.2.2.2.1
  (markup_reader__shut v45 z44.2.2.2.1.1 z44.2.2.2.1.2.1).bind fun v46 =>
  (match v46 with
  | .inl v47 => (some (.inl (z44.2.2.2.2.2.1, (), v47.2.1, ())))
  | .inr q48 => (some (.inr q48))))
  | .inr z49 => (some (.inr z49.1))))
  | .inr q6 => (some (.inr q6))))
  | .inr q3 => (some (.inr q3)))

noncomputable def markup_reader__numbers_l1 (v2 : ((List Str) × TA11)) (p1 : (Unit × (Unit × (Int × (TA6 × TA14))))) : Option ((Unit × (Unit × (Int × (TA6 × TA14)))) ⊕ ((Unit × (Unit × (TA6 × TA14))) ⊕ TA10)) :=
  cond (decide (p1.2.2.1 < (v2.1.length : Int)))
  ((idx v2.1 p1.2.2.1).bind fun v4 =>
  (markup_reader__number v4 false p1.2.2.2.1.1 p1.2.2.2.1.2.1).bind fun v5 =>
  (match v5 with
  | .inl v6 => ((cat p1.2.2.2.2.1 [v6.1]).bind fun v8 =>
  some (.inl ((), (), IntKind.i64.wrap (p1.2.2.1 + 1), v6.2.2.1, v8, ())))
  | .inr q7 => (some (.inr (.inr (q7, ()))))))
  (some (.inr (.inl ((), (), p1.2.2.2.1, p1.2.2.2.2.1, ()))))

noncomputable def markup_reader__numbers (a1 : TA3) (a2 : (List Str)) (o0 : Str) (o0_1 : Int) : Option (((List Int) × TA11) ⊕ Unit) :=
  (markup_reader__wants a1 a2 o0 o0_1).bind fun v1 =>
  (match v1 with
  | .inl v2 => ((loop (markup_reader__numbers_l1 v2) ((), (), 0, v2.2.2.1, [], ())).bind fun r9 =>
  (match r9 with
  | .inl z10 => (some (.inl (z10.2.2.2.1, (), z10.2.2.1, ())))
  | .inr z11 => (some (.inr z11.1))))
  | .inr q3 => (some (.inr q3)))

noncomputable def markup_reader__grid_l1 (p1 : TA19) : Option (TA19 ⊕ (TA19 ⊕ TA10)) :=
  (cond (!p1.2.2.2.2.2.2.1.2.2.2.1)
  ((markup_reader__next p1.2.2.2.2.1.1 p1.2.2.2.2.1.2.1).bind fun v9 =>
  (match v9 with
  | .inl v10 => (some (.inl ((), (), (), (), (decide (v10.1 = [99])), v10.2.2.1, p1.2.2.2.2.2.1, p1.2.2.2.2.2.2.1, (p1.2.2.2.2.2.2.2.1.1, (p1.2.2.2.2.2.2.2.1.2.1, ((), ((), ())))), p1.2.2.2.2.2.2.2.2.1, ())))
  | .inr q11 => (some (.inr (q11, ())))))
  (some (.inl ((), (), (), (), false, p1.2.2.2.2.1, p1.2.2.2.2.2.1, p1.2.2.2.2.2.2.1, (p1.2.2.2.2.2.2.2.1.1, (p1.2.2.2.2.2.2.2.1.2.1, ((), ((), ())))), p1.2.2.2.2.2.2.2.2.1, ()))) : Option ((Unit × (Unit × (Unit × (Unit × (Bool × (TA6 × (TA2 × (TA3 × ((Int × (Int × (Unit × TA10))) × ((List TA4) × Unit)))))))))) ⊕ TA10)).bind fun r12 =>
  (match r12 with
  | .inl z13 => (cond z13.2.2.2.2.1
  ((markup_reader__open z13.2.2.2.2.2.1.1 z13.2.2.2.2.2.1.2.1).bind fun v14 =>
  (match v14 with
  | .inl v15 => ((markup_reader__numbers v15.1 [[114, 111, 119], [99, 111, 108]] v15.2.2.1.1 v15.2.2.1.2.1).bind fun v17 =>
  (match v17 with
  | .inl v18 => ((idx v18.1 0).bind fun v20 =>
  (idx v18.1 1).bind fun v21 =>
  (markup_reader__attrs v15.1 v18.2.2.1.1 v18.2.2.1.2.1).bind fun v22 =>
  (match v22 with
  | .inl v23 => ((markup_reader__string v15.1 v23.2.2.1.1 v23.2.2.1.2.1).bind fun v25 =>
  (match v25 with
  | .inl v26 => (((cond (!v15.1.2.2.2.1)
  ((markup_reader__next v26.2.2.1.1 v26.2.2.1.2.1).bind fun v28 =>
  (match v28 with
  | .inl v29 => (some (.inl ((), (), (), (), (), (), (decide (v29.1 = [111])), v29.2.2.1, z13.2.2.2.2.2.2.1, z13.2.2.2.2.2.2.2.1, (z13.2.2.2.2.2.2.2.2.1.1, (z13.2.2.2.2.2.2.2.2.1.2.1, ((), ((), ())))), v15.1, (v20, (v21, (v26.1, (0, (v23.1, ()))))), z13.2.2.2.2.2.2.2.2.2.1, ())))
  | .inr q30 => (some (.inr (q30, ())))))
  (some (.inl ((), (), (), (), (), (), false, v26.2.2.1, z13.2.2.2.2.2.2.1, z13.2.2.2.2.2.2.2.1, (z13.2.2.2.2.2.2.2.2.1.1, (z13.2.2.2.2.2.2.2.2.1.2.1, ((), ((), ())))), v15.1, (v20, (v21, (v26.1, (0, (v23.1, ()))))), z13.2.2.2.2.2.2.2.2.2.1, ()))) : Option ((Unit × (Unit × (Unit × (Unit × (Unit × (Unit × (Bool × (TA6 × (TA2 × (TA3 × ((Int × (Int × (Unit × TA10))) × (TA3 × (TA4 × ((List TA4) × Unit)))))))))))))) ⊕ TA10)).bind fun r31 =>
  (match r31 with
  | .inl z32 => (cond z32.2.2.2.2.2.2.1
  ((markup_reader__open z32.2.2.2.2.2.2.2.1.1 z32.2.2.2.2.2.2.2.1.2.1).bind fun v33 =>
  (match v33 with
  | .inl v34 => ((markup_reader__object v34.1 v34.2.2.1.1 v34.2.2.1.2.1).bind fun v36 =>
  (match v36 with
  | .inl v37 => ((markup_reader__shut v34.1 v37.2.2.1.1 v37.2.2.1.2.1).bind fun v39 =>
  (match v39 with
  | .inl v40 => (some (.inl ((), (), (), (), (), (), v40.2.1, z32.2.2.2.2.2.2.2.2.1, z32.2.2.2.2.2.2.2.2.2.1, (z32.2.2.2.2.2.2.2.2.2.2.1.1, (z32.2.2.2.2.2.2.2.2.2.2.1.2.1, ((), ((), ())))), z32.2.2.2.2.2.2.2.2.2.2.2.1, (z32.2.2.2.2.2.2.2.2.2.2.2.2.1.1, (z32.2.2.2.2.2.2.2.2.2.2.2.2.1.2.1, (z32.2.2.2.2.2.2.2.2.2.2.2.2.1.2.2.1, (v37.1, z32.2.2.2.2.2.2.2.2.2.2.2.2.1.2.2.2.2)))), z32.2.2.2.2.2.2.2.2.2.2.2.2.2.1, ())))
  | .inr q41 => (some (.inr (q41, ())))))
  | .inr q38 => (some (.inr (q38, ())))))
  | .inr q35 => (some (.inr (q35, ())))))
  (some (.inl ((), (), (), (), (), (), z32.2.2.2.2.2.2.2.1, z32.2.2.2.2.2.2.2.2.1, z32.2.2.2.2.2.2.2.2.2.1, (z32.2.2.2.2.2.2.2.2.2.2.1.1, (z32.2.2.2.2.2.2.2.2.2.2.1.2.1, ((), ((), ())))), z32.2.2.2.2.2.2.2.2.2.2.2.1, z32.2.2.2.2.2.2.2.2.2.2.2.2.1, z32.2.2.2.2.2.2.2.2.2.2.2.2.2.1, ()))))
  | .inr z42 => (some (.inr z42))) : Option ((Unit × (Unit × (Unit × (Unit × (Unit × (Unit × (TA6 × (TA2 × (TA3 × ((Int × (Int × (Unit × TA10))) × (TA3 × (TA4 × ((List TA4) × Unit))))))))))))) ⊕ TA10)).bind fun r43 =>
  (match r43 with
  | .inl z44 => (let v45 : TA3 := z44.2.2.2.2.2.2.2.2.2.2.1
  (markup_reader__shut v45 z44.2.2.2.2.2.2.1.1 z44.2.2.2.2.2.2.1.2.1).bind fun v46 =>
  (match v46 with
  | .inl v47 => (let v49 : TA4 := z44.2.2.2.2.2.2.2.2.2.2.2.1
  (cat z44.2.2.2.2.2.2.2.2.2.2.2.2.1 [v49]).bind fun v50 =>
  some (.inl ((), (), (), (), v47.2.1, z44.2.2.2.2.2.2.2.1, z44.2.2.2.2.2.2.2.2.1, (z44.2.2.2.2.2.2.2.2.2.1.1, (z44.2.2.2.2.2.2.2.2.2.1.2.1, ((), ((), ())))), v50, ())))
  | .inr q48 => (some (.inr (.inr (q48, ()))))))
  | .inr z51 => (some (.inr (.inr z51)))))
  | .inr q27 => (some (.inr (.inr (q27, ()))))))
  | .inr q24 => (some (.inr (.inr (q24, ()))))))
  | .inr q19 => (some (.inr (.inr (q19, ()))))))
  | .inr q16 => (some (.inr (.inr (q16, ()))))))
  (some (.inr (.inl ((), (), (), (), z13.2.2.2.2.2.1, z13.2.2.2.2.2.2.1, z13.2.2.2.2.2.2.2.1, (z13.2.2.2.2.2.2.2.2.1.1, (z13.2.2.2.2.2.2.2.2.1.2.1, ((), ((), ())))), z13.2.2.2.2.2.2.2.2.2.1, ())))))
  | .inr z52 => (some (.inr (.inr z52))))

noncomputable def markup_reader__grid_l2 (p2 : (Unit × (Unit × (Unit × (Unit × TA17))))) : Option ((Unit × (Unit × (Unit × (Unit × TA17)))) ⊕ ((Unit × (Unit × (Unit × (Unit × TA17)))) ⊕ TA10)) :=
  (cond (!p2.2.2.2.2.2.2.1.2.2.2.1)
  ((markup_reader__next p2.2.2.2.2.1.1 p2.2.2.2.2.1.2.1).bind fun v55 =>
  (match v55 with
  | .inl v56 => (some (.inl ((), (), (), (), (decide (v56.1 = [109])), v56.2.2.1, p2.2.2.2.2.2.1, p2.2.2.2.2.2.2.1, (p2.2.2.2.2.2.2.2.1.1, (p2.2.2.2.2.2.2.2.1.2.1, ((), ((), ())))), p2.2.2.2.2.2.2.2.2.1, p2.2.2.2.2.2.2.2.2.2.1, ())))
  | .inr q57 => (some (.inr (q57, ())))))
  (some (.inl ((), (), (), (), false, p2.2.2.2.2.1, p2.2.2.2.2.2.1, p2.2.2.2.2.2.2.1, (p2.2.2.2.2.2.2.2.1.1, (p2.2.2.2.2.2.2.2.1.2.1, ((), ((), ())))), p2.2.2.2.2.2.2.2.2.1, p2.2.2.2.2.2.2.2.2.2.1, ()))) : Option ((Unit × (Unit × (Unit × (Unit × (Bool × TA17))))) ⊕ TA10)).bind fun r58 =>
  (match r58 with
  | .inl z59 => (cond z59.2.2.2.2.1
  ((markup_reader__open z59.2.2.2.2.2.1.1 z59.2.2.2.2.2.1.2.1).bind fun v60 =>
  (match v60 with
  | .inl v61 => ((markup_reader__numbers v61.1 [[114, 111, 119], [99, 111, 108], [104], [119]] v61.2.2.1.1 v61.2.2.1.2.1).bind fun v63 =>
  (match v63 with
  | .inl v64 => ((idx v64.1 0).bind fun v66 =>
  (idx v64.1 1).bind fun v67 =>
  (idx v64.1 2).bind fun v68 =>
  (idx v64.1 3).bind fun v69 =>
  (cat z59.2.2.2.2.2.2.2.2.2.2.1 [(v66, v67, v68, v69, ())]).bind fun v70 =>
  (markup_reader__shut v61.1 v64.2.2.1.1 v64.2.2.1.2.1).bind fun v71 =>
  (match v71 with
  | .inl v72 => (some (.inl ((), (), (), (), v72.2.1, z59.2.2.2.2.2.2.1, z59.2.2.2.2.2.2.2.1, (z59.2.2.2.2.2.2.2.2.1.1, (z59.2.2.2.2.2.2.2.2.1.2.1, ((), ((), ())))), z59.2.2.2.2.2.2.2.2.2.1, v70, ())))
  | .inr q73 => (some (.inr (.inr (q73, ()))))))
  | .inr q65 => (some (.inr (.inr (q65, ()))))))
  | .inr q62 => (some (.inr (.inr (q62, ()))))))
  (some (.inr (.inl ((), (), (), (), z59.2.2.2.2.2.1, z59.2.2.2.2.2.2.1, z59.2.2.2.2.2.2.2.1, (z59.2.2.2.2.2.2.2.2.1.1, (z59.2.2.2.2.2.2.2.2.1.2.1, ((), ((), ())))), z59.2.2.2.2.2.2.2.2.2.1, z59.2.2.2.2.2.2.2.2.2.2.1, ())))))
  | .inr z74 => (some (.inr (.inr z74))))

noncomputable def markup_reader__grid (o0 : Str) (o0_1 : Int) : Option ((TA2 × TA11) ⊕ Unit) :=
  (markup_reader__open o0 o0_1).bind fun v1 =>
  (match v1 with
  | .inl v2 => ((markup_reader__numbers v2.1 [[114, 111, 119, 115], [99, 111, 108, 115]] v2.2.2.1.1 v2.2.2.1.2.1).bind fun v4 =>
  (match v4 with
  | .inl v5 => ((idx v5.1 0).bind fun v7 =>
  (idx v5.1 1).bind fun v8 =>
  (loop markup_reader__grid_l1 ((), (), (), (), v5.2.2.1, (0, (0, ([], ([], ())))), v2.1, (v7, (v8, ((), ((), ())))), [], ())).bind fun r53 =>
  (match r53 with
  | .inl z54 => ((loop markup_reader__grid_l2 ((), (), (), (), z54.2.2.2.2.1, z54.2.2.2.2.2.1, z54.2.2.2.2.2.2.1, (z54.2.2.2.2.2.2.2.1.1, (z54.2.2.2.2.2.2.2.1.2.1, ((), ((), ())))), z54.2.2.2.2.2.2.2.2.1, [], ())).bind fun r75 =>
  (match r75 with
  | .inl z76 => (let v77 : TA3 := z76.2.2.2.2.2.2.1
  (markup_reader__shut v77 z76.2.2.2.2.1.1 z76.2.2.2.2.1.2.1).bind fun v78 =>
  (match v78 with
  | .inl v79 => (let v81 : TA2 := (z76.2.2.2.2.2.2.2.1.1, (z76.2.2.2.2.2.2.2.1.2.1, z76.2.2.2.2.2.2.2.2))
  some (.inl (v81, (), v79.2.1, ())))
  | .inr q80 => (some (.inr q80))))
  | .inr z82 => (some (.inr z82.1))))
  | .inr z83 => (some (.inr z83.1))))
  | .inr q6 => (some (.inr q6))))
  | .inr q3 => (some (.inr q3)))

noncomputable def markup_reader__draw_l1 (p1 : TA28) : Option (TA28 ⊕ (TA28 ⊕ TA10)) :=
  cond (!p1.2.2.2.2.1.2.2.2.1)
  ((markup_reader__next p1.2.2.2.1.1 p1.2.2.2.1.2.1).bind fun v7 =>
  (match v7 with
  | .inl v8 => ((cond (!decide (v8.1 = [109, 111, 118, 101]))
  (some ((), (), (), (!decide (v8.1 = [115, 101, 116])), v8.2.2.1, p1.2.2.2.2.1, p1.2.2.2.2.2.1, ()))
  (some ((), (), (), false, v8.2.2.1, p1.2.2.2.2.1, p1.2.2.2.2.2.1, ())) : Option (Unit × (Unit × (Unit × (Bool × (TA6 × (TA3 × ((List TA7) × Unit)))))))).bind fun r10 =>
  cond r10.2.2.2.1
  (some (.inr (.inl ((), (), (), r10.2.2.2.2.1, r10.2.2.2.2.2.1, r10.2.2.2.2.2.2.1, ()))))
  ((markup_reader__open r10.2.2.2.2.1.1 r10.2.2.2.2.1.2.1).bind fun v11 =>
  (match v11 with
  | .inl v12 => ((cond (decide (v8.1 = [109, 111, 118, 101]))
  ((markup_reader__wants v12.1 [[99, 108, 111, 99, 107], [115, 105, 116, 101], [105, 116, 101, 109], [112, 97, 114, 101, 110, 116], [112, 108, 97, 99, 101]] v12.2.2.1.1 v12.2.2.1.2.1).bind fun v14 =>
  (match v14 with
  | .inl v15 => ((idx v15.1 3).bind fun v17 =>
  (idx v15.1 4).bind fun v18 =>
  (markup_reader__number v17 true v15.2.2.1.1 v15.2.2.1.2.1).bind fun v19 =>
  (match v19 with
  | .inl v20 => ((markup_reader__shut v12.1 v20.2.2.1.1 v20.2.2.1.2.1).bind fun v22 =>
  (match v22 with
  | .inl v23 => (some (.inl ((), (), (), (), (), v15.1, v23.2.1, r10.2.2.2.2.2.1, r10.2.2.2.2.2.2.1, v12.1, (0, (0, (0, (0, (v20.1, (v18, ([], ([], ())))))))), ())))
  | .inr q24 => (some (.inr (q24, ())))))
  | .inr q21 => (some (.inr (q21, ())))))
  | .inr q16 => (some (.inr (q16, ())))))
  ((markup_reader__wants v12.1 [[99, 108, 111, 99, 107], [115, 105, 116, 101], [105, 116, 101, 109], [110]] v12.2.2.1.1 v12.2.2.1.2.1).bind fun v25 =>
  (match v25 with
  | .inl v26 => ((idx v26.1 3).bind fun v28 =>
  some (.inl ((), (), (), (), (), v26.1, v26.2.2.1, r10.2.2.2.2.2.1, r10.2.2.2.2.2.2.1, v12.1, (0, (0, (1, (0, (0, ([], (v28, ([], ())))))))), ())))
  | .inr q27 => (some (.inr (q27, ()))))) : Option ((Unit × (Unit × (Unit × (Unit × (Unit × ((List Str) × (TA6 × (TA3 × ((List TA7) × (TA3 × (TA7 × Unit))))))))))) ⊕ TA10)).bind fun r29 =>
  (match r29 with
  | .inl z30 => ((idx z30.2.2.2.2.2.1 0).bind fun v31 =>
  (idx z30.2.2.2.2.2.1 1).bind fun v32 =>
  (idx z30.2.2.2.2.2.1 2).bind fun v33 =>
  (markup_reader__number v31 false z30.2.2.2.2.2.2.1.1 z30.2.2.2.2.2.2.1.2.1).bind fun v34 =>
  (match v34 with
  | .inl v35 => ((markup_reader__number v32 false v35.2.2.1.1 v35.2.2.1.2.1).bind fun v37 =>
  (match v37 with
  | .inl v38 => ((markup_reader__number v33 false v38.2.2.1.1 v38.2.2.1.2.1).bind fun v40 =>
  (match v40 with
  | .inl v41 => ((cond (decide (v8.1 = [115, 101, 116]))
  (let v43 : TA3 := z30.2.2.2.2.2.2.2.2.2.1
  (markup_reader__inside v43 v41.2.2.1.1 v41.2.2.1.2.1).bind fun v44 =>
  (match v44 with
  | .inl v45 => (some (.inl ((), (), (), (), v45.2.2.1, z30.2.2.2.2.2.2.2.1, z30.2.2.2.2.2.2.2.2.1, (v35.1, (v38.1, (z30.2.2.2.2.2.2.2.2.2.2.1.2.2.1, (v41.1, (z30.2.2.2.2.2.2.2.2.2.2.1.2.2.2.2.1, (z30.2.2.2.2.2.2.2.2.2.2.1.2.2.2.2.2.1, (z30.2.2.2.2.2.2.2.2.2.2.1.2.2.2.2.2.2.1, (v45.1, ())))))))), ())))
  | .inr q46 => (some (.inr (q46, ())))))
  (some (.inl ((), (), (), (), v41.2.2.1, z30.2.2.2.2.2.2.2.1, z30.2.2.2.2.2.2.2.2.1, (v35.1, (v38.1, (z30.2.2.2.2.2.2.2.2.2.2.1.2.2.1, (v41.1, z30.2.2.2.2.2.2.2.2.2.2.1.2.2.2.2)))), ()))) : Option ((Unit × (Unit × (Unit × (Unit × (TA6 × (TA3 × ((List TA7) × (TA7 × Unit)))))))) ⊕ TA10)).bind fun r47 =>
  (match r47 with
  | .inl z48 => (let v49 : TA7 := z48.2.2.2.2.2.2.2.1
  (cat z48.2.2.2.2.2.2.1 [v49]).bind fun v50 =>
  some (.inl ((), (), (), z48.2.2.2.2.1, z48.2.2.2.2.2.1, v50, ())))
  | .inr z51 => (some (.inr (.inr z51)))))
  | .inr q42 => (some (.inr (.inr (q42, ()))))))
  | .inr q39 => (some (.inr (.inr (q39, ()))))))
  | .inr q36 => (some (.inr (.inr (q36, ()))))))
  | .inr z52 => (some (.inr (.inr z52)))))
  | .inr q13 => (some (.inr (.inr (q13, ())))))))
  | .inr q9 => (some (.inr (.inr (q9, ()))))))
  (some (.inr (.inl ((), (), (), p1.2.2.2.1, p1.2.2.2.2.1, p1.2.2.2.2.2.1, ()))))

noncomputable def markup_reader__draw (o0 : Str) (o0_1 : Int) : Option (((List TA7) × TA11) ⊕ Unit) :=
  (markup_reader__open o0 o0_1).bind fun v1 =>
  (match v1 with
  | .inl v2 => ((markup_reader__wants v2.1 [] v2.2.2.1.1 v2.2.2.1.2.1).bind fun v4 =>
  (match v4 with
  | .inl v5 => ((loop markup_reader__draw_l1 ((), (), (), v5.2.2.1, v2.1, [], ())).bind fun r53 =>
  (match r53 with
  | .inl z54 => (let v55 : TA3 := z54.2.2.2.2.1
  (markup_reader__shut v55 z54.2.2.2.1.1 z54.2.2.2.1.2.1).bind fun v56 =>
  (match v56 with
  | .inl v57 => (some (.inl (z54.2.2.2.2.2.1, (), v57.2.1, ())))
  | .inr q58 => (some (.inr q58))))
  | .inr z59 => (some (.inr z59.1))))
  | .inr q6 => (some (.inr q6))))
  | .inr q3 => (some (.inr q3)))

noncomputable def markup_reader__node (o0 : Str) (o0_1 : Int) : Option ((TA0 × TA11) ⊕ Unit) :=
  ((markup_reader__next o0 o0_1).bind fun v1 =>
  (match v1 with
  | .inl v2 => (cond (!decide (v2.1 = [110, 111, 100, 101]))
  (some (.inr ((), ())))
  (some (.inl ((), (), v2.2.2.1, (0, (0, ([], ([], (0, (0, ([], ([], ([], ()))))))))), ()))))
  | .inr q3 => (some (.inr (q3, ())))) : Option ((Unit × (Unit × (TA6 × (TA1 × Unit)))) ⊕ TA10)).bind fun r4 =>
  (match r4 with
  | .inl z5 => ((markup_reader__open z5.2.2.1.1 z5.2.2.1.2.1).bind fun v6 =>
  (match v6 with
  | .inl v7 => ((markup_reader__wants v7.1 [[105, 100], [107, 105, 110, 100]] v7.2.2.1.1 v7.2.2.1.2.1).bind fun v9 =>
  (match v9 with
  | .inl v10 => ((idx v10.1 0).bind fun v12 =>
  (idx v10.1 1).bind fun v13 =>
  (markup_reader__number v12 false v10.2.2.1.1 v10.2.2.1.2.1).bind fun v14 =>
  (match v14 with
  | .inl v15 => ((markup_kinds).bind fun v17 =>
  (slices_Index_string_string_ v17.1 v13).bind fun v18 =>
  (cond (decide (v18.1 < 0))
  (some (.inr ((), ())))
  (some (.inl ((), (), (), (), v15.2.2.1, z5.2.2.2.1, v7.1, (v15.1, (v18.1, ([], ([], (0, (0, ([], ([], ([], ()))))))))), ()))) : Option ((Unit × (Unit × (Unit × (Unit × TA22)))) ⊕ TA10)).bind fun r19 =>
  (match r19 with
  | .inl z20 => (let v21 : TA3 := z20.2.2.2.2.2.2.1
  (markup_reader__attrs v21 z20.2.2.2.2.1.1 z20.2.2.2.2.1.2.1).bind fun v22 =>
  (match v22 with
  | .inl v23 => ((doc_Grids z20.2.2.2.2.2.2.2.1.2.1).bind fun v25 =>
  ((cond z20.2.2.2.2.2.2.1.2.2.2.1
  (some ((), (), (), (), v25.1, v23.2.2.1, z20.2.2.2.2.2.1, z20.2.2.2.2.2.2.1, (z20.2.2.2.2.2.2.2.1.1, (z20.2.2.2.2.2.2.2.1.2.1, (v23.1, z20.2.2.2.2.2.2.2.1.2.2.2))), ()))
  (some ((), (), (), (), false, v23.2.2.1, z20.2.2.2.2.2.1, z20.2.2.2.2.2.2.1, (z20.2.2.2.2.2.2.2.1.1, (z20.2.2.2.2.2.2.2.1.2.1, (v23.1, z20.2.2.2.2.2.2.2.1.2.2.2))), ())) : Option (Unit × (Unit × (Unit × (Unit × (Bool × TA22)))))).bind fun r26 =>
  cond r26.2.2.2.2.1
  (some (.inr ((), ())))
  (cond r26.2.2.2.2.2.2.2.1.2.2.2.1
  (some (.inl ((), (), (), (), r26.2.2.2.2.2.1, r26.2.2.2.2.2.2.1, r26.2.2.2.2.2.2.2.1, r26.2.2.2.2.2.2.2.2.1, ())))
  (((doc_Texts r26.2.2.2.2.2.2.2.2.1.2.1).bind fun v27 =>
  cond v27.1
  ((markup_reader__next r26.2.2.2.2.2.1.1 r26.2.2.2.2.2.1.2.1).bind fun v28 =>
  (match v28 with
  | .inl v29 => (some (.inl ((), (), (), (), (decide (v29.1 = [102, 108, 111, 119])), v29.2.2.1, r26.2.2.2.2.2.2.1, r26.2.2.2.2.2.2.2.1, r26.2.2.2.2.2.2.2.2.1, ())))
  | .inr q30 => (some (.inr (q30, ())))))
  ((doc_Lists r26.2.2.2.2.2.2.2.2.1.2.1).bind fun v31 =>
  cond (v31.1)
  ((markup_reader__next r26.2.2.2.2.2.1.1 r26.2.2.2.2.2.1.2.1).bind fun v32 =>
  (match v32 with
  | .inl v33 => (some (.inl ((), (), (), (), (decide (v33.1 = [102, 108, 111, 119])), v33.2.2.1, r26.2.2.2.2.2.2.1, r26.2.2.2.2.2.2.2.1, r26.2.2.2.2.2.2.2.2.1, ())))
  | .inr q34 => (some (.inr (q34, ())))))
  (some (.inl ((), (), (), (), false, r26.2.2.2.2.2.1, r26.2.2.2.2.2.2.1, r26.2.2.2.2.2.2.2.1, r26.2.2.2.2.2.2.2.2.1, ())))) : Option ((Unit × (Unit × (Unit × (Unit × (Bool × TA22))))) ⊕ TA10)).bind fun r35 =>
  (match r35 with
  | .inl z36 => (cond z36.2.2.2.2.1
  ((markup_reader__flow z36.2.2.2.2.2.1.1 z36.2.2.2.2.2.1.2.1).bind fun v37 =>
  (match v37 with
  | .inl v38 => (some (.inl ((), (), (), (), v38.2.2.1, z36.2.2.2.2.2.2.1, z36.2.2.2.2.2.2.2.1, (z36.2.2.2.2.2.2.2.2.1.1, (z36.2.2.2.2.2.2.2.2.1.2.1, (z36.2.2.2.2.2.2.2.2.1.2.2.1, (v38.1, z36.2.2.2.2.2.2.2.2.1.2.2.2.2)))), ())))
  | .inr q39 => (some (.inr (q39, ())))))
  (cond v25.1
  (((markup_reader__next z36.2.2.2.2.2.1.1 z36.2.2.2.2.2.1.2.1).bind fun v40 =>
  (match v40 with
  | .inl v41 => (cond (!decide (v41.1 = [103, 114, 105, 100]))
  (some (.inr ((), ())))
  (some (.inl ((), (), (), (), v41.2.2.1, z36.2.2.2.2.2.2.1, z36.2.2.2.2.2.2.2.1, z36.2.2.2.2.2.2.2.2.1, ()))))
  | .inr q42 => (some (.inr (q42, ())))) : Option ((Unit × (Unit × (Unit × (Unit × TA22)))) ⊕ TA10)).bind fun r43 =>
  (match r43 with
  | .inl z44 => ((markup_reader__grid z44.2.2.2.2.1.1 z44.2.2.2.2.1.2.1).bind fun v45 =>
  (match v45 with
  | .inl v46 => (some (.inl ((), (), (), (), v46.2.2.1, z44.2.2.2.2.2.1, z44.2.2.2.2.2.2.1, (z44.2.2.2.2.2.2.2.1.1, (z44.2.2.2.2.2.2.2.1.2.1, (z44.2.2.2.2.2.2.2.1.2.2.1, (z44.2.2.2.2.2.2.2.1.2.2.2.1, (v46.1.1, (v46.1.2.1, (v46.1.2.2.1, (v46.1.2.2.2.1, z44.2.2.2.2.2.2.2.1.2.2.2.2.2.2.2.2)))))))), ())))
  | .inr q47 => (some (.inr (q47, ())))))
  | .inr z48 => (some (.inr z48))))
  (((doc_Draws z36.2.2.2.2.2.2.2.2.1.2.1).bind fun v49 =>
  cond v49.1
  ((markup_reader__next z36.2.2.2.2.2.1.1 z36.2.2.2.2.2.1.2.1).bind fun v50 =>
  (match v50 with
  | .inl v51 => (some (.inl ((), (), (), (), (decide (v51.1 = [100, 114, 97, 119])), v51.2.2.1, z36.2.2.2.2.2.2.1, z36.2.2.2.2.2.2.2.1, z36.2.2.2.2.2.2.2.2.1, ())))
  | .inr q52 => (some (.inr (q52, ())))))
  (some (.inl ((), (), (), (), false, z36.2.2.2.2.2.1, z36.2.2.2.2.2.2.1, z36.2.2.2.2.2.2.2.1, z36.2.2.2.2.2.2.2.2.1, ()))) : Option ((Unit × (Unit × (Unit × (Unit × (Bool × TA22))))) ⊕ TA10)).bind fun r53 =>
  (match r53 with
  | .inl z54 => (cond z54.2.2.2.2.1
  ((markup_reader__draw z54.2.2.2.2.2.1.1 z54.2.2.2.2.2.1.2.1).bind fun v55 =>
  (match v55 with
  | .inl v56 => (some (.inl ((), (), (), (), v56.2.2.1, z54.2.2.2.2.2.2.1, z54.2.2.2.2.2.2.2.1, (z54.2.2.2.2.2.2.2.2.1.1, (z54.2.2.2.2.2.2.2.2.1.2.1, (z54.2.2.2.2.2.2.2.2.1.2.2.1, (z54.2.2.2.2.2.2.2.2.1.2.2.2.1, (z54.2.2.2.2.2.2.2.2.1.2.2.2.2.1, (z54.2.2.2.2.2.2.2.2.1.2.2.2.2.2.1, (z54.2.2.2.2.2.2.2.2.1.2.2.2.2.2.2.1, (z54.2.2.2.2.2.2.2.2.1.2.2.2.2.2.2.2.1, (v56.1, ()))))))))), ())))
  | .inr q57 => (some (.inr (q57, ())))))
  (some (.inl ((), (), (), (), z54.2.2.2.2.2.1, z54.2.2.2.2.2.2.1, z54.2.2.2.2.2.2.2.1, z54.2.2.2.2.2.2.2.2.1, ()))))
  | .inr z58 => (some (.inr z58))))))
  | .inr z59 => (some (.inr z59))))) : Option ((Unit × (Unit × (Unit × (Unit × TA22)))) ⊕ TA10)).bind fun r60 =>
  (match r60 with
  | .inl z61 => (let v62 : TA3 := z61.2.2.2.2.2.2.1
  (markup_reader__shut v62 z61.2.2.2.2.1.1 z61.2.2.2.2.1.2.1).bind fun v63 =>
  (match v63 with
  | .inl v64 => (let v66 : TA0 := (z61.2.2.2.2.2.2.2.1.1, (z61.2.2.2.2.2.2.2.1.2.1, (z61.2.2.2.2.2.2.2.1.2.2.1, (z61.2.2.2.2.2.2.2.1.2.2.2.1, ((z61.2.2.2.2.2.2.2.1.2.2.2.2.1, (z61.2.2.2.2.2.2.2.1.2.2.2.2.2.1, (z61.2.2.2.2.2.2.2.1.2.2.2.2.2.2.1, (z61.2.2.2.2.2.2.2.1.2.2.2.2.2.2.2.1, ())))), z61.2.2.2.2.2.2.2.1.2.2.2.2.2.2.2.2)))))
  some (.inl ((v66.1, (v66.2.1, (v66.2.2.1, (v66.2.2.2.1, (v66.2.2.2.2.1, v66.2.2.2.2.2))))), (), v64.2.1, ())))
  | .inr q65 => (some (.inr q65))))
  | .inr z67 => (some (.inr z67.1))))
  | .inr q24 => (some (.inr q24))))
  | .inr z68 => (some (.inr z68.1))))
  | .inr q16 => (some (.inr q16))))
  | .inr q11 => (some (.inr q11))))
  | .inr q8 => (some (.inr q8))))
  | .inr z69 => (some (.inr z69.1)))

noncomputable def markup_Parse_1_l1 (p1 : TA30) : Option (TA30 ⊕ (TA30 ⊕ TA10)) :=
  (cond (!p1.2.2.2.2.2.1.2.2.2.1)
  ((markup_reader__next p1.2.2.2.1.1 p1.2.2.2.1.2.1).bind fun v12 =>
  (match v12 with
  | .inl v13 => (some (.inl ((), (), (), (decide (v13.1 = [110, 111, 100, 101])), v13.2.2.1, ((), ()), p1.2.2.2.2.2.1, p1.2.2.2.2.2.2.1, ())))
  | .inr q14 => (some (.inr (q14, ())))))
  (some (.inl ((), (), (), false, p1.2.2.2.1, ((), ()), p1.2.2.2.2.2.1, p1.2.2.2.2.2.2.1, ()))) : Option ((Unit × (Unit × (Unit × (Bool × (TA6 × (TA10 × (TA3 × TA16))))))) ⊕ TA10)).bind fun r15 =>
  (match r15 with
  | .inl z16 => (cond z16.2.2.2.1
  ((markup_reader__node z16.2.2.2.2.1.1 z16.2.2.2.2.1.2.1).bind fun v17 =>
  (match v17 with
  | .inl v18 => ((cat z16.2.2.2.2.2.2.2.1 [v18.1]).bind fun v20 =>
  some (.inl ((), (), (), v18.2.2.1, ((), ()), z16.2.2.2.2.2.2.1, v20, ())))
  | .inr q19 => (some (.inr (.inr (q19, ()))))))
  (some (.inr (.inl ((), (), (), z16.2.2.2.2.1, ((), ()), z16.2.2.2.2.2.2.1, z16.2.2.2.2.2.2.2.1, ())))))
  | .inr z21 => (some (.inr (.inr z21))))

noncomputable def markup_Parse_1 (o0 : Str) (o0_1 : Int) : Option ((Unit × (Unit × (TA6 × (TA10 × TA16)))) ⊕ Unit) :=
  ((markup_reader__next o0 o0_1).bind fun v1 =>
  (match v1 with
  | .inl v2 => (cond (!decide (v2.1 = [100, 111, 99]))
  (some (.inr ((), ())))
  (some (.inl ((), (), v2.2.2.1, ((), ()), ()))))
  | .inr q3 => (some (.inr (q3, ())))) : Option ((Unit × (Unit × (TA6 × (TA10 × Unit)))) ⊕ TA10)).bind fun r4 =>
  (match r4 with
  | .inl z5 => ((markup_reader__open z5.2.2.1.1 z5.2.2.1.2.1).bind fun v6 =>
  (match v6 with
  | .inl v7 => ((markup_reader__wants v7.1 [] v7.2.2.1.1 v7.2.2.1.2.1).bind fun v9 =>
  (match v9 with
  | .inl v10 => ((loop markup_Parse_1_l1 ((), (), (), v10.2.2.1, ((), ()), v7.1, [], ())).bind fun r22 =>
  (match r22 with
  | .inl z23 => (let v24 : TA3 := z23.2.2.2.2.2.1
  (markup_reader__shut v24 z23.2.2.2.1.1 z23.2.2.2.1.2.1).bind fun v25 =>
  (match v25 with
  | .inl v26 => (some (.inl ((), (), v26.2.1, ((), ()), z23.2.2.2.2.2.2.1, ())))
  | .inr q27 => (some (.inr q27))))
  | .inr z28 => (some (.inr z28.1))))
  | .inr q11 => (some (.inr q11))))
  | .inr q8 => (some (.inr q8))))
  | .inr z29 => (some (.inr z29.1)))

noncomputable def markup_read_Parse_1 (a0 : Str) : Option ((Int × (TA10 × (TA10 × TA16))) ⊕ (Int × Unit)) :=
  (markup_Parse_1 a0 0).bind fun v1 =>
  (match v1 with
  | .inl v2 => (((markup_reader__space v2.2.2.1.1 v2.2.2.1.2.1).bind fun v4 =>
  cond (decide (v4.2.1.2.1 < (a0.length : Int)))
  (some (.inr ((), (), (0, ()), ())))
  (some (.inl (((), ()), (), ((), ()), (0, ()), v2.2.2.2.2.1, ()))) : Option ((TA10 × (Unit × (TA10 × ((Int × Unit) × TA16)))) ⊕ (Unit × (Unit × ((Int × Unit) × Unit))))).bind fun r5 =>
  (match r5 with
  | .inl z6 => (some (.inl (0, ((), ()), ((), ()), z6.2.2.2.2.1, ())))
  | .inr _ => (some (.inr (10, ())))))
  | .inr _ => (some (.inr (10, ()))))

noncomputable def markup_Parse (a0 : Str) : Option (TA16 × (Int × Unit)) :=
  (markup_read_Parse_1 a0).bind fun v1 =>
  (match v1 with
  | .inl v2 => (cond (decide (v2.1 = 0))
  ((doc_Check v2.2.2.2).bind fun v4 =>
  cond (!decide (v4.1 = 0))
  (some (([], ()), v4.1, ()))
  (some (v2.2.2.2, 0, ())))
  (cond (!decide (v2.1 = 0))
  (some (([], ()), v2.1, ()))
  (none)))
  | .inr v3 => (cond (decide (v3.1 = 0))
  (none)
  (cond (!decide (v3.1 = 0))
  (some (([], ()), v3.1, ()))
  (none))))

noncomputable def chancerylaw2_mod (a0 : Int) (a1 : Int) : Option (Int × Unit) :=
  (rem a0 a1).bind fun v1 =>
  (rem (IntKind.i64.wrap (v1 + a1)) a1).bind fun v2 =>
  some (v2, ())

noncomputable def chancerylaw2_MarkupRefuses_l1 (p1 : (Unit × (Int × TA26))) : Option ((Unit × (Int × TA26)) ⊕ (Unit × (Int × TA26))) :=
  (cut [60, 100, 111, 99, 62, 60, 110, 111, 100, 101, 32, 105, 100, 61, 34, 49, 34, 32, 107, 105, 110, 100, 61, 34, 114, 111, 111, 116, 34, 62, 60, 97, 32, 110, 61, 34, 120, 34, 62, 49, 38, 35, 53, 48, 59, 60, 47, 97, 62, 60, 102, 108, 111, 119, 62, 60, 111, 32, 114, 101, 102, 61, 34, 50, 34, 47, 62, 60, 47, 102, 108, 111, 119, 62, 60, 47, 110, 111, 100, 101, 62, 60, 110, 111, 100, 101, 32, 107, 105, 110, 100, 61, 34, 116, 101, 120, 116, 34, 32, 105, 100, 61, 34, 50, 34, 62, 60, 102, 108, 111, 119, 62, 60, 114, 62, 60, 115, 62, 38, 97, 109, 112, 59, 38, 35, 49, 48, 59, 60, 47, 115, 62, 60, 47, 114, 62, 60, 47, 102, 108, 111, 119, 62, 60, 47, 110, 111, 100, 101, 62, 60, 47, 100, 111, 99, 62] p1.2.1 ([60, 100, 111, 99, 62, 60, 110, 111, 100, 101, 32, 105, 100, 61, 34, 49, 34, 32, 107, 105, 110, 100, 61, 34, 114, 111, 111, 116, 34, 62, 60, 97, 32, 110, 61, 34, 120, 34, 62, 49, 38, 35, 53, 48, 59, 60, 47, 97, 62, 60, 102, 108, 111, 119, 62, 60, 111, 32, 114, 101, 102, 61, 34, 50, 34, 47, 62, 60, 47, 102, 108, 111, 119, 62, 60, 47, 110, 111, 100, 101, 62, 60, 110, 111, 100, 101, 32, 107, 105, 110, 100, 61, 34, 116, 101, 120, 116, 34, 32, 105, 100, 61, 34, 50, 34, 62, 60, 102, 108, 111, 119, 62, 60, 114, 62, 60, 115, 62, 38, 97, 109, 112, 59, 38, 35, 49, 48, 59, 60, 47, 115, 62, 60, 47, 114, 62, 60, 47, 102, 108, 111, 119, 62, 60, 47, 110, 111, 100, 101, 62, 60, 47, 100, 111, 99, 62].length : Int)).bind fun v15 =>
  (chk (inb 0 2)).bind fun _ =>
  (chanceryref2_Has v15 (p1.2.2.1.getD (0 : Int).toNat [])).bind fun v16 =>
  cond (!v16.1)
  (some (.inl ((), IntKind.i64.wrap (p1.2.1 + 1), p1.2.2.1, ())))
  (some (.inr ((), p1.2.1, p1.2.2.1, ())))

noncomputable def chancerylaw2_MarkupRefuses (a0 : Int) : Option TA12 :=
  (chancerylaw2_flats).bind fun v1 =>
  cond (!v1.1)
  (some (false, ()))
  ((markup_Parse [60, 100, 111, 99, 62, 60, 110, 111, 100, 101, 32, 105, 100, 61, 34, 49, 34, 32, 107, 105, 110, 100, 61, 34, 114, 111, 111, 116, 34, 62, 60, 97, 32, 110, 61, 34, 120, 34, 62, 49, 38, 35, 53, 48, 59, 60, 47, 97, 62, 60, 102, 108, 111, 119, 62, 60, 111, 32, 114, 101, 102, 61, 34, 50, 34, 47, 62, 60, 47, 102, 108, 111, 119, 62, 60, 47, 110, 111, 100, 101, 62, 60, 110, 111, 100, 101, 32, 107, 105, 110, 100, 61, 34, 116, 101, 120, 116, 34, 32, 105, 100, 61, 34, 50, 34, 62, 60, 102, 108, 111, 119, 62, 60, 114, 62, 60, 115, 62, 38, 97, 109, 112, 59, 38, 35, 49, 48, 59, 60, 47, 115, 62, 60, 47, 114, 62, 60, 47, 102, 108, 111, 119, 62, 60, 47, 110, 111, 100, 101, 62, 60, 47, 100, 111, 99, 62]).bind fun v2 =>
  cond (!decide (v2.2.1 = 0))
  (some (false, ()))
  (let v3 : (List Str) := [[105, 100, 61, 34, 49, 34], [105, 100, 32, 61, 32, 34, 49, 34]]
  let v4 : (List Str) := [[105, 100, 61, 34, 49, 34], [105, 100, 61, 34, 49, 34, 32, 105, 100, 61, 34, 49, 34]]
  let v5 : (List Str) := [[105, 100, 61, 34, 49, 34, 32, 107, 105, 110, 100], [105, 100, 61, 34, 49, 34, 107, 105, 110, 100]]
  let v6 : (List Str) := [[60, 100, 111, 99, 62], [60, 100, 111, 99, 32, 97, 61, 34, 49, 34, 62]]
  let v7 : (List Str) := [[38, 35, 49, 48, 59], [38, 35, 49, 50, 51, 52, 53, 54, 55, 56, 59]]
  let v8 : (List Str) := [[60, 47, 102, 108, 111, 119, 62, 60, 47, 110, 111, 100, 101, 62, 60, 110, 111, 100, 101], [60, 47, 102, 108, 111, 119, 32, 62, 60, 47, 110, 111, 100, 101, 62, 60, 110, 111, 100, 101]]
  let v9 : (List Str) := [[60, 102, 108, 111, 119, 62, 60, 111], [60, 102, 108, 111, 119, 62, 120, 60, 111]]
  let v10 : (List Str) := [[114, 101, 102, 61, 34, 50, 34], [114, 101, 102, 61, 34, 43, 50, 34]]
  let v11 : (List Str) := [[60, 102, 108, 111, 119, 62, 60, 111], [60, 102, 108, 111, 119, 62, 60, 109]]
  let v12 : (List Str) := [[107, 105, 110, 100, 61, 34, 116, 101, 120, 116, 34], [107, 105, 110, 100, 61, 34, 116, 101, 62, 120, 116, 34]]
  (chancerylaw2_mod a0 ([[[105, 100, 61, 34, 49, 34], [105, 100, 61, 34, 48, 49, 34]], [[105, 100, 61, 34, 49, 34], [105, 100, 61, 49]], v3, [[105, 100, 61, 34, 49, 34, 32], []], v4, v5, v6, [[38, 97, 109, 112, 59], [38]], [[38, 97, 109, 112, 59], [38, 110, 98, 115, 112, 59]], [[38, 35, 49, 48, 59], [38, 35, 120, 49, 48, 59]], v7, [[38, 35, 49, 48, 59], [38, 35, 53, 53, 50, 57, 54, 59]], [[38, 35, 49, 48, 59], [10]], v8, [[60, 47, 115, 62], [32, 60, 47, 114, 62]], v9, [[60, 115, 62], [60, 115, 47, 62, 60, 115, 62]], [[34, 114, 111, 111, 116, 34], [34, 82, 111, 111, 116, 34]], [[60, 47, 100, 111, 99, 62], []], v10, v11, [[38, 35, 53, 48, 59], [255]], v12].length : Int)).bind fun v13 =>
  (chk (inb v13.1 [[[105, 100, 61, 34, 49, 34], [105, 100, 61, 34, 48, 49, 34]], [[105, 100, 61, 34, 49, 34], [105, 100, 61, 49]], v3, [[105, 100, 61, 34, 49, 34, 32], []], v4, v5, v6, [[38, 97, 109, 112, 59], [38]], [[38, 97, 109, 112, 59], [38, 110, 98, 115, 112, 59]], [[38, 35, 49, 48, 59], [38, 35, 120, 49, 48, 59]], v7, [[38, 35, 49, 48, 59], [38, 35, 53, 53, 50, 57, 54, 59]], [[38, 35, 49, 48, 59], [10]], v8, [[60, 47, 115, 62], [32, 60, 47, 114, 62]], v9, [[60, 115, 62], [60, 115, 47, 62, 60, 115, 62]], [[34, 114, 111, 111, 116, 34], [34, 82, 111, 111, 116, 34]], [[60, 47, 100, 111, 99, 62], []], v10, v11, [[38, 35, 53, 48, 59], [255]], v12].length)).bind fun _ =>
  let v14 : (List Str) := ([[[105, 100, 61, 34, 49, 34], [105, 100, 61, 34, 48, 49, 34]], [[105, 100, 61, 34, 49, 34], [105, 100, 61, 49]], v3, [[105, 100, 61, 34, 49, 34, 32], []], v4, v5, v6, [[38, 97, 109, 112, 59], [38]], [[38, 97, 109, 112, 59], [38, 110, 98, 115, 112, 59]], [[38, 35, 49, 48, 59], [38, 35, 120, 49, 48, 59]], v7, [[38, 35, 49, 48, 59], [38, 35, 53, 53, 50, 57, 54, 59]], [[38, 35, 49, 48, 59], [10]], v8, [[60, 47, 115, 62], [32, 60, 47, 114, 62]], v9, [[60, 115, 62], [60, 115, 47, 62, 60, 115, 62]], [[34, 114, 111, 111, 116, 34], [34, 82, 111, 111, 116, 34]], [[60, 47, 100, 111, 99, 62], []], v10, v11, [[38, 35, 53, 48, 59], [255]], v12].getD v13.1.toNat (List.replicate 2 []))
  (loop chancerylaw2_MarkupRefuses_l1 ((), 0, v14, ())).bind fun r17 =>
  (cut [60, 100, 111, 99, 62, 60, 110, 111, 100, 101, 32, 105, 100, 61, 34, 49, 34, 32, 107, 105, 110, 100, 61, 34, 114, 111, 111, 116, 34, 62, 60, 97, 32, 110, 61, 34, 120, 34, 62, 49, 38, 35, 53, 48, 59, 60, 47, 97, 62, 60, 102, 108, 111, 119, 62, 60, 111, 32, 114, 101, 102, 61, 34, 50, 34, 47, 62, 60, 47, 102, 108, 111, 119, 62, 60, 47, 110, 111, 100, 101, 62, 60, 110, 111, 100, 101, 32, 107, 105, 110, 100, 61, 34, 116, 101, 120, 116, 34, 32, 105, 100, 61, 34, 50, 34, 62, 60, 102, 108, 111, 119, 62, 60, 114, 62, 60, 115, 62, 38, 97, 109, 112, 59, 38, 35, 49, 48, 59, 60, 47, 115, 62, 60, 47, 114, 62, 60, 47, 102, 108, 111, 119, 62, 60, 47, 110, 111, 100, 101, 62, 60, 47, 100, 111, 99, 62] 0 r17.2.1).bind fun v18 =>
  (chk (inb 1 2)).bind fun _ =>
  (cat v18 (r17.2.2.1.getD (1 : Int).toNat [])).bind fun v19 =>
  (chk (inb 0 2)).bind fun _ =>
  let v20 : Int := IntKind.i64.wrap (r17.2.1 + ((r17.2.2.1.getD (0 : Int).toNat []).length : Int))
  (cut [60, 100, 111, 99, 62, 60, 110, 111, 100, 101, 32, 105, 100, 61, 34, 49, 34, 32, 107, 105, 110, 100, 61, 34, 114, 111, 111, 116, 34, 62, 60, 97, 32, 110, 61, 34, 120, 34, 62, 49, 38, 35, 53, 48, 59, 60, 47, 97, 62, 60, 102, 108, 111, 119, 62, 60, 111, 32, 114, 101, 102, 61, 34, 50, 34, 47, 62, 60, 47, 102, 108, 111, 119, 62, 60, 47, 110, 111, 100, 101, 62, 60, 110, 111, 100, 101, 32, 107, 105, 110, 100, 61, 34, 116, 101, 120, 116, 34, 32, 105, 100, 61, 34, 50, 34, 62, 60, 102, 108, 111, 119, 62, 60, 114, 62, 60, 115, 62, 38, 97, 109, 112, 59, 38, 35, 49, 48, 59, 60, 47, 115, 62, 60, 47, 114, 62, 60, 47, 102, 108, 111, 119, 62, 60, 47, 110, 111, 100, 101, 62, 60, 47, 100, 111, 99, 62] v20 ([60, 100, 111, 99, 62, 60, 110, 111, 100, 101, 32, 105, 100, 61, 34, 49, 34, 32, 107, 105, 110, 100, 61, 34, 114, 111, 111, 116, 34, 62, 60, 97, 32, 110, 61, 34, 120, 34, 62, 49, 38, 35, 53, 48, 59, 60, 47, 97, 62, 60, 102, 108, 111, 119, 62, 60, 111, 32, 114, 101, 102, 61, 34, 50, 34, 47, 62, 60, 47, 102, 108, 111, 119, 62, 60, 47, 110, 111, 100, 101, 62, 60, 110, 111, 100, 101, 32, 107, 105, 110, 100, 61, 34, 116, 101, 120, 116, 34, 32, 105, 100, 61, 34, 50, 34, 62, 60, 102, 108, 111, 119, 62, 60, 114, 62, 60, 115, 62, 38, 97, 109, 112, 59, 38, 35, 49, 48, 59, 60, 47, 115, 62, 60, 47, 114, 62, 60, 47, 102, 108, 111, 119, 62, 60, 47, 110, 111, 100, 101, 62, 60, 47, 100, 111, 99, 62].length : Int)).bind fun v21 =>
  (cat v19 v21).bind fun v22 =>
  (markup_Parse v22).bind fun v23 =>
  some (decide (v23.2.1 = 10), ())))

end Go.Proofs.YtmnpchoocaiegaaGreatDoor
