/- Plain functions that the program's functions come to. Printed by a program (fegen.py). -/
import Derived.Test.YtkjkjebmkmkgfaaDoorFeLib
import Derived.Test.YtkjkjebmkmkgfaaDoorFeLaw
namespace Go.Proofs.YtkjkjebmkmkgfaaDoor
open Go Go.Fe

abbrev TA2 : Type := (Unit × (Unit × ((List Bool) × (Str × Unit))))
abbrev TA3 : Type := (List (Int × (Int × (Int × (Int × (Str × Unit))))))
abbrev TA7 : Type := ((Unit × (Unit × Unit)) × ((List Int) × Unit))
abbrev TA10 : Type := (Bool × Unit)
abbrev TA4 : Type := (Int × (Int × (Bool × TA10)))
abbrev TA11 : Type := (Str × (Str × Unit))
abbrev TA1 : Type := ((List TA11) × Unit)
abbrev TA5 : Type := (List (Int × (Int × TA1)))
abbrev TA0 : Type := (TA5 × (TA3 × Unit))
abbrev TA6 : Type := (TA5 × (TA3 × ((List Bool) × ((Int × (Int × (Unit × Unit))) × TA1))))
abbrev TA8 : Type := (Unit × (Str × (Int × (Str × (TA2 × TA0)))))
abbrev TA9 : Type := (Unit × (Unit × (Unit × (Str × (Int × (Int × (Int × (TA5 × (TA3 × ((List Bool) × Unit))))))))))
abbrev TA12 : Type := ((List Str) × Unit)
abbrev TA13 : Type := (Int × (Int × Unit))
abbrev TA14 : Type := (TA5 × (TA3 × ((List Bool) × (TA4 × Unit))))
abbrev TA15 : Type := (Unit × (TA2 × TA0))
abbrev TA16 : Type := (Unit × ((List Bool) × Unit))

noncomputable def strings_Index (a0 : Str) (a1 : Str) : Option (Int × Unit) :=
  (sIndex (a0, a1, ())).bind fun v1 =>
  some v1

noncomputable def strings_genSplit_l1 (v4 : Int) (a1 : Str) (a2 : Int) (p1 : (Str × (Unit × (Int × TA12)))) : Option ((Str × (Unit × (Int × TA12))) ⊕ (Str × (Unit × (Int × TA12)))) :=
  cond (decide (p1.2.2.1 < v4))
  ((strings_Index p1.1 a1).bind fun v5 =>
  cond (decide (v5.1 < 0))
  (some (.inr (p1.1, (), p1.2.2.1, p1.2.2.2.1, ())))
  ((cut p1.1 0 (IntKind.i64.wrap (v5.1 + a2))).bind fun v6 =>
  (chk (inb p1.2.2.1 p1.2.2.2.1.length)).bind fun _ =>
  let v7 : List Str := p1.2.2.2.1.set p1.2.2.1.toNat v6
  (cut p1.1 (IntKind.i64.wrap (v5.1 + (a1.length : Int))) (p1.1.length : Int)).bind fun v8 =>
  some (.inl (v8, (), IntKind.i64.wrap (p1.2.2.1 + 1), v7, ()))))
  (some (.inr (p1.1, (), p1.2.2.1, p1.2.2.2.1, ())))

noncomputable def strings_genSplit (a0 : Str) (a1 : Str) (a2 : Int) (a3 : Int) : Option (Unit × TA12) :=
  cond (decide (a3 = 0))
  (none)
  (cond (decide (a1 = []))
  (none)
  ((cond (decide (a3 < 0))
  ((sCount (a0, a1, ())).bind fun v1 =>
  some (IntKind.i64.wrap (v1.1 + 1), ()))
  (some (a3, ())) : Option (Int × Unit)).bind fun r2 =>
  (mk (mn r2.1 (IntKind.i64.wrap ((a0.length : Int) + 1))) (mn r2.1 (IntKind.i64.wrap ((a0.length : Int) + 1))) []).bind fun v3 =>
  let v4 : Int := IntKind.i64.wrap ((mn r2.1 (IntKind.i64.wrap ((a0.length : Int) + 1))) - 1)
  (loop (strings_genSplit_l1 v4 a1 a2) (a0, (), 0, v3, ())).bind fun r9 =>
  (chk (inb r9.2.2.1 r9.2.2.2.1.length)).bind fun _ =>
  let v10 : List Str := r9.2.2.2.1.set r9.2.2.1.toNat r9.1
  (cut v10 0 (IntKind.i64.wrap (r9.2.2.1 + 1))).bind fun v11 =>
  some ((), v11, ())))

noncomputable def strings_Split (a0 : Str) (a1 : Str) : Option (Unit × TA12) :=
  (strings_genSplit a0 a1 0 (-1)).bind fun v1 =>
  some ((), v1.2.1, ())

noncomputable def strings_trimLeftByte_l1 (a1 : Int) (p1 : (Str × Unit)) : Option ((Str × Unit) ⊕ (Str × Unit)) :=
  (cond (decide (0 < (p1.1.length : Int)))
  ((idx p1.1 0).bind fun v1 =>
  some ((decide ((ofByte v1) = a1)), ()))
  (some (false, ())) : Option TA10).bind fun r2 =>
  cond r2.1
  ((cut p1.1 1 (p1.1.length : Int)).bind fun v3 =>
  some (.inl (v3, ())))
  (some (.inr p1))

noncomputable def strings_trimLeftByte (a0 : Str) (a1 : Int) : Option (Str × Unit) :=
  (loop (strings_trimLeftByte_l1 a1) (a0, ())).bind fun r4 =>
  some r4

noncomputable def strings_makeASCIISet_l1 (a0 : Str) (p1 : (Unit × (Int × ((List Bool) × Unit)))) : Option ((Unit × (Int × ((List Bool) × Unit))) ⊕ (TA16 ⊕ (Unit × (Bool × ((List Bool) × Unit))))) :=
  cond (decide (p1.2.1 < (a0.length : Int)))
  ((idx a0 p1.2.1).bind fun v1 =>
  cond (decide (128 ≤ (ofByte v1)))
  (some (.inr (.inr ((), false, p1.2.2.1, ()))))
  ((chk (inb (ofByte v1) 256)).bind fun _ =>
  let v2 : List Bool := p1.2.2.1.set (ofByte v1).toNat true
  some (.inl ((), IntKind.i64.wrap (p1.2.1 + 1), v2, ()))))
  (some (.inr (.inl ((), p1.2.2.1, ()))))

noncomputable def strings_makeASCIISet (a0 : Str) : Option ((List Bool) × TA10) :=
  (loop (strings_makeASCIISet_l1 a0) ((), 0, (List.replicate 256 false), ())).bind fun r3 =>
  (match r3 with
  | .inl z4 => (some (z4.2.1, true, ()))
  | .inr z5 => (some (z5.2.2.1, z5.2.1, ())))

noncomputable def _strings_asciiSet__contains (a1 : Int) (o0 : (List Bool)) : Option (Bool × TA16) :=
  (chk (inb a1 256)).bind fun _ =>
  some ((o0.getD a1.toNat false), (), o0, ())

noncomputable def strings_trimLeftASCII_l1 (p1 : (Str × TA16)) : Option ((Str × TA16) ⊕ (Str × TA16)) :=
  cond (decide (0 < (p1.1.length : Int)))
  ((idx p1.1 0).bind fun v1 =>
  (_strings_asciiSet__contains (ofByte v1) p1.2.2.1).bind fun v2 =>
  cond (!v2.1)
  (some (.inr (p1.1, (), v2.2.2.1, ())))
  ((cut p1.1 1 (p1.1.length : Int)).bind fun v3 =>
  some (.inl (v3, (), v2.2.2.1, ()))))
  (some (.inr (p1.1, (), p1.2.2.1, ())))

noncomputable def strings_trimLeftASCII (a0 : Str) (o0 : (List Bool)) : Option (Str × TA16) :=
  (loop strings_trimLeftASCII_l1 (a0, (), o0, ())).bind fun r4 =>
  some (r4.1, (), r4.2.2.1, ())

noncomputable def strings_TrimLeft (a0 : Str) (a1 : Str) : Option (Str × Unit) :=
  (cond (decide (a0 = []))
  (some (true, ()))
  (some ((decide (a1 = [])), ())) : Option TA10).bind fun r1 =>
  cond r1.1
  (some (a0, ()))
  ((cond (decide ((a1.length : Int) = 1))
  ((idx a1 0).bind fun v2 =>
  some ((decide ((ofByte v2) < 128)), ()))
  (some (false, ())) : Option TA10).bind fun r3 =>
  cond r3.1
  ((idx a1 0).bind fun v4 =>
  (strings_trimLeftByte a0 (ofByte v4)).bind fun v5 =>
  some v5)
  ((strings_makeASCIISet a1).bind fun v6 =>
  cond v6.2.1
  ((strings_trimLeftASCII a0 v6.1).bind fun v7 =>
  some (v7.1, ()))
  (((sNever [Ty.str, Ty.str] [Ty.str]) (a0, a1, ())).bind fun v8 =>
  some v8)))

noncomputable def marked_marks (a0 : Str) : Option (Str × TA1) :=
  (strings_TrimLeft a0 [35]).bind fun v1 =>
  (cond (decide (1 ≤ (IntKind.i64.wrap ((a0.length : Int) - (v1.1.length : Int)))))
  (let v2 : Bool := (decide ((IntKind.i64.wrap ((a0.length : Int) - (v1.1.length : Int))) ≤ 6))
  cond v2
  ((cut a0 (IntKind.i64.wrap ((a0.length : Int) - (v1.1.length : Int))) (a0.length : Int)).bind fun v3 =>
  (sHasPrefix (v3, [32], ())).bind fun v4 =>
  some (v4.1, ()))
  (some (false, ())))
  (some (false, ())) : Option TA10).bind fun r5 =>
  cond r5.1
  (let v6 : Int := IntKind.i64.wrap ((IntKind.i64.wrap ((a0.length : Int) - (v1.1.length : Int))) + 1)
  (cut a0 v6 (a0.length : Int)).bind fun v7 =>
  let v8 : Int := IntKind.i64.wrap (48 + (IntKind.i64.wrap ((a0.length : Int) - (v1.1.length : Int))))
  some (v7, [([104, 101, 97, 100], runeStr (IntKind.i32.wrap v8), ())], ()))
  ((strings_TrimLeft a0 [32]).bind fun v9 =>
  ((rem (IntKind.i64.wrap ((a0.length : Int) - (v9.1.length : Int))) 2).bind fun v10 =>
  cond (decide (v10 = 1))
  (some (true, ()))
  (let v11 : Bool := (decide (16 < (IntKind.i64.wrap ((a0.length : Int) - (v9.1.length : Int)))))
  some (v11, ())) : Option TA10).bind fun r12 =>
  cond r12.1
  (some (a0, [], ()))
  ((cond (decide (0 < (IntKind.i64.wrap ((a0.length : Int) - (v9.1.length : Int)))))
  ((quo .i64 (IntKind.i64.wrap ((a0.length : Int) - (v9.1.length : Int))) 2).bind fun v13 =>
  let v14 : TA11 := ([108, 101, 118, 101, 108], runeStr (IntKind.i32.wrap (IntKind.i64.wrap (48 + v13))), ())
  some ((), [v14], ()))
  (some ((), [], ())) : Option (Unit × TA1)).bind fun r15 =>
  (cut a0 (IntKind.i64.wrap ((a0.length : Int) - (v9.1.length : Int))) (a0.length : Int)).bind fun v16 =>
  (sCutPrefix (v16, [45, 32], ())).bind fun v17 =>
  cond v17.2.1
  ((cat r15.2.1 [([108, 105, 115, 116], [98, 117, 108, 108, 101, 116], ())]).bind fun v18 =>
  some (v17.1, v18, ()))
  ((cut a0 (IntKind.i64.wrap ((a0.length : Int) - (v9.1.length : Int))) (a0.length : Int)).bind fun v19 =>
  (sCutPrefix (v19, [49, 46, 32], ())).bind fun v20 =>
  cond v20.2.1
  ((cat r15.2.1 [([108, 105, 115, 116], [110, 117, 109, 98, 101, 114], ())]).bind fun v21 =>
  some (v20.1, v21, ()))
  (some (a0, [], ())))))

noncomputable def flow_Char (a0 : Int) : Option TA10 :=
  cond (decide (a0 = 9))
  (some (true, ()))
  (cond ((decide (a0 = 10)))
  (some (true, ()))
  (cond (decide (32 ≤ a0))
  (cond (((decide (a0 < 127))))
  (some (true, ()))
  (cond (decide (160 ≤ a0))
  (cond (((decide (a0 < 55296))))
  (some (true, ()))
  (cond (decide (57343 < a0))
  (some (((decide (a0 ≤ 1114111))), ()))
  (some (false, ()))))
  (cond (false)
  (some (true, ()))
  (cond (decide (57343 < a0))
  (some (((decide (a0 ≤ 1114111))), ()))
  (some (false, ()))))))
  (cond (false)
  (some (true, ()))
  (cond (decide (160 ≤ a0))
  (cond (((decide (a0 < 55296))))
  (some (true, ()))
  (cond (decide (57343 < a0))
  (some (((decide (a0 ≤ 1114111))), ()))
  (some (false, ()))))
  (cond (false)
  (some (true, ()))
  (cond (decide (57343 < a0))
  (some (((decide (a0 ≤ 1114111))), ()))
  (some (false, ()))))))))

noncomputable def bits_Len32 (a0 : Int) : Option (Int × Unit) :=
  (cond (decide (65536 ≤ a0))
  ((shc 16).bind fun v1 =>
  some (shr .u32 a0 v1, 16, ()))
  (some (a0, 0, ())) : Option TA13).bind fun r2 =>
  (cond (decide (256 ≤ r2.1))
  ((shc 8).bind fun v3 =>
  some (shr .u32 r2.1 v3, IntKind.i64.wrap (r2.2.1 + 8), ()))
  (some r2) : Option TA13).bind fun r4 =>
  (idx [0, 1, 2, 2, 3, 3, 3, 3, 4, 4, 4, 4, 4, 4, 4, 4, 5, 5, 5, 5, 5, 5, 5, 5, 5, 5, 5, 5, 5, 5, 5, 5, 6, 6, 6, 6, 6, 6, 6, 6, 6, 6, 6, 6, 6, 6, 6, 6, 6, 6, 6, 6, 6, 6, 6, 6, 6, 6, 6, 6, 6, 6, 6, 6, 7, 7, 7, 7, 7, 7, 7, 7, 7, 7, 7, 7, 7, 7, 7, 7, 7, 7, 7, 7, 7, 7, 7, 7, 7, 7, 7, 7, 7, 7, 7, 7, 7, 7, 7, 7, 7, 7, 7, 7, 7, 7, 7, 7, 7, 7, 7, 7, 7, 7, 7, 7, 7, 7, 7, 7, 7, 7, 7, 7, 7, 7, 7, 7, 8, 8, 8, 8, 8, 8, 8, 8, 8, 8, 8, 8, 8, 8, 8, 8, 8, 8, 8, 8, 8, 8, 8, 8, 8, 8, 8, 8, 8, 8, 8, 8, 8, 8, 8, 8, 8, 8, 8, 8, 8, 8, 8, 8, 8, 8, 8, 8, 8, 8, 8, 8, 8, 8, 8, 8, 8, 8, 8, 8, 8, 8, 8, 8, 8, 8, 8, 8, 8, 8, 8, 8, 8, 8, 8, 8, 8, 8, 8, 8, 8, 8, 8, 8, 8, 8, 8, 8, 8, 8, 8, 8, 8, 8, 8, 8, 8, 8, 8, 8, 8, 8, 8, 8, 8, 8, 8, 8, 8, 8, 8, 8, 8, 8, 8, 8, 8, 8, 8, 8, 8, 8, 8, 8, 8, 8, 8, 8] (IntKind.u8.wrap r4.1)).bind fun v5 =>
  some (IntKind.i64.wrap (r4.2.1 + (IntKind.i64.wrap (ofByte v5))), ())

noncomputable def bits_Len64 (a0 : Int) : Option (Int × Unit) :=
  (cond (decide (4294967296 ≤ a0))
  ((shc 32).bind fun v1 =>
  some (shr .u64 a0 v1, 32, ()))
  (some (a0, 0, ())) : Option TA13).bind fun r2 =>
  (cond (decide (65536 ≤ r2.1))
  ((shc 16).bind fun v3 =>
  some (shr .u64 r2.1 v3, IntKind.i64.wrap (r2.2.1 + 16), ()))
  (some r2) : Option TA13).bind fun r4 =>
  (cond (decide (256 ≤ r4.1))
  ((shc 8).bind fun v5 =>
  some (shr .u64 r4.1 v5, IntKind.i64.wrap (r4.2.1 + 8), ()))
  (some r4) : Option TA13).bind fun r6 =>
  (idx [0, 1, 2, 2, 3, 3, 3, 3, 4, 4, 4, 4, 4, 4, 4, 4, 5, 5, 5, 5, 5, 5, 5, 5, 5, 5, 5, 5, 5, 5, 5, 5, 6, 6, 6, 6, 6, 6, 6, 6, 6, 6, 6, 6, 6, 6, 6, 6, 6, 6, 6, 6, 6, 6, 6, 6, 6, 6, 6, 6, 6, 6, 6, 6, 7, 7, 7, 7, 7, 7, 7, 7, 7, 7, 7, 7, 7, 7, 7, 7, 7, 7, 7, 7, 7, 7, 7, 7, 7, 7, 7, 7, 7, 7, 7, 7, 7, 7, 7, 7, 7, 7, 7, 7, 7, 7, 7, 7, 7, 7, 7, 7, 7, 7, 7, 7, 7, 7, 7, 7, 7, 7, 7, 7, 7, 7, 7, 7, 8, 8, 8, 8, 8, 8, 8, 8, 8, 8, 8, 8, 8, 8, 8, 8, 8, 8, 8, 8, 8, 8, 8, 8, 8, 8, 8, 8, 8, 8, 8, 8, 8, 8, 8, 8, 8, 8, 8, 8, 8, 8, 8, 8, 8, 8, 8, 8, 8, 8, 8, 8, 8, 8, 8, 8, 8, 8, 8, 8, 8, 8, 8, 8, 8, 8, 8, 8, 8, 8, 8, 8, 8, 8, 8, 8, 8, 8, 8, 8, 8, 8, 8, 8, 8, 8, 8, 8, 8, 8, 8, 8, 8, 8, 8, 8, 8, 8, 8, 8, 8, 8, 8, 8, 8, 8, 8, 8, 8, 8, 8, 8, 8, 8, 8, 8, 8, 8, 8, 8, 8, 8, 8, 8, 8, 8, 8, 8] (IntKind.u8.wrap r6.1)).bind fun v7 =>
  some (IntKind.i64.wrap (r6.2.1 + (IntKind.i64.wrap (ofByte v7))), ())

noncomputable def bits_Len (a0 : Int) : Option (Int × Unit) :=
  cond false
  ((bits_Len32 (IntKind.u32.wrap a0)).bind fun v1 =>
  some v1)
  ((bits_Len64 a0).bind fun v2 =>
  some v2)

noncomputable def marked_reader__attrs_1 (a0 : TA11) (a1 : TA11) : Option (Int × Unit) :=
  (sCompare (a0.1, a1.1, ())).bind fun v1 =>
  some v1

noncomputable def api_Attr__attrs_1xx_l1 (a1 : Int) (p1 : (Unit × (Unit × (Int × TA1)))) : Option ((Unit × (Unit × (Int × TA1))) ⊕ (Unit × (Unit × TA1))) :=
  (cond (decide (a1 < p1.2.2.1))
  ((chk (inb p1.2.2.1 p1.2.2.2.1.length)).bind fun _ =>
  (chk (inb (IntKind.i64.wrap (p1.2.2.1 - 1)) p1.2.2.2.1.length)).bind fun _ =>
  let v1 : TA11 := (p1.2.2.2.1.getD (IntKind.i64.wrap (p1.2.2.1 - 1)).toNat ([], ([], ())))
  (marked_reader__attrs_1 (p1.2.2.2.1.getD p1.2.2.1.toNat ([], ([], ()))) v1).bind fun v2 =>
  some ((), (), (decide (v2.1 < 0)), p1.2.2.2.1, ()))
  (some ((), (), false, p1.2.2.2.1, ())) : Option (Unit × (Unit × (Bool × TA1)))).bind fun r3 =>
  cond r3.2.2.1
  ((chk (inb (IntKind.i64.wrap (p1.2.2.1 - 1)) r3.2.2.2.1.length)).bind fun _ =>
  let v4 : TA11 := (r3.2.2.2.1.getD (IntKind.i64.wrap (p1.2.2.1 - 1)).toNat ([], ([], ())))
  (chk (inb p1.2.2.1 r3.2.2.2.1.length)).bind fun _ =>
  (chk (inb p1.2.2.1 r3.2.2.2.1.length)).bind fun _ =>
  let v5 : List TA11 := r3.2.2.2.1.set p1.2.2.1.toNat v4
  (chk (inb (IntKind.i64.wrap (p1.2.2.1 - 1)) v5.length)).bind fun _ =>
  let v6 : List TA11 := v5.set (IntKind.i64.wrap (p1.2.2.1 - 1)).toNat (r3.2.2.2.1.getD p1.2.2.1.toNat ([], ([], ())))
  some (.inl ((), (), IntKind.i64.wrap (p1.2.2.1 - 1), v6, ())))
  (some (.inr ((), (), r3.2.2.2.1, ())))

noncomputable def api_Attr__attrs_1xx_l2 (a2 : Int) (a1 : Int) (p2 : (Unit × (Unit × (Int × TA1)))) : Option ((Unit × (Unit × (Int × TA1))) ⊕ (Unit × TA1)) :=
  cond (decide (p2.2.2.1 < a2))
  ((loop (api_Attr__attrs_1xx_l1 a1) ((), (), p2.2.2.1, p2.2.2.2.1, ())).bind fun r7 =>
  some (.inl ((), (), IntKind.i64.wrap (p2.2.2.1 + 1), r7.2.2.1, ())))
  (some (.inr ((), p2.2.2.2.1, ())))

noncomputable def api_Attr__attrs_1xx (a1 : Int) (a2 : Int) (o0 : (List TA11)) : Option (Unit × TA1) :=
  (loop (api_Attr__attrs_1xx_l2 a2 a1) ((), (), IntKind.i64.wrap (a1 + 1), o0, ())).bind fun r8 =>
  some ((), r8.2.1, ())

noncomputable def api_Attr__attrs_1x_l1 (p1 : (Unit × (Int × (Int × (Unit × TA1))))) : Option ((Unit × (Int × (Int × (Unit × TA1)))) ⊕ (Unit × TA1)) :=
  cond (decide ((IntKind.i64.wrap (p1.2.2.1 - p1.2.1)) ≤ 12))
  ((api_Attr__attrs_1xx p1.2.1 p1.2.2.1 p1.2.2.2.2.1).bind fun v1 =>
  some (.inr ((), v1.2.1, ())))
  (none)

noncomputable def api_Attr__attrs_1x (a1 : Int) (a2 : Int) (a3 : Int) (o0 : (List TA11)) : Option (Unit × TA1) :=
  (loop api_Attr__attrs_1x_l1 ((), a1, a2, (), o0, ())).bind fun r2 =>
  some ((), r2.2.1, ())

noncomputable def api_Attr__attrs_1 (o0 : (List TA11)) : Option (Unit × TA1) :=
  (bits_Len (IntKind.u64.wrap (o0.length : Int))).bind fun v1 =>
  (api_Attr__attrs_1x 0 (o0.length : Int) v1.1 o0).bind fun v2 =>
  some ((), v2.2.1, ())

noncomputable def marked_reader__attrs_l1 (a0 : (TA5 × (TA3 × ((List Bool) × (Str × Unit))))) (p1 : (Unit × (Int × TA1))) : Option ((Unit × (Int × TA1)) ⊕ (Unit × TA1)) :=
  cond (decide (p1.2.1 < 4))
  (((idx ([([42, 42], [98, 111, 108, 100], ()), ([42], [105, 116, 97, 108, 105, 99], ()), ([126, 126], [115, 116, 114, 105, 107, 101], ()), ([96], [102, 105, 120, 101, 100], ())] : (List TA11)) p1.2.1).bind fun v1 =>
  (idx a0.2.2.1 p1.2.1).bind fun v2 =>
  cond v2
  ((cat p1.2.2.1 [(v1.2.1, [111, 110], ())]).bind fun v3 =>
  some ((), v3, ()))
  (some ((), p1.2.2.1, ())) : Option (Unit × TA1)).bind fun r4 =>
  some (.inl ((), IntKind.i64.wrap (p1.2.1 + 1), r4.2.1, ())))
  (some (.inr ((), p1.2.2.1, ())))

noncomputable def marked_reader__attrs (a0 : (TA5 × (TA3 × ((List Bool) × (Str × Unit))))) : Option (Unit × TA1) :=
  (loop (marked_reader__attrs_l1 a0) ((), 0, [], ())).bind fun r5 =>
  (cond (!decide (a0.2.2.2.1 = []))
  ((cat r5.2.1 [([108, 105, 110, 107], a0.2.2.2.1, ())]).bind fun v6 =>
  some ((), v6, ()))
  (some ((), r5.2.1, ())) : Option (Unit × TA1)).bind fun r7 =>
  (api_Attr__attrs_1 r7.2.1).bind fun v8 =>
  some ((), v8.2.1, ())

noncomputable def marked_reader__character (a1 : Str) (o0 : (List Bool)) (o0_1 : Str) : Option (Int × TA15) :=
  (sRune (a1, ())).bind fun v1 =>
  ((cond (decide (v1.1 = 65533))
  (cond ((decide (v1.2.1 = 1)))
  (some ((), true, ((), ((), (o0, (o0_1, ())))), ()))
  ((flow_Char (IntKind.i64.wrap v1.1)).bind fun v2 =>
  some ((), (!v2.1), ((), ((), (o0, (o0_1, ())))), ())))
  ((flow_Char (IntKind.i64.wrap v1.1)).bind fun v3 =>
  some ((), (!v3.1), ((), ((), (o0, (o0_1, ())))), ())) : Option (Unit × (Bool × (TA2 × Unit)))).bind fun r4 =>
  cond r4.2.1
  ((cat [] [(5, 0, 0, 0, [], ())]).bind fun v5 =>
  some ((), 63, ((), ((), r4.2.2.1.2.2)), v5, ()))
  (some ((), v1.1, ((), ((), r4.2.2.1.2.2)), [], ())) : Option (Unit × (Int × (TA2 × (TA3 × Unit))))).bind fun r6 =>
  ((marked_reader__attrs ([], (r6.2.2.2.1, r6.2.2.1.2.2))).bind fun v7 => some v7.2.1).bind fun v8 =>
  (cat [] [(IntKind.i64.wrap r6.2.1, 0, v8, ())]).bind fun v9 =>
  some (v1.2.1, (), ((), ((), r6.2.2.1.2.2)), v9, r6.2.2.2.1, ())

noncomputable def marked_reader__toggle_l1 (a1 : Str) (p1 : (Unit × (Int × (TA2 × Unit)))) : Option ((Unit × (Int × (TA2 × Unit))) ⊕ ((Unit × (TA2 × Unit)) ⊕ (Unit × (Int × (TA2 × Unit))))) :=
  cond (decide (p1.2.1 < 4))
  ((idx ([([42, 42], [98, 111, 108, 100], ()), ([42], [105, 116, 97, 108, 105, 99], ()), ([126, 126], [115, 116, 114, 105, 107, 101], ()), ([96], [102, 105, 120, 101, 100], ())] : (List TA11)) p1.2.1).bind fun v1 =>
  (sHasPrefix (a1, v1.1, ())).bind fun v2 =>
  cond v2.1
  ((chk (inb p1.2.1 4)).bind fun _ =>
  (chk (inb p1.2.1 4)).bind fun _ =>
  let v3 : List Bool := p1.2.2.1.2.2.1.set p1.2.1.toNat (!(p1.2.2.1.2.2.1.getD p1.2.1.toNat false))
  some (.inr (.inr ((), (v1.1.length : Int), ((), ((), (v3, p1.2.2.1.2.2.2))), ()))))
  (some (.inl ((), IntKind.i64.wrap (p1.2.1 + 1), ((), ((), p1.2.2.1.2.2)), ()))))
  (some (.inr (.inl ((), ((), ((), p1.2.2.1.2.2)), ()))))

noncomputable def marked_reader__toggle (a1 : Str) (o0 : (List Bool)) (o0_1 : Str) : Option (Int × (Unit × (TA2 × Unit))) :=
  (loop (marked_reader__toggle_l1 a1) ((), 0, ((), ((), (o0, (o0_1, ())))), ())).bind fun r4 =>
  (match r4 with
  | .inl z5 => (some (0, (), ((), ((), z5.2.1.2.2)), ()))
  | .inr z6 => (some (z6.2.1, (), ((), ((), z6.2.2.1.2.2)), ())))

noncomputable def _strings_Builder__Len (o1 : (List Int)) : Option (Int × (Unit × TA7)) :=
  some ((o1.length : Int), (), ((), ((), ())), o1, ())

noncomputable def _strings_Builder__Lenx (o0 : (List Int)) : Option (Int × (Unit × ((Unit × ((List Int) × Unit)) × Unit))) :=
  some ((o0.length : Int), (), ((), (o0, ())), ())

noncomputable def _strings_Builder__WriteByte (a1 : Int) (o1 : (List Int)) : Option (Bool × (Unit × TA7)) :=
  (cat o1 [a1]).bind fun v1 =>
  some (false, (), ((), ((), ())), v1, ())

noncomputable def marked_target_l1 (a0 : Str) (p1 : (Int × Unit)) : Option ((Int × Unit) ⊕ ((Int × Unit) ⊕ (Str × (Int × (Int × TA10))))) :=
  ((cond (decide ((a0.length : Int) ≤ p1.1))
  (some (true, ()))
  ((idx a0 p1.1).bind fun v1 =>
  some ((decide ((ofByte v1) = 91)), ())) : Option TA10).bind fun r2 =>
  cond r2.1
  (some (.inr (.inr ([], 0, 0, false, ()))))
  ((idx a0 p1.1).bind fun v3 =>
  cond (decide ((ofByte v3) = 92))
  (some (.inl (IntKind.i64.wrap (p1.1 + 1), ())))
  ((cut a0 p1.1 (a0.length : Int)).bind fun v4 =>
  (sHasPrefix (v4, [93, 40], ())).bind fun v5 =>
  cond v5.1
  (some (.inr (.inl p1)))
  (some (.inl p1)))) : Option ((Int × Unit) ⊕ ((Int × Unit) ⊕ (Str × (Int × (Int × TA10)))))).bind fun r6 =>
  (match r6 with
  | .inl z7 => (some (.inl (IntKind.i64.wrap (z7.1 + 1), ())))
  | .inr (.inl z8) => (some (.inr (.inl z8)))
  | .inr (.inr z9) => (some (.inr (.inr z9))))

noncomputable def marked_target_l2 (a0 : Str) (z11 : (Int × Unit)) (p2 : (Unit × (Int × TA7))) : Option ((Unit × (Int × TA7)) ⊕ (Unit ⊕ (Str × (Int × (Int × TA10))))) :=
  (cond (decide (p2.2.1 < (a0.length : Int)))
  ((_strings_Builder__Len p2.2.2.2.1).bind fun v12 =>
  some ((), (decide (v12.1 ≤ 200)), ((), ((), ())), v12.2.2.2.1, ()))
  (some ((), false, ((), ((), ())), p2.2.2.2.1, ())) : Option (Unit × (Bool × TA7))).bind fun r13 =>
  cond r13.2.1
  ((idx a0 p2.2.1).bind fun v14 =>
  cond (decide ((ofByte v14) = 41))
  ((chk (decide (r13.2.2.2.1.length ≤ lim))).bind fun _ =>
  (_strings_Builder__Lenx r13.2.2.2.1).bind fun v15 =>
  some (.inr (.inr (bytesStr r13.2.2.2.1, z11.1, IntKind.i64.wrap (p2.2.1 + 1), decide (0 < v15.1), ()))))
  (((cond (decide ((ofByte v14) = 92))
  (let v16 : Bool := (decide ((IntKind.i64.wrap (p2.2.1 + 1)) < (a0.length : Int)))
  some ((), v16, ((), ((), ())), r13.2.2.2.1, ()))
  (some ((), false, ((), ((), ())), r13.2.2.2.1, ())) : Option (Unit × (Bool × TA7))).bind fun r17 =>
  cond r17.2.1
  ((idx a0 (IntKind.i64.wrap (p2.2.1 + 1))).bind fun v18 =>
  some (.inl ((), IntKind.i64.wrap (p2.2.1 + 1), ofByte v18, ((), ((), ())), r17.2.2.2.1, ())))
  (cond (decide ((ofByte v14) = 92))
  (some (.inr (())))
  (some (.inl ((), p2.2.1, ofByte v14, ((), ((), ())), r17.2.2.2.1, ())))) : Option ((Unit × (Int × (Int × TA7))) ⊕ Unit)).bind fun r19 =>
  (match r19 with
  | .inl z20 => ((cond (decide (z20.2.2.1 < 32))
  (some ((), true, ((), ((), ())), z20.2.2.2.2.1, ()))
  (some ((), (decide (126 < z20.2.2.1)), ((), ((), ())), z20.2.2.2.2.1, ())) : Option (Unit × (Bool × TA7))).bind fun r21 =>
  cond r21.2.1
  (some (.inr (.inl (()))))
  ((_strings_Builder__WriteByte z20.2.2.1 r21.2.2.2.1).bind fun v22 =>
  some (.inl ((), IntKind.i64.wrap (z20.2.1 + 1), ((), ((), ())), v22.2.2.2.1, ()))))
  | .inr _ => (some (.inr (.inl (())))))))
  (some (.inr (.inl (()))))

noncomputable def marked_target (a0 : Str) : Option (Str × (Int × (Int × TA10))) :=
  (loop (marked_target_l1 a0) (0, ())).bind fun r10 =>
  (match r10 with
  | .inl z11 => ((loop (marked_target_l2 a0 z11) ((), IntKind.i64.wrap (z11.1 + 2), ((), ((), ())), [], ())).bind fun r24 =>
  (match r24 with
  | .inl _ => (some ([], 0, 0, false, ()))
  | .inr z26 => (some z26)))
  | .inr z27 => (some z27))

noncomputable def marked_reader__characterx (a1 : Str) (o0 : (List Bool)) (o0_1 : Str) (o1 : TA5) (o2 : TA3) : Option (Int × TA15) :=
  (sRune (a1, ())).bind fun v1 =>
  ((cond (decide (v1.1 = 65533))
  (cond ((decide (v1.2.1 = 1)))
  (some ((), true, ((), ((), (o0, (o0_1, ())))), o1, o2, ()))
  ((flow_Char (IntKind.i64.wrap v1.1)).bind fun v2 =>
  some ((), (!v2.1), ((), ((), (o0, (o0_1, ())))), o1, o2, ())))
  ((flow_Char (IntKind.i64.wrap v1.1)).bind fun v3 =>
  some ((), (!v3.1), ((), ((), (o0, (o0_1, ())))), o1, o2, ())) : Option (Unit × (Bool × (TA2 × TA0)))).bind fun r4 =>
  cond r4.2.1
  ((cat r4.2.2.2.2.1 [(5, 0, (r4.2.2.2.1.length : Int), 0, [], ())]).bind fun v5 =>
  some ((), 63, ((), ((), r4.2.2.1.2.2)), r4.2.2.2.1, v5, ()))
  (some ((), v1.1, ((), ((), r4.2.2.1.2.2)), r4.2.2.2.1, r4.2.2.2.2.1, ())) : Option (Unit × (Int × (TA2 × TA0)))).bind fun r6 =>
  ((marked_reader__attrs (r6.2.2.2.1, (r6.2.2.2.2.1, r6.2.2.1.2.2))).bind fun v7 => some v7.2.1).bind fun v8 =>
  (cat r6.2.2.2.1 [(IntKind.i64.wrap r6.2.1, 0, v8, ())]).bind fun v9 =>
  some (v1.2.1, (), ((), ((), r6.2.2.1.2.2)), v9, r6.2.2.2.2.1, ())

noncomputable def marked_reader__togglex_l1 (a1 : Str) (p1 : (Unit × (Int × (TA2 × TA0)))) : Option ((Unit × (Int × (TA2 × TA0))) ⊕ (TA15 ⊕ (Unit × (Int × (TA2 × TA0))))) :=
  cond (decide (p1.2.1 < 4))
  ((idx ([([42, 42], [98, 111, 108, 100], ()), ([42], [105, 116, 97, 108, 105, 99], ()), ([126, 126], [115, 116, 114, 105, 107, 101], ()), ([96], [102, 105, 120, 101, 100], ())] : (List TA11)) p1.2.1).bind fun v1 =>
  (sHasPrefix (a1, v1.1, ())).bind fun v2 =>
  cond v2.1
  ((chk (inb p1.2.1 4)).bind fun _ =>
  (chk (inb p1.2.1 4)).bind fun _ =>
  let v3 : List Bool := p1.2.2.1.2.2.1.set p1.2.1.toNat (!(p1.2.2.1.2.2.1.getD p1.2.1.toNat false))
  some (.inr (.inr ((), (v1.1.length : Int), ((), ((), (v3, p1.2.2.1.2.2.2))), p1.2.2.2.1, p1.2.2.2.2.1, ()))))
  (some (.inl ((), IntKind.i64.wrap (p1.2.1 + 1), ((), ((), p1.2.2.1.2.2)), p1.2.2.2.1, p1.2.2.2.2.1, ()))))
  (some (.inr (.inl ((), ((), ((), p1.2.2.1.2.2)), p1.2.2.2.1, p1.2.2.2.2.1, ()))))

noncomputable def marked_reader__togglex (a1 : Str) (o0 : (List Bool)) (o0_1 : Str) (o1 : TA5) (o2 : TA3) : Option (Int × TA15) :=
  (loop (marked_reader__togglex_l1 a1) ((), 0, ((), ((), (o0, (o0_1, ())))), o1, o2, ())).bind fun r4 =>
  (match r4 with
  | .inl z5 => (some (0, (), ((), ((), z5.2.1.2.2)), z5.2.2.1, z5.2.2.2.1, ()))
  | .inr z6 => (some (z6.2.1, (), ((), ((), z6.2.2.1.2.2)), z6.2.2.2.1, z6.2.2.2.2.1, ())))

noncomputable def marked_reader__line_l1 (p1 : TA8) : Option (TA8 ⊕ TA15) :=
  cond (!decide (p1.2.1 = []))
  (cond (decide ((p1.2.1.length : Int) = p1.2.2.1))
  (some (.inl ((), p1.2.2.2.1, (-1), p1.2.2.2.1, ((), ((), (p1.2.2.2.2.1.2.2.1, ([], ())))), p1.2.2.2.2.2.1, p1.2.2.2.2.2.2.1, ())))
  (((idx p1.2.1 0).bind fun v1 =>
  cond (decide ((ofByte v1) = 92))
  (some ((), (decide (1 < (p1.2.1.length : Int))), ((), ((), p1.2.2.2.2.1.2.2)), p1.2.2.2.2.2.1, p1.2.2.2.2.2.2.1, ()))
  (some ((), false, ((), ((), p1.2.2.2.2.1.2.2)), p1.2.2.2.2.2.1, p1.2.2.2.2.2.2.1, ())) : Option (Unit × (Bool × (TA2 × TA0)))).bind fun r2 =>
  cond r2.2.1
  ((cut p1.2.1 1 (p1.2.1.length : Int)).bind fun v3 =>
  (marked_reader__characterx v3 r2.2.2.1.2.2.1 r2.2.2.1.2.2.2.1 r2.2.2.2.1 r2.2.2.2.2.1).bind fun v4 =>
  (cut v3 v4.1 (v3.length : Int)).bind fun v5 =>
  some (.inl ((), v5, p1.2.2.1, p1.2.2.2.1, ((), ((), v4.2.2.1.2.2)), v4.2.2.2.1, v4.2.2.2.2.1, ())))
  ((marked_reader__togglex p1.2.1 r2.2.2.1.2.2.1 r2.2.2.1.2.2.2.1 r2.2.2.2.1 r2.2.2.2.2.1).bind fun v6 =>
  cond (decide (0 < v6.1))
  ((cut p1.2.1 v6.1 (p1.2.1.length : Int)).bind fun v7 =>
  some (.inl ((), v7, p1.2.2.1, p1.2.2.2.1, ((), ((), v6.2.2.1.2.2)), v6.2.2.2.1, v6.2.2.2.2.1, ())))
  ((((idx p1.2.1 0).bind fun v8 =>
  cond (decide ((ofByte v8) = 91))
  (some ((), (decide (v6.2.2.1.2.2.2.1 = [])), ((), ((), v6.2.2.1.2.2)), v6.2.2.2.1, v6.2.2.2.2.1, ()))
  (some ((), false, ((), ((), v6.2.2.1.2.2)), v6.2.2.2.1, v6.2.2.2.2.1, ())) : Option (Unit × (Bool × (TA2 × TA0)))).bind fun r9 =>
  cond r9.2.1
  ((cut p1.2.1 1 (p1.2.1.length : Int)).bind fun v10 =>
  (marked_target v10).bind fun v11 =>
  cond v11.2.2.2.1
  ((cut p1.2.1 (IntKind.i64.wrap (1 + v11.2.2.1)) (p1.2.1.length : Int)).bind fun v12 =>
  let v13 : Int := IntKind.i64.wrap ((IntKind.i64.wrap ((p1.2.1.length : Int) - 1)) - v11.2.1)
  (cut p1.2.1 1 (p1.2.1.length : Int)).bind fun v14 =>
  some (.inr ((), v14, v13, v12, ((), ((), (r9.2.2.1.2.2.1, (v11.1, ())))), r9.2.2.2.1, r9.2.2.2.2.1, ())))
  (some (.inl ((), p1.2.1, p1.2.2.1, p1.2.2.2.1, ((), ((), r9.2.2.1.2.2)), r9.2.2.2.1, r9.2.2.2.2.1, ()))))
  (some (.inl ((), p1.2.1, p1.2.2.1, p1.2.2.2.1, ((), ((), r9.2.2.1.2.2)), r9.2.2.2.1, r9.2.2.2.2.1, ()))) : Option (TA8 ⊕ TA8)).bind fun r15 =>
  (match r15 with
  | .inl z16 => ((marked_reader__characterx z16.2.1 z16.2.2.2.2.1.2.2.1 z16.2.2.2.2.1.2.2.2.1 z16.2.2.2.2.2.1 z16.2.2.2.2.2.2.1).bind fun v17 =>
  (cut z16.2.1 v17.1 (z16.2.1.length : Int)).bind fun v18 =>
  some (.inl ((), v18, z16.2.2.1, z16.2.2.2.1, ((), ((), v17.2.2.1.2.2)), v17.2.2.2.1, v17.2.2.2.2.1, ())))
  | .inr z19 => (some (.inl ((), z19.2.1, z19.2.2.1, z19.2.2.2.1, ((), ((), z19.2.2.2.2.1.2.2)), z19.2.2.2.2.2.1, z19.2.2.2.2.2.2.1, ()))))))))
  (some (.inr ((), ((), ((), p1.2.2.2.2.1.2.2)), p1.2.2.2.2.2.1, p1.2.2.2.2.2.2.1, ())))

noncomputable def marked_reader__line (a1 : Str) (o0 : (List Bool)) (o0_1 : Str) : Option TA15 :=
  (loop marked_reader__line_l1 ((), a1, (-1), [], ((), ((), ((List.replicate 4 false), ([], ())))), [], [], ())).bind fun r20 =>
  some ((), ((), ((), r20.2.1.2.2)), r20.2.2.1, r20.2.2.2.1, ())

noncomputable def marked_reader__linex_l1 (p1 : TA8) : Option (TA8 ⊕ TA15) :=
  cond (!decide (p1.2.1 = []))
  (cond (decide ((p1.2.1.length : Int) = p1.2.2.1))
  (some (.inl ((), p1.2.2.2.1, (-1), p1.2.2.2.1, ((), ((), (p1.2.2.2.2.1.2.2.1, ([], ())))), p1.2.2.2.2.2.1, p1.2.2.2.2.2.2.1, ())))
  (((idx p1.2.1 0).bind fun v1 =>
  cond (decide ((ofByte v1) = 92))
  (some ((), (decide (1 < (p1.2.1.length : Int))), ((), ((), p1.2.2.2.2.1.2.2)), p1.2.2.2.2.2.1, p1.2.2.2.2.2.2.1, ()))
  (some ((), false, ((), ((), p1.2.2.2.2.1.2.2)), p1.2.2.2.2.2.1, p1.2.2.2.2.2.2.1, ())) : Option (Unit × (Bool × (TA2 × TA0)))).bind fun r2 =>
  cond r2.2.1
  ((cut p1.2.1 1 (p1.2.1.length : Int)).bind fun v3 =>
  (marked_reader__characterx v3 r2.2.2.1.2.2.1 r2.2.2.1.2.2.2.1 r2.2.2.2.1 r2.2.2.2.2.1).bind fun v4 =>
  (cut v3 v4.1 (v3.length : Int)).bind fun v5 =>
  some (.inl ((), v5, p1.2.2.1, p1.2.2.2.1, ((), ((), v4.2.2.1.2.2)), v4.2.2.2.1, v4.2.2.2.2.1, ())))
  ((marked_reader__togglex p1.2.1 r2.2.2.1.2.2.1 r2.2.2.1.2.2.2.1 r2.2.2.2.1 r2.2.2.2.2.1).bind fun v6 =>
  cond (decide (0 < v6.1))
  ((cut p1.2.1 v6.1 (p1.2.1.length : Int)).bind fun v7 =>
  some (.inl ((), v7, p1.2.2.1, p1.2.2.2.1, ((), ((), v6.2.2.1.2.2)), v6.2.2.2.1, v6.2.2.2.2.1, ())))
  ((((idx p1.2.1 0).bind fun v8 =>
  cond (decide ((ofByte v8) = 91))
  (some ((), (decide (v6.2.2.1.2.2.2.1 = [])), ((), ((), v6.2.2.1.2.2)), v6.2.2.2.1, v6.2.2.2.2.1, ()))
  (some ((), false, ((), ((), v6.2.2.1.2.2)), v6.2.2.2.1, v6.2.2.2.2.1, ())) : Option (Unit × (Bool × (TA2 × TA0)))).bind fun r9 =>
  cond r9.2.1
  ((cut p1.2.1 1 (p1.2.1.length : Int)).bind fun v10 =>
  (marked_target v10).bind fun v11 =>
  cond v11.2.2.2.1
  ((cut p1.2.1 (IntKind.i64.wrap (1 + v11.2.2.1)) (p1.2.1.length : Int)).bind fun v12 =>
  let v13 : Int := IntKind.i64.wrap ((IntKind.i64.wrap ((p1.2.1.length : Int) - 1)) - v11.2.1)
  (cut p1.2.1 1 (p1.2.1.length : Int)).bind fun v14 =>
  some (.inr ((), v14, v13, v12, ((), ((), (r9.2.2.1.2.2.1, (v11.1, ())))), r9.2.2.2.1, r9.2.2.2.2.1, ())))
  (some (.inl ((), p1.2.1, p1.2.2.1, p1.2.2.2.1, ((), ((), r9.2.2.1.2.2)), r9.2.2.2.1, r9.2.2.2.2.1, ()))))
  (some (.inl ((), p1.2.1, p1.2.2.1, p1.2.2.2.1, ((), ((), r9.2.2.1.2.2)), r9.2.2.2.1, r9.2.2.2.2.1, ()))) : Option (TA8 ⊕ TA8)).bind fun r15 =>
  (match r15 with
  | .inl z16 => ((marked_reader__characterx z16.2.1 z16.2.2.2.2.1.2.2.1 z16.2.2.2.2.1.2.2.2.1 z16.2.2.2.2.2.1 z16.2.2.2.2.2.2.1).bind fun v17 =>
  (cut z16.2.1 v17.1 (z16.2.1.length : Int)).bind fun v18 =>
  some (.inl ((), v18, z16.2.2.1, z16.2.2.2.1, ((), ((), v17.2.2.1.2.2)), v17.2.2.2.1, v17.2.2.2.2.1, ())))
  | .inr z19 => (some (.inl ((), z19.2.1, z19.2.2.1, z19.2.2.2.1, ((), ((), z19.2.2.2.2.1.2.2)), z19.2.2.2.2.2.1, z19.2.2.2.2.2.2.1, ()))))))))
  (some (.inr ((), ((), ((), p1.2.2.2.2.1.2.2)), p1.2.2.2.2.2.1, p1.2.2.2.2.2.2.1, ())))

noncomputable def marked_reader__linex (a1 : Str) (o0 : (List Bool)) (o0_1 : Str) (o1 : TA5) (o2 : TA3) : Option TA15 :=
  (loop marked_reader__linex_l1 ((), a1, (-1), [], ((), ((), ((List.replicate 4 false), ([], ())))), o1, o2, ())).bind fun r20 =>
  some ((), ((), ((), r20.2.1.2.2)), r20.2.2.1, r20.2.2.2.1, ())

noncomputable def marked_Import_l1 (v1 : (Unit × TA12)) (p1 : (Unit × (Unit × (Int × (TA2 × TA12))))) : Option ((Unit × (Unit × (Int × (TA2 × TA12)))) ⊕ (Unit × (Unit × (TA2 × TA12)))) :=
  cond (decide (p1.2.2.1 < (IntKind.i64.wrap ((v1.2.1.length : Int) - 1))))
  ((chk (inb p1.2.2.1 p1.2.2.2.2.1.length)).bind fun _ =>
  (sTrimSuffix ((p1.2.2.2.2.1.getD p1.2.2.1.toNat []), [13], ())).bind fun v2 =>
  (chk (inb p1.2.2.1 p1.2.2.2.2.1.length)).bind fun _ =>
  let v3 : List Str := p1.2.2.2.2.1.set p1.2.2.1.toNat v2.1
  some (.inl ((), (), IntKind.i64.wrap (p1.2.2.1 + 1), ((), ((), p1.2.2.2.1.2.2)), v3, ())))
  (some (.inr ((), (), ((), ((), p1.2.2.2.1.2.2)), p1.2.2.2.2.1, ())))

noncomputable def marked_Import_l2 (r8 : (Unit × (Unit × (TA2 × TA12)))) (p2 : (Unit × (Unit × (Int × (TA2 × ((List Str) × TA0)))))) : Option ((Unit × (Unit × (Int × (TA2 × ((List Str) × TA0))))) ⊕ TA15) :=
  cond (decide (p2.2.2.1 < (r8.2.2.2.1.length : Int)))
  ((chk (inb p2.2.2.1 p2.2.2.2.2.1.length)).bind fun _ =>
  (marked_marks (p2.2.2.2.2.1.getD p2.2.2.1.toNat [])).bind fun v9 =>
  (marked_reader__linex v9.1 p2.2.2.2.1.2.2.1 p2.2.2.2.1.2.2.2.1 p2.2.2.2.2.2.1 p2.2.2.2.2.2.2.1).bind fun v10 =>
  (cat v10.2.2.1 [(10, 0, v9.2.1, ())]).bind fun v11 =>
  some (.inl ((), (), IntKind.i64.wrap (p2.2.2.1 + 1), ((), ((), v10.2.1.2.2)), p2.2.2.2.2.1, v11, v10.2.2.2.1, ())))
  (some (.inr ((), ((), ((), p2.2.2.2.1.2.2)), p2.2.2.2.2.2.1, p2.2.2.2.2.2.2.1, ())))

noncomputable def marked_Import (a0 : Str) : Option (TA5 × (TA3 × (Int × Unit))) :=
  cond (decide (10000000 < (a0.length : Int)))
  (some ([], [], 3, ()))
  ((strings_Split a0 [10]).bind fun v1 =>
  (loop (marked_Import_l1 v1) ((), (), 0, ((), ((), ((List.replicate 4 false), ([], ())))), v1.2.1, ())).bind fun r4 =>
  ((cond (decide (1 < (r4.2.2.2.1.length : Int)))
  ((chk (inb (IntKind.i64.wrap ((r4.2.2.2.1.length : Int) - 1)) r4.2.2.2.1.length)).bind fun _ =>
  let v5 : Str := (r4.2.2.2.1.getD (IntKind.i64.wrap ((r4.2.2.2.1.length : Int) - 1)).toNat [])
  some ((), (), (decide (v5 = [])), ((), ((), r4.2.2.1.2.2)), r4.2.2.2.1, ()))
  (some ((), (), false, ((), ((), r4.2.2.1.2.2)), r4.2.2.2.1, ())) : Option (Unit × (Unit × (Bool × (TA2 × TA12))))).bind fun r6 =>
  cond r6.2.2.1
  ((cut r6.2.2.2.2.1 0 (IntKind.i64.wrap ((r4.2.2.2.1.length : Int) - 1))).bind fun v7 =>
  some ((), (), ((), ((), r6.2.2.2.1.2.2)), v7, ()))
  (some ((), (), ((), ((), r6.2.2.2.1.2.2)), r6.2.2.2.2.1, ())) : Option (Unit × (Unit × (TA2 × TA12)))).bind fun r8 =>
  (loop (marked_Import_l2 r8) ((), (), 0, ((), ((), r8.2.2.1.2.2)), r8.2.2.2.1, [], [], ())).bind fun r12 =>
  some (r12.2.2.1, r12.2.2.2.1, 0, ()))

noncomputable def chanceryref2_SameAttrs_l1 (a0 : (List TA11)) (a1 : (List TA11)) (p1 : (Int × Unit)) : Option ((Int × Unit) ⊕ (Unit ⊕ TA10)) :=
  cond (decide (p1.1 < (a0.length : Int)))
  ((idx a0 p1.1).bind fun v1 =>
  (idx a1 p1.1).bind fun v2 =>
  cond (!Ty.beq (.pair .str (.pair .str .unit)) v1 v2)
  (some (.inr (.inr (false, ()))))
  (some (.inl (IntKind.i64.wrap (p1.1 + 1), ()))))
  (some (.inr (.inl (()))))

noncomputable def chanceryref2_SameAttrs (a0 : (List TA11)) (a1 : (List TA11)) : Option TA10 :=
  cond (!decide ((a0.length : Int) = (a1.length : Int)))
  (some (false, ()))
  ((loop (chanceryref2_SameAttrs_l1 a0 a1) (0, ())).bind fun r3 =>
  (match r3 with
  | .inl _ => (some (true, ()))
  | .inr z5 => (some z5)))

noncomputable def chanceryref2_Split_l1 (a0 : Str) (a1 : Int) (p1 : (Unit × (Int × (Int × TA12)))) : Option ((Unit × (Int × (Int × TA12))) ⊕ (Unit × (Int × TA12))) :=
  cond (decide (p1.2.2.1 < (a0.length : Int)))
  (((idx a0 p1.2.2.1).bind fun v1 =>
  cond (decide ((ofByte v1) = a1))
  ((cut a0 p1.2.1 p1.2.2.1).bind fun v2 =>
  (cat p1.2.2.2.1 [v2]).bind fun v3 =>
  some ((), IntKind.i64.wrap (p1.2.2.1 + 1), v3, ()))
  (some ((), p1.2.1, p1.2.2.2.1, ())) : Option (Unit × (Int × TA12))).bind fun r4 =>
  some (.inl ((), r4.2.1, IntKind.i64.wrap (p1.2.2.1 + 1), r4.2.2.1, ())))
  (some (.inr ((), p1.2.1, p1.2.2.2.1, ())))

noncomputable def chanceryref2_Split (a0 : Str) (a1 : Int) : Option TA12 :=
  (loop (chanceryref2_Split_l1 a0 a1) ((), 0, 0, [], ())).bind fun r5 =>
  (cut a0 r5.2.1 (a0.length : Int)).bind fun v6 =>
  (cat r5.2.2.1 [v6]).bind fun v7 =>
  some (v7, ())

noncomputable def chanceryref2_Marked_1 (a0 : Int) : Option TA10 :=
  some (decide (a0 = 35), ())

noncomputable def chanceryref2_span_Marked_1_l1 (a0 : Str) (p1 : (Unit × (Int × Unit))) : Option ((Unit × (Int × Unit)) ⊕ (Unit ⊕ (Int × Unit))) :=
  cond (decide (p1.2.1 < (a0.length : Int)))
  ((idx a0 p1.2.1).bind fun v1 =>
  (chanceryref2_Marked_1 (ofByte v1)).bind fun v2 =>
  cond (!v2.1)
  (some (.inr (.inr p1.2)))
  (some (.inl ((), IntKind.i64.wrap (p1.2.1 + 1), ()))))
  (some (.inr (.inl (()))))

noncomputable def chanceryref2_span_Marked_1 (a0 : Str) : Option (Int × Unit) :=
  (loop (chanceryref2_span_Marked_1_l1 a0) ((), 0, ())).bind fun r3 =>
  (match r3 with
  | .inl _ => (some ((a0.length : Int), ()))
  | .inr z5 => (some z5))

noncomputable def chanceryref2_Marked_2 (a0 : Int) : Option TA10 :=
  some (decide (a0 = 32), ())

noncomputable def chanceryref2_span_Marked_2_l1 (a0 : Str) (p1 : (Unit × (Int × Unit))) : Option ((Unit × (Int × Unit)) ⊕ (Unit ⊕ (Int × Unit))) :=
  cond (decide (p1.2.1 < (a0.length : Int)))
  ((idx a0 p1.2.1).bind fun v1 =>
  (chanceryref2_Marked_2 (ofByte v1)).bind fun v2 =>
  cond (!v2.1)
  (some (.inr (.inr p1.2)))
  (some (.inl ((), IntKind.i64.wrap (p1.2.1 + 1), ()))))
  (some (.inr (.inl (()))))

noncomputable def chanceryref2_span_Marked_2 (a0 : Str) : Option (Int × Unit) :=
  (loop (chanceryref2_span_Marked_2_l1 a0) ((), 0, ())).bind fun r3 =>
  (match r3 with
  | .inl _ => (some ((a0.length : Int), ()))
  | .inr z5 => (some z5))

noncomputable def chanceryref2_Has (a0 : Str) (a1 : Str) : Option TA10 :=
  cond (decide ((a1.length : Int) ≤ (a0.length : Int)))
  ((cut a0 0 (a1.length : Int)).bind fun v1 =>
  some ((decide (v1 = a1)), ()))
  (some (false, ()))

noncomputable def chanceryref2_Decimal_s (rec : Int → Option (Str × Unit)) (a0 : Int) : Option (Str × Unit) :=
  cond (decide (a0 ≤ (-10)))
  ((quo .i64 a0 10).bind fun v1 =>
  (rec v1).bind fun v2 =>
  (rem a0 10).bind fun v3 =>
  (cat v2.1 (bytesStr [IntKind.u8.wrap (IntKind.i64.wrap (48 - v3))])).bind fun v4 =>
  some (v4, ()))
  (cond (decide (a0 < 0))
  ((cat [45] (bytesStr [IntKind.u8.wrap (IntKind.i64.wrap (48 - a0))])).bind fun v5 =>
  some (v5, ()))
  (cond (decide (10 ≤ a0))
  ((quo .i64 a0 10).bind fun v6 =>
  (rec v6).bind fun v7 =>
  (rem a0 10).bind fun v8 =>
  (cat v7.1 (bytesStr [IntKind.u8.wrap (IntKind.i64.wrap (48 + v8))])).bind fun v9 =>
  some (v9, ()))
  (some (bytesStr [IntKind.u8.wrap (IntKind.i64.wrap (48 + a0))], ()))))

noncomputable def chanceryref2_Decimal_f : Nat → Int → Option (Str × Unit)
  | 0 => fun _ => none
  | n + 1 => chanceryref2_Decimal_s (chanceryref2_Decimal_f n)

noncomputable def chanceryref2_Decimal (a0 : Int) : Option (Str × Unit) := chanceryref2_Decimal_f rounds a0

noncomputable def chanceryref2_Rune_l1 (z9 : (Int × TA13)) (a0 : Str) (p1 : TA13) : Option (TA13 ⊕ ((Int × Unit) ⊕ TA13)) :=
  cond (decide (p1.2.1 < z9.2.1))
  ((idx a0 p1.2.1).bind fun v10 =>
  cond (!decide ((band .u8 (ofByte v10) 192) = 128))
  (some (.inr (.inr (0, 0, ()))))
  ((shc 6).bind fun v11 =>
  (idx a0 p1.2.1).bind fun v12 =>
  let v13 : Int := bor .i64 (shl .i64 p1.1 v11) (IntKind.i64.wrap (band .u8 (ofByte v12) 63))
  some (.inl (v13, IntKind.i64.wrap (p1.2.1 + 1), ()))))
  (some (.inr (.inl (p1.1, ()))))

noncomputable def chanceryref2_Rune (a0 : Str) : Option TA13 :=
  (idx a0 0).bind fun v1 =>
  (cond (decide ((IntKind.i64.wrap (ofByte v1)) < 128))
  (some (.inr (IntKind.i64.wrap (ofByte v1), 1, ())))
  ((cond (decide (194 ≤ (IntKind.i64.wrap (ofByte v1))))
  (let v2 : Bool := (decide ((IntKind.i64.wrap (ofByte v1)) < 224))
  some (v2, ()))
  (some (false, ())) : Option TA10).bind fun r3 =>
  cond r3.1
  (some (.inl (band .i64 (IntKind.i64.wrap (ofByte v1)) 31, 2, 128, ())))
  ((cond (decide (224 ≤ (IntKind.i64.wrap (ofByte v1))))
  (let v4 : Bool := (decide ((IntKind.i64.wrap (ofByte v1)) < 240))
  some (v4, ()))
  (some (false, ())) : Option TA10).bind fun r5 =>
  cond r5.1
  (some (.inl (band .i64 (IntKind.i64.wrap (ofByte v1)) 15, 3, 2048, ())))
  ((cond (decide (240 ≤ (IntKind.i64.wrap (ofByte v1))))
  (let v6 : Bool := (decide ((IntKind.i64.wrap (ofByte v1)) < 245))
  some (v6, ()))
  (some (false, ())) : Option TA10).bind fun r7 =>
  cond r7.1
  (some (.inl (band .i64 (IntKind.i64.wrap (ofByte v1)) 7, 4, 65536, ())))
  (some (.inr (0, 0, ())))))) : Option ((Int × TA13) ⊕ TA13)).bind fun r8 =>
  (match r8 with
  | .inl z9 => (cond (decide ((a0.length : Int) < z9.2.1))
  (some (0, 0, ()))
  ((loop (chanceryref2_Rune_l1 z9 a0) (z9.1, 1, ())).bind fun r14 =>
  (match r14 with
  | .inl z15 => ((cond (decide (z15.1 < z9.2.2.1))
  (some (true, ()))
  (cond (decide (55296 ≤ z15.1))
  (cond (((decide (z15.1 < 57344))))
  (some (true, ()))
  (some ((decide (1114111 < z15.1)), ())))
  (cond (false)
  (some (true, ()))
  (some ((decide (1114111 < z15.1)), ())))) : Option TA10).bind fun r16 =>
  cond r16.1
  (some (0, 0, ()))
  (some (z15.1, z9.2.1, ())))
  | .inr z17 => (some z17))))
  | .inr z18 => (some z18))

noncomputable def chanceryref2_Char (a0 : Int) : Option TA10 :=
  cond (decide (a0 = 9))
  (some (true, ()))
  (cond ((decide (a0 = 10)))
  (some (true, ()))
  (cond (decide (32 ≤ a0))
  (cond (((decide (a0 ≤ 126))))
  (some (true, ()))
  (cond (decide (160 ≤ a0))
  (cond (((decide (a0 < 55296))))
  (some (true, ()))
  (cond (decide (57344 ≤ a0))
  (some (((decide (a0 ≤ 1114111))), ()))
  (some (false, ()))))
  (cond (false)
  (some (true, ()))
  (cond (decide (57344 ≤ a0))
  (some (((decide (a0 ≤ 1114111))), ()))
  (some (false, ()))))))
  (cond (false)
  (some (true, ()))
  (cond (decide (160 ≤ a0))
  (cond (((decide (a0 < 55296))))
  (some (true, ()))
  (cond (decide (57344 ≤ a0))
  (some (((decide (a0 ≤ 1114111))), ()))
  (some (false, ()))))
  (cond (false)
  (some (true, ()))
  (cond (decide (57344 ≤ a0))
  (some (((decide (a0 ≤ 1114111))), ()))
  (some (false, ()))))))))

noncomputable def chanceryref2_tokens_l1 (a0 : Str) (p1 : (Unit × (Int × ((List TA4) × Unit)))) : Option ((Unit × (Int × ((List TA4) × Unit))) ⊕ (Unit × ((List TA4) × Unit))) :=
  cond (decide (p1.2.1 < (a0.length : Int)))
  ((((idx a0 p1.2.1).bind fun v1 =>
  cond (decide ((ofByte v1) = 92))
  (let v2 : Bool := (decide ((IntKind.i64.wrap (p1.2.1 + 1)) < (a0.length : Int)))
  some ((), (), v2, p1.2.2.1, (0, (0, (false, (false, ())))), ()))
  (some ((), (), false, p1.2.2.1, (0, (0, (false, (false, ())))), ())) : Option (Unit × (Unit × (Bool × ((List TA4) × (TA4 × Unit)))))).bind fun r3 =>
  cond r3.2.2.1
  (some ((), IntKind.i64.wrap (p1.2.1 + 1), (), r3.2.2.2.1, (r3.2.2.2.2.1.1, (1, (true, r3.2.2.2.2.1.2.2.2))), ()))
  (some ((), p1.2.1, (), r3.2.2.2.1, r3.2.2.2.2.1, ())) : Option (Unit × (Int × (Unit × ((List TA4) × (TA4 × Unit)))))).bind fun r4 =>
  (cut a0 r4.2.1 (a0.length : Int)).bind fun v5 =>
  (chanceryref2_Rune v5).bind fun v6 =>
  ((cond (decide (v6.2.1 = 0))
  (some ((), (), true, r4.2.2.2.1, r4.2.2.2.2.1, ()))
  ((chanceryref2_Char v6.1).bind fun v7 =>
  some ((), (), (!v7.1), r4.2.2.2.1, r4.2.2.2.2.1, ())) : Option (Unit × (Unit × (Bool × ((List TA4) × (TA4 × Unit)))))).bind fun r8 =>
  cond r8.2.2.1
  (some ((), (), 63, mx v6.2.1 1, r8.2.2.2.1, (r8.2.2.2.2.1.1, (r8.2.2.2.2.1.2.1, (r8.2.2.2.2.1.2.2.1, (true, ())))), ()))
  (some ((), (), v6.1, v6.2.1, r8.2.2.2.1, r8.2.2.2.2.1, ())) : Option (Unit × (Unit × (Int × (Int × ((List TA4) × (TA4 × Unit))))))).bind fun r9 =>
  let v10 : TA4 := (r9.2.2.1, (IntKind.i64.wrap (r9.2.2.2.2.2.1.2.1 + r9.2.2.2.1), r9.2.2.2.2.2.1.2.2))
  (cat r9.2.2.2.2.1 [v10]).bind fun v11 =>
  some (.inl ((), IntKind.i64.wrap (r4.2.1 + r9.2.2.2.1), v11, ())))
  (some (.inr ((), p1.2.2.1, ())))

noncomputable def chanceryref2_tokens (a0 : Str) : Option ((List TA4) × Unit) :=
  (loop (chanceryref2_tokens_l1 a0) ((), 0, [], ())).bind fun r12 =>
  some r12.2

noncomputable def chanceryref2_token__is (a0 : TA4) (a1 : Int) : Option TA10 :=
  cond (!a0.2.2.1)
  (cond ((!a0.2.2.2.1))
  (some ((decide (a0.1 = (IntKind.i64.wrap a1))), ()))
  (some (false, ())))
  (some (false, ()))

noncomputable def chanceryref2_linkAt_l1 (a0 : (List TA4)) (p2 : (Int × Unit)) (p1 : (Str × (Int × Unit))) : Option ((Str × (Int × Unit)) ⊕ (Unit ⊕ (Str × TA13))) :=
  cond (decide (p1.2.1 < (a0.length : Int)))
  ((idx a0 p1.2.1).bind fun v10 =>
  (chanceryref2_token__is v10 41).bind fun v11 =>
  cond v11.1
  ((cond (decide (p1.1 = []))
  (some (true, ()))
  (some ((decide (200 < (p1.1.length : Int))), ())) : Option TA10).bind fun r12 =>
  cond r12.1
  (some (.inr (.inr ([], 0, 0, ()))))
  (some (.inr (.inr (p1.1, p2.1, IntKind.i64.wrap (p1.2.1 + 1), ())))))
  (((idx a0 p1.2.1).bind fun v13 =>
  cond v13.2.2.2.1
  (some (true, ()))
  ((idx a0 p1.2.1).bind fun v14 =>
  cond ((decide (v14.1 < 32)))
  (some (true, ()))
  ((idx a0 p1.2.1).bind fun v15 =>
  cond ((decide (126 < v15.1)))
  (some (true, ()))
  ((idx a0 p1.2.1).bind fun v16 =>
  (chanceryref2_token__is v16 92).bind fun v17 =>
  some (v17.1, ())))) : Option TA10).bind fun r18 =>
  cond r18.1
  (some (.inr (.inr ([], 0, 0, ()))))
  ((idx a0 p1.2.1).bind fun v19 =>
  (cat p1.1 (bytesStr [IntKind.u8.wrap v19.1])).bind fun v20 =>
  some (.inl (v20, IntKind.i64.wrap (p1.2.1 + 1), ())))))
  (some (.inr (.inl (()))))

noncomputable def chanceryref2_linkAt_l2 (a0 : (List TA4)) (p2 : (Int × Unit)) : Option ((Int × Unit) ⊕ (Unit ⊕ (Str × TA13))) :=
  (cond (decide (p2.1 < (a0.length : Int)))
  ((idx a0 p2.1).bind fun v1 =>
  (chanceryref2_token__is v1 91).bind fun v2 =>
  some ((!v2.1), ()))
  (some (false, ())) : Option TA10).bind fun r3 =>
  cond r3.1
  (((idx a0 p2.1).bind fun v4 =>
  (chanceryref2_token__is v4 93).bind fun v5 =>
  cond (!v5.1)
  (some (true, ()))
  (let v6 : Bool := (decide ((IntKind.i64.wrap (p2.1 + 1)) = (a0.length : Int)))
  cond v6
  (some (true, ()))
  ((idx a0 (IntKind.i64.wrap (p2.1 + 1))).bind fun v7 =>
  (chanceryref2_token__is v7 40).bind fun v8 =>
  some ((!v8.1), ()))) : Option TA10).bind fun r9 =>
  cond r9.1
  (some (.inl (IntKind.i64.wrap (p2.1 + 1), ())))
  ((loop (chanceryref2_linkAt_l1 a0 p2) ([], IntKind.i64.wrap (p2.1 + 2), ())).bind fun r21 =>
  (match r21 with
  | .inl _ => (some (.inr (.inr ([], 0, 0, ()))))
  | .inr z23 => (some (.inr (.inr z23))))))
  (some (.inr (.inl (()))))

noncomputable def chanceryref2_linkAt (a0 : (List TA4)) (a1 : Int) : Option (Str × TA13) :=
  (loop (chanceryref2_linkAt_l2 a0) (IntKind.i64.wrap (a1 + 1), ())).bind fun r24 =>
  (match r24 with
  | .inl _ => (some ([], 0, 0, ()))
  | .inr z26 => (some z26))

noncomputable def chanceryref2_MarkedLine_l1 (v31 : (List Str)) (z27 : (Unit × (Unit × (Unit × (Str × (Int × (Int × (Int × (Unit × TA14))))))))) (p1 : (Unit × (Unit × (Unit × (Unit × (Int × TA6)))))) : Option ((Unit × (Unit × (Unit × (Unit × (Int × TA6))))) ⊕ (Unit × (Unit × (Unit × (Unit × TA6))))) :=
  cond (decide (p1.2.2.2.2.1 < 4))
  (((idx v31 p1.2.2.2.2.1).bind fun v32 =>
  ((cond (decide (p1.2.2.2.2.1 = 3))
  (some ((), (), (), (), (!decide (z27.2.2.2.1 = [])), p1.2.2.2.2.2.1, p1.2.2.2.2.2.2.1, p1.2.2.2.2.2.2.2.1, (p1.2.2.2.2.2.2.2.2.1.1, (p1.2.2.2.2.2.2.2.2.1.2.1, ((), ()))), p1.2.2.2.2.2.2.2.2.2.1, ()))
  (some ((), (), (), (), false, p1.2.2.2.2.2.1, p1.2.2.2.2.2.2.1, p1.2.2.2.2.2.2.2.1, (p1.2.2.2.2.2.2.2.2.1.1, (p1.2.2.2.2.2.2.2.2.1.2.1, ((), ()))), p1.2.2.2.2.2.2.2.2.2.1, ())) : Option (Unit × (Unit × (Unit × (Unit × (Bool × TA6)))))).bind fun r33 =>
  cond r33.2.2.2.2.1
  ((cat r33.2.2.2.2.2.2.2.2.2.1 [([108, 105, 110, 107], z27.2.2.2.1, ())]).bind fun v34 =>
  some ((), (), (), (), r33.2.2.2.2.2.1, r33.2.2.2.2.2.2.1, r33.2.2.2.2.2.2.2.1, (r33.2.2.2.2.2.2.2.2.1.1, (r33.2.2.2.2.2.2.2.2.1.2.1, ((), ()))), v34, ()))
  (some ((), (), (), (), r33.2.2.2.2.2.1, r33.2.2.2.2.2.2.1, r33.2.2.2.2.2.2.2.1, (r33.2.2.2.2.2.2.2.2.1.1, (r33.2.2.2.2.2.2.2.2.1.2.1, ((), ()))), r33.2.2.2.2.2.2.2.2.2.1, ())) : Option (Unit × (Unit × (Unit × (Unit × TA6))))).bind fun r35 =>
  (chk (inb p1.2.2.2.2.1 4)).bind fun _ =>
  cond (r35.2.2.2.2.2.2.1.getD p1.2.2.2.2.1.toNat false)
  ((cat r35.2.2.2.2.2.2.2.2.1 [(v32, [111, 110], ())]).bind fun v36 =>
  some ((), (), (), (), r35.2.2.2.2.1, r35.2.2.2.2.2.1, r35.2.2.2.2.2.2.1, (r35.2.2.2.2.2.2.2.1.1, (r35.2.2.2.2.2.2.2.1.2.1, ((), ()))), v36, ()))
  (some ((), (), (), (), r35.2.2.2.2.1, r35.2.2.2.2.2.1, r35.2.2.2.2.2.2.1, (r35.2.2.2.2.2.2.2.1.1, (r35.2.2.2.2.2.2.2.1.2.1, ((), ()))), r35.2.2.2.2.2.2.2.2.1, ())) : Option (Unit × (Unit × (Unit × (Unit × TA6))))).bind fun r37 =>
  some (.inl ((), (), (), (), IntKind.i64.wrap (p1.2.2.2.2.1 + 1), r37.2.2.2.2.1, r37.2.2.2.2.2.1, r37.2.2.2.2.2.2.1, (r37.2.2.2.2.2.2.2.1.1, (r37.2.2.2.2.2.2.2.1.2.1, ((), ()))), r37.2.2.2.2.2.2.2.2.1, ())))
  (some (.inr ((), (), (), (), p1.2.2.2.2.2.1, p1.2.2.2.2.2.2.1, p1.2.2.2.2.2.2.2.1, (p1.2.2.2.2.2.2.2.2.1.1, (p1.2.2.2.2.2.2.2.2.1.2.1, ((), ()))), p1.2.2.2.2.2.2.2.2.2.1, ())))

noncomputable def chanceryref2_MarkedLine_l2 (v1 : ((List TA4) × Unit)) (a1 : Int) (p2 : TA9) : Option (TA9 ⊕ (Unit × (Unit × TA0))) :=
  cond (decide (p2.2.2.2.2.2.2.1 < (v1.1.length : Int)))
  ((cond (decide (p2.2.2.2.2.2.2.1 = p2.2.2.2.2.1))
  (some ((), (), (), [], (-1), p2.2.2.2.2.2.1, IntKind.i64.wrap (p2.2.2.2.2.2.1 - 1), p2.2.2.2.2.2.2.2.1, p2.2.2.2.2.2.2.2.2.1, p2.2.2.2.2.2.2.2.2.2.1, ()))
  ((idx v1.1 p2.2.2.2.2.2.2.1).bind fun v2 =>
  (((chanceryref2_token__is v2 42).bind fun v3 =>
  cond v3.1
  (let v4 : Bool := (decide ((IntKind.i64.wrap (p2.2.2.2.2.2.2.1 + 1)) < (v1.1.length : Int)))
  cond v4
  ((idx v1.1 (IntKind.i64.wrap (p2.2.2.2.2.2.2.1 + 1))).bind fun v5 =>
  (chanceryref2_token__is v5 42).bind fun v6 =>
  some ((), (), (), (), v6.1, p2.2.2.2.2.2.2.2.1, p2.2.2.2.2.2.2.2.2.1, p2.2.2.2.2.2.2.2.2.2.1, v2, ()))
  (some ((), (), (), (), false, p2.2.2.2.2.2.2.2.1, p2.2.2.2.2.2.2.2.2.1, p2.2.2.2.2.2.2.2.2.2.1, v2, ())))
  (some ((), (), (), (), false, p2.2.2.2.2.2.2.2.1, p2.2.2.2.2.2.2.2.2.1, p2.2.2.2.2.2.2.2.2.2.1, v2, ())) : Option (Unit × (Unit × (Unit × (Unit × (Bool × TA14)))))).bind fun r7 =>
  cond r7.2.2.2.2.1
  ((chk (inb 0 4)).bind fun _ =>
  (chk (inb 0 4)).bind fun _ =>
  let v8 : List Bool := r7.2.2.2.2.2.2.2.1.set (0 : Int).toNat (!(r7.2.2.2.2.2.2.2.1.getD (0 : Int).toNat false))
  some (.inr ((), (), (), p2.2.2.2.1, p2.2.2.2.2.1, p2.2.2.2.2.2.1, IntKind.i64.wrap (p2.2.2.2.2.2.2.1 + 1), r7.2.2.2.2.2.1, r7.2.2.2.2.2.2.1, v8, ())))
  (let v9 : TA4 := r7.2.2.2.2.2.2.2.2.1
  (chanceryref2_token__is v9 42).bind fun v10 =>
  cond v10.1
  ((chk (inb 2 4)).bind fun _ =>
  (chk (inb 2 4)).bind fun _ =>
  let v11 : List Bool := r7.2.2.2.2.2.2.2.1.set (2 : Int).toNat (!(r7.2.2.2.2.2.2.2.1.getD (2 : Int).toNat false))
  some (.inr ((), (), (), p2.2.2.2.1, p2.2.2.2.2.1, p2.2.2.2.2.2.1, p2.2.2.2.2.2.2.1, r7.2.2.2.2.2.1, r7.2.2.2.2.2.2.1, v11, ())))
  ((let v12 : TA4 := r7.2.2.2.2.2.2.2.2.1
  (chanceryref2_token__is v12 126).bind fun v13 =>
  cond v13.1
  (let v14 : Bool := (decide ((IntKind.i64.wrap (p2.2.2.2.2.2.2.1 + 1)) < (v1.1.length : Int)))
  cond v14
  ((idx v1.1 (IntKind.i64.wrap (p2.2.2.2.2.2.2.1 + 1))).bind fun v15 =>
  (chanceryref2_token__is v15 126).bind fun v16 =>
  some ((), (), (), (), v16.1, r7.2.2.2.2.2.1, r7.2.2.2.2.2.2.1, r7.2.2.2.2.2.2.2.1, r7.2.2.2.2.2.2.2.2.1, ()))
  (some ((), (), (), (), false, r7.2.2.2.2.2.1, r7.2.2.2.2.2.2.1, r7.2.2.2.2.2.2.2.1, r7.2.2.2.2.2.2.2.2.1, ())))
  (some ((), (), (), (), false, r7.2.2.2.2.2.1, r7.2.2.2.2.2.2.1, r7.2.2.2.2.2.2.2.1, r7.2.2.2.2.2.2.2.2.1, ())) : Option (Unit × (Unit × (Unit × (Unit × (Bool × TA14)))))).bind fun r17 =>
  cond r17.2.2.2.2.1
  ((chk (inb 3 4)).bind fun _ =>
  (chk (inb 3 4)).bind fun _ =>
  let v18 : List Bool := r17.2.2.2.2.2.2.2.1.set (3 : Int).toNat (!(r17.2.2.2.2.2.2.2.1.getD (3 : Int).toNat false))
  some (.inr ((), (), (), p2.2.2.2.1, p2.2.2.2.2.1, p2.2.2.2.2.2.1, IntKind.i64.wrap (p2.2.2.2.2.2.2.1 + 1), r17.2.2.2.2.2.1, r17.2.2.2.2.2.2.1, v18, ())))
  (let v19 : TA4 := r17.2.2.2.2.2.2.2.2.1
  (chanceryref2_token__is v19 96).bind fun v20 =>
  cond v20.1
  ((chk (inb 1 4)).bind fun _ =>
  (chk (inb 1 4)).bind fun _ =>
  let v21 : List Bool := r17.2.2.2.2.2.2.2.1.set (1 : Int).toNat (!(r17.2.2.2.2.2.2.2.1.getD (1 : Int).toNat false))
  some (.inr ((), (), (), p2.2.2.2.1, p2.2.2.2.2.1, p2.2.2.2.2.2.1, p2.2.2.2.2.2.2.1, r17.2.2.2.2.2.1, r17.2.2.2.2.2.2.1, v21, ())))
  ((let v22 : TA4 := r17.2.2.2.2.2.2.2.2.1
  (chanceryref2_token__is v22 91).bind fun v23 =>
  cond v23.1
  (some ((), (), (), (), (decide (p2.2.2.2.1 = [])), r17.2.2.2.2.2.1, r17.2.2.2.2.2.2.1, r17.2.2.2.2.2.2.2.1, r17.2.2.2.2.2.2.2.2.1, ()))
  (some ((), (), (), (), false, r17.2.2.2.2.2.1, r17.2.2.2.2.2.2.1, r17.2.2.2.2.2.2.2.1, r17.2.2.2.2.2.2.2.2.1, ())) : Option (Unit × (Unit × (Unit × (Unit × (Bool × TA14)))))).bind fun r24 =>
  cond r24.2.2.2.2.1
  ((chanceryref2_linkAt v1.1 p2.2.2.2.2.2.2.1).bind fun v25 =>
  cond (!decide (v25.1 = []))
  (some (.inr ((), (), (), v25.1, v25.2.1, v25.2.2.1, p2.2.2.2.2.2.2.1, r24.2.2.2.2.2.1, r24.2.2.2.2.2.2.1, r24.2.2.2.2.2.2.2.1, ())))
  (some (.inl ((), (), (), p2.2.2.2.1, p2.2.2.2.2.1, p2.2.2.2.2.2.1, p2.2.2.2.2.2.2.1, (), r24.2.2.2.2.2.1, r24.2.2.2.2.2.2.1, r24.2.2.2.2.2.2.2.1, r24.2.2.2.2.2.2.2.2.1, ()))))
  (some (.inl ((), (), (), p2.2.2.2.1, p2.2.2.2.2.1, p2.2.2.2.2.2.1, p2.2.2.2.2.2.2.1, (), r24.2.2.2.2.2.1, r24.2.2.2.2.2.2.1, r24.2.2.2.2.2.2.2.1, r24.2.2.2.2.2.2.2.2.1, ()))))))) : Option ((Unit × (Unit × (Unit × (Str × (Int × (Int × (Int × (Unit × TA14)))))))) ⊕ TA9)).bind fun r26 =>
  (match r26 with
  | .inl z27 => ((cond z27.2.2.2.2.2.2.2.2.2.2.2.1.2.2.2.1
  (let v28 : (Int × (Int × (Int × (Int × (Str × Unit))))) := (5, 0, IntKind.i64.wrap (a1 + (z27.2.2.2.2.2.2.2.2.1.length : Int)), 0, [], ())
  (cat z27.2.2.2.2.2.2.2.2.2.1 [v28]).bind fun v29 =>
  some ((), (), (), (), z27.2.2.2.2.2.2.2.2.1, v29, z27.2.2.2.2.2.2.2.2.2.2.1, z27.2.2.2.2.2.2.2.2.2.2.2.1, ()))
  (some ((), (), (), (), z27.2.2.2.2.2.2.2.2.1, z27.2.2.2.2.2.2.2.2.2.1, z27.2.2.2.2.2.2.2.2.2.2.1, z27.2.2.2.2.2.2.2.2.2.2.2.1, ())) : Option (Unit × (Unit × (Unit × (Unit × TA14))))).bind fun r30 =>
  let v31 : (List Str) := [[98, 111, 108, 100], [102, 105, 120, 101, 100], [105, 116, 97, 108, 105, 99], [115, 116, 114, 105, 107, 101]]
  (loop (chanceryref2_MarkedLine_l1 v31 z27) ((), (), (), (), 0, r30.2.2.2.2.1, r30.2.2.2.2.2.1, r30.2.2.2.2.2.2.1, (r30.2.2.2.2.2.2.2.1.1, (0, ((), ()))), [], ())).bind fun r38 =>
  let v39 : (Int × (Int × TA1)) := (r38.2.2.2.2.2.2.2.1.1, (r38.2.2.2.2.2.2.2.1.2.1, r38.2.2.2.2.2.2.2.2))
  (cat r38.2.2.2.2.1 [v39]).bind fun v40 =>
  some ((), (), (), z27.2.2.2.1, z27.2.2.2.2.1, z27.2.2.2.2.2.1, z27.2.2.2.2.2.2.1, v40, r38.2.2.2.2.2.1, r38.2.2.2.2.2.2.1, ()))
  | .inr z41 => (some ((), (), (), z41.2.2.2.1, z41.2.2.2.2.1, z41.2.2.2.2.2.1, z41.2.2.2.2.2.2.1, z41.2.2.2.2.2.2.2.1, z41.2.2.2.2.2.2.2.2.1, z41.2.2.2.2.2.2.2.2.2.1, ())))) : Option TA9).bind fun r42 =>
  some (.inl ((), (), (), r42.2.2.2.1, r42.2.2.2.2.1, r42.2.2.2.2.2.1, IntKind.i64.wrap (r42.2.2.2.2.2.2.1 + 1), r42.2.2.2.2.2.2.2.1, r42.2.2.2.2.2.2.2.2.1, r42.2.2.2.2.2.2.2.2.2.1, ())))
  (some (.inr ((), (), p2.2.2.2.2.2.2.2.1, p2.2.2.2.2.2.2.2.2.1, ())))

noncomputable def chanceryref2_MarkedLine (a0 : Str) (a1 : Int) : Option TA0 :=
  (chanceryref2_tokens a0).bind fun v1 =>
  (loop (chanceryref2_MarkedLine_l2 v1 a1) ((), (), (), [], (-1), 0, 0, [], [], (List.replicate 4 false), ())).bind fun r43 =>
  some r43.2.2

noncomputable def chanceryref2_Marked_l1 (v1 : TA12) (p1 : (Unit × (Unit × (Int × TA0)))) : Option ((Unit × (Unit × (Int × TA0))) ⊕ (Unit × (Unit × TA0))) :=
  cond (decide (p1.2.2.1 < (v1.1.length : Int)))
  ((idx v1.1 p1.2.2.1).bind fun v2 =>
  (cond (decide (p1.2.2.1 = (IntKind.i64.wrap ((v1.1.length : Int) - 1))))
  ((cond (decide (v2 = []))
  (some ((), (), (decide (0 < p1.2.2.1)), p1.2.2.2.1, p1.2.2.2.2.1, ()))
  (some ((), (), false, p1.2.2.2.1, p1.2.2.2.2.1, ())) : Option (Unit × (Unit × (Bool × TA0)))).bind fun r3 =>
  cond r3.2.2.1
  (some (.inr ((), (), r3.2.2.2.1, r3.2.2.2.2.1, ())))
  (some (.inl ((), (), v2, r3.2.2.2.1, r3.2.2.2.2.1, ()))))
  ((cond (!decide (v2 = []))
  ((idx v2 (IntKind.i64.wrap ((v2.length : Int) - 1))).bind fun v4 =>
  some ((), (), (decide ((ofByte v4) = 13)), p1.2.2.2.1, p1.2.2.2.2.1, ()))
  (some ((), (), false, p1.2.2.2.1, p1.2.2.2.2.1, ())) : Option (Unit × (Unit × (Bool × TA0)))).bind fun r5 =>
  cond r5.2.2.1
  ((cut v2 0 (IntKind.i64.wrap ((v2.length : Int) - 1))).bind fun v6 =>
  some (.inl ((), (), v6, r5.2.2.2.1, r5.2.2.2.2.1, ())))
  (some (.inl ((), (), v2, r5.2.2.2.1, r5.2.2.2.2.1, ())))) : Option ((Unit × (Unit × (Str × TA0))) ⊕ (Unit × (Unit × TA0)))).bind fun r7 =>
  (match r7 with
  | .inl z8 => ((chanceryref2_span_Marked_1 z8.2.2.1).bind fun v9 =>
  (chanceryref2_span_Marked_2 z8.2.2.1).bind fun v10 =>
  (cut z8.2.2.1 v10.1 (z8.2.2.1.length : Int)).bind fun v11 =>
  ((cond (decide (1 ≤ v9.1))
  (cond ((decide (v9.1 ≤ 6)))
  ((cut z8.2.2.1 v9.1 (z8.2.2.1.length : Int)).bind fun v12 =>
  (chanceryref2_Has v12 [32]).bind fun v13 =>
  some ((), (), (), v13.1, z8.2.2.2.1, z8.2.2.2.2.1, ()))
  (some ((), (), (), false, z8.2.2.2.1, z8.2.2.2.2.1, ())))
  (some ((), (), (), false, z8.2.2.2.1, z8.2.2.2.2.1, ())) : Option (Unit × (Unit × (Unit × (Bool × TA0))))).bind fun r14 =>
  cond r14.2.2.2.1
  ((chanceryref2_Decimal v9.1).bind fun v15 =>
  (cut z8.2.2.1 (IntKind.i64.wrap (v9.1 + 1)) (z8.2.2.1.length : Int)).bind fun v16 =>
  some ((), (), v16, (), r14.2.2.2.2.1, r14.2.2.2.2.2.1, [([104, 101, 97, 100], v15.1, ())], ()))
  (((rem v10.1 2).bind fun v17 =>
  cond (decide (v17 = 0))
  (cond ((decide (v10.1 ≤ 16)))
  ((chanceryref2_Has v11 [45, 32]).bind fun v18 =>
  cond v18.1
  (some ((), (), (), true, r14.2.2.2.2.1, r14.2.2.2.2.2.1, ()))
  ((chanceryref2_Has v11 [49, 46, 32]).bind fun v19 =>
  some ((), (), (), (v19.1), r14.2.2.2.2.1, r14.2.2.2.2.2.1, ())))
  (some ((), (), (), false, r14.2.2.2.2.1, r14.2.2.2.2.2.1, ())))
  (some ((), (), (), false, r14.2.2.2.2.1, r14.2.2.2.2.2.1, ())) : Option (Unit × (Unit × (Unit × (Bool × TA0))))).bind fun r20 =>
  cond r20.2.2.2.1
  ((cond (decide (0 < v10.1))
  ((quo .i64 v10.1 2).bind fun v21 =>
  (chanceryref2_Decimal v21).bind fun v22 =>
  (cat [] [([108, 101, 118, 101, 108], v22.1, ())]).bind fun v23 =>
  some ((), (), (), r20.2.2.2.2.1, r20.2.2.2.2.2.1, v23, ()))
  (some ((), (), (), r20.2.2.2.2.1, r20.2.2.2.2.2.1, [], ())) : Option (Unit × (Unit × (Unit × (TA5 × (TA3 × TA1)))))).bind fun r24 =>
  (idx v11 0).bind fun v25 =>
  cond (decide ((ofByte v25) = 45))
  ((cat r24.2.2.2.2.2.1 [([108, 105, 115, 116], [98, 117, 108, 108, 101, 116], ())]).bind fun v26 =>
  (cut v11 2 (v11.length : Int)).bind fun v27 =>
  some ((), (), v27, (), r24.2.2.2.1, r24.2.2.2.2.1, v26, ()))
  ((cat r24.2.2.2.2.2.1 [([108, 105, 115, 116], [110, 117, 109, 98, 101, 114], ())]).bind fun v28 =>
  (cut v11 3 (v11.length : Int)).bind fun v29 =>
  some ((), (), v29, (), r24.2.2.2.1, r24.2.2.2.2.1, v28, ())))
  (some ((), (), z8.2.2.1, (), r20.2.2.2.2.1, r20.2.2.2.2.2.1, [], ()))) : Option (Unit × (Unit × (Str × (Unit × (TA5 × (TA3 × TA1))))))).bind fun r30 =>
  (chanceryref2_MarkedLine r30.2.2.1 (r30.2.2.2.2.1.length : Int)).bind fun v31 =>
  (cat r30.2.2.2.2.1 v31.1).bind fun v32 =>
  (cat v32 [(10, 0, r30.2.2.2.2.2.2.1, ())]).bind fun v33 =>
  (cat r30.2.2.2.2.2.1 v31.2.1).bind fun v34 =>
  some (.inl ((), (), IntKind.i64.wrap (p1.2.2.1 + 1), v33, v34, ())))
  | .inr z35 => (some (.inr ((), (), z35.2.2.1, z35.2.2.2.1, ())))))
  (some (.inr ((), (), p1.2.2.2.1, p1.2.2.2.2.1, ())))

noncomputable def chanceryref2_Marked (a0 : Str) : Option TA0 :=
  (chanceryref2_Split a0 10).bind fun v1 =>
  (loop (chanceryref2_Marked_l1 v1) ((), (), 0, [], [], ())).bind fun r36 =>
  some r36.2.2

noncomputable def chanceryref2_SameFlow_l1 (a0 : TA5) (a1 : TA5) (p1 : (Int × Unit)) : Option ((Int × Unit) ⊕ (Unit ⊕ TA10)) :=
  cond (decide (p1.1 < (a0.length : Int)))
  (((idx a0 p1.1).bind fun v1 =>
  (idx a1 p1.1).bind fun v2 =>
  cond (!decide (v1.1 = v2.1))
  (some (true, ()))
  ((idx a0 p1.1).bind fun v3 =>
  (idx a1 p1.1).bind fun v4 =>
  cond ((!decide (v3.2.1 = v4.2.1)))
  (some (true, ()))
  ((idx a0 p1.1).bind fun v5 =>
  (idx a1 p1.1).bind fun v6 =>
  (chanceryref2_SameAttrs v5.2.2.1 v6.2.2.1).bind fun v7 =>
  some ((!v7.1), ()))) : Option TA10).bind fun r8 =>
  cond r8.1
  (some (.inr (.inr (false, ()))))
  (some (.inl (IntKind.i64.wrap (p1.1 + 1), ()))))
  (some (.inr (.inl (()))))

noncomputable def chanceryref2_SameFlow (a0 : TA5) (a1 : TA5) : Option TA10 :=
  cond (!decide ((a0.length : Int) = (a1.length : Int)))
  (some (false, ()))
  ((loop (chanceryref2_SameFlow_l1 a0 a1) (0, ())).bind fun r9 =>
  (match r9 with
  | .inl _ => (some (true, ()))
  | .inr z11 => (some z11)))

noncomputable def api_Loss__l1 (a0 : TA3) (a1 : TA3) (p1 : (Int × Unit)) : Option ((Int × Unit) ⊕ (Unit ⊕ TA10)) :=
  cond (decide (p1.1 < (a0.length : Int)))
  ((idx a0 p1.1).bind fun v1 =>
  (idx a1 p1.1).bind fun v2 =>
  cond (!Ty.beq (.pair (.int .i64) (.pair (.int .i64) (.pair (.int .i64) (.pair (.int .i64) (.pair .str .unit))))) v1 v2)
  (some (.inr (.inr (false, ()))))
  (some (.inl (IntKind.i64.wrap (p1.1 + 1), ()))))
  (some (.inr (.inl (()))))

noncomputable def api_Loss_ (a0 : TA3) (a1 : TA3) : Option TA10 :=
  cond (!decide ((a0.length : Int) = (a1.length : Int)))
  (some (false, ()))
  ((loop (api_Loss__l1 a0 a1) (0, ())).bind fun r3 =>
  (match r3 with
  | .inl _ => (some (true, ()))
  | .inr z5 => (some z5)))

noncomputable def chancerylaw2_MarkedImportMatches (a0 : Str) : Option TA10 :=
  (marked_Import [45, 32, 42, 97, 42]).bind fun v1 =>
  (cond (!decide (v1.2.2.1 = 0))
  (some (true, ()))
  (cond ((!decide ((v1.1.length : Int) = 2)))
  (some (true, ()))
  ((idx v1.1 0).bind fun v2 =>
  (chanceryref2_SameAttrs v2.2.2.1 [([105, 116, 97, 108, 105, 99], [111, 110], ())]).bind fun v3 =>
  some ((!v3.1), ()))) : Option TA10).bind fun r4 =>
  cond r4.1
  (some (false, ()))
  ((cut a0 0 (mn (a0.length : Int) 400)).bind fun v5 =>
  (marked_Import v5).bind fun v6 =>
  (chanceryref2_Marked v5).bind fun v7 =>
  cond (decide (v6.2.2.1 = 0))
  ((chanceryref2_SameFlow v6.1 v7.1).bind fun v8 =>
  cond (v8.1)
  ((api_Loss_ v6.2.1 v7.2.1).bind fun v9 =>
  some (v9.1, ()))
  (some (false, ())))
  (some (false, ())))

end Go.Proofs.YtkjkjebmkmkgfaaDoor
