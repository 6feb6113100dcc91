/- Plain functions that the program's functions come to. Printed by a program (fegen.py). -/
import Derived.Test.YthkpkdaeblgbdaaDoorFeLib
import Derived.Test.YthkpkdaeblgbdaaDoorFeLaw
import Derived.Test.YthkpkdaeblgbdaaDoorRunL
namespace Go.Proofs.YthkpkdaeblgbdaaDoor
open Go Go.Fe

abbrev TA0 : Type := ((List Bool) × ((List Bool) × Unit))
abbrev TA1 : Type := (Int × (Bool × (Bool × Unit)))
abbrev TA2 : Type := (Unit × (Unit × (Bool × TA0)))
abbrev TA3 : Type := (Unit × ((List Bool) × Unit))

noncomputable def value_Lower_l1 (a0 : Str) (p1 : (Unit × (Unit × (Int × ((List Int) × Unit))))) : Option ((Unit × (Unit × (Int × ((List Int) × Unit)))) ⊕ (Unit × ((List Int) × Unit))) :=
  cond (decide (p1.2.2.1 < ((strBytes a0).length : Int)))
  (((chk (inb p1.2.2.1 p1.2.2.2.1.length)).bind fun _ =>
  (cond (decide ((65 : Int) ≤ (p1.2.2.2.1.getD p1.2.2.1.toNat 0)))
  (let v1 : Bool := (decide ((p1.2.2.2.1.getD p1.2.2.1.toNat 0) ≤ 90))
  some ((), (), v1, p1.2.2.2.1, ()))
  (some ((), (), false, p1.2.2.2.1, ())) : Option (Unit × (Unit × (Bool × ((List Int) × Unit))))).bind fun r2 =>
  cond r2.2.2.1
  ((chk (inb p1.2.2.1 r2.2.2.2.1.length)).bind fun _ =>
  (chk (inb p1.2.2.1 r2.2.2.2.1.length)).bind fun _ =>
  let v3 : List Int := r2.2.2.2.1.set p1.2.2.1.toNat (IntKind.u8.wrap ((r2.2.2.2.1.getD p1.2.2.1.toNat 0) + 32))
  some ((), (), v3, ()))
  (some ((), (), r2.2.2.2.1, ())) : Option (Unit × (Unit × ((List Int) × Unit)))).bind fun r4 =>
  some (.inl ((), (), IntKind.i64.wrap (p1.2.2.1 + 1), r4.2.2.1, ())))
  (some (.inr ((), p1.2.2.2.1, ())))

noncomputable def value_Lower (a0 : Str) : Option (Str × Unit) :=
  (chk (decide (a0.length ≤ lim))).bind fun _ =>
  (loop (value_Lower_l1 a0) ((), (), 0, strBytes a0, ())).bind fun r5 =>
  some (bytesStr r5.2.1, ())

noncomputable def ftext_pieces_l1 (p1 : (Unit × (Str × ((List TA1) × Unit)))) : Option ((Unit × (Str × ((List TA1) × Unit))) ⊕ (Unit × ((List TA1) × Unit))) :=
  cond (!decide (p1.2.1 = []))
  ((sRune (p1.2.1, ())).bind fun v2 =>
  ((cond (decide (v2.1 = 65533))
  (some ((), (decide (v2.2.1 = 1)), p1.2.2.1, ()))
  (some ((), false, p1.2.2.1, ())) : Option (Unit × (Bool × ((List TA1) × Unit)))).bind fun r3 =>
  cond r3.2.1
  ((idx p1.2.1 0).bind fun v4 =>
  some ((), IntKind.i32.wrap (0 - (IntKind.i32.wrap (ofByte v4))), r3.2.2.1, ()))
  (some ((), v2.1, r3.2.2.1, ())) : Option (Unit × (Int × ((List TA1) × Unit)))).bind fun r5 =>
  (cut p1.2.1 v2.2.1 (p1.2.1.length : Int)).bind fun v6 =>
  ((cond (decide (r5.2.1 = 126))
  (cond ((!decide (v6 = [])))
  ((idx v6 0).bind fun v7 =>
  cond (decide ((ofByte v7) = 63))
  (some ((), (), true, r5.2.2.1, (r5.2.1, (decide (r5.2.1 = 63), (decide (r5.2.1 = 42), ()))), ()))
  ((idx v6 0).bind fun v8 =>
  cond ((decide ((ofByte v8) = 42)))
  (some ((), (), true, r5.2.2.1, (r5.2.1, (decide (r5.2.1 = 63), (decide (r5.2.1 = 42), ()))), ()))
  ((idx v6 0).bind fun v9 =>
  let v10 : Bool := ((decide ((ofByte v9) = 126)))
  some ((), (), v10, r5.2.2.1, (r5.2.1, (decide (r5.2.1 = 63), (decide (r5.2.1 = 42), ()))), ()))))
  (some ((), (), false, r5.2.2.1, (r5.2.1, (decide (r5.2.1 = 63), (decide (r5.2.1 = 42), ()))), ())))
  (some ((), (), false, r5.2.2.1, (r5.2.1, (decide (r5.2.1 = 63), (decide (r5.2.1 = 42), ()))), ())) : Option (Unit × (Unit × (Bool × ((List TA1) × (TA1 × Unit)))))).bind fun r11 =>
  cond r11.2.2.1
  ((idx v6 0).bind fun v12 =>
  (cut v6 1 (v6.length : Int)).bind fun v13 =>
  some ((), v13, (), r11.2.2.2.1, (IntKind.i32.wrap (ofByte v12), (false, (false, ()))), ()))
  (some ((), v6, (), r11.2.2.2.1, r11.2.2.2.2.1, ())) : Option (Unit × (Str × (Unit × ((List TA1) × (TA1 × Unit)))))).bind fun r14 =>
  let v15 : TA1 := r14.2.2.2.2.1
  (cat r14.2.2.2.1 [v15]).bind fun v16 =>
  some (.inl ((), r14.2.1, v16, ())))
  (some (.inr ((), p1.2.2.1, ())))

noncomputable def ftext_pieces (a0 : Str) : Option ((List TA1) × Unit) :=
  (value_Lower a0).bind fun v1 =>
  (loop ftext_pieces_l1 ((), v1.1, [], ())).bind fun r17 =>
  some r17.2

noncomputable def ftext_Matches (a0 : Str) (a1 : Str) : Option (Bool × Unit) :=
  (ftext_pieces a0).bind fun v1 =>
  ((sRun value_Lower) (v1.1, a1, true, ())).bind fun v2 =>
  some v2

noncomputable def chanceryref2_Lower_l1 (a0 : Str) (p1 : (Str × (Int × Unit))) : Option ((Str × (Int × Unit)) ⊕ (Str × Unit)) :=
  cond (decide (p1.2.1 < (a0.length : Int)))
  ((idx a0 p1.2.1).bind fun v1 =>
  ((cond (decide (65 ≤ (ofByte v1)))
  (some ((decide ((ofByte v1) ≤ 90)), ()))
  (some (false, ())) : Option (Bool × Unit)).bind fun r2 =>
  cond r2.1
  (some (IntKind.u8.wrap ((ofByte v1) + 32), ()))
  (some (ofByte v1, ())) : Option (Int × Unit)).bind fun r3 =>
  (cat p1.1 (bytesStr [r3.1])).bind fun v4 =>
  some (.inl (v4, IntKind.i64.wrap (p1.2.1 + 1), ())))
  (some (.inr (p1.1, ())))

noncomputable def chanceryref2_Lower (a0 : Str) : Option (Str × Unit) :=
  (loop (chanceryref2_Lower_l1 a0) ([], 0, ())).bind fun r5 =>
  some r5

noncomputable def chanceryref2_Rune_l1 (z9 : (Int × (Int × (Int × Unit)))) (a0 : Str) (p1 : (Int × (Int × Unit))) : Option ((Int × (Int × Unit)) ⊕ ((Int × Unit) ⊕ (Int × (Int × Unit)))) :=
  cond (decide (p1.2.1 < z9.2.1))
  ((idx a0 p1.2.1).bind fun v10 =>
  cond (!decide ((band .u8 (ofByte v10) 192) = 128))
  (some (.inr (.inr (0, 0, ()))))
  ((shc 6).bind fun v11 =>
  (idx a0 p1.2.1).bind fun v12 =>
  let v13 : Int := bor .i64 (shl .i64 p1.1 v11) (IntKind.i64.wrap (band .u8 (ofByte v12) 63))
  some (.inl (v13, IntKind.i64.wrap (p1.2.1 + 1), ()))))
  (some (.inr (.inl (p1.1, ()))))

noncomputable def chanceryref2_Rune (a0 : Str) : Option (Int × (Int × Unit)) :=
  (idx a0 0).bind fun v1 =>
  (cond (decide ((IntKind.i64.wrap (ofByte v1)) < 128))
  (some (.inr (IntKind.i64.wrap (ofByte v1), 1, ())))
  ((cond (decide (194 ≤ (IntKind.i64.wrap (ofByte v1))))
  (let v2 : Bool := (decide ((IntKind.i64.wrap (ofByte v1)) < 224))
  some (v2, ()))
  (some (false, ())) : Option (Bool × Unit)).bind fun r3 =>
  cond r3.1
  (some (.inl (band .i64 (IntKind.i64.wrap (ofByte v1)) 31, 2, 128, ())))
  ((cond (decide (224 ≤ (IntKind.i64.wrap (ofByte v1))))
  (let v4 : Bool := (decide ((IntKind.i64.wrap (ofByte v1)) < 240))
  some (v4, ()))
  (some (false, ())) : Option (Bool × Unit)).bind fun r5 =>
  cond r5.1
  (some (.inl (band .i64 (IntKind.i64.wrap (ofByte v1)) 15, 3, 2048, ())))
  ((cond (decide (240 ≤ (IntKind.i64.wrap (ofByte v1))))
  (let v6 : Bool := (decide ((IntKind.i64.wrap (ofByte v1)) < 245))
  some (v6, ()))
  (some (false, ())) : Option (Bool × Unit)).bind fun r7 =>
  cond r7.1
  (some (.inl (band .i64 (IntKind.i64.wrap (ofByte v1)) 7, 4, 65536, ())))
  (some (.inr (0, 0, ())))))) : Option ((Int × (Int × (Int × Unit))) ⊕ (Int × (Int × Unit)))).bind fun r8 =>
  (match r8 with
  | .inl z9 => (cond (decide ((a0.length : Int) < z9.2.1))
  (some (0, 0, ()))
  ((loop (chanceryref2_Rune_l1 z9 a0) (z9.1, 1, ())).bind fun r14 =>
  (match r14 with
  | .inl z15 => ((cond (decide (z15.1 < z9.2.2.1))
  (some (true, ()))
  (cond (decide (55296 ≤ z15.1))
  (cond (((decide (z15.1 < 57344))))
  (some (true, ()))
  (some ((decide (1114111 < z15.1)), ())))
  (cond (false)
  (some (true, ()))
  (some ((decide (1114111 < z15.1)), ())))) : Option (Bool × Unit)).bind fun r16 =>
  cond r16.1
  (some (0, 0, ()))
  (some (z15.1, z9.2.1, ())))
  | .inr z17 => (some z17))))
  | .inr z18 => (some z18))

noncomputable def chanceryref2_Runes_l1 (p1 : (Str × (Unit × ((List Str) × Unit)))) : Option ((Str × (Unit × ((List Str) × Unit))) ⊕ (Unit × ((List Str) × Unit))) :=
  cond (!decide (p1.1 = []))
  ((chanceryref2_Rune p1.1).bind fun v1 =>
  (cond (decide (v1.2.1 = 0))
  (some ((), 1, p1.2.2.1, ()))
  (some ((), v1.2.1, p1.2.2.1, ())) : Option (Unit × (Int × ((List Str) × Unit)))).bind fun r2 =>
  (cut p1.1 0 r2.2.1).bind fun v3 =>
  (cat r2.2.2.1 [v3]).bind fun v4 =>
  (cut p1.1 r2.2.1 (p1.1.length : Int)).bind fun v5 =>
  some (.inl (v5, (), v4, ())))
  (some (.inr ((), p1.2.2.1, ())))

noncomputable def chanceryref2_Runes (a0 : Str) : Option ((List Str) × Unit) :=
  (loop chanceryref2_Runes_l1 (a0, (), [], ())).bind fun r6 =>
  some r6.2

noncomputable def chanceryref2_matches_l1 (r13 : TA2) (p1 : (Unit × (Unit × (Bool × (Int × TA0))))) : Option ((Unit × (Unit × (Bool × (Int × TA0)))) ⊕ TA3) :=
  cond (decide (p1.2.2.2.1 < (r13.2.2.2.2.1.length : Int)))
  ((cond p1.2.2.1
  (some ((), (), true, p1.2.2.2.2.1, p1.2.2.2.2.2.1, ()))
  ((chk (inb p1.2.2.2.1 p1.2.2.2.2.1.length)).bind fun _ =>
  let v14 : Bool := (p1.2.2.2.2.1.getD p1.2.2.2.1.toNat false)
  some ((), (), v14, p1.2.2.2.2.1, p1.2.2.2.2.2.1, ())) : Option TA2).bind fun r15 =>
  (chk (inb p1.2.2.2.1 r15.2.2.2.2.1.length)).bind fun _ =>
  let v16 : List Bool := r15.2.2.2.2.1.set p1.2.2.2.1.toNat r15.2.2.1
  some (.inl ((), (), r15.2.2.1, IntKind.i64.wrap (p1.2.2.2.1 + 1), r15.2.2.2.1, v16, ())))
  (some (.inr ((), p1.2.2.2.2.2.1, ())))

noncomputable def chanceryref2_matches_l2 (a1 : (List Str)) (r12 : ((List Str) × (Unit × (Unit × (Str × TA0))))) (r9 : TA2) (p2 : (Unit × (Unit × (Int × TA0)))) : Option ((Unit × (Unit × (Int × TA0))) ⊕ TA3) :=
  cond (decide (p2.2.2.1 < (a1.length : Int)))
  ((((chk (inb p2.2.2.1 p2.2.2.2.1.length)).bind fun _ =>
  cond (p2.2.2.2.1.getD p2.2.2.1.toNat false)
  ((idx a1 p2.2.2.1).bind fun v18 =>
  cond (decide (r12.2.2.2.1 = v18))
  (some ((), (), true, p2.2.2.2.1, p2.2.2.2.2.1, ()))
  (cond (decide (r12.2.2.2.1 = [63]))
  (let v19 : Bool := (((!r9.2.2.1)))
  some ((), (), v19, p2.2.2.2.1, p2.2.2.2.2.1, ()))
  (some ((), (), (false), p2.2.2.2.1, p2.2.2.2.2.1, ()))))
  (some ((), (), false, p2.2.2.2.1, p2.2.2.2.2.1, ())) : Option TA2).bind fun r20 =>
  cond r20.2.2.1
  ((chk (inb (IntKind.i64.wrap (p2.2.2.1 + 1)) r20.2.2.2.2.1.length)).bind fun _ =>
  let v21 : List Bool := r20.2.2.2.2.1.set (IntKind.i64.wrap (p2.2.2.1 + 1)).toNat true
  some ((), (), r20.2.2.2.1, v21, ()))
  (some ((), (), r20.2.2.2.1, r20.2.2.2.2.1, ())) : Option (Unit × (Unit × TA0))).bind fun r22 =>
  some (.inl ((), (), IntKind.i64.wrap (p2.2.2.1 + 1), r22.2.2.1, r22.2.2.2.1, ())))
  (some (.inr ((), p2.2.2.2.2.1, ())))

noncomputable def chanceryref2_matches_l3 (a1 : (List Str)) (p3 : ((List Str) × TA3)) : Option (((List Str) × TA3) ⊕ TA3) :=
  cond (decide (0 < (p3.1.length : Int)))
  ((mk (IntKind.i64.wrap ((a1.length : Int) + 1)) (IntKind.i64.wrap ((a1.length : Int) + 1)) false).bind fun v3 =>
  (idx p3.1 0).bind fun v4 =>
  (cut p3.1 1 (p3.1.length : Int)).bind fun v5 =>
  (cond (decide (v4 = [126]))
  (cond ((decide (0 < (v5.length : Int))))
  ((idx v5 0).bind fun v6 =>
  cond (decide (v6 = [63]))
  (some ((), (), true, p3.2.2.1, v3, ()))
  ((idx v5 0).bind fun v7 =>
  cond ((decide (v7 = [42])))
  (some ((), (), true, p3.2.2.1, v3, ()))
  ((idx v5 0).bind fun v8 =>
  some ((), (), ((decide (v8 = [126]))), p3.2.2.1, v3, ()))))
  (some ((), (), false, p3.2.2.1, v3, ())))
  (some ((), (), false, p3.2.2.1, v3, ())) : Option TA2).bind fun r9 =>
  (cond r9.2.2.1
  ((idx v5 0).bind fun v10 =>
  (cut v5 1 (v5.length : Int)).bind fun v11 =>
  some (v11, (), (), v10, r9.2.2.2.1, r9.2.2.2.2.1, ()))
  (some (v5, (), (), v4, r9.2.2.2.1, r9.2.2.2.2.1, ())) : Option ((List Str) × (Unit × (Unit × (Str × TA0))))).bind fun r12 =>
  ((cond (decide (r12.2.2.2.1 = [42]))
  (some ((), (), (!r9.2.2.1), r12.2.2.2.2.1, r12.2.2.2.2.2.1, ()))
  (some ((), (), false, r12.2.2.2.2.1, r12.2.2.2.2.2.1, ())) : Option TA2).bind fun r13 =>
  cond r13.2.2.1
  ((loop (chanceryref2_matches_l1 r13) ((), (), false, 0, r13.2.2.2.1, r13.2.2.2.2.1, ())).bind fun r17 =>
  some ((), r17.2.1, ()))
  ((loop (chanceryref2_matches_l2 a1 r12 r9) ((), (), 0, r13.2.2.2.1, r13.2.2.2.2.1, ())).bind fun r23 =>
  some ((), r23.2.1, ())) : Option TA3).bind fun r24 =>
  some (.inl (r12.1, (), r24.2.1, ())))
  (some (.inr ((), p3.2.2.1, ())))

noncomputable def chanceryref2_matches (a0 : (List Str)) (a1 : (List Str)) : Option (Bool × Unit) :=
  (mk (IntKind.i64.wrap ((a1.length : Int) + 1)) (IntKind.i64.wrap ((a1.length : Int) + 1)) false).bind fun v1 =>
  (chk (inb 0 v1.length)).bind fun _ =>
  let v2 : List Bool := v1.set (0 : Int).toNat true
  (loop (chanceryref2_matches_l3 a1) (a0, (), v2, ())).bind fun r25 =>
  (chk (inb (a1.length : Int) r25.2.1.length)).bind fun _ =>
  some ((r25.2.1.getD (a1.length : Int).toNat false), ())

noncomputable def chanceryref2_Matches (a0 : Str) (a1 : Str) : Option (Bool × Unit) :=
  (chanceryref2_Lower a0).bind fun v1 =>
  (chanceryref2_Runes v1.1).bind fun v2 =>
  (chanceryref2_Lower a1).bind fun v3 =>
  (chanceryref2_Runes v3.1).bind fun v4 =>
  (chanceryref2_matches v2.1 v4.1).bind fun v5 =>
  some v5

noncomputable def chancerylaw2_FtextPatternsMatch (a0 : Str) (a1 : Str) : Option (Bool × Unit) :=
  ((ftext_Matches [114, 63, 100, 42] [82, 97, 100, 105, 111]).bind fun v1 =>
  cond (!v1.1)
  (some (true, ()))
  ((ftext_Matches [97, 126, 42] [97, 98]).bind fun v2 =>
  some (v2.1, ())) : Option (Bool × Unit)).bind fun r3 =>
  cond r3.1
  (some (false, ()))
  ((cut a0 0 (mn (a0.length : Int) 60)).bind fun v4 =>
  (cut a1 0 (mn (a1.length : Int) 200)).bind fun v5 =>
  (ftext_Matches v4 v5).bind fun v6 =>
  (chanceryref2_Matches v4 v5).bind fun v7 =>
  some (v6.1 == v7.1, ()))

end Go.Proofs.YthkpkdaeblgbdaaDoor
