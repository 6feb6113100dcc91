/- Plain functions that the program's functions come to. Printed by a program (fegen.py). -/
import Derived.Test.YtmnegopgidckoaaDoorFeLib
import Derived.Test.YtmnegopgidckoaaDoorFeLaw
namespace Go.Proofs.YtmnegopgidckoaaDoor
open Go Go.Fe

noncomputable def squash_codes_l945 (a0 : (List Int)) (p953 : (Unit × (Int × (Int × (Int × ((List Int) × Unit)))))) (p945 : (Unit × (Int × (Int × (Int × ((List Int) × Unit)))))) : Option ((Unit × (Int × (Int × (Int × ((List Int) × Unit))))) ⊕ (Unit × (Int × (Int × ((List Int) × Unit))))) :=
  cond (decide (p945.2.2.2.1 < (a0.length : Int)))
  (((idx a0 p945.2.2.2.1).bind fun v2 =>
  cond (decide (v2 = p953.2.2.2.1))
  ((chk (inb p945.2.2.2.1 p945.2.2.2.2.1.length)).bind fun _ =>
  let v3 : List Int := p945.2.2.2.2.1.set p945.2.2.2.1.toNat p945.2.1
  (shc (IntKind.i64.wrap (15 - p953.2.2.2.1))).bind fun v4 =>
  some ((), IntKind.i64.wrap (p945.2.1 + 1), IntKind.i64.wrap (p945.2.2.1 + (shl .i64 1 v4)), v3, ()))
  (some ((), p945.2.1, p945.2.2.1, p945.2.2.2.2.1, ())) : Option (Unit × (Int × (Int × ((List Int) × Unit))))).bind fun r5 =>
  some (.inl ((), r5.2.1, r5.2.2.1, IntKind.i64.wrap (p945.2.2.2.1 + 1), r5.2.2.2.1, ())))
  (some (.inr ((), p945.2.1, p945.2.2.1, p945.2.2.2.2.1, ())))

noncomputable def squash_codes_l953 (a0 : (List Int)) (p953 : (Unit × (Int × (Int × (Int × ((List Int) × Unit)))))) : Option ((Unit × (Int × (Int × (Int × ((List Int) × Unit))))) ⊕ (Unit × (Int × ((List Int) × Unit)))) :=
  cond (decide (p953.2.2.2.1 ≤ 15))
  ((loop (squash_codes_l945 a0 p953) ((), IntKind.i64.wrap (p953.2.1 * 2), p953.2.2.1, 0, p953.2.2.2.2.1, ())).bind fun r6 =>
  some (.inl ((), r6.2.1, r6.2.2.1, IntKind.i64.wrap (p953.2.2.2.1 + 1), r6.2.2.2.1, ())))
  (some (.inr ((), p953.2.2.1, p953.2.2.2.2.1, ())))

noncomputable def squash_codes (a0 : (List Int)) : Option ((List Int) × (Bool × Unit)) :=
  (mk 272 272 0).bind fun v1 =>
  (loop (squash_codes_l953 a0) ((), 0, 0, 1, v1, ())).bind fun r7 =>
  some (r7.2.2.1, decide (r7.2.1 ≤ 32768), ())

noncomputable def squash_newDecoder_l1099 (a0 : (List Int)) (p1108 : (Unit × (Int × (Int × (((List Int) × ((List Int) × (Unit × Unit))) × ((List Int) × Unit)))))) (p1099 : (Unit × (Int × (Int × (((List Int) × ((List Int) × (Unit × Unit))) × ((List Int) × Unit)))))) : Option ((Unit × (Int × (Int × (((List Int) × ((List Int) × (Unit × Unit))) × ((List Int) × Unit))))) ⊕ (Unit × (Int × (((List Int) × ((List Int) × (Unit × Unit))) × ((List Int) × Unit))))) :=
  cond (decide (p1099.2.2.1 < (a0.length : Int)))
  (((idx a0 p1099.2.2.1).bind fun v3 =>
  cond (decide (v3 = p1108.2.2.1))
  ((cat p1099.2.2.2.2.1 [p1099.2.2.1]).bind fun v4 =>
  some ((), IntKind.i64.wrap (p1099.2.1 + 1), (p1099.2.2.2.1.1, (p1099.2.2.2.1.2.1, ((), ()))), v4, ()))
  (some ((), p1099.2.1, (p1099.2.2.2.1.1, (p1099.2.2.2.1.2.1, ((), ()))), p1099.2.2.2.2.1, ())) : Option (Unit × (Int × (((List Int) × ((List Int) × (Unit × Unit))) × ((List Int) × Unit))))).bind fun r5 =>
  some (.inl ((), r5.2.1, IntKind.i64.wrap (p1099.2.2.1 + 1), (r5.2.2.1.1, (r5.2.2.1.2.1, ((), ()))), r5.2.2.2.1, ())))
  (some (.inr ((), p1099.2.1, (p1099.2.2.2.1.1, (p1099.2.2.2.1.2.1, ((), ()))), p1099.2.2.2.2.1, ())))

noncomputable def squash_newDecoder_l1108 (a0 : (List Int)) (p1108 : (Unit × (Int × (Int × (((List Int) × ((List Int) × (Unit × Unit))) × ((List Int) × Unit)))))) : Option ((Unit × (Int × (Int × (((List Int) × ((List Int) × (Unit × Unit))) × ((List Int) × Unit))))) ⊕ (Unit × (((List Int) × ((List Int) × (Unit × Unit))) × ((List Int) × Unit)))) :=
  cond (decide (p1108.2.2.1 ≤ 15))
  ((chk (inb p1108.2.2.1 16)).bind fun _ =>
  let v1 : List Int := p1108.2.2.2.1.1.set p1108.2.2.1.toNat (IntKind.i64.wrap (p1108.2.1 * 2))
  (chk (inb p1108.2.2.1 16)).bind fun _ =>
  let v2 : List Int := p1108.2.2.2.1.2.1.set p1108.2.2.1.toNat (p1108.2.2.2.2.1.length : Int)
  (loop (squash_newDecoder_l1099 a0 p1108) ((), IntKind.i64.wrap (p1108.2.1 * 2), 0, (v1, (v2, ((), ()))), p1108.2.2.2.2.1, ())).bind fun r6 =>
  some (.inl ((), r6.2.1, IntKind.i64.wrap (p1108.2.2.1 + 1), (r6.2.2.1.1, (r6.2.2.1.2.1, ((), ()))), r6.2.2.2.1, ())))
  (some (.inr ((), (p1108.2.2.2.1.1, (p1108.2.2.2.1.2.1, ((), ()))), p1108.2.2.2.2.1, ())))

noncomputable def squash_newDecoder (a0 : (List Int)) : Option (Unit × (((List Int) × ((List Int) × (Unit × Unit))) × ((List Int) × Unit))) :=
  (loop (squash_newDecoder_l1108 a0) ((), 0, 1, ((List.replicate 16 0), ((List.replicate 16 0), ((), ()))), [], ())).bind fun r7 =>
  some ((), (r7.2.1.1, (r7.2.1.2.1, ((), ()))), r7.2.2.1, ())

noncomputable def squash_reader__bit (o0 : Str) (o0_1 : Int) : Option (Int × (Unit × ((Str × (Int × Unit)) × Unit))) :=
  cond (decide (o0_1 = (IntKind.i64.wrap (8 * (o0.length : Int)))))
  (some ((-1), (), (o0, (o0_1, ())), ()))
  ((quo .i64 o0_1 8).bind fun v1 =>
  (idx o0 v1).bind fun v2 =>
  (rem o0_1 8).bind fun v3 =>
  (shc (IntKind.i64.wrap (7 - v3))).bind fun v4 =>
  some (band .i64 (shr .i64 (IntKind.i64.wrap (ofByte v2)) v4) 1, (), (o0, (IntKind.i64.wrap (o0_1 + 1), ())), ()))

noncomputable def squash_decoder__symbol_l1449 (p1449 : (Unit × (Unit × (Int × (Int × (((List Int) × ((List Int) × (Unit × Unit))) × ((Str × (Int × Unit)) × ((List Int) × Unit)))))))) : Option ((Unit × (Unit × (Int × (Int × (((List Int) × ((List Int) × (Unit × Unit))) × ((Str × (Int × Unit)) × ((List Int) × Unit))))))) ⊕ ((Unit × (Unit × (((List Int) × ((List Int) × (Unit × Unit))) × ((Str × (Int × Unit)) × ((List Int) × Unit))))) ⊕ (Unit × (Unit × (Int × (Int × (((List Int) × ((List Int) × (Unit × Unit))) × ((Str × (Int × Unit)) × ((List Int) × Unit))))))))) :=
  cond (decide (p1449.2.2.2.1 ≤ 15))
  ((squash_reader__bit p1449.2.2.2.2.2.1.1 p1449.2.2.2.2.2.1.2.1).bind fun v1 =>
  cond (decide (v1.1 < 0))
  (some (.inr (.inr ((), (), 0, 11, (p1449.2.2.2.2.1.1, (p1449.2.2.2.2.1.2.1, ((), ()))), v1.2.2.1, p1449.2.2.2.2.2.2.1, ()))))
  (let v2 : Int := IntKind.i64.wrap ((IntKind.i64.wrap (2 * p1449.2.2.1)) + v1.1)
  (cond (decide (p1449.2.2.2.1 < 15))
  ((chk (inb (IntKind.i64.wrap (p1449.2.2.2.1 + 1)) 16)).bind fun _ =>
  let v3 : Int := (p1449.2.2.2.2.1.2.1.getD (IntKind.i64.wrap (p1449.2.2.2.1 + 1)).toNat 0)
  some ((), (), v3, (p1449.2.2.2.2.1.1, (p1449.2.2.2.2.1.2.1, ((), ()))), v1.2.2.1, p1449.2.2.2.2.2.2.1, ()))
  (some ((), (), (p1449.2.2.2.2.2.2.1.length : Int), (p1449.2.2.2.2.1.1, (p1449.2.2.2.2.1.2.1, ((), ()))), v1.2.2.1, p1449.2.2.2.2.2.2.1, ())) : Option (Unit × (Unit × (Int × (((List Int) × ((List Int) × (Unit × Unit))) × ((Str × (Int × Unit)) × ((List Int) × Unit))))))).bind fun r4 =>
  (chk (inb p1449.2.2.2.1 16)).bind fun _ =>
  let v5 : Int := IntKind.i64.wrap (v2 - (r4.2.2.2.1.1.getD p1449.2.2.2.1.toNat 0))
  (cond (decide (0 ≤ v5))
  ((chk (inb p1449.2.2.2.1 16)).bind fun _ =>
  let v6 : Int := IntKind.i64.wrap (r4.2.2.1 - (r4.2.2.2.1.2.1.getD p1449.2.2.2.1.toNat 0))
  some ((), (), (decide (v5 < v6)), (r4.2.2.2.1.1, (r4.2.2.2.1.2.1, ((), ()))), r4.2.2.2.2.1, r4.2.2.2.2.2.1, ()))
  (some ((), (), false, (r4.2.2.2.1.1, (r4.2.2.2.1.2.1, ((), ()))), r4.2.2.2.2.1, r4.2.2.2.2.2.1, ())) : Option (Unit × (Unit × (Bool × (((List Int) × ((List Int) × (Unit × Unit))) × ((Str × (Int × Unit)) × ((List Int) × Unit))))))).bind fun r7 =>
  cond r7.2.2.1
  ((chk (inb p1449.2.2.2.1 16)).bind fun _ =>
  let v8 : Int := IntKind.i64.wrap ((r7.2.2.2.1.2.1.getD p1449.2.2.2.1.toNat 0) + v5)
  (chk (inb v8 r7.2.2.2.2.2.1.length)).bind fun _ =>
  some (.inr (.inr ((), (), (r7.2.2.2.2.2.1.getD v8.toNat 0), 0, (r7.2.2.2.1.1, (r7.2.2.2.1.2.1, ((), ()))), r7.2.2.2.2.1, r7.2.2.2.2.2.1, ()))))
  (some (.inl ((), (), v2, IntKind.i64.wrap (p1449.2.2.2.1 + 1), (r7.2.2.2.1.1, (r7.2.2.2.1.2.1, ((), ()))), r7.2.2.2.2.1, r7.2.2.2.2.2.1, ())))))
  (some (.inr (.inl ((), (), (p1449.2.2.2.2.1.1, (p1449.2.2.2.2.1.2.1, ((), ()))), p1449.2.2.2.2.2.1, p1449.2.2.2.2.2.2.1, ()))))

noncomputable def squash_decoder__symbol (o0 : (List Int)) (o0_1 : (List Int)) (o1 : (List Int)) (o2 : Str) (o2_1 : Int) : Option (Int × (Int × (Unit × (Unit × (((List Int) × ((List Int) × (Unit × Unit))) × ((Str × (Int × Unit)) × ((List Int) × Unit))))))) :=
  (loop squash_decoder__symbol_l1449 ((), (), 0, 1, (o0, (o0_1, ((), ()))), (o2, (o2_1, ())), o1, ())).bind fun r9 =>
  (match r9 with
  | .inl z10 => (some (0, 4, (), (), (z10.2.2.1.1, (z10.2.2.1.2.1, ((), ()))), z10.2.2.2.1, z10.2.2.2.2.1, ()))
  | .inr z11 => (some (z11.2.2.1, z11.2.2.2.1, (), (), (z11.2.2.2.2.1.1, (z11.2.2.2.2.1.2.1, ((), ()))), z11.2.2.2.2.2.1, z11.2.2.2.2.2.2.1, ())))

noncomputable def squash_span (a0 : Int) : Option (Int × (Int × Unit)) :=
  cond (decide (a0 < 264))
  (some (IntKind.i64.wrap (a0 - 253), 0, ()))
  ((idx [11, 13, 17, 25, 41, 73, 137, 265] (IntKind.i64.wrap (a0 - 264))).bind fun v1 =>
  some (v1, IntKind.i64.wrap (a0 - 263), ()))

noncomputable def squash_reader__number_l1494 (a1 : Int) (p1494 : (Unit × (Int × (Int × ((Str × (Int × Unit)) × Unit))))) : Option ((Unit × (Int × (Int × ((Str × (Int × Unit)) × Unit)))) ⊕ ((Unit × (Int × ((Str × (Int × Unit)) × Unit))) ⊕ (Unit × (Int × ((Str × (Int × Unit)) × Unit))))) :=
  cond (decide (p1494.2.2.1 < a1))
  ((squash_reader__bit p1494.2.2.2.1.1 p1494.2.2.2.1.2.1).bind fun v1 =>
  cond (decide (v1.1 < 0))
  (some (.inr (.inr ((), (-1), v1.2.2.1, ()))))
  (some (.inl ((), IntKind.i64.wrap ((IntKind.i64.wrap (2 * p1494.2.1)) + v1.1), IntKind.i64.wrap (p1494.2.2.1 + 1), v1.2.2.1, ()))))
  (some (.inr (.inl ((), p1494.2.1, p1494.2.2.2.1, ()))))

noncomputable def squash_reader__number (a1 : Int) (o0 : Str) (o0_1 : Int) : Option (Int × (Unit × ((Str × (Int × Unit)) × Unit))) :=
  (loop (squash_reader__number_l1494 a1) ((), 0, 0, (o0, (o0_1, ())), ())).bind fun r2 =>
  (match r2 with
  | .inl z3 => (some (z3.2.1, (), z3.2.2.1, ()))
  | .inr z4 => (some (z4.2.1, (), z4.2.2.1, ())))

noncomputable def squash_unpacked_l1022 (v3 : (Int × (Int × Unit))) (v4 : (Int × (Unit × ((Str × (Int × Unit)) × Unit)))) (v7 : Int) (p1022 : (Unit × (Unit × (Unit × (Int × ((Str × (Int × Unit)) × (((List Int) × ((List Int) × (Unit × Unit))) × ((List Int) × ((List Int) × Unit))))))))) : Option ((Unit × (Unit × (Unit × (Int × ((Str × (Int × Unit)) × (((List Int) × ((List Int) × (Unit × Unit))) × ((List Int) × ((List Int) × Unit)))))))) ⊕ (Unit × (Unit × (Unit × ((Str × (Int × Unit)) × (((List Int) × ((List Int) × (Unit × Unit))) × ((List Int) × ((List Int) × Unit)))))))) :=
  cond (decide (p1022.2.2.2.1 < (IntKind.i64.wrap (v3.1 + v4.1))))
  ((chk (inb (IntKind.i64.wrap (v7 + p1022.2.2.2.1)) p1022.2.2.2.2.2.2.1.length)).bind fun _ =>
  let v8 : Int := (p1022.2.2.2.2.2.2.1.getD (IntKind.i64.wrap (v7 + p1022.2.2.2.1)).toNat 0)
  (cat p1022.2.2.2.2.2.2.1 [v8]).bind fun v9 =>
  some (.inl ((), (), (), IntKind.i64.wrap (p1022.2.2.2.1 + 1), p1022.2.2.2.2.1, (p1022.2.2.2.2.2.1.1, (p1022.2.2.2.2.2.1.2.1, ((), ()))), v9, p1022.2.2.2.2.2.2.2.1, ())))
  (some (.inr ((), (), (), p1022.2.2.2.2.1, (p1022.2.2.2.2.2.1.1, (p1022.2.2.2.2.2.1.2.1, ((), ()))), p1022.2.2.2.2.2.2.1, p1022.2.2.2.2.2.2.2.1, ())))

noncomputable def squash_unpacked_l1036 (a2 : Int) (p1036 : (Unit × (Unit × (Unit × ((Str × (Int × Unit)) × (((List Int) × ((List Int) × (Unit × Unit))) × ((List Int) × ((List Int) × Unit)))))))) : Option ((Unit × (Unit × (Unit × ((Str × (Int × Unit)) × (((List Int) × ((List Int) × (Unit × Unit))) × ((List Int) × ((List Int) × Unit))))))) ⊕ ((Unit × (Unit × (Unit × ((Str × (Int × Unit)) × (((List Int) × ((List Int) × (Unit × Unit))) × ((List Int) × ((List Int) × Unit))))))) ⊕ (Unit × (Unit × (Str × (Int × ((Str × (Int × Unit)) × (((List Int) × ((List Int) × (Unit × Unit))) × ((List Int) × Unit))))))))) :=
  cond (decide ((p1036.2.2.2.2.2.1.length : Int) < a2))
  ((squash_decoder__symbol p1036.2.2.2.2.1.1 p1036.2.2.2.2.1.2.1 p1036.2.2.2.2.2.2.1 p1036.2.2.2.1.1 p1036.2.2.2.1.2.1).bind fun v1 =>
  cond (!decide (v1.2.1 = 0))
  (some (.inr (.inr ((), (), [], v1.2.1, v1.2.2.2.2.2.1, (v1.2.2.2.2.1.1, (v1.2.2.2.2.1.2.1, ((), ()))), v1.2.2.2.2.2.2.1, ()))))
  (cond (decide (v1.1 < 256))
  ((cat p1036.2.2.2.2.2.1 [IntKind.u8.wrap v1.1]).bind fun v2 =>
  some (.inl ((), (), (), v1.2.2.2.2.2.1, (v1.2.2.2.2.1.1, (v1.2.2.2.2.1.2.1, ((), ()))), v2, v1.2.2.2.2.2.2.1, ())))
  ((squash_span v1.1).bind fun v3 =>
  (squash_reader__number v3.2.1 v1.2.2.2.2.2.1.1 v1.2.2.2.2.2.1.2.1).bind fun v4 =>
  (squash_reader__number 15 v4.2.2.1.1 v4.2.2.1.2.1).bind fun v5 =>
  (cond (decide (v4.1 < 0))
  (some ((), (), (), true, v5.2.2.1, (v1.2.2.2.2.1.1, (v1.2.2.2.2.1.2.1, ((), ()))), p1036.2.2.2.2.2.1, v1.2.2.2.2.2.2.1, ()))
  (some ((), (), (), (decide (v5.1 < 0)), v5.2.2.1, (v1.2.2.2.2.1.1, (v1.2.2.2.2.1.2.1, ((), ()))), p1036.2.2.2.2.2.1, v1.2.2.2.2.2.2.1, ())) : Option (Unit × (Unit × (Unit × (Bool × ((Str × (Int × Unit)) × (((List Int) × ((List Int) × (Unit × Unit))) × ((List Int) × ((List Int) × Unit))))))))).bind fun r6 =>
  cond r6.2.2.2.1
  (some (.inr (.inr ((), (), [], 11, r6.2.2.2.2.1, (r6.2.2.2.2.2.1.1, (r6.2.2.2.2.2.1.2.1, ((), ()))), r6.2.2.2.2.2.2.2.1, ()))))
  (let v7 : Int := IntKind.i64.wrap ((IntKind.i64.wrap ((r6.2.2.2.2.2.2.1.length : Int) - v5.1)) - 1)
  cond (decide (v7 < 0))
  (some (.inr (.inr ((), (), [], 2, r6.2.2.2.2.1, (r6.2.2.2.2.2.1.1, (r6.2.2.2.2.2.1.2.1, ((), ()))), r6.2.2.2.2.2.2.2.1, ()))))
  (cond (decide ((IntKind.i64.wrap (a2 - (r6.2.2.2.2.2.2.1.length : Int))) < (IntKind.i64.wrap (v3.1 + v4.1))))
  (some (.inr (.inr ((), (), [], 3, r6.2.2.2.2.1, (r6.2.2.2.2.2.1.1, (r6.2.2.2.2.2.1.2.1, ((), ()))), r6.2.2.2.2.2.2.2.1, ()))))
  ((loop (squash_unpacked_l1022 v3 v4 v7) ((), (), (), 0, r6.2.2.2.2.1, (r6.2.2.2.2.2.1.1, (r6.2.2.2.2.2.1.2.1, ((), ()))), r6.2.2.2.2.2.2.1, r6.2.2.2.2.2.2.2.1, ())).bind fun r10 =>
  some (.inl ((), (), (), r10.2.2.2.1, (r10.2.2.2.2.1.1, (r10.2.2.2.2.1.2.1, ((), ()))), r10.2.2.2.2.2.1, r10.2.2.2.2.2.2.1, ()))))))))
  (some (.inr (.inl ((), (), (), p1036.2.2.2.1, (p1036.2.2.2.2.1.1, (p1036.2.2.2.2.1.2.1, ((), ()))), p1036.2.2.2.2.2.1, p1036.2.2.2.2.2.2.1, ()))))

noncomputable def squash_unpacked_l1052 (p1052 : (Unit × (Unit × (Unit × ((Str × (Int × Unit)) × (((List Int) × ((List Int) × (Unit × Unit))) × ((List Int) × ((List Int) × Unit)))))))) : Option ((Unit × (Unit × (Unit × ((Str × (Int × Unit)) × (((List Int) × ((List Int) × (Unit × Unit))) × ((List Int) × ((List Int) × Unit))))))) ⊕ ((Unit × (Unit × (Unit × ((Str × (Int × Unit)) × (((List Int) × ((List Int) × (Unit × Unit))) × ((List Int) × ((List Int) × Unit))))))) ⊕ (Unit × (Unit × (Str × (Int × ((Str × (Int × Unit)) × (((List Int) × ((List Int) × (Unit × Unit))) × ((List Int) × Unit))))))))) :=
  (rem p1052.2.2.2.1.2.1 8).bind fun v13 =>
  cond (!decide (v13 = 0))
  ((squash_reader__bit p1052.2.2.2.1.1 p1052.2.2.2.1.2.1).bind fun v14 =>
  cond (!decide (v14.1 = 0))
  (some (.inr (.inr ((), (), [], 4, v14.2.2.1, (p1052.2.2.2.2.1.1, (p1052.2.2.2.2.1.2.1, ((), ()))), p1052.2.2.2.2.2.2.1, ()))))
  (some (.inl ((), (), (), v14.2.2.1, (p1052.2.2.2.2.1.1, (p1052.2.2.2.2.1.2.1, ((), ()))), p1052.2.2.2.2.2.1, p1052.2.2.2.2.2.2.1, ()))))
  (some (.inr (.inl ((), (), (), p1052.2.2.2.1, (p1052.2.2.2.2.1.1, (p1052.2.2.2.2.1.2.1, ((), ()))), p1052.2.2.2.2.2.1, p1052.2.2.2.2.2.2.1, ()))))

noncomputable def squash_unpacked (a2 : Int) (o0 : Str) (o0_1 : Int) (o1 : (List Int)) (o1_1 : (List Int)) (o2 : (List Int)) : Option (Str × (Int × (Unit × (Unit × ((Str × (Int × Unit)) × (((List Int) × ((List Int) × (Unit × Unit))) × ((List Int) × Unit))))))) :=
  (loop (squash_unpacked_l1036 a2) ((), (), (), (o0, (o0_1, ())), (o1, (o1_1, ((), ()))), [], o2, ())).bind fun r11 =>
  (match r11 with
  | .inl z12 => ((loop squash_unpacked_l1052 ((), (), (), z12.2.2.2.1, (z12.2.2.2.2.1.1, (z12.2.2.2.2.1.2.1, ((), ()))), z12.2.2.2.2.2.1, z12.2.2.2.2.2.2.1, ())).bind fun r15 =>
  (match r15 with
  | .inl z16 => (cond (decide (z16.2.2.2.1.2.1 < (IntKind.i64.wrap (8 * (z16.2.2.2.1.1.length : Int)))))
  (some ([], 4, (), (), z16.2.2.2.1, (z16.2.2.2.2.1.1, (z16.2.2.2.2.1.2.1, ((), ()))), z16.2.2.2.2.2.2.1, ()))
  (some (bytesStr z16.2.2.2.2.2.1, 0, (), (), z16.2.2.2.1, (z16.2.2.2.2.1.1, (z16.2.2.2.2.1.2.1, ((), ()))), z16.2.2.2.2.2.2.1, ())))
  | .inr z17 => (some (z17.2.2.1, z17.2.2.2.1, (), (), z17.2.2.2.2.1, (z17.2.2.2.2.2.1.1, (z17.2.2.2.2.2.1.2.1, ((), ()))), z17.2.2.2.2.2.2.1, ()))))
  | .inr z18 => (some (z18.2.2.1, z18.2.2.2.1, (), (), z18.2.2.2.2.1, (z18.2.2.2.2.2.1.1, (z18.2.2.2.2.2.1.2.1, ((), ()))), z18.2.2.2.2.2.2.1, ())))

noncomputable def squash_Unpack_l336 (v14 : (List Int)) (v11 : Str) (p336 : (Unit × (Int × ((List Int) × Unit)))) : Option ((Unit × (Int × ((List Int) × Unit))) ⊕ (Unit × ((List Int) × Unit))) :=
  cond (decide (p336.2.1 < (v14.length : Int)))
  ((quo .i64 p336.2.1 2).bind fun v15 =>
  (idx v11 v15).bind fun v16 =>
  (rem p336.2.1 2).bind fun v17 =>
  (shc (IntKind.i64.wrap (4 - (IntKind.i64.wrap (4 * v17))))).bind fun v18 =>
  (chk (inb p336.2.1 p336.2.2.1.length)).bind fun _ =>
  let v19 : List Int := p336.2.2.1.set p336.2.1.toNat (band .i64 (shr .i64 (IntKind.i64.wrap (ofByte v16)) v18) 15)
  some (.inl ((), IntKind.i64.wrap (p336.2.1 + 1), v19, ())))
  (some (.inr ((), p336.2.2.1, ())))

noncomputable def squash_Unpack (a0 : Str) : Option (Str × (Int × Unit)) :=
  cond (decide ((a0.length : Int) < 5))
  (some ([], 11, ()))
  ((idx a0 0).bind fun v1 =>
  (shc 24).bind fun v2 =>
  (idx a0 1).bind fun v3 =>
  (shc 16).bind fun v4 =>
  let v5 : Int := bor .i64 (shl .i64 (IntKind.i64.wrap (ofByte v1)) v2) (shl .i64 (IntKind.i64.wrap (ofByte v3)) v4)
  (idx a0 2).bind fun v6 =>
  (shc 8).bind fun v7 =>
  (idx a0 3).bind fun v8 =>
  let v9 : Int := bor .i64 (bor .i64 v5 (shl .i64 (IntKind.i64.wrap (ofByte v6)) v7)) (IntKind.i64.wrap (ofByte v8))
  (idx a0 4).bind fun v10 =>
  (cut a0 5 (a0.length : Int)).bind fun v11 =>
  cond (decide (1 < (ofByte v10)))
  (some ([], 8, ()))
  ((cond (decide ((ofByte v10) = 0))
  (some ((decide ((v11.length : Int) < v9)), ()))
  (some (false, ())) : Option (Bool × Unit)).bind fun r12 =>
  cond r12.1
  (some ([], 11, ()))
  ((cond (decide ((ofByte v10) = 0))
  (some ((decide (v9 < (v11.length : Int))), ()))
  (some (false, ())) : Option (Bool × Unit)).bind fun r13 =>
  cond r13.1
  (some ([], 4, ()))
  (cond (decide ((ofByte v10) = 0))
  (some (v11, 0, ()))
  (cond (decide ((v11.length : Int) < 136))
  (some ([], 11, ()))
  ((mk 272 272 0).bind fun v14 =>
  (loop (squash_Unpack_l336 v14 v11) ((), 0, v14, ())).bind fun r20 =>
  (squash_codes r20.2.1).bind fun v21 =>
  cond (!v21.2.1)
  (some ([], 4, ()))
  ((cut v11 136 (v11.length : Int)).bind fun v22 =>
  (squash_newDecoder r20.2.1).bind fun v23 =>
  (squash_unpacked v9 v22 0 v23.2.1.1 v23.2.1.2.1 v23.2.2.1).bind fun v24 =>
  some (v24.1, v24.2.1, ()))))))))

noncomputable def chancerylaw2_mod (a0 : Int) (a1 : Int) : Option (Int × Unit) :=
  (rem a0 a1).bind fun v1 =>
  (rem (IntKind.i64.wrap (v1 + a1)) a1).bind fun v2 =>
  some (v2, ())

noncomputable def chanceryref2_bitsOf_l1161 (a0 : Str) (p1170 : (Unit × (Int × ((List Int) × Unit)))) (p1161 : (Unit × (Int × ((List Int) × Unit)))) : Option ((Unit × (Int × ((List Int) × Unit))) ⊕ (Unit × ((List Int) × Unit))) :=
  cond (decide (0 ≤ p1161.2.1))
  ((idx a0 p1170.2.1).bind fun v1 =>
  (shc p1161.2.1).bind fun v2 =>
  (cat p1161.2.2.1 [band .i64 (shr .i64 (IntKind.i64.wrap (ofByte v1)) v2) 1]).bind fun v3 =>
  some (.inl ((), IntKind.i64.wrap (p1161.2.1 - 1), v3, ())))
  (some (.inr ((), p1161.2.2.1, ())))

noncomputable def chanceryref2_bitsOf_l1170 (a0 : Str) (p1170 : (Unit × (Int × ((List Int) × Unit)))) : Option ((Unit × (Int × ((List Int) × Unit))) ⊕ (Unit × ((List Int) × Unit))) :=
  cond (decide (p1170.2.1 < (a0.length : Int)))
  ((loop (chanceryref2_bitsOf_l1161 a0 p1170) ((), 7, p1170.2.2.1, ())).bind fun r4 =>
  some (.inl ((), IntKind.i64.wrap (p1170.2.1 + 1), r4.2.1, ())))
  (some (.inr ((), p1170.2.2.1, ())))

noncomputable def chanceryref2_bitsOf (a0 : Str) : Option ((List Int) × Unit) :=
  (loop (chanceryref2_bitsOf_l1170 a0) ((), 0, [], ())).bind fun r5 =>
  some r5.2

noncomputable def chanceryref2_numberOf_l1133 (a0 : (List Int)) (p1133 : (Int × (Int × Unit))) : Option ((Int × (Int × Unit)) ⊕ (Int × Unit)) :=
  cond (decide (p1133.2.1 < (a0.length : Int)))
  ((idx a0 p1133.2.1).bind fun v1 =>
  some (.inl (IntKind.i64.wrap ((IntKind.i64.wrap (2 * p1133.1)) + v1), IntKind.i64.wrap (p1133.2.1 + 1), ())))
  (some (.inr (p1133.1, ())))

noncomputable def chanceryref2_numberOf (a0 : (List Int)) : Option (Int × Unit) :=
  (loop (chanceryref2_numberOf_l1133 a0) (0, 0, ())).bind fun r2 =>
  some r2

noncomputable def chanceryref2_codesOf_l1221 (p1221 : (Unit × (Unit × (Int × ((List Str) × ((List Int) × Unit)))))) : Option ((Unit × (Unit × (Int × ((List Str) × ((List Int) × Unit))))) ⊕ (Unit × (Unit × (Int × ((List Str) × ((List Int) × Unit)))))) :=
  (chk (inb p1221.2.2.1 p1221.2.2.2.2.1.length)).bind fun _ =>
  cond (decide ((p1221.2.2.2.2.1.getD p1221.2.2.1.toNat 0) = 49))
  ((chk (inb p1221.2.2.1 p1221.2.2.2.2.1.length)).bind fun _ =>
  let v4 : List Int := p1221.2.2.2.2.1.set p1221.2.2.1.toNat 48
  some (.inl ((), (), IntKind.i64.wrap (p1221.2.2.1 - 1), p1221.2.2.2.1, v4, ())))
  (some (.inr ((), (), p1221.2.2.1, p1221.2.2.2.1, p1221.2.2.2.2.1, ())))

noncomputable def chanceryref2_codesOf_l1240 (p1261 : (Unit × (Str × (Int × (Int × ((List Str) × Unit)))))) (p1240 : (Unit × (Str × ((List Str) × Unit)))) : Option ((Unit × (Str × ((List Str) × Unit))) ⊕ (Unit × (Str × ((List Str) × Unit)))) :=
  cond (decide ((p1240.2.1.length : Int) < p1261.2.2.2.1))
  ((cat p1240.2.1 [48]).bind fun v8 =>
  some (.inl ((), v8, p1240.2.2.1, ())))
  (some (.inr ((), p1240.2.1, p1240.2.2.1, ())))

noncomputable def chanceryref2_codesOf_l1254 (a0 : (List Int)) (p1261 : (Unit × (Str × (Int × (Int × ((List Str) × Unit)))))) (p1254 : (Unit × (Str × (Int × (Int × ((List Str) × Unit)))))) : Option ((Unit × (Str × (Int × (Int × ((List Str) × Unit))))) ⊕ ((Unit × (Str × (Int × ((List Str) × Unit)))) ⊕ (Unit × (Bool × Unit)))) :=
  cond (decide (p1254.2.2.2.1 < (a0.length : Int)))
  (((idx a0 p1254.2.2.2.1).bind fun v2 =>
  cond (!decide (v2 = p1261.2.2.2.1))
  (some (.inl ((), p1254.2.1, p1254.2.2.1, p1254.2.2.2.2.1, ())))
  ((shc (IntKind.i64.wrap (15 - p1261.2.2.2.1))).bind fun v3 =>
  cond (decide (32768 < (IntKind.i64.wrap (p1254.2.2.1 + (shl .i64 1 v3)))))
  (some (.inr ((), false, ())))
  ((cond (!decide (p1254.2.1 = []))
  ((chk (decide (p1254.2.1.length ≤ lim))).bind fun _ =>
  (loop chanceryref2_codesOf_l1221 ((), (), IntKind.i64.wrap (((strBytes p1254.2.1).length : Int) - 1), p1254.2.2.2.2.1, strBytes p1254.2.1, ())).bind fun r5 =>
  (chk (inb r5.2.2.1 r5.2.2.2.2.1.length)).bind fun _ =>
  let v6 : List Int := r5.2.2.2.2.1.set r5.2.2.1.toNat 49
  some ((), bytesStr v6, r5.2.2.2.1, ()))
  (some ((), p1254.2.1, p1254.2.2.2.2.1, ())) : Option (Unit × (Str × ((List Str) × Unit)))).bind fun r7 =>
  (loop (chanceryref2_codesOf_l1240 p1261) ((), r7.2.1, r7.2.2.1, ())).bind fun r9 =>
  (chk (inb p1254.2.2.2.1 r9.2.2.1.length)).bind fun _ =>
  let v10 : List Str := r9.2.2.1.set p1254.2.2.2.1.toNat r9.2.1
  some (.inl ((), r9.2.1, IntKind.i64.wrap (p1254.2.2.1 + (shl .i64 1 v3)), v10, ())))) : Option ((Unit × (Str × (Int × ((List Str) × Unit)))) ⊕ (Unit × (Bool × Unit)))).bind fun r11 =>
  (match r11 with
  | .inl z12 => (some (.inl ((), z12.2.1, z12.2.2.1, IntKind.i64.wrap (p1254.2.2.2.1 + 1), z12.2.2.2.1, ())))
  | .inr z13 => (some (.inr (.inr ((), z13.2.1, ()))))))
  (some (.inr (.inl ((), p1254.2.1, p1254.2.2.1, p1254.2.2.2.2.1, ()))))

noncomputable def chanceryref2_codesOf_l1261 (a0 : (List Int)) (p1261 : (Unit × (Str × (Int × (Int × ((List Str) × Unit)))))) : Option ((Unit × (Str × (Int × (Int × ((List Str) × Unit))))) ⊕ ((Unit × ((List Str) × Unit)) ⊕ (Unit × (Bool × Unit)))) :=
  cond (decide (p1261.2.2.2.1 ≤ 15))
  ((loop (chanceryref2_codesOf_l1254 a0 p1261) ((), p1261.2.1, p1261.2.2.1, 0, p1261.2.2.2.2.1, ())).bind fun r14 =>
  (match r14 with
  | .inl z15 => (some (.inl ((), z15.2.1, z15.2.2.1, IntKind.i64.wrap (p1261.2.2.2.1 + 1), z15.2.2.2.1, ())))
  | .inr z16 => (some (.inr (.inr ((), z16.2.1, ()))))))
  (some (.inr (.inl ((), p1261.2.2.2.2.1, ()))))

noncomputable def chanceryref2_codesOf (a0 : (List Int)) : Option ((List Str) × (Bool × Unit)) :=
  (mk (a0.length : Int) (a0.length : Int) []).bind fun v1 =>
  (loop (chanceryref2_codesOf_l1261 a0) ((), [], 0, 1, v1, ())).bind fun r17 =>
  (match r17 with
  | .inl z18 => (some (z18.2.1, true, ()))
  | .inr z19 => (some ([], z19.2.1, ())))

noncomputable def chanceryref2_Decimal_s (rec : Int → Option (Str × Unit)) (a0 : Int) : Option (Str × Unit) :=
  cond (decide (a0 ≤ (-10)))
  ((quo .i64 a0 10).bind fun v1 =>
  (rec v1).bind fun v2 =>
  (rem a0 10).bind fun v3 =>
  (cat v2.1 (bytesStr [IntKind.u8.wrap (IntKind.i64.wrap (48 - v3))])).bind fun v4 =>
  some (v4, ()))
  (cond (decide (a0 < 0))
  ((cat [45] (bytesStr [IntKind.u8.wrap (IntKind.i64.wrap (48 - a0))])).bind fun v5 =>
  some (v5, ()))
  (cond (decide (10 ≤ a0))
  ((quo .i64 a0 10).bind fun v6 =>
  (rec v6).bind fun v7 =>
  (rem a0 10).bind fun v8 =>
  (cat v7.1 (bytesStr [IntKind.u8.wrap (IntKind.i64.wrap (48 + v8))])).bind fun v9 =>
  some (v9, ()))
  (some (bytesStr [IntKind.u8.wrap (IntKind.i64.wrap (48 + a0))], ()))))

noncomputable def chanceryref2_Decimal_f : Nat → Int → Option (Str × Unit)
  | 0 => fun _ => none
  | n + 1 => chanceryref2_Decimal_s (chanceryref2_Decimal_f n)

noncomputable def chanceryref2_Decimal (a0 : Int) : Option (Str × Unit) := chanceryref2_Decimal_f rounds a0

noncomputable def chanceryref2_Unsquash_l427 (v5 : Str) (p427 : (Unit × (Int × ((List Int) × Unit)))) : Option ((Unit × (Int × ((List Int) × Unit))) ⊕ (Unit × ((List Int) × Unit))) :=
  cond (decide (p427.2.1 < 136))
  ((idx v5 p427.2.1).bind fun v6 =>
  (quo .i64 (IntKind.i64.wrap (ofByte v6)) 16).bind fun v7 =>
  (idx v5 p427.2.1).bind fun v8 =>
  (rem (IntKind.i64.wrap (ofByte v8)) 16).bind fun v9 =>
  (cat p427.2.2.1 [v7, v9]).bind fun v10 =>
  some (.inl ((), IntKind.i64.wrap (p427.2.1 + 1), v10, ())))
  (some (.inr ((), p427.2.2.1, ())))

noncomputable def chanceryref2_Unsquash_l479 (v12 : ((List Str) × (Bool × Unit))) (v18 : Str) (p479 : (Int × (Int × Unit))) : Option ((Int × (Int × Unit)) ⊕ (Int × Unit)) :=
  cond (decide (p479.2.1 < (v12.1.length : Int)))
  (((idx v12.1 p479.2.1).bind fun v19 =>
  cond (decide (v19 = v18))
  (some p479.2)
  (some (p479.1, ())) : Option (Int × Unit)).bind fun r20 =>
  some (.inl (r20.1, IntKind.i64.wrap (p479.2.1 + 1), ())))
  (some (.inr (p479.1, ())))

noncomputable def chanceryref2_Unsquash_l487 (v14 : ((List Int) × Unit)) (v12 : ((List Str) × (Bool × Unit))) (p487 : (Int × (Int × (Str × Unit)))) : Option ((Int × (Int × (Str × Unit))) ⊕ ((Int × (Int × Unit)) ⊕ (Str × (Int × Unit)))) :=
  (cond (decide (p487.2.1 < 0))
  (some ((decide ((p487.2.2.1.length : Int) < 15)), ()))
  (some (false, ())) : Option (Bool × Unit)).bind fun r15 =>
  cond r15.1
  (cond (decide (p487.1 = (v14.1.length : Int)))
  (some (.inr (.inr ([], 11, ()))))
  ((idx v14.1 p487.1).bind fun v16 =>
  (chanceryref2_Decimal v16).bind fun v17 =>
  (cat p487.2.2.1 v17.1).bind fun v18 =>
  (loop (chanceryref2_Unsquash_l479 v12 v18) (p487.2.1, 0, ())).bind fun r21 =>
  some (.inl (IntKind.i64.wrap (p487.1 + 1), r21.1, v18, ()))))
  (some (.inr (.inl (p487.1, p487.2.1, ()))))

noncomputable def chanceryref2_Unsquash_l518 (z23 : (Int × (Int × Unit))) (p518 : (Int × (Int × Unit))) : Option ((Int × (Int × Unit)) ⊕ (Int × Unit)) :=
  cond (decide (p518.2.1 < (IntKind.i64.wrap (z23.2.1 - 256))))
  ((shc (IntKind.i64.wrap (p518.2.1 - 7))).bind fun v25 =>
  some (.inl (IntKind.i64.wrap (p518.1 + (shl .i64 1 v25)), IntKind.i64.wrap (p518.2.1 + 1), ())))
  (some (.inr (p518.1, ())))

noncomputable def chanceryref2_Unsquash_l560 (r27 : (Int × (Int × Unit))) (v29 : (Int × Unit)) (v31 : (Int × Unit)) (p560 : (Str × (Int × Unit))) : Option ((Str × (Int × Unit)) ⊕ (Str × Unit)) :=
  cond (decide (p560.2.1 < (IntKind.i64.wrap (r27.1 + v29.1))))
  (let v33 : Int := IntKind.i64.wrap ((p560.1.length : Int) - (IntKind.i64.wrap (v31.1 + 1)))
  let v34 : Int := IntKind.i64.wrap ((p560.1.length : Int) - (IntKind.i64.wrap (v31.1 + 1)))
  (cut p560.1 v33 (IntKind.i64.wrap (v34 + 1))).bind fun v35 =>
  (cat p560.1 v35).bind fun v36 =>
  some (.inl (v36, IntKind.i64.wrap (p560.2.1 + 1), ())))
  (some (.inr (p560.1, ())))

noncomputable def chanceryref2_Unsquash_l579 (v3 : (Int × Unit)) (v14 : ((List Int) × Unit)) (v12 : ((List Str) × (Bool × Unit))) (p579 : (Int × (Str × Unit))) : Option ((Int × (Str × Unit)) ⊕ ((Int × (Str × Unit)) ⊕ (Str × (Int × Unit)))) :=
  cond (decide ((p579.2.1.length : Int) < v3.1))
  ((loop (chanceryref2_Unsquash_l487 v14 v12) (p579.1, (-1), [], ())).bind fun r22 =>
  (match r22 with
  | .inl z23 => (cond (decide (z23.2.1 < 0))
  (some (.inr (.inr ([], 4, ()))))
  (cond (decide (z23.2.1 < 256))
  ((cat p579.2.1 (bytesStr [IntKind.u8.wrap z23.2.1])).bind fun v24 =>
  some (.inl (z23.1, v24, ())))
  ((cond (decide (8 ≤ (IntKind.i64.wrap (z23.2.1 - 256))))
  ((loop (chanceryref2_Unsquash_l518 z23) (11, 8, ())).bind fun r26 =>
  some (r26.1, IntKind.i64.wrap ((IntKind.i64.wrap (z23.2.1 - 256)) - 7), ()))
  (some (IntKind.i64.wrap (3 + (IntKind.i64.wrap (z23.2.1 - 256))), 0, ())) : Option (Int × (Int × Unit))).bind fun r27 =>
  cond (decide ((v14.1.length : Int) < (IntKind.i64.wrap ((IntKind.i64.wrap (z23.1 + r27.2.1)) + 15))))
  (some (.inr (.inr ([], 11, ()))))
  ((cut v14.1 z23.1 (IntKind.i64.wrap (z23.1 + r27.2.1))).bind fun v28 =>
  (chanceryref2_numberOf v28).bind fun v29 =>
  (cut v14.1 (IntKind.i64.wrap (z23.1 + r27.2.1)) (IntKind.i64.wrap ((IntKind.i64.wrap (z23.1 + r27.2.1)) + 15))).bind fun v30 =>
  (chanceryref2_numberOf v30).bind fun v31 =>
  cond (decide ((p579.2.1.length : Int) < (IntKind.i64.wrap (v31.1 + 1))))
  (some (.inr (.inr ([], 2, ()))))
  (let v32 : Int := IntKind.i64.wrap ((p579.2.1.length : Int) + (IntKind.i64.wrap (r27.1 + v29.1)))
  cond (decide (v3.1 < v32))
  (some (.inr (.inr ([], 3, ()))))
  ((loop (chanceryref2_Unsquash_l560 r27 v29 v31) (p579.2.1, 0, ())).bind fun r37 =>
  some (.inl (IntKind.i64.wrap (z23.1 + (IntKind.i64.wrap (r27.2.1 + 15))), r37.1, ()))))))))
  | .inr z38 => (some (.inr (.inr z38)))))
  (some (.inr (.inl p579)))

noncomputable def chanceryref2_Unsquash_l597 (v14 : ((List Int) × Unit)) (p597 : (Int × Unit)) : Option ((Int × Unit) ⊕ ((Int × Unit) ⊕ (Str × (Int × Unit)))) :=
  (rem p597.1 8).bind fun v41 =>
  cond (!decide (v41 = 0))
  ((idx v14.1 p597.1).bind fun v42 =>
  cond (!decide (v42 = 0))
  (some (.inr (.inr ([], 4, ()))))
  (some (.inl (IntKind.i64.wrap (p597.1 + 1), ()))))
  (some (.inr (.inl p597)))

noncomputable def chanceryref2_Unsquash (a0 : Str) : Option (Str × (Int × Unit)) :=
  cond (decide ((a0.length : Int) < 5))
  (some ([], 11, ()))
  ((cut a0 0 4).bind fun v1 =>
  (chanceryref2_bitsOf v1).bind fun v2 =>
  (chanceryref2_numberOf v2.1).bind fun v3 =>
  (idx a0 4).bind fun v4 =>
  (cut a0 5 (a0.length : Int)).bind fun v5 =>
  cond (decide (1 < (ofByte v4)))
  (some ([], 8, ()))
  (cond (decide ((ofByte v4) = 0))
  (cond (decide ((v5.length : Int) < v3.1))
  (some ([], 11, ()))
  (cond (decide (v3.1 < (v5.length : Int)))
  (some ([], 4, ()))
  (some (v5, 0, ()))))
  (cond (decide ((v5.length : Int) < 136))
  (some ([], 11, ()))
  ((loop (chanceryref2_Unsquash_l427 v5) ((), 0, [], ())).bind fun r11 =>
  (chanceryref2_codesOf r11.2.1).bind fun v12 =>
  cond (!v12.2.1)
  (some ([], 4, ()))
  ((cut v5 136 (v5.length : Int)).bind fun v13 =>
  (chanceryref2_bitsOf v13).bind fun v14 =>
  (loop (chanceryref2_Unsquash_l579 v3 v14 v12) (0, [], ())).bind fun r39 =>
  (match r39 with
  | .inl z40 => ((loop (chanceryref2_Unsquash_l597 v14) (z40.1, ())).bind fun r43 =>
  (match r43 with
  | .inl z44 => (cond (decide (z44.1 < (v14.1.length : Int)))
  (some ([], 4, ()))
  (some (z40.2.1, 0, ())))
  | .inr z45 => (some z45)))
  | .inr z46 => (some z46)))))))

noncomputable def chancerylaw2_SquashUnpackMatches (a0 : Str) (a1 : Int) : Option (Bool × Unit) :=
  (squash_Unpack [0, 0, 0, 2, 0, 65, 66]).bind fun v1 =>
  (cond (!decide (v1.2.1 = 0))
  (some (true, ()))
  (some ((!decide (v1.1 = [65, 66])), ())) : Option (Bool × Unit)).bind fun r2 =>
  cond r2.1
  (some (false, ()))
  ((cut a0 0 (mn (a0.length : Int) 400)).bind fun v3 =>
  ((cond (decide (4 ≤ (v3.length : Int)))
  ((rem a1 4).bind fun v4 =>
  some ((!decide (v4 = 0)), ()))
  (some (false, ())) : Option (Bool × Unit)).bind fun r5 =>
  cond r5.1
  ((chancerylaw2_mod a1 3).bind fun v6 =>
  (shc 3).bind fun v7 =>
  (cat [0, 0] (bytesStr [IntKind.u8.wrap v6.1, IntKind.u8.wrap (shr .i64 a1 v7)])).bind fun v8 =>
  (cut v3 4 (v3.length : Int)).bind fun v9 =>
  (cat v8 v9).bind fun v10 =>
  some (v10, ()))
  (some (v3, ())) : Option (Str × Unit)).bind fun r11 =>
  ((cond (decide (4 ≤ (r11.1.length : Int)))
  ((idx r11.1 0).bind fun v12 =>
  cond (!decide ((ofByte v12) = 0))
  (cond (true)
  (cond ((decide (5 < (r11.1.length : Int))))
  ((idx r11.1 4).bind fun v13 =>
  some ((decide ((ofByte v13) = 1)), ()))
  (some (false, ())))
  (some (false, ())))
  ((idx r11.1 1).bind fun v14 =>
  let v15 : Bool := ((!decide ((ofByte v14) = 0)))
  cond v15
  (cond ((decide (5 < (r11.1.length : Int))))
  ((idx r11.1 4).bind fun v16 =>
  some ((decide ((ofByte v16) = 1)), ()))
  (some (false, ())))
  (some (false, ()))))
  (some (false, ())) : Option (Bool × Unit)).bind fun r17 =>
  cond r17.1
  ((cut r11.1 2 (r11.1.length : Int)).bind fun v18 =>
  (cat [0, 0] v18).bind fun v19 =>
  some (v19, ()))
  (some r11) : Option (Str × Unit)).bind fun r20 =>
  (squash_Unpack r20.1).bind fun v21 =>
  (chanceryref2_Unsquash r20.1).bind fun v22 =>
  cond (decide (v21.1 = v22.1))
  (some ((decide (v21.2.1 = v22.2.1)), ()))
  (some (false, ())))

noncomputable def chancerylaw2_SquashReadsOthers_1_l638 (a0 : Int) (p638 : (Unit × (Int × ((Str × Unit) × Unit)))) : Option ((Unit × (Int × ((Str × Unit) × Unit))) ⊕ (Unit × ((Str × Unit) × Unit))) :=
  cond (decide (0 ≤ p638.2.1))
  ((shc p638.2.1).bind fun v1 =>
  (chanceryref2_Decimal (band .i64 (shr .i64 a0 v1) 1)).bind fun v2 =>
  (cat p638.2.2.1.1 v2.1).bind fun v3 =>
  some (.inl ((), IntKind.i64.wrap (p638.2.1 - 1), (v3, ()), ())))
  (some (.inr ((), p638.2.2.1, ())))

noncomputable def chancerylaw2_SquashReadsOthers_1 (a0 : Int) (a1 : Int) (o0 : Str) : Option (Unit × ((Str × Unit) × Unit)) :=
  (loop (chancerylaw2_SquashReadsOthers_1_l638 a0) ((), IntKind.i64.wrap (a1 - 1), (o0, ()), ())).bind fun r4 =>
  some ((), r4.2.1, ())

noncomputable def chancerylaw2_SquashReadsOthers_l91 (r16 : (Unit × (Int × (Int × ((List (Int × (Int × (Int × (Int × Unit))))) × Unit))))) (v19 : (Int × Unit)) (v12 : (Int × Unit)) (p91 : (Unit × (Str × (Int × ((List (Int × (Int × (Int × (Int × Unit))))) × Unit))))) : Option ((Unit × (Str × (Int × ((List (Int × (Int × (Int × (Int × Unit))))) × Unit)))) ⊕ (Unit × (Str × ((List (Int × (Int × (Int × (Int × Unit))))) × Unit)))) :=
  cond (decide (p91.2.2.1 < (IntKind.i64.wrap (r16.2.1 + v19.1))))
  (let v22 : Int := IntKind.i64.wrap ((p91.2.1.length : Int) - (IntKind.i64.wrap (1 + v12.1)))
  let v23 : Int := IntKind.i64.wrap ((p91.2.1.length : Int) - (IntKind.i64.wrap (1 + v12.1)))
  (cut p91.2.1 v22 (IntKind.i64.wrap (v23 + 1))).bind fun v24 =>
  (cat p91.2.1 v24).bind fun v25 =>
  some (.inl ((), v25, IntKind.i64.wrap (p91.2.2.1 + 1), p91.2.2.2.1, ())))
  (some (.inr ((), p91.2.1, p91.2.2.2.1, ())))

noncomputable def chancerylaw2_SquashReadsOthers_l107 (v1 : (List Int)) (p107 : (Unit × (Str × (Int × ((List (Int × (Int × (Int × (Int × Unit))))) × Unit))))) : Option ((Unit × (Str × (Int × ((List (Int × (Int × (Int × (Int × Unit))))) × Unit)))) ⊕ (Unit × (Str × ((List (Int × (Int × (Int × (Int × Unit))))) × Unit)))) :=
  cond (decide (p107.2.2.1 < (v1.length : Int)))
  (((idx v1 p107.2.2.1).bind fun v2 =>
  (cond (decide (p107.2.1 = []))
  (some ((), true, p107.2.2.2.1, ()))
  ((chancerylaw2_mod v2 4).bind fun v3 =>
  cond ((decide (0 < v3.1)))
  (some ((), true, p107.2.2.2.1, ()))
  (some ((), (decide (2000 < (p107.2.1.length : Int))), p107.2.2.2.1, ()))) : Option (Unit × (Bool × ((List (Int × (Int × (Int × (Int × Unit))))) × Unit)))).bind fun r4 =>
  cond r4.2.1
  ((quo .i64 v2 4).bind fun v5 =>
  (rem p107.2.2.1 5).bind fun v6 =>
  (chancerylaw2_mod v5 (IntKind.i64.wrap (3 + v6))).bind fun v7 =>
  let v8 : Int := IntKind.i64.wrap (IntKind.u8.wrap (IntKind.i64.wrap (97 + v7.1)))
  (cat r4.2.2.1 [(v8, 0, 0, 0, ())]).bind fun v9 =>
  (cat p107.2.1 (bytesStr [IntKind.u8.wrap (IntKind.i64.wrap (97 + v7.1))])).bind fun v10 =>
  some ((), v10, v9, ()))
  ((quo .i64 v2 4).bind fun v11 =>
  (chancerylaw2_mod v11 (p107.2.1.length : Int)).bind fun v12 =>
  (quo .i64 v2 64).bind fun v13 =>
  (chancerylaw2_mod v13 16).bind fun v14 =>
  (cond (decide (8 ≤ v14.1))
  ((chk (inb (IntKind.i64.wrap (v14.1 - 8)) [11, 13, 17, 25, 41, 73, 137, 265].length)).bind fun _ =>
  let v15 : Int := ([11, 13, 17, 25, 41, 73, 137, 265].getD (IntKind.i64.wrap (v14.1 - 8)).toNat 0)
  some ((), v15, IntKind.i64.wrap (v14.1 - 7), r4.2.2.1, ()))
  (some ((), IntKind.i64.wrap (3 + v14.1), 0, r4.2.2.1, ())) : Option (Unit × (Int × (Int × ((List (Int × (Int × (Int × (Int × Unit))))) × Unit))))).bind fun r16 =>
  (quo .i64 v2 1024).bind fun v17 =>
  (shc r16.2.2.1).bind fun v18 =>
  (chancerylaw2_mod v17 (shl .i64 1 v18)).bind fun v19 =>
  let v20 : (Int × (Int × (Int × (Int × Unit)))) := (IntKind.i64.wrap (256 + v14.1), v19.1, r16.2.2.1, IntKind.i64.wrap ((IntKind.i64.wrap (1 + v12.1)) - 1), ())
  (cat r16.2.2.2.1 [v20]).bind fun v21 =>
  (loop (chancerylaw2_SquashReadsOthers_l91 r16 v19 v12) ((), p107.2.1, 0, v21, ())).bind fun r26 =>
  some ((), r26.2.1, r26.2.2.1, ())) : Option (Unit × (Str × ((List (Int × (Int × (Int × (Int × Unit))))) × Unit)))).bind fun r27 =>
  some (.inl ((), r27.2.1, IntKind.i64.wrap (p107.2.2.1 + 1), r27.2.2.1, ())))
  (some (.inr ((), p107.2.1, p107.2.2.2.1, ())))

noncomputable def chancerylaw2_SquashReadsOthers_l131 (r28 : (Unit × (Str × ((List (Int × (Int × (Int × (Int × Unit))))) × Unit)))) (p131 : (Unit × (Unit × (Int × (Unit × (Int × ((List (Int × (Int × (Int × (Int × Unit))))) × ((List Int) × Unit)))))))) : Option ((Unit × (Unit × (Int × (Unit × (Int × ((List (Int × (Int × (Int × (Int × Unit))))) × ((List Int) × Unit))))))) ⊕ (Unit × (Unit × (Int × ((List (Int × (Int × (Int × (Int × Unit))))) × ((List Int) × Unit)))))) :=
  cond (decide (p131.2.2.2.2.1 < (r28.2.2.1.length : Int)))
  (((chk (inb p131.2.2.2.2.1 p131.2.2.2.2.2.1.length)).bind fun _ =>
  let v30 : (Int × (Int × (Int × (Int × Unit)))) := (p131.2.2.2.2.2.1.getD p131.2.2.2.2.1.toNat (0, (0, (0, (0, ())))))
  (chk (inb v30.1 p131.2.2.2.2.2.2.1.length)).bind fun _ =>
  cond (decide ((p131.2.2.2.2.2.2.1.getD v30.1.toNat 0) = 0))
  ((chk (inb v30.1 p131.2.2.2.2.2.2.1.length)).bind fun _ =>
  let v31 : List Int := p131.2.2.2.2.2.2.1.set v30.1.toNat 1
  some ((), (), IntKind.i64.wrap (p131.2.2.1 + 1), (), p131.2.2.2.2.2.1, v31, ()))
  (some ((), (), p131.2.2.1, (), p131.2.2.2.2.2.1, p131.2.2.2.2.2.2.1, ())) : Option (Unit × (Unit × (Int × (Unit × ((List (Int × (Int × (Int × (Int × Unit))))) × ((List Int) × Unit))))))).bind fun r32 =>
  some (.inl ((), (), r32.2.2.1, (), IntKind.i64.wrap (p131.2.2.2.2.1 + 1), r32.2.2.2.2.1, r32.2.2.2.2.2.1, ())))
  (some (.inr ((), (), p131.2.2.1, p131.2.2.2.2.2.1, p131.2.2.2.2.2.2.1, ())))

noncomputable def chancerylaw2_SquashReadsOthers_l143 (r33 : (Unit × (Unit × (Int × ((List (Int × (Int × (Int × (Int × Unit))))) × ((List Int) × Unit)))))) (p143 : (Unit × (Unit × (Int × ((List (Int × (Int × (Int × (Int × Unit))))) × ((List Int) × Unit)))))) : Option ((Unit × (Unit × (Int × ((List (Int × (Int × (Int × (Int × Unit))))) × ((List Int) × Unit))))) ⊕ (Unit × (Unit × (Int × ((List (Int × (Int × (Int × (Int × Unit))))) × ((List Int) × Unit)))))) :=
  (shc p143.2.2.1).bind fun v34 =>
  cond (decide ((shl .i64 1 v34) < r33.2.2.1))
  (some (.inl ((), (), IntKind.i64.wrap (p143.2.2.1 + 1), p143.2.2.2.1, p143.2.2.2.2.1, ())))
  (some (.inr ((), (), p143.2.2.1, p143.2.2.2.1, p143.2.2.2.2.1, ())))

noncomputable def chancerylaw2_SquashReadsOthers_l170 (r35 : (Unit × (Unit × (Int × ((List (Int × (Int × (Int × (Int × Unit))))) × ((List Int) × Unit)))))) (p170 : (Unit × (Unit × (Unit × ((Unit × Unit) × (Unit × (Int × (Int × ((List (Int × (Int × (Int × (Int × Unit))))) × ((List Int) × ((Str × Unit) × ((List Int) × Unit)))))))))))) : Option ((Unit × (Unit × (Unit × ((Unit × Unit) × (Unit × (Int × (Int × ((List (Int × (Int × (Int × (Int × Unit))))) × ((List Int) × ((Str × Unit) × ((List Int) × Unit))))))))))) ⊕ (Unit × (Unit × ((Unit × Unit) × (Unit × ((List (Int × (Int × (Int × (Int × Unit))))) × ((Str × Unit) × ((List Int) × Unit)))))))) :=
  cond (decide (p170.2.2.2.2.2.2.1 < (r35.2.2.2.2.1.length : Int)))
  (((chk (inb p170.2.2.2.2.2.2.1 p170.2.2.2.2.2.2.2.2.1.length)).bind fun _ =>
  cond (decide (0 < (p170.2.2.2.2.2.2.2.2.1.getD p170.2.2.2.2.2.2.1.toNat 0)))
  ((chk (inb p170.2.2.2.2.2.2.1 p170.2.2.2.2.2.2.2.2.1.length)).bind fun _ =>
  let v37 : List Int := p170.2.2.2.2.2.2.2.2.1.set p170.2.2.2.2.2.2.1.toNat r35.2.2.1
  (chk (inb p170.2.2.2.2.2.2.1 p170.2.2.2.2.2.2.2.2.2.2.1.length)).bind fun _ =>
  let v38 : List Int := p170.2.2.2.2.2.2.2.2.2.2.1.set p170.2.2.2.2.2.2.1.toNat p170.2.2.2.2.2.1
  some ((), (), (), ((), ()), (), IntKind.i64.wrap (p170.2.2.2.2.2.1 + 1), p170.2.2.2.2.2.2.2.1, v37, p170.2.2.2.2.2.2.2.2.2.1, v38, ()))
  (some ((), (), (), ((), ()), (), p170.2.2.2.2.2.1, p170.2.2.2.2.2.2.2.1, p170.2.2.2.2.2.2.2.2.1, p170.2.2.2.2.2.2.2.2.2.1, p170.2.2.2.2.2.2.2.2.2.2.1, ())) : Option (Unit × (Unit × (Unit × ((Unit × Unit) × (Unit × (Int × ((List (Int × (Int × (Int × (Int × Unit))))) × ((List Int) × ((Str × Unit) × ((List Int) × Unit))))))))))).bind fun r39 =>
  (chk (inb p170.2.2.2.2.2.2.1 r39.2.2.2.2.2.2.2.1.length)).bind fun _ =>
  (chancerylaw2_SquashReadsOthers_1 (r39.2.2.2.2.2.2.2.1.getD p170.2.2.2.2.2.2.1.toNat 0) 4 r39.2.2.2.2.2.2.2.2.1.1).bind fun v40 =>
  some (.inl ((), (), (), ((), ()), (), r39.2.2.2.2.2.1, IntKind.i64.wrap (p170.2.2.2.2.2.2.1 + 1), r39.2.2.2.2.2.2.1, r39.2.2.2.2.2.2.2.1, v40.2.1, r39.2.2.2.2.2.2.2.2.2.1, ())))
  (some (.inr ((), (), ((), ()), (), p170.2.2.2.2.2.2.2.1, p170.2.2.2.2.2.2.2.2.2.1, p170.2.2.2.2.2.2.2.2.2.2.1, ())))

noncomputable def chancerylaw2_SquashReadsOthers_l194 (r41 : (Unit × (Unit × ((Unit × Unit) × (Unit × ((List (Int × (Int × (Int × (Int × Unit))))) × ((Str × Unit) × ((List Int) × Unit)))))))) (r35 : (Unit × (Unit × (Int × ((List (Int × (Int × (Int × (Int × Unit))))) × ((List Int) × Unit)))))) (p194 : (Unit × ((Unit × Unit) × (Unit × (Unit × (Int × ((Str × Unit) × ((List Int) × ((List (Int × (Int × (Int × (Int × Unit))))) × Unit))))))))) : Option ((Unit × ((Unit × Unit) × (Unit × (Unit × (Int × ((Str × Unit) × ((List Int) × ((List (Int × (Int × (Int × (Int × Unit))))) × Unit)))))))) ⊕ (Unit × ((Str × Unit) × Unit))) :=
  cond (decide (p194.2.2.2.2.1 < (r41.2.2.2.2.1.length : Int)))
  (((chk (inb p194.2.2.2.2.1 p194.2.2.2.2.2.2.2.1.length)).bind fun _ =>
  let v42 : (Int × (Int × (Int × (Int × Unit)))) := (p194.2.2.2.2.2.2.2.1.getD p194.2.2.2.2.1.toNat (0, (0, (0, (0, ())))))
  (chk (inb v42.1 p194.2.2.2.2.2.2.1.length)).bind fun _ =>
  (chancerylaw2_SquashReadsOthers_1 (p194.2.2.2.2.2.2.1.getD v42.1.toNat 0) r35.2.2.1 p194.2.2.2.2.2.1.1).bind fun v43 =>
  cond (decide (256 ≤ v42.1))
  ((chancerylaw2_SquashReadsOthers_1 v42.2.1 v42.2.2.1 v43.2.1.1).bind fun v44 =>
  (chancerylaw2_SquashReadsOthers_1 v42.2.2.2.1 15 v44.2.1.1).bind fun v45 =>
  some ((), ((), ()), (), (), v45.2.1, p194.2.2.2.2.2.2.1, p194.2.2.2.2.2.2.2.1, ()))
  (some ((), ((), ()), (), (), v43.2.1, p194.2.2.2.2.2.2.1, p194.2.2.2.2.2.2.2.1, ())) : Option (Unit × ((Unit × Unit) × (Unit × (Unit × ((Str × Unit) × ((List Int) × ((List (Int × (Int × (Int × (Int × Unit))))) × Unit)))))))).bind fun r46 =>
  some (.inl ((), ((), ()), (), (), IntKind.i64.wrap (p194.2.2.2.2.1 + 1), r46.2.2.2.2.1, r46.2.2.2.2.2.1, r46.2.2.2.2.2.2.1, ())))
  (some (.inr ((), p194.2.2.2.2.2.1, ())))

noncomputable def chancerylaw2_SquashReadsOthers_l205 (p205 : (Unit × ((Str × Unit) × Unit))) : Option ((Unit × ((Str × Unit) × Unit)) ⊕ (Unit × ((Str × Unit) × Unit))) :=
  (rem (p205.2.1.1.length : Int) 8).bind fun v48 =>
  cond (!decide (v48 = 0))
  ((cat p205.2.1.1 [48]).bind fun v49 =>
  some (.inl ((), (v49, ()), ())))
  (some (.inr ((), p205.2.1, ())))

noncomputable def chancerylaw2_SquashReadsOthers_l229 (p239 : (Unit × (Str × (Int × ((Str × Unit) × Unit))))) (p229 : (Unit × (Int × (Int × ((Str × Unit) × Unit))))) : Option ((Unit × (Int × (Int × ((Str × Unit) × Unit)))) ⊕ (Unit × (Int × ((Str × Unit) × Unit)))) :=
  cond (decide (p229.2.2.1 < 8))
  ((idx p229.2.2.2.1.1 (IntKind.i64.wrap (p239.2.2.1 + p229.2.2.1))).bind fun v53 =>
  let v54 : Int := IntKind.i64.wrap ((IntKind.i64.wrap (2 * p229.2.1)) + (IntKind.i64.wrap (IntKind.u8.wrap ((ofByte v53) - 48))))
  some (.inl ((), v54, IntKind.i64.wrap (p229.2.2.1 + 1), p229.2.2.2.1, ())))
  (some (.inr ((), p229.2.1, p229.2.2.2.1, ())))

noncomputable def chancerylaw2_SquashReadsOthers_l239 (p239 : (Unit × (Str × (Int × ((Str × Unit) × Unit))))) : Option ((Unit × (Str × (Int × ((Str × Unit) × Unit)))) ⊕ (Str × Unit)) :=
  cond (decide (p239.2.2.1 < (p239.2.2.2.1.1.length : Int)))
  ((loop (chancerylaw2_SquashReadsOthers_l229 p239) ((), 0, 0, p239.2.2.2.1, ())).bind fun r55 =>
  (cat p239.2.1 (bytesStr [IntKind.u8.wrap r55.2.1])).bind fun v56 =>
  some (.inl ((), v56, IntKind.i64.wrap (p239.2.2.1 + 8), r55.2.2.1, ())))
  (some (.inr (p239.2.1, ())))

noncomputable def chancerylaw2_SquashReadsOthers (a0 : (List Int)) : Option (Bool × Unit) :=
  (cut a0 0 (mn (a0.length : Int) 60)).bind fun v1 =>
  (loop (chancerylaw2_SquashReadsOthers_l107 v1) ((), [], 0, [], ())).bind fun r28 =>
  (mk 272 272 0).bind fun v29 =>
  (loop (chancerylaw2_SquashReadsOthers_l131 r28) ((), (), 0, (), 0, r28.2.2.1, v29, ())).bind fun r33 =>
  (loop (chancerylaw2_SquashReadsOthers_l143 r33) ((), (), 1, r33.2.2.2.1, r33.2.2.2.2.1, ())).bind fun r35 =>
  (mk 272 272 0).bind fun v36 =>
  (loop (chancerylaw2_SquashReadsOthers_l170 r35) ((), (), (), ((), ()), (), 0, 0, r35.2.2.2.1, r35.2.2.2.2.1, ([], ()), v36, ())).bind fun r41 =>
  (loop (chancerylaw2_SquashReadsOthers_l194 r41 r35) ((), ((), ()), (), (), 0, r41.2.2.2.2.2.1, r41.2.2.2.2.2.2.1, r41.2.2.2.2.1, ())).bind fun r47 =>
  (loop chancerylaw2_SquashReadsOthers_l205 ((), r47.2.1, ())).bind fun r50 =>
  (shc 16).bind fun v51 =>
  (shc 8).bind fun v52 =>
  (loop chancerylaw2_SquashReadsOthers_l239 ((), bytesStr [0, IntKind.u8.wrap (shr .i64 (r28.2.1.length : Int) v51), IntKind.u8.wrap (shr .i64 (r28.2.1.length : Int) v52), IntKind.u8.wrap (r28.2.1.length : Int), 1], 0, r50.2.1, ())).bind fun r57 =>
  (squash_Unpack r57.1).bind fun v58 =>
  (cat r57.1 [0]).bind fun v59 =>
  (squash_Unpack v59).bind fun v60 =>
  cond (decide (v58.2.1 = 0))
  (cond ((decide (v58.1 = r28.2.1)))
  (some ((decide (v60.2.1 = 4)), ()))
  (some (false, ())))
  (some (false, ()))

end Go.Proofs.YtmnegopgidckoaaDoor
