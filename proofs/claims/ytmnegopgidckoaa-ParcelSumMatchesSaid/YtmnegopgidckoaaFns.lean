/- Plain functions that the program's functions come to, and the contracts that say so. Printed by a program (fegen.py). -/
import Derived.Test.YtmnegopgidckoaaFeCtx
import Derived.Test.YtmnegopgidckoaaProg
namespace Go.Proofs.Ytmnegopgidckoaa
open Go Go.Fe

noncomputable def parcel_table_l171 (p171 : (Unit × (Unit × (Int × (Int × ((List Int) × ((List Int) × Unit))))))) : Option ((Unit × (Unit × (Int × (Int × ((List Int) × ((List Int) × Unit)))))) ⊕ (Unit × (Unit × (Int × ((List Int) × ((List Int) × Unit)))))) :=
  cond (decide (p171.2.2.2.1 < 8))
  ((cond (decide ((band .u32 p171.2.2.1 1) = 1))
  ((shc 1).bind fun v1 =>
  some ((), (), bxor .u32 (shr .u32 p171.2.2.1 v1) 3988292384, p171.2.2.2.2.1, p171.2.2.2.2.2.1, ()))
  ((shc 1).bind fun v2 =>
  some ((), (), shr .u32 p171.2.2.1 v2, p171.2.2.2.2.1, p171.2.2.2.2.2.1, ()))).bind fun r3 =>
  some (.inl ((), (), r3.2.2.1, IntKind.i64.wrap (p171.2.2.2.1 + 1), r3.2.2.2.1, r3.2.2.2.2.1, ())))
  (some (.inr ((), (), p171.2.2.1, p171.2.2.2.2.1, p171.2.2.2.2.2.1, ())))

noncomputable def parcel_table_l183 (p183 : (Unit × (Unit × (Int × ((List Int) × ((List Int) × Unit)))))) : Option ((Unit × (Unit × (Int × ((List Int) × ((List Int) × Unit))))) ⊕ (Unit × (Unit × ((List Int) × ((List Int) × Unit))))) :=
  cond (decide (p183.2.2.1 < 256))
  ((loop parcel_table_l171 ((), (), IntKind.u32.wrap p183.2.2.1, 0, p183.2.2.2.1, p183.2.2.2.2.1, ())).bind fun r4 =>
  (chk (inb p183.2.2.1 256)).bind fun _ =>
  let v5 : List Int := r4.2.2.2.2.1.set p183.2.2.1.toNat r4.2.2.1
  some (.inl ((), (), IntKind.i64.wrap (p183.2.2.1 + 1), r4.2.2.2.1, v5, ())))
  (some (.inr ((), (), p183.2.2.2.1, p183.2.2.2.2.1, ())))

noncomputable def parcel_table : Option ((List Int) × Unit) :=
  (loop parcel_table_l183 ((), (), 0, (List.replicate 256 0), (List.replicate 256 0), ())).bind fun r6 =>
  some (r6.2.2.2.1, ())

noncomputable def parcel_Sum_l24 (a0 : Str) (p24 : (Unit × (Int × (Int × ((List Int) × Unit))))) : Option ((Unit × (Int × (Int × ((List Int) × Unit)))) ⊕ (Int × Unit)) :=
  cond (decide (p24.2.2.1 < (a0.length : Int)))
  ((shc 8).bind fun v2 =>
  (idx a0 p24.2.2.1).bind fun v3 =>
  (chk (inb (bxor .u8 (IntKind.u8.wrap p24.2.1) (ofByte v3)) 256)).bind fun _ =>
  let v4 : Int := (p24.2.2.2.1.getD (bxor .u8 (IntKind.u8.wrap p24.2.1) (ofByte v3)).toNat 0)
  some (.inl ((), bxor .u32 (shr .u32 p24.2.1 v2) v4, IntKind.i64.wrap (p24.2.2.1 + 1), p24.2.2.2.1, ())))
  (some (.inr (p24.2.1, ())))

noncomputable def parcel_Sum (a0 : Str) : Option (Int × Unit) :=
  (parcel_table).bind fun v1 =>
  (loop (parcel_Sum_l24 a0) ((), 4294967295, 0, v1.1, ())).bind fun r5 =>
  let v6 : Int := bxor .u32 (if IntKind.signed .u32 then -1 else IntKind.max .u32) r5.1
  some (IntKind.i64.wrap v6, ())

noncomputable def chanceryref2_Sum_l49 (p49 : (Unit × (Int × ((List Int) × Unit)))) : Option ((Unit × (Int × ((List Int) × Unit))) ⊕ (Unit × ((List Int) × Unit))) :=
  cond (decide (p49.2.1 < 32))
  ((chk (inb p49.2.1 32)).bind fun _ =>
  let v1 : List Int := p49.2.2.1.set p49.2.1.toNat 1
  some (.inl ((), IntKind.i64.wrap (p49.2.1 + 1), v1, ())))
  (some (.inr ((), p49.2.2.1, ())))

noncomputable def chanceryref2_Sum_l77 (p77 : (Unit × (Int × ((List Int) × Unit)))) : Option ((Unit × (Int × ((List Int) × Unit))) ⊕ (Unit × ((List Int) × Unit))) :=
  cond (decide (p77.2.1 < 31))
  ((chk (inb (IntKind.i64.wrap (p77.2.1 + 1)) 32)).bind fun _ =>
  (chk (inb p77.2.1 32)).bind fun _ =>
  let v6 : List Int := p77.2.2.1.set p77.2.1.toNat (p77.2.2.1.getD (IntKind.i64.wrap (p77.2.1 + 1)).toNat 0)
  some (.inl ((), IntKind.i64.wrap (p77.2.1 + 1), v6, ())))
  (some (.inr ((), p77.2.2.1, ())))

noncomputable def chanceryref2_Sum_l95 (p95 : (Unit × (Int × ((List Int) × Unit)))) : Option ((Unit × (Int × ((List Int) × Unit))) ⊕ (Unit × ((List Int) × Unit))) :=
  cond (decide (p95.2.1 < 32))
  ((chk (inb p95.2.1 32)).bind fun _ =>
  (shc p95.2.1).bind fun v9 =>
  let v10 : Int := bxor .i64 (p95.2.2.1.getD p95.2.1.toNat 0) (band .i64 (shr .i64 3988292384 v9) 1)
  (chk (inb p95.2.1 32)).bind fun _ =>
  let v11 : List Int := p95.2.2.1.set p95.2.1.toNat v10
  some (.inl ((), IntKind.i64.wrap (p95.2.1 + 1), v11, ())))
  (some (.inr ((), p95.2.2.1, ())))

noncomputable def chanceryref2_Sum_l110 (a0 : Str) (p119 : (Unit × (Int × ((List Int) × Unit)))) (p110 : (Unit × (Int × ((List Int) × Unit)))) : Option ((Unit × (Int × ((List Int) × Unit))) ⊕ (Unit × ((List Int) × Unit))) :=
  cond (decide (p110.2.1 < 8))
  (((chk (inb 0 32)).bind fun _ =>
  (idx a0 p119.2.1).bind fun v3 =>
  (shc p110.2.1).bind fun v4 =>
  let v5 : Int := bxor .i64 (p110.2.2.1.getD (0 : Int).toNat 0) (band .i64 (shr .i64 (IntKind.i64.wrap (ofByte v3)) v4) 1)
  (loop chanceryref2_Sum_l77 ((), 0, p110.2.2.1, ())).bind fun r7 =>
  (chk (inb 31 32)).bind fun _ =>
  let v8 : List Int := r7.2.1.set (31 : Int).toNat 0
  cond (decide (v5 = 1))
  ((loop chanceryref2_Sum_l95 ((), 0, v8, ())).bind fun r12 =>
  some ((), r12.2.1, ()))
  (some ((), v8, ()))).bind fun r13 =>
  some (.inl ((), IntKind.i64.wrap (p110.2.1 + 1), r13.2.1, ())))
  (some (.inr ((), p110.2.2.1, ())))

noncomputable def chanceryref2_Sum_l119 (a0 : Str) (p119 : (Unit × (Int × ((List Int) × Unit)))) : Option ((Unit × (Int × ((List Int) × Unit))) ⊕ (Unit × ((List Int) × Unit))) :=
  cond (decide (p119.2.1 < (a0.length : Int)))
  ((loop (chanceryref2_Sum_l110 a0 p119) ((), 0, p119.2.2.1, ())).bind fun r14 =>
  some (.inl ((), IntKind.i64.wrap (p119.2.1 + 1), r14.2.1, ())))
  (some (.inr ((), p119.2.2.1, ())))

noncomputable def chanceryref2_Sum_l134 (p134 : (Unit × (Int × (Int × ((List Int) × Unit))))) : Option ((Unit × (Int × (Int × ((List Int) × Unit)))) ⊕ (Int × Unit)) :=
  cond (decide (0 ≤ p134.2.2.1))
  ((chk (inb p134.2.2.1 32)).bind fun _ =>
  let v16 : Int := IntKind.i64.wrap ((IntKind.i64.wrap ((IntKind.i64.wrap (2 * p134.2.1)) + 1)) - (p134.2.2.2.1.getD p134.2.2.1.toNat 0))
  some (.inl ((), v16, IntKind.i64.wrap (p134.2.2.1 - 1), p134.2.2.2.1, ())))
  (some (.inr (p134.2.1, ())))

noncomputable def chanceryref2_Sum (a0 : Str) : Option (Int × Unit) :=
  (loop chanceryref2_Sum_l49 ((), 0, (List.replicate 32 0), ())).bind fun r2 =>
  (loop (chanceryref2_Sum_l119 a0) ((), 0, r2.2.1, ())).bind fun r15 =>
  (loop chanceryref2_Sum_l134 ((), 0, 31, r15.2.1, ())).bind fun r17 =>
  some (r17.1, ())

noncomputable def chancerylaw2_ParcelSumMatches (a0 : Str) : Option (Bool × Unit) :=
  (cut a0 0 (mn (a0.length : Int) 500)).bind fun v1 =>
  (parcel_Sum [49, 50, 51, 52, 53, 54, 55, 56, 57]).bind fun v2 =>
  cond (decide (v2.1 = 3421780262))
  ((parcel_Sum v1).bind fun v3 =>
  (chanceryref2_Sum v1).bind fun v4 =>
  some (cond true (decide (v3.1 = v4.1)) false, ()))
  ((chk (!false)).bind fun _ =>
  some (false, ()))

def feTab : List (TypeId × Ty) := [(3, (.int .i64)), (5, (.int .u8)), (9, .str), (24, (.int .u32)), (25, (.arr 256 (.int .u32))), (28, (.arr 32 (.int .i64)))]
noncomputable def fe0 : Ctx := Ctx.base feTab (fun _ => none)
theorem fe0_ok : CtxOK fe0 Try.prog := base_ok (by kernel_rfl)
theorem feMixed : Try.prog.follows .mixedOrders = true := by kernel_rfl
def inst6 : Inst := { args := [], objs := [], nres := 1, out := [(90000, (.val (.arr 256 (.int .u32))))], news := 0 }
noncomputable def run6 : Ks.den inst6.args → Ks.den inst6.objs → Option inst6.out.den := fun _ _ => parcel_table
def hint6 : HC := (.seq (.region [{ new := [10] }]) (.seq (.region [{ new := [11] }]) (.seq (.seq (.region []) (.block (.loop [(0, (.ptr 12 0)), (1, (.ptr 13 0)), (4, (.val (.int .i64))), (100012, (.vec (some 256) (.int .u32))), (100013, (.vec (some 256) (.int .u32)))] [((.exit 0), [(0, (.ptr 20 0)), (1, (.ptr 21 0)), (100020, (.vec (some 256) (.int .u32))), (100021, (.vec (some 256) (.int .u32)))])] (.seq (.region []) (.seq (.cond .leaf .leaf) (.seq (.block (.seq (.region []) (.seq (.region []) (.seq (.seq (.region []) (.block (.loop [(0, (.ptr 14 0)), (1, (.ptr 15 0)), (3, (.val (.int .u32))), (9, (.val (.int .i64))), (100014, (.vec (some 256) (.int .u32))), (100015, (.vec (some 256) (.int .u32)))] [((.exit 2), [(0, (.ptr 18 0)), (1, (.ptr 19 0)), (3, (.val (.int .u32))), (100018, (.vec (some 256) (.int .u32))), (100019, (.vec (some 256) (.int .u32)))])] (.seq (.region []) (.seq (.cond .leaf .leaf) (.seq (.cut [(.normal, [(0, (.ptr 16 0)), (1, (.ptr 17 0)), (3, (.val (.int .u32))), (100016, (.vec (some 256) (.int .u32))), (100017, (.vec (some 256) (.int .u32)))])] (.block (.seq (.region []) (.cond (.region []) (.region []))))) (.region []))))))) (.region [{}, {}, { rd := [19] }, { wr := [19] }]))))) (.region []))))))) (.seq (.region [{ rd := [21] }, { wr := [20] }]) .leaf))))
theorem ev6 : ∀ x y, evFn fe0 25 (bodyOf Try.f6) [.cell 0 25] hint6 inst6 x y = run6 x y := by intro x y; kernel_rfl
theorem ok6 : FnOK Try.prog fe0.glob 6 (inst6.sem run6) :=
  fn_add fe0_ok feMixed 6 Try.f6 [.cell 0 25] hint6 inst6 25 run6 Try.func6 (by kernel_rfl) Try.ntmps6 (by kernel_rfl) (by kernel_rfl) ev6
noncomputable def fe1006 : Ctx := fe0.add 6 (inst6.sem run6)
theorem fe1006_ok : CtxOK fe1006 Try.prog := add_ok fe0_ok ok6 Try.call6
def inst4 : Inst := { args := [(.val .str)], objs := [], nres := 1, out := [(90000, (.val (.int .i64)))], news := 0 }
noncomputable def run4 : Ks.den inst4.args → Ks.den inst4.objs → Option inst4.out.den := fun x _ => parcel_Sum x.1
def hint4 : HC := (.seq (.region []) (.seq (.region [{}, { new := [10] }, { wr := [10] }]) (.seq (.region []) (.seq (.seq (.region []) (.block (.loop [(3, (.ptr 11 0)), (4, (.val (.int .u32))), (9, (.val (.int .i64))), (100011, (.vec (some 256) (.int .u32)))] [((.exit 0), [(4, (.val (.int .u32)))])] (.seq (.region []) (.seq (.cond .leaf .leaf) (.seq (.block (.seq (.region []) (.region [{}, {}, {}, {}, {}, {}, {}, {}, { rd := [11] }, { rd := [11] }]))) (.region []))))))) (.seq (.region []) .leaf)))))
theorem ev4 : ∀ x y, evFn fe1006 27 (bodyOf Try.f4) [.tmp 2] hint4 inst4 x y = run4 x y := by intro x y; kernel_rfl
theorem ok4 : FnOK Try.prog fe1006.glob 4 (inst4.sem run4) :=
  fn_add fe1006_ok feMixed 4 Try.f4 [.tmp 2] hint4 inst4 27 run4 Try.func4 (by kernel_rfl) Try.ntmps4 (by kernel_rfl) (by kernel_rfl) ev4
noncomputable def fe1004 : Ctx := fe1006.add 4 (inst4.sem run4)
theorem fe1004_ok : CtxOK fe1004 Try.prog := add_ok fe1006_ok ok4 Try.call4
def inst5 : Inst := { args := [(.val .str)], objs := [], nres := 1, out := [(90000, (.val (.int .i64)))], news := 0 }
noncomputable def run5 : Ks.den inst5.args → Ks.den inst5.objs → Option inst5.out.den := fun x _ => chanceryref2_Sum x.1
def hint5 : HC := (.seq (.region []) (.seq (.region [{ new := [10] }]) (.seq (.seq (.region []) (.block (.loop [(3, (.ptr 11 0)), (13, (.val (.int .i64))), (100011, (.vec (some 32) (.int .i64)))] [((.exit 0), [(3, (.ptr 12 0)), (100012, (.vec (some 32) (.int .i64)))])] (.seq (.region []) (.seq (.cond .leaf .leaf) (.seq (.block (.seq (.region []) (.region [{}, { rd := [11] }, { wr := [11] }]))) (.region []))))))) (.seq (.region []) (.seq (.seq (.region []) (.block (.loop [(3, (.ptr 13 0)), (21, (.val (.int .i64))), (100013, (.vec (some 32) (.int .i64)))] [((.exit 2), [(3, (.ptr 21 0)), (100021, (.vec (some 32) (.int .i64)))])] (.seq (.region []) (.seq (.cond .leaf .leaf) (.seq (.block (.seq (.region []) (.seq (.region []) (.block (.loop [(3, (.ptr 14 0)), (24, (.val (.int .i64))), (100014, (.vec (some 32) (.int .i64)))] [((.exit 4), [(3, (.ptr 20 0)), (100020, (.vec (some 32) (.int .i64)))])] (.seq (.region []) (.seq (.cond .leaf .leaf) (.seq (.cut [(.normal, [(3, (.ptr 19 0)), (100019, (.vec (some 32) (.int .i64)))])] (.block (.seq (.region []) (.seq (.region [{ rd := [14] }, { rd := [14] }]) (.seq (.seq (.region []) (.block (.loop [(3, (.ptr 15 0)), (9, (.val (.int .i64))), (100015, (.vec (some 32) (.int .i64)))] [((.exit 6), [(3, (.ptr 16 0)), (100016, (.vec (some 32) (.int .i64)))])] (.seq (.seq (.region []) (.cond .leaf .leaf)) (.seq (.block (.region [{}, {}, {}, { rd := [15] }, { rd := [15] }, { rd := [15] }, { wr := [15] }])) (.region [])))))) (.seq (.region [{ rd := [16] }, { wr := [16] }]) (.seq (.region []) (.cond (.seq (.region []) (.block (.loop [(3, (.ptr 17 0)), (50, (.val (.int .i64))), (100017, (.vec (some 32) (.int .i64)))] [((.exit 8), [(3, (.ptr 18 0)), (100018, (.vec (some 32) (.int .i64)))])] (.seq (.region []) (.seq (.cond .leaf .leaf) (.seq (.block (.seq (.region []) (.region [{}, { rd := [17] }, { rd := [17] }, {}, {}, {}, {}, {}, { rd := [17] }, { wr := [17] }]))) (.region []))))))) .leaf)))))))) (.region []))))))))) (.region []))))))) (.seq (.region []) (.seq (.seq (.region []) (.block (.loop [(3, (.ptr 22 0)), (11, (.val (.int .i64))), (12, (.val (.int .i64))), (100022, (.vec (some 32) (.int .i64)))] [((.exit 10), [(11, (.val (.int .i64)))])] (.seq (.seq (.region []) (.cond .leaf .leaf)) (.seq (.block (.region [{}, {}, {}, {}, { rd := [22] }, { rd := [22] }])) (.region [])))))) (.seq (.region []) .leaf))))))))
theorem ev5 : ∀ x y, evFn fe1004 77 (bodyOf Try.f5) [.tmp 2] hint5 inst5 x y = run5 x y := by intro x y; kernel_rfl
theorem ok5 : FnOK Try.prog fe1004.glob 5 (inst5.sem run5) :=
  fn_add fe1004_ok feMixed 5 Try.f5 [.tmp 2] hint5 inst5 77 run5 Try.func5 (by kernel_rfl) Try.ntmps5 (by kernel_rfl) (by kernel_rfl) ev5
noncomputable def fe1005 : Ctx := fe1004.add 5 (inst5.sem run5)
theorem fe1005_ok : CtxOK fe1005 Try.prog := add_ok fe1004_ok ok5 Try.call5
def inst3 : Inst := { args := [(.val .str)], objs := [], nres := 1, out := [(90000, (.val .bool))], news := 0 }
noncomputable def run3 : Ks.den inst3.args → Ks.den inst3.objs → Option inst3.out.den := fun x _ => chancerylaw2_ParcelSumMatches x.1
def hint3 : HC := (.seq (.region []) (.seq (.region []) (.seq (.region []) .leaf)))
theorem ev3 : ∀ x y, evFn fe1005 17 (bodyOf Try.f3) [.tmp 2] hint3 inst3 x y = run3 x y := by intro x y; kernel_rfl
theorem ok3 : FnOK Try.prog fe1005.glob 3 (inst3.sem run3) :=
  fn_add fe1005_ok feMixed 3 Try.f3 [.tmp 2] hint3 inst3 17 run3 Try.func3 (by kernel_rfl) Try.ntmps3 (by kernel_rfl) (by kernel_rfl) ev3
noncomputable def fe1003 : Ctx := fe1005.add 3 (inst3.sem run3)
theorem fe1003_ok : CtxOK fe1003 Try.prog := add_ok fe1005_ok ok3 Try.call3
end Go.Proofs.Ytmnegopgidckoaa
