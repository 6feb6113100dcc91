/- The contracts that say what the program's functions come to. Printed by a program (fegen.py). -/
import Derived.Test.YtmbejoibeninmaaGreatDoorFun
import Derived.Test.YtmbejoibeninmaaGreatDoorShelf
import Derived.Test.YtmbejoibeninmaaGreatDoorNat
import Derived.WalkKit
import Derived.Lib.Builder
import Derived.BigRegion
import Derived.Test.YtmbejoibeninmaaGreatDoorProg
namespace Go.Proofs
open Go Go.RowKit
set_option maxRecDepth 100000
theorem Tryz.bldUsed (b : Nat) (w : World) (h0 : w.cell? ⟨b, 0, none⟩ = some (.pointer (some ⟨b, 0, none⟩))) :
    Calls Tryz.prog 236 #[.pointer (some ⟨b, 0, none⟩)] w fun e w' => e = .returned (.tuple #[]) ∧ w' = w := by
  obtain ⟨j, hj, _⟩ := Option.map_eq_some_iff.1 (show (Tryz.prog.info? 195).map (·.size) = some 2 by kernel_rfl)
  go_enter Tryz.func236, Tryz.ntmps236
  go_wp2
  rw [Lib.run_neq_ptr_same w _ Tryz.underlying193 hj]
  go_wp2
  go_end0
  exact ⟨rfl, rfl⟩

theorem Tryz.bldFresh (b : Nat) (w : World) (h0 : w.cell? ⟨b, 0, none⟩ = some (.pointer none)) (hsh : w.shape? b = some (195, 2)) (hfz : w.frozen? ⟨b, 0, none⟩ = false) :
    Calls Tryz.prog 236 #[.pointer (some ⟨b, 0, none⟩)] w fun e w' => e = .returned (.tuple #[]) ∧ w' = w.setCell ⟨b, 0, none⟩ (.pointer (some ⟨b, 0, none⟩)) := by
  obtain ⟨j, hj, hjs⟩ := Option.map_eq_some_iff.1 (show (Tryz.prog.info? 195).map (·.size) = some 2 by kernel_rfl)
  have hlies : liesAt Tryz.prog Tryz.prog.depth 195 (2 / Tryz.prog.cellsOf 195) 0 195 1 = true := by kernel_rfl
  go_enter Tryz.func236, Tryz.ntmps236
  go_wp2
  rw [Lib.run_to_unsafe w ⟨b, 0, none⟩ Tryz.underlying193 Tryz.underlying230 hj (by rw [hjs]; decide) hsh (Nat.zero_lt_succ 1)]
  simp only [Result.andThen]
  rw [Oper.upon_value]
  go_wp2
  rw [run_callFunc_extern Tryz.func251 (by kernel_rfl) (by kernel_rfl) (by kernel_rfl) (e := Extern.AbiNoEscape.same) (by kernel_rfl)]
  rw [Lib.run_noEscape]
  simp only [Result.andThen]
  rw [Oper.upon_value]
  go_wp2
  rw [Lib.run_from_unsafe w ⟨b, 0, none⟩ Tryz.underlying230 Tryz.underlying193 hj hsh hlies]
  simp only [Result.andThen]
  rw [Oper.upon_value]
  go_wp2
  go_end0
  exact ⟨rfl, rfl⟩

set_option maxHeartbeats 2000000 in
theorem Tryz.bldStr (b : Nat) (v pv : Value) (a : Option Addr) (n cap : Nat) (s : ByteArray) (w w2 : World) (hv : v = .slice a n cap) (hc : w.cell? ⟨b, 1, none⟩ = some v)
    (h1 : (Builtin.unsafeSliceData_ #[103] 218 #[v]).run Tryz.prog w.drew = .ok pv w.drew) (h2 : (Builtin.unsafeString_ #[218, 3] 9 #[pv, .int .i64 n]).run Tryz.prog w.drew = .ok (.string s) w2) :
    Calls Tryz.prog 212 #[.pointer (some ⟨b, 0, none⟩)] w fun e w' => e = .returned (.string s) ∧ w' = w2 := by
  subst hv
  have hc : w.drew.cell? ⟨b, 1, none⟩ = some (.slice a n cap) := hc
  have mixed : Tryz.prog.follows .mixedOrders = true := by kernel_rfl
  go_enter Tryz.func212, Tryz.ntmps212
  go_wp2
  go_region
  all_goals (go_wp2; go_ret; exact ⟨rfl, rfl⟩)

end Go.Proofs
namespace Go.Proofs.YtmbejoibeninmaaGreatDoor
open Go Go.Fe

abbrev KA6 : K := (.val (.pair .str (.pair .str .unit)))
abbrev KA9 : K := (.val .bool)
abbrev KA10 : K := (.val .str)
abbrev KA4 : K := (.rcd (.cons KA10 (.cons KA10 .unit)))
abbrev YA12 : Ty := (.int .i64)
abbrev YA0 : Ty := (.mu (.pair YA12 (.pair (.pair .str (.pair .str .unit)) (.pair .str (.pair .bool (.pair YA12 (.pair YA12 (.pair YA12 .unit))))))))
abbrev KA3 : K := (.val YA12)
abbrev KA2 : K := (.rcd (.cons KA3 (.cons KA10 (.cons KA10 (.cons KA10 (.cons KA9 (.cons KA3 (.cons KA3 (.cons KA3 (.cons (.val (.sl YA0)) .unit))))))))))
abbrev KA5 : K := (.val (.pair .bool (.pair (.sl YA12) (.pair (.sl YA12) .unit))))
abbrev KA8 : K := (.val (.sl YA12))
abbrev KA1 : K := (.rcd (.cons KA9 (.cons KA8 (.cons KA8 .unit))))
abbrev YA14 : Ty := (.int .u32)
abbrev YA7 : Ty := (.sl YA14)
abbrev KA11 : K := (.val (.pair .bool (.pair YA7 (.pair YA7 .unit))))
abbrev KA13 : K := (.val YA7)
abbrev KA15 : K := (.rcd (.cons KA9 (.cons KA13 (.cons KA13 .unit))))
abbrev YA16 : Ty := (.int .u8)
abbrev KA17 : K := (.val YA0)
abbrev KA18 : K := (.val (.int .u64))
def feTab : List (TypeId × Ty) := [(3, YA12), (4, .bool), (5, YA16), (9, .str), (21, (.int .i32)), (25, (.pair .str (.pair .str .unit))), (26, (.sl YA0)), (28, YA0), (61, (.sl YA12)), (62, (.sl YA12)), (64, (.pair .bool (.pair (.sl YA12) (.pair (.sl YA12) .unit)))), (73, (.arr 9 .str)), (87, (.arr 12 YA12)), (103, (.sl YA16)), (112, (.sl .str)), (123, (.arr 3 .str)), (129, YA7), (131, (.pair .bool (.pair YA7 (.pair YA7 .unit)))), (146, YA14), (154, .err), (174, (.int .u64)), (182, (.arr 256 .bool))]
noncomputable def fe0 : Ctx := (Ctx.withFa (Ctx.withBld (Ctx.base feTab (globOf [(0, ⟨(.arr 9 .str), some [[], [35, 68, 73, 86, 47, 48, 33], [35, 86, 65, 76, 85, 69, 33], [35, 82, 69, 70, 33], [35, 78, 65, 77, 69, 63], [35, 78, 85, 77, 33], [35, 78, 47, 65], [35, 83, 80, 73, 76, 76, 33], [35, 67, 89, 67, 76, 69, 33]]⟩), (1, ⟨(.arr 9 .str), some [[], [35, 68, 73, 86, 47, 48, 33], [35, 86, 65, 76, 85, 69, 33], [35, 82, 69, 70, 33], [35, 78, 65, 77, 69, 63], [35, 78, 85, 77, 33], [35, 78, 47, 65], [35, 83, 80, 73, 76, 76, 33], [35, 67, 89, 67, 76, 69, 33]]⟩), (2, ⟨(.arr 256 YA16), some runeFirst⟩), (3, ⟨(.arr 16 (.pair YA16 (.pair YA16 .unit))), some runeAccept⟩), (4, ⟨YA12, none⟩), (5, ⟨.err, some true⟩), (6, ⟨.err, some true⟩), (7, ⟨(.arr 20 (.int .u64)), some Lib.pow10Tab⟩)])) [195]) [(75, 5), (78, 5)]).eqs [(25, (.pair .str (.pair .str .unit)))]
theorem fe0_ok : CtxOK fe0 Tryz.prog := eqs_ok (fa_ok (bld_ok (base_ok (by kernel_rfl)) (by kernel_rfl)) (by kernel_rfl)) (by kernel_rfl)
theorem feMixed : Tryz.prog.follows .mixedOrders = true := by kernel_rfl
noncomputable def fx46 : Ctx := fe0.add 46 (shelfSem [.str, .str] [.str, .bool] sCutPrefix)
theorem fx46_ok : CtxOK fx46 Tryz.prog := add_ok fe0_ok (okCutPrefix Tryz.strings_CutPrefix) Tryz.call46
noncomputable def fx94 : Ctx := fx46.add 94 (shelfSem [.str] [(.int .i32), YA12] sRune)
theorem fx94_ok : CtxOK fx94 Tryz.prog := add_ok fx46_ok (okRune (g3 := 2) (g4 := 3) rfl rfl Tryz.utf8_DecodeRuneInString) Tryz.call94
noncomputable def fx97 : Ctx := fx94.add 97 (shelfSem [.str, .str] [.str] sTrimPrefix)
theorem fx97_ok : CtxOK fx97 Tryz.prog := add_ok fx94_ok (okTrimPrefix Tryz.strings_TrimPrefix) Tryz.call97
noncomputable def fx99 : Ctx := fx97.add 99 (shelfSem [.str, .str] [.str, .bool] sCutSuffix)
theorem fx99_ok : CtxOK fx99 Tryz.prog := add_ok fx97_ok (okCutSuffix Tryz.strings_CutSuffix) Tryz.call99
noncomputable def fx128 : Ctx := fx99.add 128 (shelfSem [YA12] [.str] sItoa)
theorem fx128_ok : CtxOK fx128 Tryz.prog := add_ok fx99_ok (okItoa (g := 7) rfl (by kernel_rfl) Tryz.strconv_Itoa) Tryz.call128
noncomputable def fx144 : Ctx := fx128.add 144 (shelfSem [.str, .str] [.bool] sHasPrefix)
theorem fx144_ok : CtxOK fx144 Tryz.prog := add_ok fx128_ok (okHasPrefix Tryz.strings_HasPrefix) Tryz.call144
noncomputable def fx159 : Ctx := fx144.add 159 (shelfSem [.str] [YA12, .err] sAtoi)
theorem fx159_ok : CtxOK fx159 Tryz.prog := add_ok fx144_ok (okAtoi (g1 := 5) (g2 := 6) rfl rfl Tryz.strconv_Atoi_ok Tryz.strconv_Atoi_syntax Tryz.strconv_Atoi_range) Tryz.call159
noncomputable def fx176 : Ctx := fx159.add 176 (shelfSem [.str, .str] [.str] sTrimSuffix)
theorem fx176_ok : CtxOK fx176 Tryz.prog := add_ok fx159_ok (okTrimSuffix Tryz.strings_TrimSuffix) Tryz.call176
noncomputable def fx182 : Ctx := fx176.add 182 (shelfSem [.str, YA12] [.str] sRepeat)
theorem fx182_ok : CtxOK fx182 Tryz.prog := add_ok fx176_ok (okRepeat Tryz.strings_Repeat) Tryz.call182
noncomputable def fx184 : Ctx := fx182.add 184 (shelfSem [YA7] [.str] sNatText)
theorem fx184_ok : CtxOK fx184 Tryz.prog := add_ok fx182_ok (Tryz.okNatText rfl) Tryz.call184
noncomputable def fx185 : Ctx := fx184.add 185 (shelfSem [.str, .str] [YA12] sIndex)
theorem fx185_ok : CtxOK fx185 Tryz.prog := add_ok fx184_ok (okIndex Tryz.stringslite_Index_one) Tryz.call185
noncomputable def fx189 : Ctx := fx185.add 189 (shelfSem [.str, YA12] [(.sl .str)] (sNever [Ty.str, (Ty.int .i64)] [(Ty.sl .str)]))
theorem fx189_ok : CtxOK fx189 Tryz.prog := add_ok fx185_ok (okNever (l := [.str, YA12]) (r := [(.sl .str)])) Tryz.call189
noncomputable def fx190 : Ctx := fx189.add 190 (shelfSem [.str, .str] [YA12] sCount)
theorem fx190_ok : CtxOK fx190 Tryz.prog := add_ok fx189_ok (okCount Tryz.strings_Count_one) Tryz.call190
noncomputable def fx197 : Ctx := fx190.add 197 (shelfSem [.str, .str] [.str] (sNever [Ty.str, Ty.str] [Ty.str]))
theorem fx197_ok : CtxOK fx197 Tryz.prog := add_ok fx190_ok (okNever (l := [.str, .str]) (r := [.str])) Tryz.call197
noncomputable def fx207 : Ctx := fx197.add 207 (shelfSem [.str, .str] [.str] (sNever [Ty.str, Ty.str] [Ty.str]))
theorem fx207_ok : CtxOK fx207 Tryz.prog := add_ok fx197_ok (okNever (l := [.str, .str]) (r := [.str])) Tryz.call207
noncomputable def fx212 : Ctx := fx207.add 212 bldStr
theorem fx212_ok : CtxOK fx212 Tryz.prog := add_ok fx207_ok (bld_str (i := 212) (Ts := 103) (Tp := 218) (Ti := 3) (Tz := 9) Tryz.underlying218 (by kernel_rfl) Tryz.bldStr) Tryz.call212
noncomputable def fx236 : Ctx := fx212.add 236 (bldCopy 195)
theorem fx236_ok : CtxOK fx236 Tryz.prog := add_ok fx212_ok (bld_copy Tryz.bldUsed Tryz.bldFresh) Tryz.call236
noncomputable def fx255 : Ctx := fx236.add 255 (shelfSem [.str, YA16] [YA12] sIndexByte)
theorem fx255_ok : CtxOK fx255 Tryz.prog := add_ok fx236_ok (okIndexByte Tryz.strings_IndexByte) Tryz.call255
def inst95 : Inst := { args := [KA3], objs := [], nres := 1, out := [(90000, KA9)], news := 0 }
def hint95 : HC := (.seq (.region []) (.seq (.region []) .leaf))
noncomputable def run95 : Ks.den inst95.args → Ks.den inst95.objs → Option inst95.out.den := fun x _ => flow_Char x.1
theorem ev95 : ∀ x y, evFn fx255 33 (bodyOf Tryz.f95) [.tmp 2] hint95 inst95 x y = run95 x y := by intro x y; kernel_rfl
theorem ok95 : FnOK Tryz.prog fx255.glob 95 (inst95.sem run95) :=
  fn_add fx255_ok feMixed 95 Tryz.f95 [.tmp 2] hint95 inst95 33 run95 Tryz.func95 (by kernel_rfl) Tryz.ntmps95 (by kernel_rfl) (by kernel_rfl) ev95
noncomputable def fx95 : Ctx := fx255.add 95 (inst95.sem run95)
theorem fx95_ok : CtxOK fx95 Tryz.prog := add_ok fx255_ok ok95 Tryz.call95
def inst45 : Inst := { args := [KA10], objs := [], nres := 1, out := [(90000, KA3)], news := 0 }
def hint45 : HC := (.seq (.region []) (.seq (.seq (.region []) (.cond (.seq (.region []) .leaf) .leaf)) (.seq (.block (.loop [(0, KA10)] [((.exit 0), []), (.ret, [(2, KA3)])] (.seq (.seq (.region []) (.cond .leaf .leaf)) (.block (.seq (.region []) (.seq (.seq (.cut [(.normal, [(26, KA9)])] (.region [])) (.cond (.seq (.region []) .leaf) .leaf)) (.region []))))))) (.seq (.region []) .leaf))))
noncomputable def run45 : Ks.den inst45.args → Ks.den inst45.objs → Option inst45.out.den := fun x _ => value_text x.1
theorem ev45 : ∀ x y, evFn fx95 30 (bodyOf Tryz.f45) [.tmp 2] hint45 inst45 x y = run45 x y := by intro x y; kernel_rfl
theorem ok45 : FnOK Tryz.prog fx95.glob 45 (inst45.sem run45) :=
  fn_add fx95_ok feMixed 45 Tryz.f45 [.tmp 2] hint45 inst45 30 run45 Tryz.func45 (by kernel_rfl) Tryz.ntmps45 (by kernel_rfl) (by kernel_rfl) ev45
noncomputable def fx45 : Ctx := fx95.add 45 (inst45.sem run45)
theorem fx45_ok : CtxOK fx45 Tryz.prog := add_ok fx95_ok ok45 Tryz.call45
def inst61 : Inst := { args := [KA17], objs := [], nres := 1, out := [(90000, KA3)], news := 0 }
def hint61 : HC := (.seq (.region [{ new := [10] }]) (.seq (.region [{ rd := [10] }, { rd := [10] }]) (.seq (.cut [(.normal, [(4, KA9)])] (.region [{}, {}, {}, { rd := [10] }, { rd := [10] }, {}, {}, {}, {}, {}, {}, {}, { rd := [10] }, { rd := [10] }, {}, {}, {}, {}, {}, {}, {}, { rd := [10] }, { rd := [10] }, {}, {}, {}, {}, {}, {}, { rd := [10] }, { rd := [10] }, {}, {}, {}, {}, {}, {}, {}, { rd := [10] }, { rd := [10] }, {}, {}, { rd := [10] }, { rd := [10] }, {}, {}, {}, { rd := [10] }, { rd := [10] }])) (.seq (.seq (.region []) (.cond (.seq (.region []) .leaf) .leaf)) (.seq (.region []) .leaf)))))
noncomputable def run61 : Ks.den inst61.args → Ks.den inst61.objs → Option inst61.out.den := fun x _ => value_zeros x.1
theorem ev61 : ∀ x y, evFn fx45 62 (bodyOf Tryz.f61) [.tmp 2] hint61 inst61 x y = run61 x y := by intro x y; kernel_rfl
theorem ok61 : FnOK Tryz.prog fx45.glob 61 (inst61.sem run61) :=
  fn_add fx45_ok feMixed 61 Tryz.f61 [.tmp 2] hint61 inst61 62 run61 Tryz.func61 (by kernel_rfl) Tryz.ntmps61 (by kernel_rfl) (by kernel_rfl) ev61
noncomputable def fx61 : Ctx := fx45.add 61 (inst61.sem run61)
theorem fx61_ok : CtxOK fx61 Tryz.prog := add_ok fx45_ok ok61 Tryz.call61
def inst205 : Inst := { args := [KA10, (.val YA16)], objs := [], nres := 1, out := [(90000, KA10)], news := 0 }
def hint205 : HC := (.seq (.region []) (.seq (.block (.loop [(0, KA10)] [((.exit 0), [(0, KA10)])] (.seq (.seq (.cut [(.normal, [(16, KA9)])] (.region [])) (.cond .leaf .leaf)) (.block (.region []))))) (.seq (.region []) .leaf)))
noncomputable def run205 : Ks.den inst205.args → Ks.den inst205.objs → Option inst205.out.den := fun x _ => strings_trimRightByte x.1 x.2.1
theorem ev205 : ∀ x y, evFn fx61 23 (bodyOf Tryz.f205) [.tmp 4] hint205 inst205 x y = run205 x y := by intro x y; kernel_rfl
theorem ok205 : FnOK Tryz.prog fx61.glob 205 (inst205.sem run205) :=
  fn_add fx61_ok feMixed 205 Tryz.f205 [.tmp 4] hint205 inst205 23 run205 Tryz.func205 (by kernel_rfl) Tryz.ntmps205 (by kernel_rfl) (by kernel_rfl) ev205
noncomputable def fx205 : Ctx := fx61.add 205 (inst205.sem run205)
theorem fx205_ok : CtxOK fx205 Tryz.prog := add_ok fx61_ok ok205 Tryz.call205
def inst194 : Inst := { args := [KA10, (.val YA16)], objs := [], nres := 1, out := [(90000, KA10)], news := 0 }
def hint194 : HC := (.seq (.region []) (.seq (.block (.loop [(0, KA10)] [((.exit 0), [(0, KA10)])] (.seq (.seq (.cut [(.normal, [(13, KA9)])] (.region [])) (.cond .leaf .leaf)) (.block (.region []))))) (.seq (.region []) .leaf)))
noncomputable def run194 : Ks.den inst194.args → Ks.den inst194.objs → Option inst194.out.den := fun x _ => strings_trimLeftByte x.1 x.2.1
theorem ev194 : ∀ x y, evFn fx205 17 (bodyOf Tryz.f194) [.tmp 4] hint194 inst194 x y = run194 x y := by intro x y; kernel_rfl
theorem ok194 : FnOK Tryz.prog fx205.glob 194 (inst194.sem run194) :=
  fn_add fx205_ok feMixed 194 Tryz.f194 [.tmp 4] hint194 inst194 17 run194 Tryz.func194 (by kernel_rfl) Tryz.ntmps194 (by kernel_rfl) (by kernel_rfl) ev194
noncomputable def fx194 : Ctx := fx205.add 194 (inst194.sem run194)
theorem fx194_ok : CtxOK fx194 Tryz.prog := add_ok fx205_ok ok194 Tryz.call194
def inst195 : Inst := { args := [KA10], objs := [], nres := 2, out := [(90000, (.val (.arr 256 .bool))), (90001, KA9)], news := 0 }
def hint195 : HC := (.seq (.region [{ new := [10] }]) (.seq (.seq (.region []) (.block (.loop [(2, (.ptr 11 0)), (4, KA3), (100011, (.vec (some 256) .bool))] [((.exit 0), [(2, (.ptr 12 0)), (100012, (.vec (some 256) .bool))]), (.ret, [(2, (.ptr 13 0)), (3, KA9), (100013, (.vec (some 256) .bool))])] (.seq (.seq (.region []) (.cond .leaf .leaf)) (.seq (.block (.seq (.region []) (.seq (.seq (.region []) (.cond (.seq (.region [{ rd := [11] }, { wr := [11] }]) .leaf) .leaf)) (.region [{}, { rd := [11] }, { wr := [11] }])))) (.region [])))))) (.seq (.region [{ rd := [12] }, { wr := [12] }]) .leaf)))
noncomputable def run195 : Ks.den inst195.args → Ks.den inst195.objs → Option inst195.out.den := fun x _ => strings_makeASCIISet x.1
theorem ev195 : ∀ x y, evFn fx194 21 (bodyOf Tryz.f195) [.cell 2 182, .tmp 3] hint195 inst195 x y = run195 x y := by intro x y; kernel_rfl
theorem ok195 : FnOK Tryz.prog fx194.glob 195 (inst195.sem run195) :=
  fn_add fx194_ok feMixed 195 Tryz.f195 [.cell 2 182, .tmp 3] hint195 inst195 21 run195 Tryz.func195 (by kernel_rfl) Tryz.ntmps195 (by kernel_rfl) (by kernel_rfl) ev195
noncomputable def fx195 : Ctx := fx194.add 195 (inst195.sem run195)
theorem fx195_ok : CtxOK fx195 Tryz.prog := add_ok fx194_ok ok195 Tryz.call195
def inst227 : Inst := { args := [(.ptr 0 0), (.val YA16)], objs := [(.vec (some 256) .bool)], nres := 1, out := [(90000, KA9), (0, (.ptr 0 0)), (100000, (.vec (some 256) .bool))], news := 0 }
def hint227 : HC := (.seq (.region []) (.seq (.region [{}, {}, { rd := [0] }, { rd := [0] }, { rd := [0] }]) .leaf))
noncomputable def run227 : Ks.den inst227.args → Ks.den inst227.objs → Option inst227.out.den := fun x y => _strings_asciiSet__contains x.2.1 y.1
theorem ev227 : ∀ x y, evFn fx195 10 (bodyOf Tryz.f227) [.tmp 4] hint227 inst227 x y = run227 x y := by intro x y; kernel_rfl
theorem ok227 : FnOK Tryz.prog fx195.glob 227 (inst227.sem run227) :=
  fn_add fx195_ok feMixed 227 Tryz.f227 [.tmp 4] hint227 inst227 10 run227 Tryz.func227 (by kernel_rfl) Tryz.ntmps227 (by kernel_rfl) (by kernel_rfl) ev227
noncomputable def fx227 : Ctx := fx195.add 227 (inst227.sem run227)
theorem fx227_ok : CtxOK fx227 Tryz.prog := add_ok fx195_ok ok227 Tryz.call227
def inst206 : Inst := { args := [KA10, (.ptr 0 0)], objs := [(.vec (some 256) .bool)], nres := 1, out := [(90000, KA10), (1, (.ptr 0 0)), (100000, (.vec (some 256) .bool))], news := 0 }
def hint206 : HC := (.seq (.region []) (.seq (.block (.loop [(0, KA10), (1, (.ptr 11 0)), (100011, (.vec (some 256) .bool))] [((.exit 0), [(0, KA10), (1, (.ptr 12 0)), (100012, (.vec (some 256) .bool))])] (.seq (.seq (.region []) (.cond .leaf .leaf)) (.block (.seq (.seq (.region [{}, {}, {}, {}, {}, {}, { wr := [11] }]) (.cond .leaf .leaf)) (.region [])))))) (.seq (.region []) .leaf)))
noncomputable def run206 : Ks.den inst206.args → Ks.den inst206.objs → Option inst206.out.den := fun x y => strings_trimRightASCII x.1 y.1
theorem ev206 : ∀ x y, evFn fx227 22 (bodyOf Tryz.f206) [.tmp 4] hint206 inst206 x y = run206 x y := by intro x y; kernel_rfl
theorem ok206 : FnOK Tryz.prog fx227.glob 206 (inst206.sem run206) :=
  fn_add fx227_ok feMixed 206 Tryz.f206 [.tmp 4] hint206 inst206 22 run206 Tryz.func206 (by kernel_rfl) Tryz.ntmps206 (by kernel_rfl) (by kernel_rfl) ev206
noncomputable def fx206 : Ctx := fx227.add 206 (inst206.sem run206)
theorem fx206_ok : CtxOK fx206 Tryz.prog := add_ok fx227_ok ok206 Tryz.call206
def inst196 : Inst := { args := [KA10, (.ptr 0 0)], objs := [(.vec (some 256) .bool)], nres := 1, out := [(90000, KA10), (1, (.ptr 0 0)), (100000, (.vec (some 256) .bool))], news := 0 }
def hint196 : HC := (.seq (.region []) (.seq (.block (.loop [(0, KA10), (1, (.ptr 11 0)), (100011, (.vec (some 256) .bool))] [((.exit 0), [(0, KA10), (1, (.ptr 12 0)), (100012, (.vec (some 256) .bool))])] (.seq (.seq (.region []) (.cond .leaf .leaf)) (.block (.seq (.seq (.region [{}, {}, {}, { wr := [11] }]) (.cond .leaf .leaf)) (.region [])))))) (.seq (.region []) .leaf)))
noncomputable def run196 : Ks.den inst196.args → Ks.den inst196.objs → Option inst196.out.den := fun x y => strings_trimLeftASCII x.1 y.1
theorem ev196 : ∀ x y, evFn fx206 16 (bodyOf Tryz.f196) [.tmp 4] hint196 inst196 x y = run196 x y := by intro x y; kernel_rfl
theorem ok196 : FnOK Tryz.prog fx206.glob 196 (inst196.sem run196) :=
  fn_add fx206_ok feMixed 196 Tryz.f196 [.tmp 4] hint196 inst196 16 run196 Tryz.func196 (by kernel_rfl) Tryz.ntmps196 (by kernel_rfl) (by kernel_rfl) ev196
noncomputable def fx196 : Ctx := fx206.add 196 (inst196.sem run196)
theorem fx196_ok : CtxOK fx196 Tryz.prog := add_ok fx206_ok ok196 Tryz.call196
def inst199 : Inst := { args := [KA10, KA10], objs := [], nres := 1, out := [(90000, KA10)], news := 0 }
def hint199 : HC := (.seq (.region []) (.seq (.seq (.cut [(.normal, [(12, KA9)])] (.region [])) (.cond (.seq (.region []) .leaf) .leaf)) (.seq (.seq (.cut [(.normal, [(21, KA9)])] (.region [])) (.cond (.seq (.region []) .leaf) .leaf)) (.seq (.seq (.region [{}, {}, {}, {}, {}, { new := [10] }, { wr := [10] }]) (.seq (.region []) (.cond (.seq (.region [{}, { wr := [10] }, { wr := [10] }]) .leaf) .leaf))) (.seq (.region []) .leaf)))))
noncomputable def run199 : Ks.den inst199.args → Ks.den inst199.objs → Option inst199.out.den := fun x _ => strings_Trim x.1 x.2.1
theorem ev199 : ∀ x y, evFn fx196 43 (bodyOf Tryz.f199) [.tmp 4] hint199 inst199 x y = run199 x y := by intro x y; kernel_rfl
theorem ok199 : FnOK Tryz.prog fx196.glob 199 (inst199.sem run199) :=
  fn_add fx196_ok feMixed 199 Tryz.f199 [.tmp 4] hint199 inst199 43 run199 Tryz.func199 (by kernel_rfl) Tryz.ntmps199 (by kernel_rfl) (by kernel_rfl) ev199
noncomputable def fx199 : Ctx := fx196.add 199 (inst199.sem run199)
theorem fx199_ok : CtxOK fx199 Tryz.prog := add_ok fx196_ok ok199 Tryz.call199
def inst168 : Inst := { args := [KA10], objs := [], nres := 1, out := [(90000, KA9)], news := 0 }
def hint168 : HC := (.seq (.region []) (.seq (.seq (.cut [(.normal, [(14, KA9)])] (.region [])) (.cond (.seq (.region []) .leaf) .leaf)) (.seq (.region []) .leaf)))
noncomputable def run168 : Ks.den inst168.args → Ks.den inst168.objs → Option inst168.out.den := fun x _ => exact_digits x.1
theorem ev168 : ∀ x y, evFn fx199 18 (bodyOf Tryz.f168) [.tmp 2] hint168 inst168 x y = run168 x y := by intro x y; kernel_rfl
theorem ok168 : FnOK Tryz.prog fx199.glob 168 (inst168.sem run168) :=
  fn_add fx199_ok feMixed 168 Tryz.f168 [.tmp 2] hint168 inst168 18 run168 Tryz.func168 (by kernel_rfl) Tryz.ntmps168 (by kernel_rfl) (by kernel_rfl) ev168
noncomputable def fx168 : Ctx := fx199.add 168 (inst168.sem run168)
theorem fx168_ok : CtxOK fx168 Tryz.prog := add_ok fx199_ok ok168 Tryz.call168
def inst181 : Inst := { args := [KA13], objs := [], nres := 1, out := [(90000, KA13)], news := 0 }
def hint181 : HC := (.seq (.region []) (.seq (.block (.loop [(0, KA13)] [((.exit 0), [(0, KA13)])] (.seq (.seq (.cut [(.normal, [(14, KA9)])] (.region [])) (.cond .leaf .leaf)) (.block (.region []))))) (.seq (.region []) .leaf)))
noncomputable def run181 : Ks.den inst181.args → Ks.den inst181.objs → Option inst181.out.den := fun x _ => exact_nat__trim x.1
theorem ev181 : ∀ x y, evFn fx168 21 (bodyOf Tryz.f181) [.tmp 2] hint181 inst181 x y = run181 x y := by intro x y; kernel_rfl
theorem ok181 : FnOK Tryz.prog fx168.glob 181 (inst181.sem run181) :=
  fn_add fx168_ok feMixed 181 Tryz.f181 [.tmp 2] hint181 inst181 21 run181 Tryz.func181 (by kernel_rfl) Tryz.ntmps181 (by kernel_rfl) (by kernel_rfl) ev181
noncomputable def fx181 : Ctx := fx168.add 181 (inst181.sem run181)
theorem fx181_ok : CtxOK fx181 Tryz.prog := add_ok fx168_ok ok181 Tryz.call181
def inst148 : Inst := { args := [KA10], objs := [], nres := 1, out := [(90000, KA13)], news := 0 }
def hint148 : HC := (.seq (.region []) (.seq (.region []) (.seq (.block (.loop [(0, KA10), (3, (.own 12)), (100012, (.vec none YA14))] [((.exit 0), [(3, (.own 13)), (100013, (.vec none YA14))])] (.seq (.seq (.region []) (.cond .leaf .leaf)) (.block (.seq (.region []) (.seq (.region []) (.seq (.region [{}, {}, {}, { new := [10] }, { rd := [10], wr := [12], new := [11] }]) (.region [])))))))) (.seq (.region [{}, { fz := [(29, 13)] }]) .leaf))))
noncomputable def run148 : Ks.den inst148.args → Ks.den inst148.objs → Option inst148.out.den := fun x _ => exact_parse x.1
theorem ev148 : ∀ x y, evFn fx181 31 (bodyOf Tryz.f148) [.tmp 2] hint148 inst148 x y = run148 x y := by intro x y; kernel_rfl
theorem ok148 : FnOK Tryz.prog fx181.glob 148 (inst148.sem run148) :=
  fn_add fx181_ok feMixed 148 Tryz.f148 [.tmp 2] hint148 inst148 31 run148 Tryz.func148 (by kernel_rfl) Tryz.ntmps148 (by kernel_rfl) (by kernel_rfl) ev148
noncomputable def fx148 : Ctx := fx181.add 148 (inst148.sem run148)
theorem fx148_ok : CtxOK fx148 Tryz.prog := add_ok fx181_ok ok148 Tryz.call148
def inst154 : Inst := { args := [KA13], objs := [], nres := 1, out := [(90000, KA9)], news := 0 }
def hint154 : HC := (.seq (.region []) (.seq (.region []) .leaf))
noncomputable def run154 : Ks.den inst154.args → Ks.den inst154.objs → Option inst154.out.den := fun x _ => exact_nat__zero x.1
theorem ev154 : ∀ x y, evFn fx148 6 (bodyOf Tryz.f154) [.tmp 2] hint154 inst154 x y = run154 x y := by intro x y; kernel_rfl
theorem ok154 : FnOK Tryz.prog fx148.glob 154 (inst154.sem run154) :=
  fn_add fx148_ok feMixed 154 Tryz.f154 [.tmp 2] hint154 inst154 6 run154 Tryz.func154 (by kernel_rfl) Tryz.ntmps154 (by kernel_rfl) (by kernel_rfl) ev154
noncomputable def fx154 : Ctx := fx148.add 154 (inst154.sem run154)
theorem fx154_ok : CtxOK fx154 Tryz.prog := add_ok fx148_ok ok154 Tryz.call154
def inst187 : Inst := { args := [KA13, KA13], objs := [], nres := 1, out := [(90000, KA3)], news := 0 }
def hint187 : HC := (.seq (.region []) (.seq (.seq (.region []) (.cond (.seq (.region []) .leaf) .leaf)) (.seq (.seq (.region []) (.block (.loop [(5, KA3)] [((.exit 0), []), (.ret, [(4, KA3)])] (.seq (.seq (.region []) (.cond .leaf .leaf)) (.seq (.block (.seq (.region []) (.cond (.seq (.seq (.region []) (.cond (.seq (.region []) .leaf) .leaf)) (.seq (.region []) .leaf)) .leaf))) (.region [])))))) (.seq (.region []) .leaf))))
noncomputable def run187 : Ks.den inst187.args → Ks.den inst187.objs → Option inst187.out.den := fun x _ => exact_nat__compare x.1 x.2.1
theorem ev187 : ∀ x y, evFn fx154 41 (bodyOf Tryz.f187) [.tmp 4] hint187 inst187 x y = run187 x y := by intro x y; kernel_rfl
theorem ok187 : FnOK Tryz.prog fx154.glob 187 (inst187.sem run187) :=
  fn_add fx154_ok feMixed 187 Tryz.f187 [.tmp 4] hint187 inst187 41 run187 Tryz.func187 (by kernel_rfl) Tryz.ntmps187 (by kernel_rfl) (by kernel_rfl) ev187
noncomputable def fx187 : Ctx := fx154.add 187 (inst187.sem run187)
theorem fx187_ok : CtxOK fx187 Tryz.prog := add_ok fx154_ok ok187 Tryz.call187
def inst150 : Inst := { args := [KA13, KA13], objs := [], nres := 1, out := [(90000, KA13)], news := 0 }
def hint150 : HC := (.seq (.region []) (.seq (.region [{}, {}, {}, {}, {}, { new := [10] }]) (.seq (.seq (.region []) (.block (.loop [(5, (.own 11)), (20, KA3), (100011, (.vec none YA14))] [((.exit 0), [(5, (.own 14)), (100014, (.vec none YA14))])] (.seq (.region []) (.seq (.cond .leaf .leaf) (.seq (.block (.seq (.region []) (.seq (.region []) (.seq (.seq (.region []) (.block (.loop [(5, (.own 12)), (8, KA18), (27, KA3), (100012, (.vec none YA14))] [((.exit 2), [(5, (.own 13)), (8, KA18), (100013, (.vec none YA14))])] (.seq (.region []) (.seq (.cond .leaf .leaf) (.seq (.block (.seq (.region []) (.seq (.region [{}, {}, {}, {}, {}, {}, {}, {}, {}, { rd := [12] }, { rd := [12] }]) (.seq (.region [{}, {}, {}, {}, {}, {}, {}, { rd := [12] }, { wr := [12] }]) (.region []))))) (.region []))))))) (.region [{}, {}, {}, {}, {}, {}, {}, { rd := [13] }, { wr := [13] }]))))) (.region []))))))) (.seq (.region [{}, { fz := [(67, 14)] }]) .leaf))))
noncomputable def run150 : Ks.den inst150.args → Ks.den inst150.objs → Option inst150.out.den := fun x _ => exact_nat__times x.1 x.2.1
theorem ev150 : ∀ x y, evFn fx187 69 (bodyOf Tryz.f150) [.tmp 4] hint150 inst150 x y = run150 x y := by intro x y; kernel_rfl
theorem ok150 : FnOK Tryz.prog fx187.glob 150 (inst150.sem run150) :=
  fn_add fx187_ok feMixed 150 Tryz.f150 [.tmp 4] hint150 inst150 69 run150 Tryz.func150 (by kernel_rfl) Tryz.ntmps150 (by kernel_rfl) (by kernel_rfl) ev150
noncomputable def fx150 : Ctx := fx187.add 150 (inst150.sem run150)
theorem fx150_ok : CtxOK fx150 Tryz.prog := add_ok fx187_ok ok150 Tryz.call150
def inst213 : Inst := { args := [KA13, KA13], objs := [], nres := 1, out := [(90000, (.val YA14))], news := 0 }
def hint213 : HC := (.seq (.region []) (.seq (.seq (.region []) (.cond (.seq (.region []) .leaf) .leaf)) (.seq (.region []) (.seq (.region []) (.seq (.seq (.region []) (.block (.loop [(6, KA18), (7, KA3)] [((.exit 0), [(6, KA18)])] (.seq (.seq (.region []) (.cond .leaf .leaf)) (.seq (.block (.region [])) (.region [])))))) (.seq (.region []) (.seq (.block (.loop [(8, KA18), (9, KA18)] [((.exit 2), [(8, KA18)])] (.seq (.seq (.region []) (.cond .leaf .leaf)) (.block (.seq (.region []) (.seq (.region [{}, {}, {}, { new := [10] }, { fz := [(61, 10)] }]) (.cond (.region []) (.region [])))))))) (.seq (.region []) .leaf))))))))
noncomputable def run213 : Ks.den inst213.args → Ks.den inst213.objs → Option inst213.out.den := fun x _ => exact_digit x.1 x.2.1
theorem ev213 : ∀ x y, evFn fx150 72 (bodyOf Tryz.f213) [.tmp 4] hint213 inst213 x y = run213 x y := by intro x y; kernel_rfl
theorem ok213 : FnOK Tryz.prog fx150.glob 213 (inst213.sem run213) :=
  fn_add fx150_ok feMixed 213 Tryz.f213 [.tmp 4] hint213 inst213 72 run213 Tryz.func213 (by kernel_rfl) Tryz.ntmps213 (by kernel_rfl) (by kernel_rfl) ev213
noncomputable def fx213 : Ctx := fx150.add 213 (inst213.sem run213)
theorem fx213_ok : CtxOK fx213 Tryz.prog := add_ok fx150_ok ok213 Tryz.call213
def inst219 : Inst := { args := [KA13], objs := [], nres := 1, out := [(90000, (.own 0)), (100000, (.vec none YA14))], news := 1 }
def hint219 : HC := (.seq (.region []) (.seq (.seq (.region []) (.cond (.seq (.region []) .leaf) .leaf)) (.seq (.region [{ new := [10] }, {}, { wr := [10], new := [11] }]) .leaf)))
noncomputable def run219 : Ks.den inst219.args → Ks.den inst219.objs → Option inst219.out.den := fun x _ => exact_nat_uint32_ x.1
theorem ev219 : ∀ x y, evFn fx213 8 (bodyOf Tryz.f219) [.tmp 2] hint219 inst219 x y = run219 x y := by intro x y; kernel_rfl
theorem ok219 : FnOK Tryz.prog fx213.glob 219 (inst219.sem run219) :=
  fn_add fx213_ok feMixed 219 Tryz.f219 [.tmp 2] hint219 inst219 8 run219 Tryz.func219 (by kernel_rfl) Tryz.ntmps219 (by kernel_rfl) (by kernel_rfl) ev219
noncomputable def fx219 : Ctx := fx213.add 219 (inst219.sem run219)
theorem fx219_ok : CtxOK fx219 Tryz.prog := add_ok fx213_ok ok219 Tryz.call219
def inst188 : Inst := { args := [KA13, KA13], objs := [], nres := 1, out := [(90000, KA13)], news := 0 }
def hint188 : HC := (.seq (.region []) (.seq (.region [{}, { new := [10] }]) (.seq (.region []) (.seq (.seq (.region [{}, { rd := [10] }]) (.block (.loop [(5, (.own 11)), (6, (.val YA14)), (13, KA3), (100011, (.vec none YA14))] [((.exit 0), [(5, (.own 14)), (100014, (.vec none YA14))])] (.seq (.region []) (.seq (.cond .leaf .leaf) (.seq (.block (.seq (.region []) (.seq (.region []) (.seq (.cut [(.normal, [(5, (.own 12)), (8, (.val YA14)), (100012, (.vec none YA14))])] (.seq (.region []) (.cond (.region []) .leaf))) (.seq (.region []) (.seq (.cut [(.normal, [(5, (.own 13)), (6, (.val YA14)), (100013, (.vec none YA14))])] (.seq (.region [{}, {}, { rd := [12] }, { rd := [12] }]) (.cond (.seq (.region [{}, {}, { rd := [12] }, { rd := [12] }, {}, { rd := [12] }, { wr := [12] }]) (.region [])) .leaf))) (.region [{}, {}, { rd := [13] }, { rd := [13] }, {}, {}, { rd := [13] }, { wr := [13] }]))))))) (.region []))))))) (.seq (.region [{}, { fz := [(47, 14)] }]) .leaf)))))
noncomputable def run188 : Ks.den inst188.args → Ks.den inst188.objs → Option inst188.out.den := fun x _ => exact_nat__minus x.1 x.2.1
theorem ev188 : ∀ x y, evFn fx219 49 (bodyOf Tryz.f188) [.tmp 4] hint188 inst188 x y = run188 x y := by intro x y; kernel_rfl
theorem ok188 : FnOK Tryz.prog fx219.glob 188 (inst188.sem run188) :=
  fn_add fx219_ok feMixed 188 Tryz.f188 [.tmp 4] hint188 inst188 49 run188 Tryz.func188 (by kernel_rfl) Tryz.ntmps188 (by kernel_rfl) (by kernel_rfl) ev188
noncomputable def fx188 : Ctx := fx219.add 188 (inst188.sem run188)
theorem fx188_ok : CtxOK fx188 Tryz.prog := add_ok fx219_ok ok188 Tryz.call188
def inst183 : Inst := { args := [KA13, KA13], objs := [], nres := 2, out := [(90000, KA13), (90001, KA13)], news := 0 }
def hint183 : HC := (.seq (.region []) (.seq (.region [{}, {}, { new := [10] }]) (.seq (.region []) (.seq (.seq (.region []) (.block (.loop [(6, (.own 11)), (7, KA13), (8, KA3), (100011, (.vec none YA14))] [((.exit 0), [(6, (.own 15)), (7, KA13), (100015, (.vec none YA14))])] (.seq (.seq (.region []) (.cond .leaf .leaf)) (.seq (.block (.seq (.region [{}, {}, {}, {}, { new := [12] }, {}, { wr := [12], new := [13] }, { fz := [(25, 13)] }]) (.seq (.region [{}, {}, {}, {}, {}, { rd := [11] }, { wr := [11] }]) (.region [{}, {}, {}, {}, { rd := [11] }, { rd := [11] }, { new := [14] }, { fz := [(39, 14)] }])))) (.region [])))))) (.seq (.region [{}, { fz := [(43, 15)] }]) .leaf)))))
noncomputable def run183 : Ks.den inst183.args → Ks.den inst183.objs → Option inst183.out.den := fun x _ => exact_divide x.1 x.2.1
theorem ev183 : ∀ x y, evFn fx188 46 (bodyOf Tryz.f183) [.tmp 4, .tmp 5] hint183 inst183 x y = run183 x y := by intro x y; kernel_rfl
theorem ok183 : FnOK Tryz.prog fx188.glob 183 (inst183.sem run183) :=
  fn_add fx188_ok feMixed 183 Tryz.f183 [.tmp 4, .tmp 5] hint183 inst183 46 run183 Tryz.func183 (by kernel_rfl) Tryz.ntmps183 (by kernel_rfl) (by kernel_rfl) ev183
noncomputable def fx183 : Ctx := fx188.add 183 (inst183.sem run183)
theorem fx183_ok : CtxOK fx183 Tryz.prog := add_ok fx188_ok ok183 Tryz.call183
def inst169 : Inst := { args := [KA13, KA13], objs := [], nres := 1, out := [(90000, KA13)], news := 0 }
def hint169 : HC := (.seq (.region []) (.seq (.block (.loop [(0, KA13), (1, KA13)] [((.exit 0), [(0, KA13)])] (.seq (.seq (.region []) (.cond .leaf .leaf)) (.block (.seq (.region []) (.region [])))))) (.seq (.region []) .leaf)))
noncomputable def run169 : Ks.den inst169.args → Ks.den inst169.objs → Option inst169.out.den := fun x _ => exact_common x.1 x.2.1
theorem ev169 : ∀ x y, evFn fx183 19 (bodyOf Tryz.f169) [.tmp 4] hint169 inst169 x y = run169 x y := by intro x y; kernel_rfl
theorem ok169 : FnOK Tryz.prog fx183.glob 169 (inst169.sem run169) :=
  fn_add fx183_ok feMixed 169 Tryz.f169 [.tmp 4] hint169 inst169 19 run169 Tryz.func169 (by kernel_rfl) Tryz.ntmps169 (by kernel_rfl) (by kernel_rfl) ev169
noncomputable def fx169 : Ctx := fx183.add 169 (inst169.sem run169)
theorem fx169_ok : CtxOK fx169 Tryz.prog := add_ok fx183_ok ok169 Tryz.call169
def inst170 : Inst := { args := [KA13], objs := [], nres := 1, out := [(90000, KA9)], news := 0 }
def hint170 : HC := (.seq (.region []) (.seq (.region []) .leaf))
noncomputable def run170 : Ks.den inst170.args → Ks.den inst170.objs → Option inst170.out.den := fun x _ => exact_nat__one x.1
theorem ev170 : ∀ x y, evFn fx169 12 (bodyOf Tryz.f170) [.tmp 2] hint170 inst170 x y = run170 x y := by intro x y; kernel_rfl
theorem ok170 : FnOK Tryz.prog fx169.glob 170 (inst170.sem run170) :=
  fn_add fx169_ok feMixed 170 Tryz.f170 [.tmp 2] hint170 inst170 12 run170 Tryz.func170 (by kernel_rfl) Tryz.ntmps170 (by kernel_rfl) (by kernel_rfl) ev170
noncomputable def fx170 : Ctx := fx169.add 170 (inst170.sem run170)
theorem fx170_ok : CtxOK fx170 Tryz.prog := add_ok fx169_ok ok170 Tryz.call170
def inst124 : Inst := { args := [KA6], objs := [], nres := 2, out := [(90000, KA11), (90001, KA3)], news := 0 }
def hint124 : HC := (.seq (.region [{ new := [10] }, { new := [11] }]) (.seq (.region [{ rd := [10] }, { rd := [10] }]) (.seq (.seq (.cut [(.normal, [(1, (.ptr 12 0)), (2, (.ptr 13 0)), (33, KA9), (100012, KA4), (100013, KA15)])] (.region [{}, {}, {}, {}, { rd := [10] }, { rd := [10] }, {}, {}, {}, {}, { rd := [10] }, { rd := [10] }])) (.cond (.seq (.region [{}, { wr := [13] }]) .leaf) .leaf)) (.seq (.seq (.cut [(.normal, [(1, (.ptr 14 0)), (2, (.ptr 15 0)), (43, KA9), (100014, KA4), (100015, KA15)])] (.region [{}, {}, {}, {}, { rd := [12] }, { rd := [12] }])) (.cond (.seq (.region [{}, { wr := [15] }]) .leaf) .leaf)) (.seq (.region [{}, {}, {}, { rd := [14] }, { rd := [14] }, {}, {}, { new := [16] }, { wr := [16] }]) (.seq (.seq (.region [{ rd := [16] }, { rd := [16] }, { rd := [16] }, { rd := [16] }]) (.cond (.seq (.region [{}, { wr := [15] }]) .leaf) .leaf)) (.seq (.region [{ rd := [16] }, { wr := [15] }]) .leaf)))))))
noncomputable def run124 : Ks.den inst124.args → Ks.den inst124.objs → Option inst124.out.den := fun x _ => exact_read x.1
theorem ev124 : ∀ x y, evFn fx170 61 (bodyOf Tryz.f124) [.cell 2 131, .tmp 3] hint124 inst124 x y = run124 x y := by intro x y; kernel_rfl
theorem ok124 : FnOK Tryz.prog fx170.glob 124 (inst124.sem run124) :=
  fn_add fx170_ok feMixed 124 Tryz.f124 [.cell 2 131, .tmp 3] hint124 inst124 61 run124 Tryz.func124 (by kernel_rfl) Tryz.ntmps124 (by kernel_rfl) (by kernel_rfl) ev124
noncomputable def fx124 : Ctx := fx170.add 124 (inst124.sem run124)
theorem fx124_ok : CtxOK fx124 Tryz.prog := add_ok fx170_ok ok124 Tryz.call124
def inst62 : Inst := { args := [KA6], objs := [], nres := 1, out := [(90000, KA3)], news := 0 }
def hint62 : HC := (.seq (.region [{ new := [10] }]) (.seq (.region [{ rd := [10] }, {}, {}, {}, {}, { new := [11] }, { wr := [11] }]) (.seq (.region []) .leaf)))
noncomputable def run62 : Ks.den inst62.args → Ks.den inst62.objs → Option inst62.out.den := fun x _ => exact_Check x.1
theorem ev62 : ∀ x y, evFn fx124 11 (bodyOf Tryz.f62) [.tmp 2] hint62 inst62 x y = run62 x y := by intro x y; kernel_rfl
theorem ok62 : FnOK Tryz.prog fx124.glob 62 (inst62.sem run62) :=
  fn_add fx124_ok feMixed 62 Tryz.f62 [.tmp 2] hint62 inst62 11 run62 Tryz.func62 (by kernel_rfl) Tryz.ntmps62 (by kernel_rfl) (by kernel_rfl) ev62
noncomputable def fx62 : Ctx := fx124.add 62 (inst62.sem run62)
theorem fx62_ok : CtxOK fx62 Tryz.prog := add_ok fx124_ok ok62 Tryz.call62
def inst26 : Inst := { args := [KA3], objs := [], nres := 1, out := [(90000, KA10)], news := 0 }
def hint26 : HC := (.seq (.region []) (.seq (.seq (.cut [(.normal, [(8, KA9)])] (.region [])) (.cond (.seq (.region []) .leaf) .leaf)) (.seq (.region []) .leaf)))
noncomputable def run26 : Ks.den inst26.args → Ks.den inst26.objs → Option inst26.out.den := fun x _ => value_FaultText x.1
theorem ev26 : ∀ x y, evFn fx62 12 (bodyOf Tryz.f26) [.tmp 2] hint26 inst26 x y = run26 x y := by intro x y; kernel_rfl
theorem ok26 : FnOK Tryz.prog fx62.glob 26 (inst26.sem run26) :=
  fn_add fx62_ok feMixed 26 Tryz.f26 [.tmp 2] hint26 inst26 12 run26 Tryz.func26 (by kernel_rfl) Tryz.ntmps26 (by kernel_rfl) (by kernel_rfl) ev26
noncomputable def fx26 : Ctx := fx62.add 26 (inst26.sem run26)
theorem fx26_ok : CtxOK fx26 Tryz.prog := add_ok fx62_ok ok26 Tryz.call26
def inst12 : Inst := { args := [KA17], objs := [], nres := 1, out := [(90000, KA3)], news := 0 }
def hint12 : HC := (.seq (.region [{ new := [10] }]) (.seq (.seq (.cut [(.normal, [(1, (.ptr 11 0)), (11, KA9), (100011, KA2)])] (.region [{ rd := [10] }, { rd := [10] }, {}, {}, { rd := [10] }, { rd := [10] }])) (.cond (.seq (.region []) .leaf) .leaf)) (.seq (.seq (.region [{ rd := [11] }]) (.seq (.region []) (.cond (.seq (.region []) .leaf) .leaf))) (.seq (.cut [(.normal, []), (.ret, [(2, KA3)])] (.seq (.region [{ rd := [11] }, { rd := [11] }]) (.block (.seq (.region []) (.cond (.seq (.region [{ rd := [11] }, { rd := [11] }]) .leaf) (.seq (.region []) (.cond (.seq (.region [{ rd := [11] }, { rd := [11] }]) .leaf) (.seq (.region []) (.cond (.seq (.region [{ rd := [11] }, { rd := [11] }]) (.cond (.seq (.region []) .leaf) .leaf)) (.seq (.region []) (.cond (.seq (.region [{ rd := [11] }]) .leaf) .leaf))))))))))) (.seq (.region []) .leaf)))))
noncomputable def run12 (m : Nat) : Ks.den inst12.args → Ks.den inst12.objs → Option inst12.out.den := fun x _ => value_Check_f m x.1
noncomputable def g12 (m : Nat) : Ctx := fx26.add 12 (inst12.sem (run12 m))
theorem g12_ok {m : Nat} (h : FnOK Tryz.prog fx26.glob 12 (inst12.sem (run12 m))) : CtxOK (g12 m) Tryz.prog := add_ok fx26_ok h Tryz.call12
def inst63 : Inst := { args := [KA17], objs := [], nres := 1, out := [(90000, KA3)], news := 0 }
def hint63 : HC := (.seq (.region [{ new := [10] }]) (.seq (.seq (.cut [(.normal, [(1, (.ptr 11 0)), (23, KA9), (100011, KA2)])] (.region [{ rd := [10] }, { rd := [10] }, {}, {}, { rd := [10] }, { rd := [10] }, {}, {}, {}, { rd := [10] }, { rd := [10] }, {}, {}, {}, { rd := [10] }, { rd := [10] }])) (.cond (.seq (.region []) .leaf) .leaf)) (.seq (.seq (.region [{ rd := [11] }, { rd := [11] }, { rd := [11] }, { rd := [11] }]) (.cond (.seq (.region []) .leaf) .leaf)) (.seq (.seq (.region [{ rd := [11] }, { rd := [11] }, {}, { rd := [11] }, { rd := [11] }, { rd := [11] }, { rd := [11] }]) (.cond (.seq (.region []) .leaf) .leaf)) (.seq (.seq (.region [{ rd := [11] }, { rd := [11] }]) (.block (.loop [(42, KA3)] [((.exit 0), []), (.ret, [(2, KA3)])] (.seq (.region []) (.seq (.cond .leaf .leaf) (.seq (.block (.seq (.region [{}, {}, { new := [12] }, { wr := [12] }]) (.seq (.seq (.region [{ rd := [12] }, { rd := [12] }]) (.cond (.seq (.region []) .leaf) .leaf)) (.seq (.region [{ rd := [12] }]) (.seq (.region []) (.cond (.seq (.region []) .leaf) .leaf)))))) (.region []))))))) (.seq (.region []) .leaf))))))
noncomputable def run63 (m : Nat) : Ks.den inst63.args → Ks.den inst63.objs → Option inst63.out.den := fun x _ => value_array (value_Check_f m) x.1
theorem ev63 : ∀ m x y, evFn (g12 m) 55 (bodyOf Tryz.f63) [.tmp 2] hint63 inst63 x y = run63 m x y := by intro m x y; kernel_rfl
theorem ok63 {m : Nat} (h : FnOK Tryz.prog fx26.glob 12 (inst12.sem (run12 m))) : FnOK Tryz.prog (g12 m).glob 63 (inst63.sem (run63 m)) :=
  fn_add (g12_ok h) feMixed 63 Tryz.f63 [.tmp 2] hint63 inst63 55 (run63 m) Tryz.func63 (by kernel_rfl) Tryz.ntmps63 (by kernel_rfl) (by kernel_rfl) (ev63 m)
noncomputable def g12_63 (m : Nat) : Ctx := (g12 m).more 63 (inst63.sem (run63 m))
theorem g12_63_ok {m : Nat} (h : FnOK Tryz.prog fx26.glob 12 (inst12.sem (run12 m))) : CtxOK (g12_63 m) Tryz.prog := more_ok (g12_ok h) (ok63 h) Tryz.call63
theorem ev12 : ∀ m x y, evFn (g12_63 m) 39 (bodyOf Tryz.f12) [.tmp 2] hint12 inst12 x y = run12 (m + 1) x y := by intro m x y; kernel_rfl
theorem ok12 : ∀ m, FnOK Tryz.prog fx26.glob 12 (inst12.sem (run12 m)) :=
  fn_recs fx26.glob g12_63 (fun _ => rfl) 12 inst12 run12 (fun _ h => g12_63_ok h) feMixed Tryz.f12 [.tmp 2] hint12 39 Tryz.func12 (by kernel_rfl) Tryz.ntmps12 (by kernel_rfl) (by kernel_rfl) (fun _ _ => rfl) ev12
noncomputable def fx12 : Ctx := fx26.add 12 (inst12.sem (run12 rounds))
theorem fx12_ok : CtxOK fx12 Tryz.prog := add_ok fx26_ok (ok12 rounds) Tryz.call12
def inst68 : Inst := { args := [KA17], objs := [], nres := 1, out := [(90000, KA17)], news := 0 }
def hint68 : HC := (.seq (.region [{ new := [10] }, { new := [11] }]) (.seq (.seq (.region [{ rd := [10] }]) (.cond (.seq (.region [{}, { wr := [11] }]) .leaf) .leaf)) (.seq (.region [{ rd := [10] }, { wr := [11] }]) .leaf)))
noncomputable def run68 : Ks.den inst68.args → Ks.den inst68.objs → Option inst68.out.den := fun x _ => value_valid x.1
theorem ev68 : ∀ x y, evFn fx12 8 (bodyOf Tryz.f68) [.cell 2 28] hint68 inst68 x y = run68 x y := by intro x y; kernel_rfl
theorem ok68 : FnOK Tryz.prog fx12.glob 68 (inst68.sem run68) :=
  fn_add fx12_ok feMixed 68 Tryz.f68 [.cell 2 28] hint68 inst68 8 run68 Tryz.func68 (by kernel_rfl) Tryz.ntmps68 (by kernel_rfl) (by kernel_rfl) ev68
noncomputable def fx68 : Ctx := fx12.add 68 (inst68.sem run68)
theorem fx68_ok : CtxOK fx68 Tryz.prog := add_ok fx12_ok ok68 Tryz.call68
def inst21 : Inst := { args := [KA3], objs := [], nres := 1, out := [(90000, KA17)], news := 0 }
def hint21 : HC := (.seq (.region [{ new := [10] }]) (.seq (.region [{}, {}, {}, { wr := [10] }]) .leaf))
noncomputable def run21 : Ks.den inst21.args → Ks.den inst21.objs → Option inst21.out.den := fun x _ => value_Fault x.1
theorem ev21 : ∀ x y, evFn fx68 6 (bodyOf Tryz.f21) [.cell 2 28] hint21 inst21 x y = run21 x y := by intro x y; kernel_rfl
theorem ok21 : FnOK Tryz.prog fx68.glob 21 (inst21.sem run21) :=
  fn_add fx68_ok feMixed 21 Tryz.f21 [.cell 2 28] hint21 inst21 6 run21 Tryz.func21 (by kernel_rfl) Tryz.ntmps21 (by kernel_rfl) (by kernel_rfl) ev21
noncomputable def fx21 : Ctx := fx68.add 21 (inst21.sem run21)
theorem fx21_ok : CtxOK fx21 Tryz.prog := add_ok fx68_ok ok21 Tryz.call21
def inst19 : Inst := { args := [KA10], objs := [], nres := 1, out := [(90000, KA17)], news := 0 }
def hint19 : HC := (.seq (.region [{ new := [10] }]) (.seq (.region [{}, {}, {}, { wr := [10] }]) .leaf))
noncomputable def run19 : Ks.den inst19.args → Ks.den inst19.objs → Option inst19.out.den := fun x _ => value_Text x.1
theorem ev19 : ∀ x y, evFn fx21 6 (bodyOf Tryz.f19) [.cell 2 28] hint19 inst19 x y = run19 x y := by intro x y; kernel_rfl
theorem ok19 : FnOK Tryz.prog fx21.glob 19 (inst19.sem run19) :=
  fn_add fx21_ok feMixed 19 Tryz.f19 [.cell 2 28] hint19 inst19 6 run19 Tryz.func19 (by kernel_rfl) Tryz.ntmps19 (by kernel_rfl) (by kernel_rfl) ev19
noncomputable def fx19 : Ctx := fx21.add 19 (inst19.sem run19)
theorem fx19_ok : CtxOK fx19 Tryz.prog := add_ok fx21_ok ok19 Tryz.call19
def inst47 : Inst := { args := [KA10], objs := [], nres := 1, out := [(90000, KA10)], news := 0 }
def hint47 : HC := (.seq (.region []) (.seq (.region [{}, { new := [10] }]) (.seq (.seq (.region [{}, { rd := [10] }]) (.block (.loop [(3, (.own 11)), (8, (.own 11)), (10, KA3), (100011, (.vec none YA16))] [((.exit 0), [(3, (.own 14)), (100014, (.vec none YA16))])] (.seq (.region []) (.seq (.cond .leaf .leaf) (.seq (.cut [(.normal, [(3, (.own 13)), (8, (.own 13)), (100013, (.vec none YA16))])] (.block (.seq (.region [{}, { rd := [11] }, { rd := [11] }]) (.seq (.cut [(.normal, [(3, (.own 12)), (8, (.own 12)), (20, KA9), (100012, (.vec none YA16))])] (.region [])) (.cond (.region [{}, {}, { rd := [12] }, { rd := [12] }, {}, { rd := [12] }, { wr := [12] }]) .leaf))))) (.region []))))))) (.seq (.region [{}, { rd := [14] }]) .leaf))))
noncomputable def run47 : Ks.den inst47.args → Ks.den inst47.objs → Option inst47.out.den := fun x _ => value_Lower x.1
theorem ev47 : ∀ x y, evFn fx19 30 (bodyOf Tryz.f47) [.tmp 2] hint47 inst47 x y = run47 x y := by intro x y; kernel_rfl
theorem ok47 : FnOK Tryz.prog fx19.glob 47 (inst47.sem run47) :=
  fn_add fx19_ok feMixed 47 Tryz.f47 [.tmp 2] hint47 inst47 30 run47 Tryz.func47 (by kernel_rfl) Tryz.ntmps47 (by kernel_rfl) (by kernel_rfl) ev47
noncomputable def fx47 : Ctx := fx19.add 47 (inst47.sem run47)
theorem fx47_ok : CtxOK fx47 Tryz.prog := add_ok fx19_ok ok47 Tryz.call47
def inst22 : Inst := { args := [KA9], objs := [], nres := 1, out := [(90000, KA17)], news := 0 }
def hint22 : HC := (.seq (.region [{ new := [10] }]) (.seq (.region [{}, {}, { wr := [10] }]) .leaf))
noncomputable def run22 : Ks.den inst22.args → Ks.den inst22.objs → Option inst22.out.den := fun x _ => value_Bool x.1
theorem ev22 : ∀ x y, evFn fx47 5 (bodyOf Tryz.f22) [.cell 2 28] hint22 inst22 x y = run22 x y := by intro x y; kernel_rfl
theorem ok22 : FnOK Tryz.prog fx47.glob 22 (inst22.sem run22) :=
  fn_add fx47_ok feMixed 22 Tryz.f22 [.cell 2 28] hint22 inst22 5 run22 Tryz.func22 (by kernel_rfl) Tryz.ntmps22 (by kernel_rfl) (by kernel_rfl) ev22
noncomputable def fx22 : Ctx := fx47.add 22 (inst22.sem run22)
theorem fx22_ok : CtxOK fx22 Tryz.prog := add_ok fx47_ok ok22 Tryz.call22
def inst160 : Inst := { args := [KA10, KA10], objs := [], nres := 1, out := [(90000, KA10)], news := 0 }
def hint160 : HC := (.seq (.region []) (.seq (.seq (.cut [(.normal, [(12, KA9)])] (.region [])) (.cond (.seq (.region []) .leaf) .leaf)) (.seq (.seq (.cut [(.normal, [(21, KA9)])] (.region [])) (.cond (.seq (.region []) .leaf) .leaf)) (.seq (.seq (.region [{}, {}, {}, {}, {}, { new := [10] }, { wr := [10] }]) (.seq (.region []) (.cond (.seq (.region [{}, { wr := [10] }]) .leaf) .leaf))) (.seq (.region []) .leaf)))))
noncomputable def run160 : Ks.den inst160.args → Ks.den inst160.objs → Option inst160.out.den := fun x _ => strings_TrimLeft x.1 x.2.1
theorem ev160 : ∀ x y, evFn fx22 37 (bodyOf Tryz.f160) [.tmp 4] hint160 inst160 x y = run160 x y := by intro x y; kernel_rfl
theorem ok160 : FnOK Tryz.prog fx22.glob 160 (inst160.sem run160) :=
  fn_add fx22_ok feMixed 160 Tryz.f160 [.tmp 4] hint160 inst160 37 run160 Tryz.func160 (by kernel_rfl) Tryz.ntmps160 (by kernel_rfl) (by kernel_rfl) ev160
noncomputable def fx160 : Ctx := fx22.add 160 (inst160.sem run160)
theorem fx160_ok : CtxOK fx160 Tryz.prog := add_ok fx22_ok ok160 Tryz.call160
def inst108 : Inst := { args := [KA10], objs := [], nres := 2, out := [(90000, KA10), (90001, KA10)], news := 0 }
def hint108 : HC := (.seq (.region []) (.seq (.region []) (.seq (.region []) .leaf)))
noncomputable def run108 : Ks.den inst108.args → Ks.den inst108.objs → Option inst108.out.den := fun x _ => value_digits x.1
theorem ev108 : ∀ x y, evFn fx160 15 (bodyOf Tryz.f108) [.tmp 2, .tmp 3] hint108 inst108 x y = run108 x y := by intro x y; kernel_rfl
theorem ok108 : FnOK Tryz.prog fx160.glob 108 (inst108.sem run108) :=
  fn_add fx160_ok feMixed 108 Tryz.f108 [.tmp 2, .tmp 3] hint108 inst108 15 run108 Tryz.func108 (by kernel_rfl) Tryz.ntmps108 (by kernel_rfl) (by kernel_rfl) ev108
noncomputable def fx108 : Ctx := fx160.add 108 (inst108.sem run108)
theorem fx108_ok : CtxOK fx108 Tryz.prog := add_ok fx160_ok ok108 Tryz.call108
def inst98 : Inst := { args := [KA10], objs := [], nres := 2, out := [(90000, KA10), (90001, KA10)], news := 0 }
def hint98 : HC := (.seq (.region []) (.seq (.region []) (.seq (.seq (.cut [(.normal, [(20, KA9)])] (.region [])) (.cond (.seq (.region []) .leaf) .leaf)) (.seq (.block (.loop [(4, KA10), (5, KA10)] [((.exit 0), [(4, KA10), (5, KA10)])] (.seq (.seq (.region []) (.cond .leaf .leaf)) (.block (.seq (.region []) (.seq (.seq (.region []) (.cond .leaf .leaf)) (.region []))))))) (.seq (.region []) .leaf)))))
noncomputable def run98 : Ks.den inst98.args → Ks.den inst98.objs → Option inst98.out.den := fun x _ => value_grouped x.1
theorem ev98 : ∀ x y, evFn fx108 40 (bodyOf Tryz.f98) [.tmp 2, .tmp 3] hint98 inst98 x y = run98 x y := by intro x y; kernel_rfl
theorem ok98 : FnOK Tryz.prog fx108.glob 98 (inst98.sem run98) :=
  fn_add fx108_ok feMixed 98 Tryz.f98 [.tmp 2, .tmp 3] hint98 inst98 40 run98 Tryz.func98 (by kernel_rfl) Tryz.ntmps98 (by kernel_rfl) (by kernel_rfl) ev98
noncomputable def fx98 : Ctx := fx108.add 98 (inst98.sem run98)
theorem fx98_ok : CtxOK fx98 Tryz.prog := add_ok fx108_ok ok98 Tryz.call98
def inst146 : Inst := { args := [KA10], objs := [], nres := 2, out := [(90000, KA10), (90001, KA10)], news := 0 }
def hint146 : HC := (.seq (.region []) (.seq (.region []) (.seq (.region []) .leaf)))
noncomputable def run146 : Ks.den inst146.args → Ks.den inst146.objs → Option inst146.out.den := fun x _ => exact_run x.1
theorem ev146 : ∀ x y, evFn fx98 15 (bodyOf Tryz.f146) [.tmp 2, .tmp 3] hint146 inst146 x y = run146 x y := by intro x y; kernel_rfl
theorem ok146 : FnOK Tryz.prog fx98.glob 146 (inst146.sem run146) :=
  fn_add fx98_ok feMixed 146 Tryz.f146 [.tmp 2, .tmp 3] hint146 inst146 15 run146 Tryz.func146 (by kernel_rfl) Tryz.ntmps146 (by kernel_rfl) (by kernel_rfl) ev146
noncomputable def fx146 : Ctx := fx98.add 146 (inst146.sem run146)
theorem fx146_ok : CtxOK fx146 Tryz.prog := add_ok fx98_ok ok146 Tryz.call146
def inst147 : Inst := { args := [KA10], objs := [], nres := 2, out := [(90000, KA3), (90001, KA9)], news := 0 }
def hint147 : HC := (.seq (.region []) (.seq (.seq (.region []) (.cond (.seq (.region []) .leaf) .leaf)) (.seq (.seq (.cut [(.normal, [(18, KA9)])] (.region [])) (.cond (.seq (.region []) .leaf) .leaf)) (.seq (.region []) (.seq (.region []) (.seq (.cut [(.normal, [(0, KA10)])] (.seq (.cut [(.normal, [(27, KA9)])] (.region [])) (.cond (.region []) .leaf))) (.seq (.region []) (.seq (.seq (.cut [(.normal, [(45, KA9)])] (.region [])) (.cond (.seq (.region []) .leaf) .leaf)) (.seq (.region []) (.seq (.cut [(.normal, [(7, KA3)])] (.seq (.region []) (.cond (.region []) .leaf))) (.seq (.region []) .leaf)))))))))))
noncomputable def run147 : Ks.den inst147.args → Ks.den inst147.objs → Option inst147.out.den := fun x _ => exact_exponent x.1
theorem ev147 : ∀ x y, evFn fx146 55 (bodyOf Tryz.f147) [.tmp 2, .tmp 3] hint147 inst147 x y = run147 x y := by intro x y; kernel_rfl
theorem ok147 : FnOK Tryz.prog fx146.glob 147 (inst147.sem run147) :=
  fn_add fx146_ok feMixed 147 Tryz.f147 [.tmp 2, .tmp 3] hint147 inst147 55 run147 Tryz.func147 (by kernel_rfl) Tryz.ntmps147 (by kernel_rfl) (by kernel_rfl) ev147
noncomputable def fx147 : Ctx := fx146.add 147 (inst147.sem run147)
theorem fx147_ok : CtxOK fx147 Tryz.prog := add_ok fx146_ok ok147 Tryz.call147
def inst149 : Inst := { args := [KA3], objs := [], nres := 1, out := [(90000, KA13)], news := 0 }
def hint149 : HC := (.seq (.region []) (.seq (.region []) .leaf))
noncomputable def run149 : Ks.den inst149.args → Ks.den inst149.objs → Option inst149.out.den := fun x _ => exact_ten x.1
theorem ev149 : ∀ x y, evFn fx147 7 (bodyOf Tryz.f149) [.tmp 2] hint149 inst149 x y = run149 x y := by intro x y; kernel_rfl
theorem ok149 : FnOK Tryz.prog fx147.glob 149 (inst149.sem run149) :=
  fn_add fx147_ok feMixed 149 Tryz.f149 [.tmp 2] hint149 inst149 7 run149 Tryz.func149 (by kernel_rfl) Tryz.ntmps149 (by kernel_rfl) (by kernel_rfl) ev149
noncomputable def fx149 : Ctx := fx147.add 149 (inst149.sem run149)
theorem fx149_ok : CtxOK fx149 Tryz.prog := add_ok fx147_ok ok149 Tryz.call149
def inst151 : Inst := { args := [KA11], objs := [], nres := 2, out := [(90000, KA6), (90001, KA3)], news := 0 }
def hint151 : HC := (.seq (.region [{ new := [10] }, { new := [11] }]) (.seq (.seq (.region [{ rd := [10] }, { rd := [10] }]) (.cond (.seq (.region [{}, { wr := [11] }]) .leaf) .leaf)) (.seq (.region [{ rd := [10] }, { rd := [10] }, { rd := [10] }, { rd := [10] }]) (.seq (.region [{ rd := [10] }, { rd := [10] }]) (.seq (.region [{ rd := [10] }, { rd := [10] }]) (.seq (.region [{}, {}, {}, {}, {}, { new := [12] }, { wr := [12] }]) (.seq (.seq (.cut [(.normal, [(1, (.ptr 13 0)), (2, (.ptr 14 0)), (9, (.ptr 15 0)), (47, KA9), (100013, KA15), (100014, KA4), (100015, KA4)])] (.region [{ rd := [12] }, { rd := [12] }, {}, {}, {}, { rd := [12] }, { rd := [12] }])) (.cond (.seq (.region [{}, { wr := [14] }]) .leaf) .leaf)) (.seq (.cut [(.normal, [(2, (.ptr 16 0)), (9, (.ptr 17 0)), (100016, KA4), (100017, KA4)])] (.seq (.region [{ rd := [13] }, { rd := [13] }]) (.cond (.region [{ rd := [15] }, { rd := [15] }, {}, { rd := [15] }, { wr := [15] }]) .leaf))) (.seq (.region [{ rd := [17] }, { wr := [16] }]) .leaf)))))))))
noncomputable def run151 : Ks.den inst151.args → Ks.den inst151.objs → Option inst151.out.den := fun x _ => exact_number__write x.1
theorem ev151 : ∀ x y, evFn fx149 56 (bodyOf Tryz.f151) [.cell 2 25, .tmp 3] hint151 inst151 x y = run151 x y := by intro x y; kernel_rfl
theorem ok151 : FnOK Tryz.prog fx149.glob 151 (inst151.sem run151) :=
  fn_add fx149_ok feMixed 151 Tryz.f151 [.cell 2 25, .tmp 3] hint151 inst151 56 run151 Tryz.func151 (by kernel_rfl) Tryz.ntmps151 (by kernel_rfl) (by kernel_rfl) ev151
noncomputable def fx151 : Ctx := fx149.add 151 (inst151.sem run151)
theorem fx151_ok : CtxOK fx151 Tryz.prog := add_ok fx149_ok ok151 Tryz.call151
def inst100 : Inst := { args := [KA10], objs := [], nres := 2, out := [(90000, KA6), (90001, KA3)], news := 0 }
def hint100 : HC := (.seq (.region [{ new := [10] }]) (.seq (.seq (.region []) (.cond (.seq (.region [{}, { wr := [10] }]) .leaf) .leaf)) (.seq (.region []) (.seq (.region []) (.seq (.region []) (.seq (.cut [(.normal, [(2, (.ptr 11 0)), (4, KA10), (7, KA10), (100011, KA4)]), (.ret, [(2, (.ptr 12 0)), (3, KA3), (100012, KA4)])] (.seq (.region []) (.seq (.region []) (.cond (.seq (.region []) (.seq (.region []) (.cond (.seq (.region [{}, { wr := [10] }]) .leaf) .leaf))) .leaf)))) (.seq (.region []) (.seq (.seq (.cut [(.normal, [(2, (.ptr 13 0)), (51, KA9), (100013, KA4)])] (.region [])) (.cond (.seq (.region [{}, { wr := [13] }]) .leaf) .leaf)) (.seq (.region [{}, {}, {}, {}, {}, { new := [14] }, { fz := [(58, 14)] }, { new := [15] }, { wr := [15] }]) (.seq (.cut [(.normal, [(2, (.ptr 16 0)), (12, (.ptr 17 0)), (100016, KA4), (100017, KA15)])] (.seq (.region []) (.seq (.region []) (.cond (.region [{}, {}, {}, { rd := [15] }, { wr := [15] }]) (.region [{ rd := [15] }, { rd := [15] }, {}, {}, {}, { rd := [15] }, { wr := [15] }]))))) (.seq (.region [{ rd := [17] }, {}, {}, {}, { wr := [16] }]) .leaf)))))))))))
noncomputable def run100 : Ks.den inst100.args → Ks.den inst100.objs → Option inst100.out.den := fun x _ => exact_Parse x.1
theorem ev100 : ∀ x y, evFn fx151 80 (bodyOf Tryz.f100) [.cell 2 25, .tmp 3] hint100 inst100 x y = run100 x y := by intro x y; kernel_rfl
theorem ok100 : FnOK Tryz.prog fx151.glob 100 (inst100.sem run100) :=
  fn_add fx151_ok feMixed 100 Tryz.f100 [.cell 2 25, .tmp 3] hint100 inst100 80 run100 Tryz.func100 (by kernel_rfl) Tryz.ntmps100 (by kernel_rfl) (by kernel_rfl) ev100
noncomputable def fx100 : Ctx := fx151.add 100 (inst100.sem run100)
theorem fx100_ok : CtxOK fx100 Tryz.prog := add_ok fx151_ok ok100 Tryz.call100
def inst69 : Inst := { args := [KA3], objs := [], nres := 1, out := [(90000, KA6)], news := 0 }
def hint69 : HC := (.seq (.region [{ new := [10] }]) (.seq (.region [{}, {}, {}, { wr := [10] }]) .leaf))
noncomputable def run69 : Ks.den inst69.args → Ks.den inst69.objs → Option inst69.out.den := fun x _ => exact_Of x.1
theorem ev69 : ∀ x y, evFn fx100 6 (bodyOf Tryz.f69) [.cell 2 25] hint69 inst69 x y = run69 x y := by intro x y; kernel_rfl
theorem ok69 : FnOK Tryz.prog fx100.glob 69 (inst69.sem run69) :=
  fn_add fx100_ok feMixed 69 Tryz.f69 [.cell 2 25] hint69 inst69 6 run69 Tryz.func69 (by kernel_rfl) Tryz.ntmps69 (by kernel_rfl) (by kernel_rfl) ev69
noncomputable def fx69 : Ctx := fx100.add 69 (inst69.sem run69)
theorem fx69_ok : CtxOK fx69 Tryz.prog := add_ok fx100_ok ok69 Tryz.call69
def inst172 : Inst := { args := [KA6, KA6], objs := [], nres := 3, out := [(90000, KA11), (90001, KA11), (90002, KA3)], news := 0 }
def hint172 : HC := (.seq (.region [{ new := [10] }, { new := [11] }, { new := [12] }, { new := [13] }]) (.seq (.region [{ rd := [10] }, {}, {}, {}, {}, { new := [14] }, { wr := [14] }]) (.seq (.seq (.region []) (.cond (.seq (.region [{ rd := [14] }, { rd := [14] }, {}, { wr := [12] }, { wr := [13] }]) .leaf) .leaf)) (.seq (.region [{ rd := [11] }, {}, {}, {}, {}, { new := [15] }, { wr := [15] }]) (.seq (.region [{ rd := [14] }, { rd := [15] }, {}, { wr := [12] }, { wr := [13] }]) .leaf)))))
noncomputable def run172 : Ks.den inst172.args → Ks.den inst172.objs → Option inst172.out.den := fun x _ => exact_both x.1 x.2.1
theorem ev172 : ∀ x y, evFn fx69 28 (bodyOf Tryz.f172) [.cell 4 131, .cell 5 131, .tmp 6] hint172 inst172 x y = run172 x y := by intro x y; kernel_rfl
theorem ok172 : FnOK Tryz.prog fx69.glob 172 (inst172.sem run172) :=
  fn_add fx69_ok feMixed 172 Tryz.f172 [.cell 4 131, .cell 5 131, .tmp 6] hint172 inst172 28 run172 Tryz.func172 (by kernel_rfl) Tryz.ntmps172 (by kernel_rfl) (by kernel_rfl) ev172
noncomputable def fx172 : Ctx := fx69.add 172 (inst172.sem run172)
theorem fx172_ok : CtxOK fx172 Tryz.prog := add_ok fx69_ok ok172 Tryz.call172
def inst153 : Inst := { args := [KA11, KA11], objs := [], nres := 2, out := [(90000, KA11), (90001, KA3)], news := 0 }
def hint153 : HC := (.seq (.region [{ new := [10] }, { new := [11] }, { new := [12] }]) (.seq (.seq (.region [{ rd := [11] }, { rd := [11] }]) (.cond (.seq (.region [{}, { wr := [12] }]) .leaf) .leaf)) (.seq (.region [{ rd := [10] }, { rd := [10] }, { rd := [11] }, { rd := [11] }, {}, { rd := [10] }, { rd := [10] }, { rd := [11] }, { rd := [11] }, {}, { rd := [10] }, { rd := [10] }, { rd := [11] }, { rd := [11] }, {}, {}, { wr := [12] }]) .leaf)))
noncomputable def run153 : Ks.den inst153.args → Ks.den inst153.objs → Option inst153.out.den := fun x _ => exact_Div_1 x.1 x.2.1
theorem ev153 : ∀ x y, evFn fx172 26 (bodyOf Tryz.f153) [.cell 4 131, .tmp 5] hint153 inst153 x y = run153 x y := by intro x y; kernel_rfl
theorem ok153 : FnOK Tryz.prog fx172.glob 153 (inst153.sem run153) :=
  fn_add fx172_ok feMixed 153 Tryz.f153 [.cell 4 131, .tmp 5] hint153 inst153 26 run153 Tryz.func153 (by kernel_rfl) Tryz.ntmps153 (by kernel_rfl) (by kernel_rfl) ev153
noncomputable def fx153 : Ctx := fx172.add 153 (inst153.sem run153)
theorem fx153_ok : CtxOK fx153 Tryz.prog := add_ok fx172_ok ok153 Tryz.call153
def inst152 : Inst := { args := [KA6, KA6, (.fn 153 .unit)], objs := [], nres := 2, out := [(90000, KA6), (90001, KA3)], news := 0 }
def hint152 : HC := (.seq (.region [{ new := [10] }, { new := [11] }, { new := [12] }]) (.seq (.region [{ rd := [10] }, { rd := [11] }, {}, {}, {}, {}, {}, { new := [13] }, { new := [14] }, { wr := [13] }, { wr := [14] }]) (.seq (.seq (.region []) (.cond (.seq (.region [{}, {}, { wr := [12] }]) .leaf) .leaf)) (.seq (.region [{}, { rd := [13] }, { rd := [14] }, {}, {}, {}, {}, { new := [15] }, { wr := [15] }]) (.seq (.seq (.region []) (.cond (.seq (.region [{}, {}, { wr := [12] }]) .leaf) .leaf)) (.seq (.region [{ rd := [15] }, {}, {}, {}, { wr := [12] }]) .leaf))))))
noncomputable def run152 : Ks.den inst152.args → Ks.den inst152.objs → Option inst152.out.den := fun x _ => exact_two_Div_1 x.1 x.2.1
theorem ev152 : ∀ x y, evFn fx153 38 (bodyOf Tryz.f152) [.cell 6 25, .tmp 7] hint152 inst152 x y = run152 x y := by intro x y; kernel_rfl
theorem ok152 : FnOK Tryz.prog fx153.glob 152 (inst152.sem run152) :=
  fn_add fx153_ok feMixed 152 Tryz.f152 [.cell 6 25, .tmp 7] hint152 inst152 38 run152 Tryz.func152 (by kernel_rfl) Tryz.ntmps152 (by kernel_rfl) (by kernel_rfl) ev152
noncomputable def fx152 : Ctx := fx153.add 152 (inst152.sem run152)
theorem fx152_ok : CtxOK fx152 Tryz.prog := add_ok fx153_ok ok152 Tryz.call152
def inst101 : Inst := { args := [KA6, KA6], objs := [], nres := 2, out := [(90000, KA6), (90001, KA3)], news := 0 }
def hint101 : HC := (.seq (.region [{ new := [10] }, { new := [11] }, { new := [12] }]) (.seq (.region [{ rd := [10] }, { rd := [11] }, {}, {}, {}, { wr := [12] }]) .leaf))
noncomputable def run101 : Ks.den inst101.args → Ks.den inst101.objs → Option inst101.out.den := fun x _ => exact_Div x.1 x.2.1
theorem ev101 : ∀ x y, evFn fx152 11 (bodyOf Tryz.f101) [.cell 4 25, .tmp 5] hint101 inst101 x y = run101 x y := by intro x y; kernel_rfl
theorem ok101 : FnOK Tryz.prog fx152.glob 101 (inst101.sem run101) :=
  fn_add fx152_ok feMixed 101 Tryz.f101 [.cell 4 25, .tmp 5] hint101 inst101 11 run101 Tryz.func101 (by kernel_rfl) Tryz.ntmps101 (by kernel_rfl) (by kernel_rfl) ev101
noncomputable def fx101 : Ctx := fx152.add 101 (inst101.sem run101)
theorem fx101_ok : CtxOK fx101 Tryz.prog := add_ok fx152_ok ok101 Tryz.call101
def inst48 : Inst := { args := [KA10], objs := [], nres := 2, out := [(90000, KA6), (90001, KA9)], news := 0 }
def hint48 : HC := (.seq (.region [{ new := [10] }]) (.seq (.region []) (.seq (.cut [(.normal, [(0, KA10), (2, (.ptr 12 0)), (4, KA10), (100012, KA4)])] (.seq (.cut [(.normal, [(2, (.ptr 11 0)), (17, KA9), (100011, KA4)])] (.region [])) (.cond (.region []) .leaf))) (.seq (.region []) (.seq (.region []) (.seq (.seq (.region []) (.cond (.seq (.region [{}, { wr := [12] }]) .leaf) .leaf)) (.seq (.region [{}, {}, {}, {}, {}, {}, {}, {}, {}, { new := [13] }, { wr := [13] }]) (.seq (.cut [(.normal, [(2, (.ptr 16 0)), (8, (.ptr 17 0)), (9, KA3), (100016, KA4), (100017, KA4)])] (.seq (.cut [(.normal, [(2, (.ptr 14 0)), (8, (.ptr 15 0)), (49, KA9), (100014, KA4), (100015, KA4)])] (.region [])) (.cond (.region [{ rd := [15] }, {}, {}, {}, {}, {}, { wr := [15] }]) .leaf))) (.seq (.region [{ rd := [17] }, {}, {}, { wr := [16] }]) .leaf)))))))))
noncomputable def run48 : Ks.den inst48.args → Ks.den inst48.objs → Option inst48.out.den := fun x _ => value_number x.1
theorem ev48 : ∀ x y, evFn fx101 59 (bodyOf Tryz.f48) [.cell 2 25, .tmp 3] hint48 inst48 x y = run48 x y := by intro x y; kernel_rfl
theorem ok48 : FnOK Tryz.prog fx101.glob 48 (inst48.sem run48) :=
  fn_add fx101_ok feMixed 48 Tryz.f48 [.cell 2 25, .tmp 3] hint48 inst48 59 run48 Tryz.func48 (by kernel_rfl) Tryz.ntmps48 (by kernel_rfl) (by kernel_rfl) ev48
noncomputable def fx48 : Ctx := fx101.add 48 (inst48.sem run48)
theorem fx48_ok : CtxOK fx48 Tryz.prog := add_ok fx101_ok ok48 Tryz.call48
def inst18 : Inst := { args := [KA6], objs := [], nres := 1, out := [(90000, KA17)], news := 0 }
def hint18 : HC := (.seq (.region [{ new := [10] }, { new := [11] }]) (.seq (.region [{ rd := [10] }, {}, {}, { wr := [11] }]) .leaf))
noncomputable def run18 : Ks.den inst18.args → Ks.den inst18.objs → Option inst18.out.den := fun x _ => value_Number x.1
theorem ev18 : ∀ x y, evFn fx48 6 (bodyOf Tryz.f18) [.cell 2 28] hint18 inst18 x y = run18 x y := by intro x y; kernel_rfl
theorem ok18 : FnOK Tryz.prog fx48.glob 18 (inst18.sem run18) :=
  fn_add fx48_ok feMixed 18 Tryz.f18 [.cell 2 28] hint18 inst18 6 run18 Tryz.func18 (by kernel_rfl) Tryz.ntmps18 (by kernel_rfl) (by kernel_rfl) ev18
noncomputable def fx18 : Ctx := fx48.add 18 (inst18.sem run18)
theorem fx18_ok : CtxOK fx18 Tryz.prog := add_ok fx48_ok ok18 Tryz.call18
def inst155 : Inst := { args := [KA10, KA10], objs := [], nres := 3, out := [(90000, KA10), (90001, KA10), (90002, KA9)], news := 0 }
def hint155 : HC := (.seq (.region []) (.seq (.seq (.region []) (.seq (.region []) (.cond (.seq (.region []) .leaf) .leaf))) (.seq (.region []) .leaf)))
noncomputable def run155 : Ks.den inst155.args → Ks.den inst155.objs → Option inst155.out.den := fun x _ => stringslite_Cut x.1 x.2.1
theorem ev155 : ∀ x y, evFn fx18 23 (bodyOf Tryz.f155) [.tmp 4, .tmp 5, .tmp 6] hint155 inst155 x y = run155 x y := by intro x y; kernel_rfl
theorem ok155 : FnOK Tryz.prog fx18.glob 155 (inst155.sem run155) :=
  fn_add fx18_ok feMixed 155 Tryz.f155 [.tmp 4, .tmp 5, .tmp 6] hint155 inst155 23 run155 Tryz.func155 (by kernel_rfl) Tryz.ntmps155 (by kernel_rfl) (by kernel_rfl) ev155
noncomputable def fx155 : Ctx := fx18.add 155 (inst155.sem run155)
theorem fx155_ok : CtxOK fx155 Tryz.prog := add_ok fx18_ok ok155 Tryz.call155
def inst102 : Inst := { args := [KA10, KA10], objs := [], nres := 3, out := [(90000, KA10), (90001, KA10), (90002, KA9)], news := 0 }
def hint102 : HC := (.seq (.region []) (.seq (.region []) .leaf))
noncomputable def run102 : Ks.den inst102.args → Ks.den inst102.objs → Option inst102.out.den := fun x _ => strings_Cut x.1 x.2.1
theorem ev102 : ∀ x y, evFn fx155 13 (bodyOf Tryz.f102) [.tmp 4, .tmp 5, .tmp 6] hint102 inst102 x y = run102 x y := by intro x y; kernel_rfl
theorem ok102 : FnOK Tryz.prog fx155.glob 102 (inst102.sem run102) :=
  fn_add fx155_ok feMixed 102 Tryz.f102 [.tmp 4, .tmp 5, .tmp 6] hint102 inst102 13 run102 Tryz.func102 (by kernel_rfl) Tryz.ntmps102 (by kernel_rfl) (by kernel_rfl) ev102
noncomputable def fx102 : Ctx := fx155.add 102 (inst102.sem run102)
theorem fx102_ok : CtxOK fx102 Tryz.prog := add_ok fx155_ok ok102 Tryz.call102
def inst103 : Inst := { args := [KA10], objs := [], nres := 2, out := [(90000, KA6), (90001, KA9)], news := 0 }
def hint103 : HC := (.seq (.region [{ new := [10] }]) (.seq (.seq (.region []) (.seq (.cut [(.normal, [(2, (.ptr 11 0)), (23, KA9), (100011, KA4)])] (.region [])) (.cond (.seq (.region [{}, { wr := [11] }]) .leaf) .leaf))) (.seq (.region [{}, {}, {}, {}, {}, { new := [12] }, { wr := [12] }]) (.seq (.region [{ rd := [12] }, {}, {}, { wr := [11] }]) .leaf))))
noncomputable def run103 : Ks.den inst103.args → Ks.den inst103.objs → Option inst103.out.den := fun x _ => value_whole x.1
theorem ev103 : ∀ x y, evFn fx102 33 (bodyOf Tryz.f103) [.cell 2 25, .tmp 3] hint103 inst103 x y = run103 x y := by intro x y; kernel_rfl
theorem ok103 : FnOK Tryz.prog fx102.glob 103 (inst103.sem run103) :=
  fn_add fx102_ok feMixed 103 Tryz.f103 [.cell 2 25, .tmp 3] hint103 inst103 33 run103 Tryz.func103 (by kernel_rfl) Tryz.ntmps103 (by kernel_rfl) (by kernel_rfl) ev103
noncomputable def fx103 : Ctx := fx102.add 103 (inst103.sem run103)
theorem fx103_ok : CtxOK fx103 Tryz.prog := add_ok fx102_ok ok103 Tryz.call103
def inst186 : Inst := { args := [KA13, KA13], objs := [], nres := 1, out := [(90000, KA13)], news := 0 }
def hint186 : HC := (.seq (.region []) (.seq (.region [{}, {}, {}, {}, {}, {}, { new := [10] }]) (.seq (.region []) (.seq (.seq (.region []) (.block (.loop [(5, (.own 11)), (6, (.val YA14)), (7, KA3), (100011, (.vec none YA14))] [((.exit 0), [(5, (.own 17)), (100017, (.vec none YA14))])] (.seq (.seq (.cut [(.normal, [(5, (.own 12)), (29, KA9), (100012, (.vec none YA14))])] (.region [])) (.cond .leaf .leaf)) (.seq (.block (.seq (.region []) (.seq (.cut [(.normal, [(5, (.own 13)), (8, (.val YA14)), (100013, (.vec none YA14))])] (.seq (.region []) (.cond (.region []) .leaf))) (.seq (.cut [(.normal, [(5, (.own 14)), (8, (.val YA14)), (100014, (.vec none YA14))])] (.seq (.region []) (.cond (.region []) .leaf))) (.seq (.region [{}, {}, {}, { new := [15] }, { rd := [15], wr := [14], new := [16] }]) (.region [])))))) (.region [])))))) (.seq (.region []) .leaf)))))
noncomputable def run186 : Ks.den inst186.args → Ks.den inst186.objs → Option inst186.out.den := fun x _ => exact_nat__plus x.1 x.2.1
theorem ev186 : ∀ x y, evFn fx103 61 (bodyOf Tryz.f186) [.tmp 4] hint186 inst186 x y = run186 x y := by intro x y; kernel_rfl
theorem ok186 : FnOK Tryz.prog fx103.glob 186 (inst186.sem run186) :=
  fn_add fx103_ok feMixed 186 Tryz.f186 [.tmp 4] hint186 inst186 61 run186 Tryz.func186 (by kernel_rfl) Tryz.ntmps186 (by kernel_rfl) (by kernel_rfl) ev186
noncomputable def fx186 : Ctx := fx103.add 186 (inst186.sem run186)
theorem fx186_ok : CtxOK fx186 Tryz.prog := add_ok fx103_ok ok186 Tryz.call186
def inst157 : Inst := { args := [KA11, KA11], objs := [], nres := 1, out := [(90000, KA11)], news := 0 }
def hint157 : HC := (.seq (.region [{ new := [10] }, { new := [11] }, { new := [12] }]) (.seq (.region [{ rd := [10] }, { rd := [10] }, { rd := [11] }, { rd := [11] }, {}, { rd := [11] }, { rd := [11] }, { rd := [10] }, { rd := [10] }]) (.seq (.region [{ rd := [10] }, { rd := [10] }, { rd := [11] }, { rd := [11] }]) (.seq (.seq (.region [{ rd := [10] }, { rd := [10] }, { rd := [11] }, { rd := [11] }]) (.cond (.seq (.region [{ rd := [10] }, { rd := [10] }, {}, {}, {}, {}, {}, { wr := [12] }]) .leaf) .leaf)) (.seq (.seq (.region []) (.cond (.seq (.region [{ rd := [10] }, { rd := [10] }, {}, {}, {}, {}, {}, { wr := [12] }]) .leaf) .leaf)) (.seq (.region [{ rd := [11] }, { rd := [11] }, {}, {}, {}, {}, {}, { wr := [12] }]) .leaf))))))
noncomputable def run157 : Ks.den inst157.args → Ks.den inst157.objs → Option inst157.out.den := fun x _ => exact_sum x.1 x.2.1
theorem ev157 : ∀ x y, evFn fx186 53 (bodyOf Tryz.f157) [.cell 4 131] hint157 inst157 x y = run157 x y := by intro x y; kernel_rfl
theorem ok157 : FnOK Tryz.prog fx186.glob 157 (inst157.sem run157) :=
  fn_add fx186_ok feMixed 157 Tryz.f157 [.cell 4 131] hint157 inst157 53 run157 Tryz.func157 (by kernel_rfl) Tryz.ntmps157 (by kernel_rfl) (by kernel_rfl) ev157
noncomputable def fx157 : Ctx := fx186.add 157 (inst157.sem run157)
theorem fx157_ok : CtxOK fx157 Tryz.prog := add_ok fx186_ok ok157 Tryz.call157
def inst156 : Inst := { args := [KA11, KA11], objs := [], nres := 2, out := [(90000, KA11), (90001, KA3)], news := 0 }
def hint156 : HC := (.seq (.region [{ new := [10] }, { new := [11] }, { new := [12] }]) (.seq (.region [{ rd := [10] }, { rd := [11] }, {}, { wr := [12] }]) .leaf))
noncomputable def run156 : Ks.den inst156.args → Ks.den inst156.objs → Option inst156.out.den := fun x _ => exact_Add_1 x.1 x.2.1
theorem ev156 : ∀ x y, evFn fx157 9 (bodyOf Tryz.f156) [.cell 4 131, .tmp 5] hint156 inst156 x y = run156 x y := by intro x y; kernel_rfl
theorem ok156 : FnOK Tryz.prog fx157.glob 156 (inst156.sem run156) :=
  fn_add fx157_ok feMixed 156 Tryz.f156 [.cell 4 131, .tmp 5] hint156 inst156 9 run156 Tryz.func156 (by kernel_rfl) Tryz.ntmps156 (by kernel_rfl) (by kernel_rfl) ev156
noncomputable def fx156 : Ctx := fx157.add 156 (inst156.sem run156)
theorem fx156_ok : CtxOK fx156 Tryz.prog := add_ok fx157_ok ok156 Tryz.call156
def inst152x2 : Inst := { args := [KA6, KA6, (.fn 156 .unit)], objs := [], nres := 2, out := [(90000, KA6), (90001, KA3)], news := 0 }
def hint152x2 : HC := (.seq (.region [{ new := [10] }, { new := [11] }, { new := [12] }]) (.seq (.region [{ rd := [10] }, { rd := [11] }, {}, {}, {}, {}, {}, { new := [13] }, { new := [14] }, { wr := [13] }, { wr := [14] }]) (.seq (.seq (.region []) (.cond (.seq (.region [{}, {}, { wr := [12] }]) .leaf) .leaf)) (.seq (.region [{}, { rd := [13] }, { rd := [14] }, {}, {}, {}, {}, { new := [15] }, { wr := [15] }]) (.seq (.seq (.region []) (.cond (.seq (.region [{}, {}, { wr := [12] }]) .leaf) .leaf)) (.seq (.region [{ rd := [15] }, {}, {}, {}, { wr := [12] }]) .leaf))))))
noncomputable def run152x2 : Ks.den inst152x2.args → Ks.den inst152x2.objs → Option inst152x2.out.den := fun x _ => exact_two_Add_1 x.1 x.2.1
theorem ev152x2 : ∀ x y, evFn fx156 38 (bodyOf Tryz.f152) [.cell 6 25, .tmp 7] hint152x2 inst152x2 x y = run152x2 x y := by intro x y; kernel_rfl
theorem ok152x2 : FnOK Tryz.prog fx156.glob 152 (inst152x2.sem run152x2) :=
  fn_add fx156_ok feMixed 152 Tryz.f152 [.cell 6 25, .tmp 7] hint152x2 inst152x2 38 run152x2 Tryz.func152 (by kernel_rfl) Tryz.ntmps152 (by kernel_rfl) (by kernel_rfl) ev152x2
noncomputable def fx152x2 : Ctx := fx156.more 152 (inst152x2.sem run152x2)
theorem fx152x2_ok : CtxOK fx152x2 Tryz.prog := more_ok fx156_ok ok152x2 Tryz.call152
def inst104 : Inst := { args := [KA6, KA6], objs := [], nres := 2, out := [(90000, KA6), (90001, KA3)], news := 0 }
def hint104 : HC := (.seq (.region [{ new := [10] }, { new := [11] }, { new := [12] }]) (.seq (.region [{ rd := [10] }, { rd := [11] }, {}, {}, {}, { wr := [12] }]) .leaf))
noncomputable def run104 : Ks.den inst104.args → Ks.den inst104.objs → Option inst104.out.den := fun x _ => exact_Add x.1 x.2.1
theorem ev104 : ∀ x y, evFn fx152x2 11 (bodyOf Tryz.f104) [.cell 4 25, .tmp 5] hint104 inst104 x y = run104 x y := by intro x y; kernel_rfl
theorem ok104 : FnOK Tryz.prog fx152x2.glob 104 (inst104.sem run104) :=
  fn_add fx152x2_ok feMixed 104 Tryz.f104 [.cell 4 25, .tmp 5] hint104 inst104 11 run104 Tryz.func104 (by kernel_rfl) Tryz.ntmps104 (by kernel_rfl) (by kernel_rfl) ev104
noncomputable def fx104 : Ctx := fx152x2.add 104 (inst104.sem run104)
theorem fx104_ok : CtxOK fx104 Tryz.prog := add_ok fx152x2_ok ok104 Tryz.call104
def inst105 : Inst := { args := [KA6], objs := [], nres := 2, out := [(90000, KA6), (90001, KA3)], news := 0 }
def hint105 : HC := (.seq (.region [{ new := [10] }, { new := [11] }]) (.seq (.region [{ rd := [10] }, {}, {}, {}, {}, { new := [12] }, { wr := [12] }]) (.seq (.seq (.region []) (.cond (.seq (.region [{}, {}, { wr := [11] }]) .leaf) .leaf)) (.seq (.region [{ rd := [12] }, { rd := [12] }, {}, { rd := [12] }, { wr := [12] }]) (.seq (.region [{ rd := [12] }, {}, {}, {}, { wr := [11] }]) .leaf)))))
noncomputable def run105 : Ks.den inst105.args → Ks.den inst105.objs → Option inst105.out.den := fun x _ => exact_Neg x.1
theorem ev105 : ∀ x y, evFn fx104 23 (bodyOf Tryz.f105) [.cell 2 25, .tmp 3] hint105 inst105 x y = run105 x y := by intro x y; kernel_rfl
theorem ok105 : FnOK Tryz.prog fx104.glob 105 (inst105.sem run105) :=
  fn_add fx104_ok feMixed 105 Tryz.f105 [.cell 2 25, .tmp 3] hint105 inst105 23 run105 Tryz.func105 (by kernel_rfl) Tryz.ntmps105 (by kernel_rfl) (by kernel_rfl) ev105
noncomputable def fx105 : Ctx := fx104.add 105 (inst105.sem run105)
theorem fx105_ok : CtxOK fx105 Tryz.prog := add_ok fx104_ok ok105 Tryz.call105
def inst49 : Inst := { args := [KA10], objs := [], nres := 2, out := [(90000, KA6), (90001, KA9)], news := 0 }
def hint49 : HC := (.seq (.region [{ new := [10] }]) (.seq (.region []) (.seq (.region []) (.seq (.region []) (.seq (.region [{}, {}, {}, {}, {}, { new := [11] }, { wr := [11] }]) (.seq (.region [{}, {}, {}, {}, {}, { new := [12] }, { wr := [12] }]) (.seq (.region [{}, {}, {}, {}, {}, { new := [13] }, { wr := [13] }]) (.seq (.seq (.cut [(.normal, [(2, (.ptr 14 0)), (11, (.ptr 15 0)), (13, (.ptr 16 0)), (15, (.ptr 17 0)), (70, KA9), (100014, KA4), (100015, KA4), (100016, KA4), (100017, KA4)])] (.region [])) (.cond (.seq (.region [{}, { wr := [14] }]) .leaf) .leaf)) (.seq (.region [{ rd := [16] }, { rd := [17] }, {}, {}, {}, {}, { new := [18] }, { wr := [18] }]) (.seq (.region [{ rd := [15] }, { rd := [18] }, {}, {}, {}, {}, { new := [19] }, { wr := [19] }]) (.seq (.seq (.cut [(.normal, [(2, (.ptr 20 0)), (19, (.ptr 21 0)), (89, KA9), (100020, KA4), (100021, KA4)])] (.region [])) (.cond (.seq (.region [{}, { wr := [20] }]) .leaf) .leaf)) (.seq (.cut [(.normal, [(2, (.ptr 22 0)), (19, (.ptr 23 0)), (100022, KA4), (100023, KA4)])] (.seq (.region []) (.cond (.region [{ rd := [21] }, {}, {}, {}, {}, { wr := [21] }]) .leaf))) (.seq (.region [{ rd := [23] }, { wr := [22] }]) .leaf)))))))))))))
noncomputable def run49 : Ks.den inst49.args → Ks.den inst49.objs → Option inst49.out.den := fun x _ => value_mixed x.1
theorem ev49 : ∀ x y, evFn fx105 98 (bodyOf Tryz.f49) [.cell 2 25, .tmp 3] hint49 inst49 x y = run49 x y := by intro x y; kernel_rfl
theorem ok49 : FnOK Tryz.prog fx105.glob 49 (inst49.sem run49) :=
  fn_add fx105_ok feMixed 49 Tryz.f49 [.cell 2 25, .tmp 3] hint49 inst49 98 run49 Tryz.func49 (by kernel_rfl) Tryz.ntmps49 (by kernel_rfl) (by kernel_rfl) ev49
noncomputable def fx49 : Ctx := fx105.add 49 (inst49.sem run49)
theorem fx49_ok : CtxOK fx49 Tryz.prog := add_ok fx105_ok ok49 Tryz.call49
def inst191 : Inst := { args := [KA10, KA10], objs := [], nres := 1, out := [(90000, KA3)], news := 0 }
def hint191 : HC := (.seq (.region []) (.seq (.region []) .leaf))
noncomputable def run191 : Ks.den inst191.args → Ks.den inst191.objs → Option inst191.out.den := fun x _ => strings_Index x.1 x.2.1
theorem ev191 : ∀ x y, evFn fx49 8 (bodyOf Tryz.f191) [.tmp 4] hint191 inst191 x y = run191 x y := by intro x y; kernel_rfl
theorem ok191 : FnOK Tryz.prog fx49.glob 191 (inst191.sem run191) :=
  fn_add fx49_ok feMixed 191 Tryz.f191 [.tmp 4] hint191 inst191 8 run191 Tryz.func191 (by kernel_rfl) Tryz.ntmps191 (by kernel_rfl) (by kernel_rfl) ev191
noncomputable def fx191 : Ctx := fx49.add 191 (inst191.sem run191)
theorem fx191_ok : CtxOK fx191 Tryz.prog := add_ok fx49_ok ok191 Tryz.call191
def inst158 : Inst := { args := [KA10, KA10, KA3, KA3], objs := [], nres := 1, out := [(90000, (.val (.sl .str)))], news := 0 }
def hint158 : HC := (.seq (.region []) (.seq (.seq (.region []) (.cond (.seq (.region []) .leaf) .leaf)) (.seq (.seq (.region []) (.cond (.seq (.region []) .leaf) .leaf)) (.seq (.cut [(.normal, [(3, KA3)])] (.seq (.region []) (.cond (.region []) .leaf))) (.seq (.region []) (.seq (.region [{}, { new := [10] }]) (.seq (.region []) (.seq (.region []) (.seq (.block (.loop [(0, KA10), (9, (.own 11)), (10, KA3), (100011, (.vec none .str))] [((.exit 0), [(0, KA10), (9, (.own 12)), (10, KA3), (100012, (.vec none .str))])] (.seq (.seq (.region []) (.cond .leaf .leaf)) (.block (.seq (.region []) (.seq (.seq (.region []) (.cond .leaf .leaf)) (.seq (.region [{}, {}, {}, {}, {}, {}, {}, { rd := [11] }, { wr := [11] }]) (.seq (.region []) (.region []))))))))) (.seq (.region [{}, {}, {}, { rd := [12] }, { wr := [12] }]) (.seq (.region [{}, {}, {}, { wr := [12], new := [13] }]) .leaf)))))))))))
noncomputable def run158 : Ks.den inst158.args → Ks.den inst158.objs → Option inst158.out.den := fun x _ => strings_genSplit x.1 x.2.1 x.2.2.1 x.2.2.2.1
theorem ev158 : ∀ x y, evFn fx191 66 (bodyOf Tryz.f158) [.tmp 8] hint158 inst158 x y = run158 x y := by intro x y; kernel_rfl
theorem ok158 : FnOK Tryz.prog fx191.glob 158 (inst158.sem run158) :=
  fn_add fx191_ok feMixed 158 Tryz.f158 [.tmp 8] hint158 inst158 66 run158 Tryz.func158 (by kernel_rfl) Tryz.ntmps158 (by kernel_rfl) (by kernel_rfl) ev158
noncomputable def fx158 : Ctx := fx191.add 158 (inst158.sem run158)
theorem fx158_ok : CtxOK fx158 Tryz.prog := add_ok fx191_ok ok158 Tryz.call158
def inst106 : Inst := { args := [KA10, KA10], objs := [], nres := 1, out := [(90000, (.val (.sl .str)))], news := 0 }
def hint106 : HC := (.seq (.region []) (.seq (.region []) .leaf))
noncomputable def run106 : Ks.den inst106.args → Ks.den inst106.objs → Option inst106.out.den := fun x _ => strings_Split x.1 x.2.1
theorem ev106 : ∀ x y, evFn fx158 8 (bodyOf Tryz.f106) [.tmp 4] hint106 inst106 x y = run106 x y := by intro x y; kernel_rfl
theorem ok106 : FnOK Tryz.prog fx158.glob 106 (inst106.sem run106) :=
  fn_add fx158_ok feMixed 106 Tryz.f106 [.tmp 4] hint106 inst106 8 run106 Tryz.func106 (by kernel_rfl) Tryz.ntmps106 (by kernel_rfl) (by kernel_rfl) ev106
noncomputable def fx106 : Ctx := fx158.add 106 (inst106.sem run106)
theorem fx106_ok : CtxOK fx106 Tryz.prog := add_ok fx158_ok ok106 Tryz.call106
def inst107 : Inst := { args := [KA10, KA3], objs := [], nres := 2, out := [(90000, KA3), (90001, KA9)], news := 0 }
def hint107 : HC := (.seq (.region []) (.seq (.region []) (.seq (.region []) (.seq (.region []) .leaf))))
noncomputable def run107 : Ks.den inst107.args → Ks.den inst107.objs → Option inst107.out.den := fun x _ => value_count x.1 x.2.1
theorem ev107 : ∀ x y, evFn fx106 33 (bodyOf Tryz.f107) [.tmp 4, .tmp 5] hint107 inst107 x y = run107 x y := by intro x y; kernel_rfl
theorem ok107 : FnOK Tryz.prog fx106.glob 107 (inst107.sem run107) :=
  fn_add fx106_ok feMixed 107 Tryz.f107 [.tmp 4, .tmp 5] hint107 inst107 33 run107 Tryz.func107 (by kernel_rfl) Tryz.ntmps107 (by kernel_rfl) (by kernel_rfl) ev107
noncomputable def fx107 : Ctx := fx106.add 107 (inst107.sem run107)
theorem fx107_ok : CtxOK fx107 Tryz.prog := add_ok fx106_ok ok107 Tryz.call107
def inst71 : Inst := { args := [KA3], objs := [], nres := 1, out := [(90000, (.val (.arr 12 YA12)))], news := 0 }
def hint71 : HC := (.seq (.region [{ new := [10] }]) (.seq (.region [{}, { new := [11] }, { wr := [11] }]) (.seq (.cut [(.normal, [(2, (.ptr 14 0)), (3, (.ptr 15 0)), (100014, (.vec (some 12) YA12)), (100015, (.vec (some 12) YA12))])] (.seq (.cut [(.normal, [(2, (.ptr 12 0)), (3, (.ptr 13 0)), (17, KA9), (100012, (.vec (some 12) YA12)), (100013, (.vec (some 12) YA12))])] (.region [])) (.cond (.region [{ rd := [13] }, { wr := [13] }]) .leaf))) (.seq (.region [{ rd := [15] }, { wr := [14] }]) .leaf))))
noncomputable def run71 : Ks.den inst71.args → Ks.den inst71.objs → Option inst71.out.den := fun x _ => value_lengths x.1
theorem ev71 : ∀ x y, evFn fx107 20 (bodyOf Tryz.f71) [.cell 2 87] hint71 inst71 x y = run71 x y := by intro x y; kernel_rfl
theorem ok71 : FnOK Tryz.prog fx107.glob 71 (inst71.sem run71) :=
  fn_add fx107_ok feMixed 71 Tryz.f71 [.cell 2 87] hint71 inst71 20 run71 Tryz.func71 (by kernel_rfl) Tryz.ntmps71 (by kernel_rfl) (by kernel_rfl) ev71
noncomputable def fx71 : Ctx := fx107.add 71 (inst71.sem run71)
theorem fx71_ok : CtxOK fx71 Tryz.prog := add_ok fx107_ok ok71 Tryz.call71
def inst72 : Inst := { args := [KA3], objs := [], nres := 1, out := [(90000, KA3)], news := 0 }
def hint72 : HC := (.seq (.region []) (.seq (.region []) (.seq (.region []) .leaf)))
noncomputable def run72 : Ks.den inst72.args → Ks.den inst72.objs → Option inst72.out.den := fun x _ => value_before x.1
theorem ev72 : ∀ x y, evFn fx71 19 (bodyOf Tryz.f72) [.tmp 2] hint72 inst72 x y = run72 x y := by intro x y; kernel_rfl
theorem ok72 : FnOK Tryz.prog fx71.glob 72 (inst72.sem run72) :=
  fn_add fx71_ok feMixed 72 Tryz.f72 [.tmp 2] hint72 inst72 19 run72 Tryz.func72 (by kernel_rfl) Tryz.ntmps72 (by kernel_rfl) (by kernel_rfl) ev72
noncomputable def fx72 : Ctx := fx71.add 72 (inst72.sem run72)
theorem fx72_ok : CtxOK fx72 Tryz.prog := add_ok fx71_ok ok72 Tryz.call72
def inst28 : Inst := { args := [KA3, KA3, KA3], objs := [], nres := 2, out := [(90000, KA3), (90001, KA9)], news := 0 }
def hint28 : HC := (.seq (.region []) (.seq (.seq (.cut [(.normal, [(25, KA9)])] (.region [])) (.cond (.seq (.region []) .leaf) .leaf)) (.seq (.region [{}, {}, { new := [10] }, { wr := [10] }]) (.seq (.seq (.cut [(.normal, [(8, (.ptr 11 0)), (37, KA9), (100011, (.vec (some 12) YA12))])] (.region [{}, {}, {}, {}, {}, {}, { rd := [10] }, { rd := [10] }])) (.cond (.seq (.region []) .leaf) .leaf)) (.seq (.region []) (.seq (.seq (.region [{}, {}, { wr := [11], new := [12] }, { rd := [12] }]) (.block (.loop [(9, KA3), (44, (.own 13)), (46, KA3), (100013, (.vec none YA12))] [((.exit 0), [(9, KA3)])] (.seq (.region []) (.seq (.cond .leaf .leaf) (.seq (.block (.seq (.region [{ rd := [13] }, { rd := [13] }]) (.region []))) (.region []))))))) (.seq (.region []) .leaf)))))))
noncomputable def run28 : Ks.den inst28.args → Ks.den inst28.objs → Option inst28.out.den := fun x _ => value_Day x.1 x.2.1 x.2.2.1
theorem ev28 : ∀ x y, evFn fx72 55 (bodyOf Tryz.f28) [.tmp 6, .tmp 7] hint28 inst28 x y = run28 x y := by intro x y; kernel_rfl
theorem ok28 : FnOK Tryz.prog fx72.glob 28 (inst28.sem run28) :=
  fn_add fx72_ok feMixed 28 Tryz.f28 [.tmp 6, .tmp 7] hint28 inst28 55 run28 Tryz.func28 (by kernel_rfl) Tryz.ntmps28 (by kernel_rfl) (by kernel_rfl) ev28
noncomputable def fx28 : Ctx := fx72.add 28 (inst28.sem run28)
theorem fx28_ok : CtxOK fx28 Tryz.prog := add_ok fx72_ok ok28 Tryz.call28
def inst50 : Inst := { args := [KA10], objs := [], nres := 2, out := [(90000, KA6), (90001, KA9)], news := 0 }
def hint50 : HC := (.seq (.region [{ new := [10] }]) (.seq (.region []) (.seq (.seq (.region []) (.cond (.seq (.region [{}, { wr := [10] }]) .leaf) .leaf)) (.seq (.region []) (.seq (.region []) (.seq (.region []) (.seq (.region []) (.seq (.region [{}, {}, {}, {}, {}, {}, {}, {}, {}, {}, {}, {}, { wr := [10] }]) .leaf))))))))
noncomputable def run50 : Ks.den inst50.args → Ks.den inst50.objs → Option inst50.out.den := fun x _ => value_date x.1
theorem ev50 : ∀ x y, evFn fx28 59 (bodyOf Tryz.f50) [.cell 2 25, .tmp 3] hint50 inst50 x y = run50 x y := by intro x y; kernel_rfl
theorem ok50 : FnOK Tryz.prog fx28.glob 50 (inst50.sem run50) :=
  fn_add fx28_ok feMixed 50 Tryz.f50 [.cell 2 25, .tmp 3] hint50 inst50 59 run50 Tryz.func50 (by kernel_rfl) Tryz.ntmps50 (by kernel_rfl) (by kernel_rfl) ev50
noncomputable def fx50 : Ctx := fx28.add 50 (inst50.sem run50)
theorem fx50_ok : CtxOK fx50 Tryz.prog := add_ok fx28_ok ok50 Tryz.call50
def inst51 : Inst := { args := [KA10], objs := [], nres := 2, out := [(90000, KA6), (90001, KA9)], news := 0 }
def hint51 : HC := (.seq (.region [{ new := [10] }]) (.seq (.region []) (.seq (.seq (.cut [(.normal, [(2, (.ptr 11 0)), (30, KA9), (100011, KA4)])] (.region [])) (.cond (.seq (.region [{}, { wr := [11] }]) .leaf) .leaf)) (.seq (.region []) (.seq (.region []) (.seq (.seq (.cut [(.normal, [(2, (.ptr 12 0)), (70, KA9), (100012, KA4)])] (.region [])) (.cond (.seq (.region [{}, { wr := [12] }]) .leaf) .leaf)) (.seq (.region [{}, {}, {}, {}, {}, {}, { new := [13] }, { wr := [13] }]) (.seq (.cut [(.normal, [(2, (.ptr 17 0)), (9, (.ptr 18 0)), (100017, KA4), (100018, KA4)]), (.ret, [(2, (.ptr 19 0)), (3, KA9), (100019, KA4)])] (.seq (.region []) (.cond (.seq (.region []) (.seq (.region []) (.seq (.region []) (.seq (.seq (.cut [(.normal, [(2, (.ptr 14 0)), (9, (.ptr 15 0)), (120, KA9), (100014, KA4), (100015, KA4)])] (.region [])) (.cond (.seq (.region [{}, { wr := [14] }]) .leaf) .leaf)) (.seq (.region [{}, {}, {}, {}, {}, {}, {}, { new := [16] }, { wr := [16] }]) (.region [{ rd := [15] }, { rd := [16] }, {}, {}, {}, {}, { wr := [15] }])))))) .leaf))) (.seq (.region [{ rd := [18] }, {}, {}, {}, {}, {}, { new := [20] }, { wr := [20] }]) (.seq (.region [{ rd := [20] }, {}, {}, { wr := [17] }]) .leaf))))))))))
noncomputable def run51 : Ks.den inst51.args → Ks.den inst51.objs → Option inst51.out.den := fun x _ => value_clock x.1
theorem ev51 : ∀ x y, evFn fx50 144 (bodyOf Tryz.f51) [.cell 2 25, .tmp 3] hint51 inst51 x y = run51 x y := by intro x y; kernel_rfl
theorem ok51 : FnOK Tryz.prog fx50.glob 51 (inst51.sem run51) :=
  fn_add fx50_ok feMixed 51 Tryz.f51 [.cell 2 25, .tmp 3] hint51 inst51 144 run51 Tryz.func51 (by kernel_rfl) Tryz.ntmps51 (by kernel_rfl) (by kernel_rfl) ev51
noncomputable def fx51 : Ctx := fx50.add 51 (inst51.sem run51)
theorem fx51_ok : CtxOK fx51 Tryz.prog := add_ok fx50_ok ok51 Tryz.call51
def inst52 : Inst := { args := [KA10], objs := [], nres := 2, out := [(90000, KA6), (90001, KA9)], news := 0 }
def hint52 : HC := (.seq (.region [{ new := [10] }]) (.seq (.region []) (.seq (.region [{}, {}, {}, {}, {}, { new := [11] }, { wr := [11] }]) (.seq (.region [{}, {}, {}, {}, {}, { new := [12] }, { wr := [12] }]) (.seq (.region [{ rd := [11] }, { rd := [12] }, {}, {}, {}, {}, { new := [13] }, { wr := [13] }]) (.seq (.region [{ rd := [13] }, {}, {}, {}, {}, {}, {}, {}, {}, {}, {}, {}, { wr := [10] }]) .leaf))))))
noncomputable def run52 : Ks.den inst52.args → Ks.den inst52.objs → Option inst52.out.den := fun x _ => value_instant x.1
theorem ev52 : ∀ x y, evFn fx51 47 (bodyOf Tryz.f52) [.cell 2 25, .tmp 3] hint52 inst52 x y = run52 x y := by intro x y; kernel_rfl
theorem ok52 : FnOK Tryz.prog fx51.glob 52 (inst52.sem run52) :=
  fn_add fx51_ok feMixed 52 Tryz.f52 [.cell 2 25, .tmp 3] hint52 inst52 47 run52 Tryz.func52 (by kernel_rfl) Tryz.ntmps52 (by kernel_rfl) (by kernel_rfl) ev52
noncomputable def fx52 : Ctx := fx51.add 52 (inst52.sem run52)
theorem fx52_ok : CtxOK fx52 Tryz.prog := add_ok fx51_ok ok52 Tryz.call52
def inst10 : Inst := { args := [KA10], objs := [], nres := 1, out := [(90000, KA17)], news := 0 }
def hint10 : HC := (.seq (.region [{ new := [10] }]) (.seq (.seq (.region []) (.cond (.seq (.region [{}, { wr := [10] }]) .leaf) .leaf)) (.seq (.seq (.region []) (.cond (.seq (.region [{}, { wr := [10] }]) .leaf) .leaf)) (.seq (.seq (.region []) (.seq (.region []) (.cond (.seq (.region [{}, {}, { wr := [10] }]) .leaf) .leaf))) (.seq (.seq (.region []) (.seq (.cut [(.normal, [(2, (.ptr 11 0)), (34, KA9), (100011, KA2)])] (.region [])) (.cond (.seq (.region [{}, {}, {}, { wr := [11] }]) .leaf) .leaf))) (.seq (.seq (.region []) (.block (.loop [(2, (.ptr 12 0)), (39, KA3), (100012, KA2)] [((.exit 0), [(2, (.ptr 14 0)), (100014, KA2)]), (.ret, [(2, (.ptr 15 0)), (100015, KA2)])] (.seq (.region []) (.seq (.cond .leaf .leaf) (.seq (.block (.seq (.region []) (.seq (.cut [(.normal, [(2, (.ptr 13 0)), (49, KA9), (100013, KA2)])] (.region [])) (.cond (.seq (.region [{}, {}, { wr := [13] }]) .leaf) .leaf)))) (.region []))))))) (.seq (.seq (.region []) (.block (.again (.seq (.region []) (.seq (.cond .leaf .leaf) (.seq (.block (.seq (.region []) (.seq (.region [{}, {}, {}, {}, {}, {}, { new := [16] }, { wr := [16] }]) (.seq (.region []) (.cond (.seq (.region [{ rd := [16] }, {}, { wr := [14] }]) .leaf) .leaf))))) (.region [])))) (.again (.seq (.region []) (.seq (.cond .leaf .leaf) (.seq (.block (.seq (.region []) (.seq (.region [{}, {}, {}, {}, {}, {}, { new := [17] }, { wr := [17] }]) (.seq (.region []) (.cond (.seq (.region [{ rd := [17] }, {}, { wr := [14] }]) .leaf) .leaf))))) (.region [])))) (.again (.seq (.region []) (.seq (.cond .leaf .leaf) (.seq (.block (.seq (.region []) (.seq (.region [{}, {}, {}, {}, {}, {}, { new := [18] }, { wr := [18] }]) (.seq (.region []) (.cond (.seq (.region [{ rd := [18] }, {}, { wr := [14] }]) .leaf) .leaf))))) (.region [])))) (.again (.seq (.region []) (.seq (.cond .leaf .leaf) (.seq (.block (.seq (.region []) (.seq (.region [{}, {}, {}, {}, {}, {}, { new := [19] }, { wr := [19] }]) (.seq (.region []) (.cond (.seq (.region [{ rd := [19] }, {}, { wr := [14] }]) .leaf) .leaf))))) (.region [])))) (.again (.seq (.region []) (.seq (.cond .leaf .leaf) (.seq (.block (.seq (.region []) (.seq (.region [{}, {}, {}, {}, {}, {}, { new := [20] }, { wr := [20] }]) (.seq (.region []) (.cond (.seq (.region [{ rd := [20] }, {}, { wr := [14] }]) .leaf) .leaf))))) (.region [])))) (.again (.seq (.region []) (.seq (.cond .leaf .leaf) (.seq (.block (.seq (.region []) (.seq (.region []) (.seq (.region []) (.cond (.seq (.region []) .leaf) .leaf))))) (.region [])))) .leaf)))))))) (.seq (.region [{}, {}, { wr := [14] }]) .leaf))))))))
noncomputable def run10 : Ks.den inst10.args → Ks.den inst10.objs → Option inst10.out.den := fun x _ => value_Enter x.1
theorem ev10 : ∀ x y, evFn fx52 69 (bodyOf Tryz.f10) [.cell 2 28] hint10 inst10 x y = run10 x y := by intro x y; kernel_rfl
theorem ok10 : FnOK Tryz.prog fx52.glob 10 (inst10.sem run10) :=
  fn_add fx52_ok feMixed 10 Tryz.f10 [.cell 2 28] hint10 inst10 69 run10 Tryz.func10 (by kernel_rfl) Tryz.ntmps10 (by kernel_rfl) (by kernel_rfl) ev10
noncomputable def fx10 : Ctx := fx52.add 10 (inst10.sem run10)
theorem fx10_ok : CtxOK fx10 Tryz.prog := add_ok fx52_ok ok10 Tryz.call10
def inst14 : Inst := { args := [KA17, KA17], objs := [], nres := 1, out := [(90000, KA9)], news := 0 }
def hint14 : HC := (.seq (.region [{ new := [10] }, { new := [11] }]) (.seq (.region [{ rd := [10] }, { rd := [11] }, { new := [12] }, { new := [13] }, { wr := [12] }, { wr := [13] }]) (.seq (.region [{ rd := [12] }, { wr := [12] }, { rd := [13] }, { wr := [13] }]) (.seq (.region [{ rd := [12] }, { rd := [12] }, { rd := [13] }, { rd := [13] }, {}, {}, { rd := [12] }, { rd := [12] }, { rd := [13] }, { rd := [13] }, {}, {}, {}, { rd := [12] }, { rd := [12] }, { rd := [13] }, { rd := [13] }, {}, {}, {}, { rd := [12] }, { rd := [12] }, { rd := [13] }, { rd := [13] }, {}, {}, {}, { rd := [12] }, { rd := [12] }, { rd := [13] }, { rd := [13] }, {}, {}, {}, { rd := [12] }, { rd := [12] }, { rd := [13] }, { rd := [13] }, {}, {}, {}, { rd := [12] }, { rd := [12] }, { rd := [13] }, { rd := [13] }, {}, {}, {}, { rd := [10] }, { rd := [10] }, { rd := [11] }, { rd := [11] }]) .leaf))))
noncomputable def run14 (m : Nat) : Ks.den inst14.args → Ks.den inst14.objs → Option inst14.out.den := fun x _ => value_Same_f m x.1 x.2.1
noncomputable def g14 (m : Nat) : Ctx := fx10.add 14 (inst14.sem (run14 m))
theorem g14_ok {m : Nat} (h : FnOK Tryz.prog fx10.glob 14 (inst14.sem (run14 m))) : CtxOK (g14 m) Tryz.prog := add_ok fx10_ok h Tryz.call14
def inst66 : Inst := { args := [(.val (.sl YA0)), (.val (.sl YA0)), (.fn 14 .unit)], objs := [], nres := 1, out := [(90000, KA9)], news := 0 }
def hint66 : HC := (.seq (.region []) (.seq (.seq (.region []) (.cond (.seq (.region []) .leaf) .leaf)) (.seq (.seq (.region []) (.block (.loop [(2, (.fn 14 .unit)), (17, KA3)] [((.exit 0), []), (.ret, [(6, KA9)])] (.seq (.region []) (.seq (.cond .leaf .leaf) (.seq (.block (.seq (.region [{}, {}, {}, { new := [10] }, {}, { wr := [10] }]) (.seq (.region [{}, {}, {}, {}, { new := [11] }, { wr := [11] }]) (.seq (.region [{}, { rd := [10] }, { rd := [11] }]) (.cond (.seq (.region []) .leaf) .leaf))))) (.region []))))))) (.seq (.region []) .leaf))))
noncomputable def run66 (m : Nat) : Ks.den inst66.args → Ks.den inst66.objs → Option inst66.out.den := fun x _ => api_Value__Same (value_Same_f m) x.1 x.2.1
theorem ev66 : ∀ m x y, evFn (g14 m) 32 (bodyOf Tryz.f66) [.tmp 6] hint66 inst66 x y = run66 m x y := by intro m x y; kernel_rfl
theorem ok66 {m : Nat} (h : FnOK Tryz.prog fx10.glob 14 (inst14.sem (run14 m))) : FnOK Tryz.prog (g14 m).glob 66 (inst66.sem (run66 m)) :=
  fn_add (g14_ok h) feMixed 66 Tryz.f66 [.tmp 6] hint66 inst66 32 (run66 m) Tryz.func66 (by kernel_rfl) Tryz.ntmps66 (by kernel_rfl) (by kernel_rfl) (ev66 m)
noncomputable def g14_66 (m : Nat) : Ctx := (g14 m).more 66 (inst66.sem (run66 m))
theorem g14_66_ok {m : Nat} (h : FnOK Tryz.prog fx10.glob 14 (inst14.sem (run14 m))) : CtxOK (g14_66 m) Tryz.prog := more_ok (g14_ok h) (ok66 h) Tryz.call66
theorem ev14 : ∀ m x y, evFn (g14_66 m) 65 (bodyOf Tryz.f14) [.tmp 4] hint14 inst14 x y = run14 (m + 1) x y := by intro m x y; kernel_rfl
theorem ok14 : ∀ m, FnOK Tryz.prog fx10.glob 14 (inst14.sem (run14 m)) :=
  fn_recs fx10.glob g14_66 (fun _ => rfl) 14 inst14 run14 (fun _ h => g14_66_ok h) feMixed Tryz.f14 [.tmp 4] hint14 65 Tryz.func14 (by kernel_rfl) Tryz.ntmps14 (by kernel_rfl) (by kernel_rfl) (fun _ _ => rfl) ev14
noncomputable def fx14 : Ctx := fx10.add 14 (inst14.sem (run14 rounds))
theorem fx14_ok : CtxOK fx14 Tryz.prog := add_ok fx10_ok (ok14 rounds) Tryz.call14
def inst8 : Inst := { args := [], objs := [], nres := 1, out := [(90000, KA9)], news := 0 }
def hint8 : HC := (.seq (.region []) (.seq (.region []) .leaf))
noncomputable def run8 : Ks.den inst8.args → Ks.den inst8.objs → Option inst8.out.den := fun _ _ => chancerylaw2_values
theorem ev8 : ∀ x y, evFn fx14 5 (bodyOf Tryz.f8) [.tmp 0] hint8 inst8 x y = run8 x y := by intro x y; kernel_rfl
theorem ok8 : FnOK Tryz.prog fx14.glob 8 (inst8.sem run8) :=
  fn_add fx14_ok feMixed 8 Tryz.f8 [.tmp 0] hint8 inst8 5 run8 Tryz.func8 (by kernel_rfl) Tryz.ntmps8 (by kernel_rfl) (by kernel_rfl) ev8
noncomputable def fx8 : Ctx := fx14.add 8 (inst8.sem run8)
theorem fx8_ok : CtxOK fx8 Tryz.prog := add_ok fx14_ok ok8 Tryz.call8
def inst109 : Inst := { args := [KA10], objs := [], nres := 2, out := [(90000, KA3), (90001, KA3)], news := 0 }
def hint109 : HC := (.seq (.region []) (.seq (.region []) (.seq (.region []) (.seq (.cut [(.normal, [(4, KA3), (5, KA3), (6, KA3)]), (.ret, [(2, KA3), (3, KA3)])] (.block (.seq (.region []) (.cond (.seq (.region []) .leaf) (.seq (.cut [(.normal, [(15, KA9)])] (.region [])) (.cond (.region []) (.seq (.cut [(.normal, [(24, KA9)])] (.region [])) (.cond (.region []) (.seq (.cut [(.normal, [(33, KA9)])] (.region [])) (.cond (.region []) (.seq (.region []) .leaf))))))))))) (.seq (.seq (.region []) (.cond (.seq (.region []) .leaf) .leaf)) (.seq (.seq (.region []) (.block (.loop [(4, KA3), (7, KA3)] [((.exit 1), [(4, KA3)]), (.ret, [(2, KA3), (3, KA3)])] (.seq (.seq (.region []) (.cond .leaf .leaf)) (.seq (.block (.seq (.seq (.region []) (.cond (.seq (.region []) .leaf) .leaf)) (.region []))) (.region [])))))) (.seq (.seq (.cut [(.normal, [(78, KA9)])] (.region [])) (.cond (.seq (.region []) .leaf) .leaf)) (.seq (.region []) .leaf))))))))
noncomputable def run109 : Ks.den inst109.args → Ks.den inst109.objs → Option inst109.out.den := fun x _ => chanceryref2_Rune x.1
theorem ev109 : ∀ x y, evFn fx8 81 (bodyOf Tryz.f109) [.tmp 2, .tmp 3] hint109 inst109 x y = run109 x y := by intro x y; kernel_rfl
theorem ok109 : FnOK Tryz.prog fx8.glob 109 (inst109.sem run109) :=
  fn_add fx8_ok feMixed 109 Tryz.f109 [.tmp 2, .tmp 3] hint109 inst109 81 run109 Tryz.func109 (by kernel_rfl) Tryz.ntmps109 (by kernel_rfl) (by kernel_rfl) ev109
noncomputable def fx109 : Ctx := fx8.add 109 (inst109.sem run109)
theorem fx109_ok : CtxOK fx109 Tryz.prog := add_ok fx8_ok ok109 Tryz.call109
def inst110 : Inst := { args := [KA3], objs := [], nres := 1, out := [(90000, KA9)], news := 0 }
def hint110 : HC := (.seq (.region []) (.seq (.region []) .leaf))
noncomputable def run110 : Ks.den inst110.args → Ks.den inst110.objs → Option inst110.out.den := fun x _ => chanceryref2_Char x.1
theorem ev110 : ∀ x y, evFn fx109 33 (bodyOf Tryz.f110) [.tmp 2] hint110 inst110 x y = run110 x y := by intro x y; kernel_rfl
theorem ok110 : FnOK Tryz.prog fx109.glob 110 (inst110.sem run110) :=
  fn_add fx109_ok feMixed 110 Tryz.f110 [.tmp 2] hint110 inst110 33 run110 Tryz.func110 (by kernel_rfl) Tryz.ntmps110 (by kernel_rfl) (by kernel_rfl) ev110
noncomputable def fx110 : Ctx := fx109.add 110 (inst110.sem run110)
theorem fx110_ok : CtxOK fx110 Tryz.prog := add_ok fx109_ok ok110 Tryz.call110
def inst53 : Inst := { args := [KA10], objs := [], nres := 1, out := [(90000, KA3)], news := 0 }
def hint53 : HC := (.seq (.region []) (.seq (.seq (.region []) (.cond (.seq (.region []) .leaf) .leaf)) (.seq (.block (.loop [(0, KA10)] [((.exit 0), []), (.ret, [(2, KA3)])] (.seq (.seq (.region []) (.cond .leaf .leaf)) (.block (.seq (.region []) (.seq (.seq (.cut [(.normal, [(21, KA9)])] (.region [])) (.cond (.seq (.region []) .leaf) .leaf)) (.region []))))))) (.seq (.region []) .leaf))))
noncomputable def run53 : Ks.den inst53.args → Ks.den inst53.objs → Option inst53.out.den := fun x _ => chanceryref2_TextError x.1
theorem ev53 : ∀ x y, evFn fx110 25 (bodyOf Tryz.f53) [.tmp 2] hint53 inst53 x y = run53 x y := by intro x y; kernel_rfl
theorem ok53 : FnOK Tryz.prog fx110.glob 53 (inst53.sem run53) :=
  fn_add fx110_ok feMixed 53 Tryz.f53 [.tmp 2] hint53 inst53 25 run53 Tryz.func53 (by kernel_rfl) Tryz.ntmps53 (by kernel_rfl) (by kernel_rfl) ev53
noncomputable def fx53 : Ctx := fx110.add 53 (inst53.sem run53)
theorem fx53_ok : CtxOK fx53 Tryz.prog := add_ok fx110_ok ok53 Tryz.call53
def inst17 : Inst := { args := [KA3], objs := [], nres := 1, out := [(90000, KA17)], news := 0 }
def hint17 : HC := (.seq (.region [{ new := [10] }]) (.seq (.region [{}, {}, { wr := [10] }]) .leaf))
noncomputable def run17 : Ks.den inst17.args → Ks.den inst17.objs → Option inst17.out.den := fun x _ => chanceryref2_Fault x.1
theorem ev17 : ∀ x y, evFn fx53 5 (bodyOf Tryz.f17) [.cell 2 28] hint17 inst17 x y = run17 x y := by intro x y; kernel_rfl
theorem ok17 : FnOK Tryz.prog fx53.glob 17 (inst17.sem run17) :=
  fn_add fx53_ok feMixed 17 Tryz.f17 [.cell 2 28] hint17 inst17 5 run17 Tryz.func17 (by kernel_rfl) Tryz.ntmps17 (by kernel_rfl) (by kernel_rfl) ev17
noncomputable def fx17 : Ctx := fx53.add 17 (inst17.sem run17)
theorem fx17_ok : CtxOK fx17 Tryz.prog := add_ok fx53_ok ok17 Tryz.call17
def inst20 : Inst := { args := [KA10], objs := [], nres := 1, out := [(90000, KA17)], news := 0 }
def hint20 : HC := (.seq (.region [{ new := [10] }]) (.seq (.seq (.region []) (.cond (.seq (.region [{}, { wr := [10] }]) .leaf) .leaf)) (.seq (.region [{}, {}, { wr := [10] }]) .leaf)))
noncomputable def run20 : Ks.den inst20.args → Ks.den inst20.objs → Option inst20.out.den := fun x _ => chanceryref2_Text x.1
theorem ev20 : ∀ x y, evFn fx17 9 (bodyOf Tryz.f20) [.cell 2 28] hint20 inst20 x y = run20 x y := by intro x y; kernel_rfl
theorem ok20 : FnOK Tryz.prog fx17.glob 20 (inst20.sem run20) :=
  fn_add fx17_ok feMixed 20 Tryz.f20 [.cell 2 28] hint20 inst20 9 run20 Tryz.func20 (by kernel_rfl) Tryz.ntmps20 (by kernel_rfl) (by kernel_rfl) ev20
noncomputable def fx20 : Ctx := fx17.add 20 (inst20.sem run20)
theorem fx20_ok : CtxOK fx20 Tryz.prog := add_ok fx17_ok ok20 Tryz.call20
def inst54 : Inst := { args := [KA10], objs := [], nres := 1, out := [(90000, KA10)], news := 0 }
def hint54 : HC := (.seq (.region []) (.seq (.region []) (.seq (.seq (.region []) (.block (.loop [(3, KA10), (8, KA3)] [((.exit 0), [(3, KA10)])] (.seq (.region []) (.seq (.cond .leaf .leaf) (.seq (.block (.seq (.region []) (.seq (.region []) (.seq (.cut [(.normal, [(5, (.val YA16))])] (.seq (.cut [(.normal, [(19, KA9)])] (.region [])) (.cond (.region []) .leaf))) (.region [{}, {}, { new := [10] }, { rd := [10] }]))))) (.region []))))))) (.seq (.region []) .leaf))))
noncomputable def run54 : Ks.den inst54.args → Ks.den inst54.objs → Option inst54.out.den := fun x _ => chanceryref2_Lower x.1
theorem ev54 : ∀ x y, evFn fx20 29 (bodyOf Tryz.f54) [.tmp 2] hint54 inst54 x y = run54 x y := by intro x y; kernel_rfl
theorem ok54 : FnOK Tryz.prog fx20.glob 54 (inst54.sem run54) :=
  fn_add fx20_ok feMixed 54 Tryz.f54 [.tmp 2] hint54 inst54 29 run54 Tryz.func54 (by kernel_rfl) Tryz.ntmps54 (by kernel_rfl) (by kernel_rfl) ev54
noncomputable def fx54 : Ctx := fx20.add 54 (inst54.sem run54)
theorem fx54_ok : CtxOK fx54 Tryz.prog := add_ok fx20_ok ok54 Tryz.call54
def inst23 : Inst := { args := [KA9], objs := [], nres := 1, out := [(90000, KA17)], news := 0 }
def hint23 : HC := (.seq (.region [{ new := [10] }]) (.seq (.region [{}, {}, { wr := [10] }]) .leaf))
noncomputable def run23 : Ks.den inst23.args → Ks.den inst23.objs → Option inst23.out.den := fun x _ => chanceryref2_Bool x.1
theorem ev23 : ∀ x y, evFn fx54 5 (bodyOf Tryz.f23) [.cell 2 28] hint23 inst23 x y = run23 x y := by intro x y; kernel_rfl
theorem ok23 : FnOK Tryz.prog fx54.glob 23 (inst23.sem run23) :=
  fn_add fx54_ok feMixed 23 Tryz.f23 [.cell 2 28] hint23 inst23 5 run23 Tryz.func23 (by kernel_rfl) Tryz.ntmps23 (by kernel_rfl) (by kernel_rfl) ev23
noncomputable def fx23 : Ctx := fx54.add 23 (inst23.sem run23)
theorem fx23_ok : CtxOK fx23 Tryz.prog := add_ok fx54_ok ok23 Tryz.call23
def inst111 : Inst := { args := [KA10, KA10], objs := [], nres := 1, out := [(90000, KA9)], news := 0 }
def hint111 : HC := (.seq (.region []) (.seq (.region []) .leaf))
noncomputable def run111 : Ks.den inst111.args → Ks.den inst111.objs → Option inst111.out.den := fun x _ => chanceryref2_Has x.1 x.2.1
theorem ev111 : ∀ x y, evFn fx23 18 (bodyOf Tryz.f111) [.tmp 4] hint111 inst111 x y = run111 x y := by intro x y; kernel_rfl
theorem ok111 : FnOK Tryz.prog fx23.glob 111 (inst111.sem run111) :=
  fn_add fx23_ok feMixed 111 Tryz.f111 [.tmp 4] hint111 inst111 18 run111 Tryz.func111 (by kernel_rfl) Tryz.ntmps111 (by kernel_rfl) (by kernel_rfl) ev111
noncomputable def fx111 : Ctx := fx23.add 111 (inst111.sem run111)
theorem fx111_ok : CtxOK fx111 Tryz.prog := add_ok fx23_ok ok111 Tryz.call111
def inst114 : Inst := { args := [(.val YA16)], objs := [], nres := 1, out := [(90000, KA9)], news := 0 }
def hint114 : HC := (.seq (.region []) (.seq (.region []) .leaf))
noncomputable def run114 : Ks.den inst114.args → Ks.den inst114.objs → Option inst114.out.den := fun x _ => chanceryref2_Digit x.1
theorem ev114 : ∀ x y, evFn fx111 9 (bodyOf Tryz.f114) [.tmp 2] hint114 inst114 x y = run114 x y := by intro x y; kernel_rfl
theorem ok114 : FnOK Tryz.prog fx111.glob 114 (inst114.sem run114) :=
  fn_add fx111_ok feMixed 114 Tryz.f114 [.tmp 2] hint114 inst114 9 run114 Tryz.func114 (by kernel_rfl) Tryz.ntmps114 (by kernel_rfl) (by kernel_rfl) ev114
noncomputable def fx114 : Ctx := fx111.add 114 (inst114.sem run114)
theorem fx114_ok : CtxOK fx114 Tryz.prog := add_ok fx111_ok ok114 Tryz.call114
def inst113 : Inst := { args := [(.val YA16)], objs := [], nres := 1, out := [(90000, KA9)], news := 0 }
def hint113 : HC := (.seq (.region []) (.seq (.region []) .leaf))
noncomputable def run113 : Ks.den inst113.args → Ks.den inst113.objs → Option inst113.out.den := fun x _ => chanceryref2_enteredNumber_1 x.1
theorem ev113 : ∀ x y, evFn fx114 9 (bodyOf Tryz.f113) [.tmp 2] hint113 inst113 x y = run113 x y := by intro x y; kernel_rfl
theorem ok113 : FnOK Tryz.prog fx114.glob 113 (inst113.sem run113) :=
  fn_add fx114_ok feMixed 113 Tryz.f113 [.tmp 2] hint113 inst113 9 run113 Tryz.func113 (by kernel_rfl) Tryz.ntmps113 (by kernel_rfl) (by kernel_rfl) ev113
noncomputable def fx113 : Ctx := fx114.add 113 (inst113.sem run113)
theorem fx113_ok : CtxOK fx113 Tryz.prog := add_ok fx114_ok ok113 Tryz.call113
def inst112 : Inst := { args := [KA10, (.fn 113 .unit)], objs := [], nres := 1, out := [(90000, KA3)], news := 0 }
def hint112 : HC := (.seq (.region []) (.seq (.seq (.region []) (.block (.loop [(1, (.fn 113 .unit)), (8, KA3)] [((.exit 0), []), (.ret, [(4, KA3)])] (.seq (.region []) (.seq (.cond .leaf .leaf) (.seq (.block (.seq (.region []) (.seq (.region []) (.cond (.seq (.region []) .leaf) .leaf)))) (.region []))))))) (.seq (.region []) .leaf)))
noncomputable def run112 : Ks.den inst112.args → Ks.den inst112.objs → Option inst112.out.den := fun x _ => chanceryref2_span_enteredNumber_1 x.1
theorem ev112 : ∀ x y, evFn fx113 21 (bodyOf Tryz.f112) [.tmp 4] hint112 inst112 x y = run112 x y := by intro x y; kernel_rfl
theorem ok112 : FnOK Tryz.prog fx113.glob 112 (inst112.sem run112) :=
  fn_add fx113_ok feMixed 112 Tryz.f112 [.tmp 4] hint112 inst112 21 run112 Tryz.func112 (by kernel_rfl) Tryz.ntmps112 (by kernel_rfl) (by kernel_rfl) ev112
noncomputable def fx112 : Ctx := fx113.add 112 (inst112.sem run112)
theorem fx112_ok : CtxOK fx112 Tryz.prog := add_ok fx113_ok ok112 Tryz.call112
def inst115 : Inst := { args := [KA10, (.val YA16)], objs := [], nres := 1, out := [(90000, (.val (.sl .str)))], news := 0 }
def hint115 : HC := (.seq (.region []) (.seq (.region []) (.seq (.region []) (.seq (.seq (.region []) (.block (.loop [(5, (.own 13)), (6, KA3), (10, KA3), (100013, (.vec none .str))] [((.exit 0), [(5, (.own 14)), (6, KA3), (100014, (.vec none .str))])] (.seq (.region []) (.seq (.cond .leaf .leaf) (.seq (.cut [(.normal, [(5, (.own 12)), (6, KA3), (100012, (.vec none .str))])] (.block (.seq (.region []) (.seq (.region []) (.cond (.seq (.region [{}, {}, {}, {}, {}, { new := [10] }, { rd := [10], wr := [13], new := [11] }]) (.region [])) .leaf))))) (.region []))))))) (.seq (.region [{}, {}, {}, {}, { new := [15] }, { rd := [15], wr := [14], new := [16] }]) .leaf)))))
noncomputable def run115 : Ks.den inst115.args → Ks.den inst115.objs → Option inst115.out.den := fun x _ => chanceryref2_Split x.1 x.2.1
theorem ev115 : ∀ x y, evFn fx112 34 (bodyOf Tryz.f115) [.tmp 4] hint115 inst115 x y = run115 x y := by intro x y; kernel_rfl
theorem ok115 : FnOK Tryz.prog fx112.glob 115 (inst115.sem run115) :=
  fn_add fx112_ok feMixed 115 Tryz.f115 [.tmp 4] hint115 inst115 34 run115 Tryz.func115 (by kernel_rfl) Tryz.ntmps115 (by kernel_rfl) (by kernel_rfl) ev115
noncomputable def fx115 : Ctx := fx112.add 115 (inst115.sem run115)
theorem fx115_ok : CtxOK fx115 Tryz.prog := add_ok fx112_ok ok115 Tryz.call115
def inst161 : Inst := { args := [KA10, (.fn 114 .unit)], objs := [], nres := 1, out := [(90000, KA9)], news := 0 }
def hint161 : HC := (.seq (.region []) (.seq (.seq (.region []) (.block (.loop [(1, (.fn 114 .unit)), (8, KA3)] [((.exit 0), []), (.ret, [(4, KA9)])] (.seq (.region []) (.seq (.cond .leaf .leaf) (.seq (.block (.seq (.region []) (.seq (.region []) (.cond (.seq (.region []) .leaf) .leaf)))) (.region []))))))) (.seq (.region []) .leaf)))
noncomputable def run161 : Ks.den inst161.args → Ks.den inst161.objs → Option inst161.out.den := fun x _ => chanceryref2_All_Digit x.1
theorem ev161 : ∀ x y, evFn fx115 18 (bodyOf Tryz.f161) [.tmp 4] hint161 inst161 x y = run161 x y := by intro x y; kernel_rfl
theorem ok161 : FnOK Tryz.prog fx115.glob 161 (inst161.sem run161) :=
  fn_add fx115_ok feMixed 161 Tryz.f161 [.tmp 4] hint161 inst161 18 run161 Tryz.func161 (by kernel_rfl) Tryz.ntmps161 (by kernel_rfl) (by kernel_rfl) ev161
noncomputable def fx161 : Ctx := fx115.add 161 (inst161.sem run161)
theorem fx161_ok : CtxOK fx161 Tryz.prog := add_ok fx115_ok ok161 Tryz.call161
def inst116 : Inst := { args := [KA10], objs := [], nres := 1, out := [(90000, KA9)], news := 0 }
def hint116 : HC := (.seq (.region []) (.seq (.region []) .leaf))
noncomputable def run116 : Ks.den inst116.args → Ks.den inst116.objs → Option inst116.out.den := fun x _ => chanceryref2_allDigits x.1
theorem ev116 : ∀ x y, evFn fx161 9 (bodyOf Tryz.f116) [.tmp 2] hint116 inst116 x y = run116 x y := by intro x y; kernel_rfl
theorem ok116 : FnOK Tryz.prog fx161.glob 116 (inst116.sem run116) :=
  fn_add fx161_ok feMixed 116 Tryz.f116 [.tmp 2] hint116 inst116 9 run116 Tryz.func116 (by kernel_rfl) Tryz.ntmps116 (by kernel_rfl) (by kernel_rfl) ev116
noncomputable def fx116 : Ctx := fx161.add 116 (inst116.sem run116)
theorem fx116_ok : CtxOK fx116 Tryz.prog := add_ok fx161_ok ok116 Tryz.call116
def inst112x2 : Inst := { args := [KA10, (.fn 114 .unit)], objs := [], nres := 1, out := [(90000, KA3)], news := 0 }
def hint112x2 : HC := (.seq (.region []) (.seq (.seq (.region []) (.block (.loop [(1, (.fn 114 .unit)), (8, KA3)] [((.exit 0), []), (.ret, [(4, KA3)])] (.seq (.region []) (.seq (.cond .leaf .leaf) (.seq (.block (.seq (.region []) (.seq (.region []) (.cond (.seq (.region []) .leaf) .leaf)))) (.region []))))))) (.seq (.region []) .leaf)))
noncomputable def run112x2 : Ks.den inst112x2.args → Ks.den inst112x2.objs → Option inst112x2.out.den := fun x _ => chanceryref2_span_Digit x.1
theorem ev112x2 : ∀ x y, evFn fx116 21 (bodyOf Tryz.f112) [.tmp 4] hint112x2 inst112x2 x y = run112x2 x y := by intro x y; kernel_rfl
theorem ok112x2 : FnOK Tryz.prog fx116.glob 112 (inst112x2.sem run112x2) :=
  fn_add fx116_ok feMixed 112 Tryz.f112 [.tmp 4] hint112x2 inst112x2 21 run112x2 Tryz.func112 (by kernel_rfl) Tryz.ntmps112 (by kernel_rfl) (by kernel_rfl) ev112x2
noncomputable def fx112x2 : Ctx := fx116.more 112 (inst112x2.sem run112x2)
theorem fx112x2_ok : CtxOK fx112x2 Tryz.prog := more_ok fx116_ok ok112x2 Tryz.call112
def inst121 : Inst := { args := [KA10], objs := [], nres := 1, out := [(90000, KA3)], news := 0 }
def hint121 : HC := (.seq (.region []) (.seq (.region []) (.seq (.seq (.region []) (.block (.loop [(3, KA3), (7, KA3)] [((.exit 0), [(3, KA3)])] (.seq (.region []) (.seq (.cond .leaf .leaf) (.seq (.block (.seq (.region []) (.region []))) (.region []))))))) (.seq (.region []) .leaf))))
noncomputable def run121 : Ks.den inst121.args → Ks.den inst121.objs → Option inst121.out.den := fun x _ => chanceryref2_small x.1
theorem ev121 : ∀ x y, evFn fx112x2 20 (bodyOf Tryz.f121) [.tmp 2] hint121 inst121 x y = run121 x y := by intro x y; kernel_rfl
theorem ok121 : FnOK Tryz.prog fx112x2.glob 121 (inst121.sem run121) :=
  fn_add fx112x2_ok feMixed 121 Tryz.f121 [.tmp 2] hint121 inst121 20 run121 Tryz.func121 (by kernel_rfl) Tryz.ntmps121 (by kernel_rfl) (by kernel_rfl) ev121
noncomputable def fx121 : Ctx := fx112x2.add 121 (inst121.sem run121)
theorem fx121_ok : CtxOK fx121 Tryz.prog := add_ok fx112x2_ok ok121 Tryz.call121
def inst164 : Inst := { args := [KA8], objs := [], nres := 1, out := [(90000, KA8)], news := 0 }
def hint164 : HC := (.seq (.region []) (.seq (.block (.loop [(0, KA8)] [((.exit 0), [(0, KA8)])] (.seq (.seq (.cut [(.normal, [(14, KA9)])] (.region [])) (.cond .leaf .leaf)) (.block (.region []))))) (.seq (.region []) .leaf)))
noncomputable def run164 : Ks.den inst164.args → Ks.den inst164.objs → Option inst164.out.den := fun x _ => chanceryref2_Nat__trim x.1
theorem ev164 : ∀ x y, evFn fx121 21 (bodyOf Tryz.f164) [.tmp 2] hint164 inst164 x y = run164 x y := by intro x y; kernel_rfl
theorem ok164 : FnOK Tryz.prog fx121.glob 164 (inst164.sem run164) :=
  fn_add fx121_ok feMixed 164 Tryz.f164 [.tmp 2] hint164 inst164 21 run164 Tryz.func164 (by kernel_rfl) Tryz.ntmps164 (by kernel_rfl) (by kernel_rfl) ev164
noncomputable def fx164 : Ctx := fx121.add 164 (inst164.sem run164)
theorem fx164_ok : CtxOK fx164 Tryz.prog := add_ok fx121_ok ok164 Tryz.call164
def inst119 : Inst := { args := [KA10], objs := [], nres := 1, out := [(90000, KA8)], news := 0 }
def hint119 : HC := (.seq (.region []) (.seq (.region []) (.seq (.seq (.region []) (.block (.loop [(3, (.own 12)), (4, KA3), (100012, (.vec none YA12))] [((.exit 0), [(3, (.own 13)), (100013, (.vec none YA12))])] (.seq (.seq (.region []) (.cond .leaf .leaf)) (.seq (.block (.region [{}, {}, {}, {}, {}, {}, { new := [10] }, { rd := [10], wr := [12], new := [11] }])) (.region [])))))) (.seq (.region [{}, { fz := [(20, 13)] }]) .leaf))))
noncomputable def run119 : Ks.den inst119.args → Ks.den inst119.objs → Option inst119.out.den := fun x _ => chanceryref2_NatOf x.1
theorem ev119 : ∀ x y, evFn fx164 22 (bodyOf Tryz.f119) [.tmp 2] hint119 inst119 x y = run119 x y := by intro x y; kernel_rfl
theorem ok119 : FnOK Tryz.prog fx164.glob 119 (inst119.sem run119) :=
  fn_add fx164_ok feMixed 119 Tryz.f119 [.tmp 2] hint119 inst119 22 run119 Tryz.func119 (by kernel_rfl) Tryz.ntmps119 (by kernel_rfl) (by kernel_rfl) ev119
noncomputable def fx119 : Ctx := fx164.add 119 (inst119.sem run119)
theorem fx119_ok : CtxOK fx119 Tryz.prog := add_ok fx164_ok ok119 Tryz.call119
def inst163 : Inst := { args := [KA3], objs := [], nres := 1, out := [(90000, KA8)], news := 0 }
def hint163 : HC := (.seq (.region []) (.seq (.region [{}, {}, { new := [10] }]) (.seq (.region [{}, {}, { rd := [10] }, { wr := [10] }]) (.seq (.region []) .leaf))))
noncomputable def run163 : Ks.den inst163.args → Ks.den inst163.objs → Option inst163.out.den := fun x _ => chanceryref2_Ten x.1
theorem ev163 : ∀ x y, evFn fx119 11 (bodyOf Tryz.f163) [.tmp 2] hint163 inst163 x y = run163 x y := by intro x y; kernel_rfl
theorem ok163 : FnOK Tryz.prog fx119.glob 163 (inst163.sem run163) :=
  fn_add fx119_ok feMixed 163 Tryz.f163 [.tmp 2] hint163 inst163 11 run163 Tryz.func163 (by kernel_rfl) Tryz.ntmps163 (by kernel_rfl) (by kernel_rfl) ev163
noncomputable def fx163 : Ctx := fx119.add 163 (inst163.sem run163)
theorem fx163_ok : CtxOK fx163 Tryz.prog := add_ok fx119_ok ok163 Tryz.call163
def inst162 : Inst := { args := [KA8, KA8], objs := [], nres := 1, out := [(90000, KA8)], news := 0 }
def hint162 : HC := (.seq (.region []) (.seq (.region [{}, {}, {}, {}, {}, { new := [10] }]) (.seq (.seq (.region []) (.block (.loop [(5, (.own 11)), (19, KA3), (100011, (.vec none YA12))] [((.exit 0), [(5, (.own 16)), (100016, (.vec none YA12))])] (.seq (.region []) (.seq (.cond .leaf .leaf) (.seq (.block (.seq (.region []) (.seq (.seq (.region []) (.block (.loop [(5, (.own 12)), (24, KA3), (100012, (.vec none YA12))] [((.exit 2), [(5, (.own 13)), (100013, (.vec none YA12))])] (.seq (.region []) (.seq (.cond .leaf .leaf) (.seq (.block (.seq (.region []) (.region [{}, {}, {}, {}, { rd := [12] }, { rd := [12] }, {}, {}, {}, {}, {}, {}, {}, {}, {}, {}, { rd := [12] }, { wr := [12] }]))) (.region []))))))) (.seq (.region []) (.seq (.region []) (.block (.loop [(5, (.own 14)), (8, KA3), (9, KA3), (100014, (.vec none YA12))] [((.exit 4), [(5, (.own 15)), (100015, (.vec none YA12))])] (.seq (.seq (.region [{}, {}, { rd := [14] }]) (.cond .leaf .leaf)) (.seq (.block (.seq (.region [{}, {}, { rd := [14] }, { rd := [14] }]) (.seq (.region [{}, {}, {}, {}, { rd := [14] }, { wr := [14] }]) (.region [])))) (.region [])))))))))) (.region []))))))) (.seq (.region [{}, { fz := [(66, 16)] }]) .leaf))))
noncomputable def run162 : Ks.den inst162.args → Ks.den inst162.objs → Option inst162.out.den := fun x _ => chanceryref2_Nat__Times x.1 x.2.1
theorem ev162 : ∀ x y, evFn fx163 68 (bodyOf Tryz.f162) [.tmp 4] hint162 inst162 x y = run162 x y := by intro x y; kernel_rfl
theorem ok162 : FnOK Tryz.prog fx163.glob 162 (inst162.sem run162) :=
  fn_add fx163_ok feMixed 162 Tryz.f162 [.tmp 4] hint162 inst162 68 run162 Tryz.func162 (by kernel_rfl) Tryz.ntmps162 (by kernel_rfl) (by kernel_rfl) ev162
noncomputable def fx162 : Ctx := fx163.add 162 (inst162.sem run162)
theorem fx162_ok : CtxOK fx162 Tryz.prog := add_ok fx163_ok ok162 Tryz.call162
def inst118 : Inst := { args := [KA5, KA3], objs := [], nres := 1, out := [(90000, KA5)], news := 0 }
def hint118 : HC := (.seq (.region [{ new := [10] }, { new := [11] }]) (.seq (.seq (.region []) (.cond (.seq (.region [{ rd := [10] }, { rd := [10] }, { rd := [10] }, { rd := [10] }, { rd := [10] }, { rd := [10] }, {}, {}, {}, {}, {}, { wr := [11] }]) .leaf) .leaf)) (.seq (.region [{ rd := [10] }, { rd := [10] }, { rd := [10] }, { rd := [10] }, {}, {}, {}, { rd := [10] }, { rd := [10] }, {}, { wr := [11] }]) .leaf)))
noncomputable def run118 : Ks.den inst118.args → Ks.den inst118.objs → Option inst118.out.den := fun x _ => chanceryref2_Rat__Scaled x.1 x.2.1
theorem ev118 : ∀ x y, evFn fx162 28 (bodyOf Tryz.f118) [.cell 4 64] hint118 inst118 x y = run118 x y := by intro x y; kernel_rfl
theorem ok118 : FnOK Tryz.prog fx162.glob 118 (inst118.sem run118) :=
  fn_add fx162_ok feMixed 118 Tryz.f118 [.cell 4 64] hint118 inst118 28 run118 Tryz.func118 (by kernel_rfl) Tryz.ntmps118 (by kernel_rfl) (by kernel_rfl) ev118
noncomputable def fx118 : Ctx := fx162.add 118 (inst118.sem run118)
theorem fx118_ok : CtxOK fx118 Tryz.prog := add_ok fx162_ok ok118 Tryz.call118
def inst137 : Inst := { args := [KA8], objs := [], nres := 1, out := [(90000, KA8)], news := 0 }
def hint137 : HC := (.seq (.region []) (.seq (.region [{}, {}, { new := [10] }]) (.seq (.region []) (.seq (.seq (.region []) (.block (.loop [(3, (.own 11)), (4, KA3), (5, KA3), (100011, (.vec none YA12))] [((.exit 0), [(3, (.own 12)), (100012, (.vec none YA12))])] (.seq (.seq (.region []) (.cond .leaf .leaf)) (.seq (.block (.seq (.region []) (.seq (.region [{}, {}, {}, {}, { rd := [11] }, { wr := [11] }]) (.region [])))) (.region [])))))) (.seq (.region [{}, { fz := [(31, 12)] }]) .leaf)))))
noncomputable def run137 : Ks.den inst137.args → Ks.den inst137.objs → Option inst137.out.den := fun x _ => chanceryref2_Nat__half x.1
theorem ev137 : ∀ x y, evFn fx118 33 (bodyOf Tryz.f137) [.tmp 2] hint137 inst137 x y = run137 x y := by intro x y; kernel_rfl
theorem ok137 : FnOK Tryz.prog fx118.glob 137 (inst137.sem run137) :=
  fn_add fx118_ok feMixed 137 Tryz.f137 [.tmp 2] hint137 inst137 33 run137 Tryz.func137 (by kernel_rfl) Tryz.ntmps137 (by kernel_rfl) (by kernel_rfl) ev137
noncomputable def fx137 : Ctx := fx118.add 137 (inst137.sem run137)
theorem fx137_ok : CtxOK fx137 Tryz.prog := add_ok fx118_ok ok137 Tryz.call137
def inst166 : Inst := { args := [KA8, KA8], objs := [], nres := 1, out := [(90000, KA3)], news := 0 }
def hint166 : HC := (.seq (.region []) (.seq (.seq (.region []) (.cond (.seq (.seq (.region []) (.cond (.seq (.region []) .leaf) .leaf)) (.seq (.region []) .leaf)) .leaf)) (.seq (.seq (.region []) (.block (.loop [(5, KA3)] [((.exit 0), []), (.ret, [(4, KA3)])] (.seq (.seq (.region []) (.cond .leaf .leaf)) (.seq (.block (.seq (.seq (.region []) (.cond (.seq (.region []) .leaf) .leaf)) (.seq (.region []) (.cond (.seq (.region []) .leaf) .leaf)))) (.region [])))))) (.seq (.region []) .leaf))))
noncomputable def run166 : Ks.den inst166.args → Ks.den inst166.objs → Option inst166.out.den := fun x _ => chanceryref2_Nat__Compare x.1 x.2.1
theorem ev166 : ∀ x y, evFn fx137 41 (bodyOf Tryz.f166) [.tmp 4] hint166 inst166 x y = run166 x y := by intro x y; kernel_rfl
theorem ok166 : FnOK Tryz.prog fx137.glob 166 (inst166.sem run166) :=
  fn_add fx137_ok feMixed 166 Tryz.f166 [.tmp 4] hint166 inst166 41 run166 Tryz.func166 (by kernel_rfl) Tryz.ntmps166 (by kernel_rfl) (by kernel_rfl) ev166
noncomputable def fx166 : Ctx := fx137.add 166 (inst166.sem run166)
theorem fx166_ok : CtxOK fx166 Tryz.prog := add_ok fx137_ok ok166 Tryz.call166
def inst198 : Inst := { args := [KA8, KA3], objs := [], nres := 1, out := [(90000, KA3)], news := 0 }
def hint198 : HC := (.seq (.region []) (.seq (.seq (.region []) (.cond (.seq (.region []) .leaf) .leaf)) (.seq (.region []) .leaf)))
noncomputable def run198 : Ks.den inst198.args → Ks.den inst198.objs → Option inst198.out.den := fun x _ => chanceryref2_digitAt x.1 x.2.1
theorem ev198 : ∀ x y, evFn fx166 13 (bodyOf Tryz.f198) [.tmp 4] hint198 inst198 x y = run198 x y := by intro x y; kernel_rfl
theorem ok198 : FnOK Tryz.prog fx166.glob 198 (inst198.sem run198) :=
  fn_add fx166_ok feMixed 198 Tryz.f198 [.tmp 4] hint198 inst198 13 run198 Tryz.func198 (by kernel_rfl) Tryz.ntmps198 (by kernel_rfl) (by kernel_rfl) ev198
noncomputable def fx198 : Ctx := fx166.add 198 (inst198.sem run198)
theorem fx198_ok : CtxOK fx198 Tryz.prog := add_ok fx166_ok ok198 Tryz.call198
def inst167 : Inst := { args := [KA8, KA8], objs := [], nres := 1, out := [(90000, KA8)], news := 0 }
def hint167 : HC := (.seq (.region []) (.seq (.region []) (.seq (.region []) (.seq (.seq (.region []) (.block (.loop [(5, (.own 12)), (6, KA3), (11, KA3), (100012, (.vec none YA12))] [((.exit 0), [(5, (.own 14)), (100014, (.vec none YA12))])] (.seq (.region []) (.seq (.cond .leaf .leaf) (.seq (.block (.seq (.region []) (.seq (.region []) (.seq (.region []) (.seq (.cut [(.normal, [(5, (.own 13)), (6, KA3), (8, KA3), (100013, (.vec none YA12))])] (.seq (.region []) (.cond (.seq (.region []) (.region [])) .leaf))) (.region [{}, {}, { new := [10] }, { rd := [10], wr := [13], new := [11] }])))))) (.region []))))))) (.seq (.region [{}, { fz := [(33, 14)] }]) .leaf)))))
noncomputable def run167 : Ks.den inst167.args → Ks.den inst167.objs → Option inst167.out.den := fun x _ => chanceryref2_Nat__Less x.1 x.2.1
theorem ev167 : ∀ x y, evFn fx198 35 (bodyOf Tryz.f167) [.tmp 4] hint167 inst167 x y = run167 x y := by intro x y; kernel_rfl
theorem ok167 : FnOK Tryz.prog fx198.glob 167 (inst167.sem run167) :=
  fn_add fx198_ok feMixed 167 Tryz.f167 [.tmp 4] hint167 inst167 35 run167 Tryz.func167 (by kernel_rfl) Tryz.ntmps167 (by kernel_rfl) (by kernel_rfl) ev167
noncomputable def fx167 : Ctx := fx198.add 167 (inst167.sem run167)
theorem fx167_ok : CtxOK fx167 Tryz.prog := add_ok fx198_ok ok167 Tryz.call167
def inst165 : Inst := { args := [KA8, KA8], objs := [], nres := 1, out := [(90000, KA8)], news := 0 }
def hint165 : HC := (.seq (.region []) (.seq (.region []) (.seq (.region []) (.seq (.seq (.region []) (.block (.loop [(5, (.own 12)), (6, KA3), (7, KA3), (100012, (.vec none YA12))] [((.exit 0), [(5, (.own 14)), (100014, (.vec none YA12))])] (.seq (.seq (.cut [(.normal, [(5, (.own 13)), (22, KA9), (100013, (.vec none YA12))])] (.region [])) (.cond .leaf .leaf)) (.seq (.block (.seq (.region []) (.seq (.region [{}, {}, {}, { new := [10] }, { rd := [10], wr := [13], new := [11] }]) (.region [])))) (.region [])))))) (.seq (.region []) .leaf)))))
noncomputable def run165 : Ks.den inst165.args → Ks.den inst165.objs → Option inst165.out.den := fun x _ => chanceryref2_Nat__Plus x.1 x.2.1
theorem ev165 : ∀ x y, evFn fx167 42 (bodyOf Tryz.f165) [.tmp 4] hint165 inst165 x y = run165 x y := by intro x y; kernel_rfl
theorem ok165 : FnOK Tryz.prog fx167.glob 165 (inst165.sem run165) :=
  fn_add fx167_ok feMixed 165 Tryz.f165 [.tmp 4] hint165 inst165 42 run165 Tryz.func165 (by kernel_rfl) Tryz.ntmps165 (by kernel_rfl) (by kernel_rfl) ev165
noncomputable def fx165 : Ctx := fx167.add 165 (inst165.sem run165)
theorem fx165_ok : CtxOK fx165 Tryz.prog := add_ok fx167_ok ok165 Tryz.call165
def inst126 : Inst := { args := [KA8, KA8], objs := [], nres := 1, out := [(90000, KA8)], news := 0 }
def hint126 : HC := (.seq (.region []) (.seq (.seq (.region []) (.cond (.seq (.region []) .leaf) .leaf)) (.seq (.seq (.region []) (.cond (.seq (.region []) .leaf) .leaf)) (.seq (.region []) (.seq (.block (.loop [(0, KA8), (1, KA8), (5, KA3)] [((.exit 0), [(0, KA8), (1, KA8), (5, KA3)])] (.seq (.seq (.cut [(.normal, [(25, KA9)])] (.region [])) (.cond .leaf .leaf)) (.block (.seq (.region []) (.region [])))))) (.seq (.block (.loop [(0, KA8), (1, KA8)] [((.exit 2), [(1, KA8)])] (.seq (.seq (.region []) (.cond .leaf .leaf)) (.block (.seq (.block (.loop [(0, KA8)] [((.exit 4), [(0, KA8)])] (.seq (.seq (.cut [(.normal, [(44, KA9)])] (.region [])) (.cond .leaf .leaf)) (.block (.region []))))) (.seq (.block (.loop [(1, KA8)] [((.exit 6), [(1, KA8)])] (.seq (.seq (.region []) (.cond .leaf .leaf)) (.block (.region []))))) (.seq (.cut [(.normal, [(0, KA8), (1, KA8)])] (.seq (.region []) (.cond (.region []) .leaf))) (.region [])))))))) (.seq (.seq (.region []) (.block (.loop [(1, KA8), (64, KA3)] [((.exit 8), [(1, KA8)])] (.seq (.region []) (.seq (.cond .leaf .leaf) (.seq (.block (.region [])) (.region []))))))) (.seq (.region []) .leaf))))))))
noncomputable def run126 : Ks.den inst126.args → Ks.den inst126.objs → Option inst126.out.den := fun x _ => chanceryref2_Gcd x.1 x.2.1
theorem ev126 : ∀ x y, evFn fx165 71 (bodyOf Tryz.f126) [.tmp 4] hint126 inst126 x y = run126 x y := by intro x y; kernel_rfl
theorem ok126 : FnOK Tryz.prog fx165.glob 126 (inst126.sem run126) :=
  fn_add fx165_ok feMixed 126 Tryz.f126 [.tmp 4] hint126 inst126 71 run126 Tryz.func126 (by kernel_rfl) Tryz.ntmps126 (by kernel_rfl) (by kernel_rfl) ev126
noncomputable def fx126 : Ctx := fx165.add 126 (inst126.sem run126)
theorem fx126_ok : CtxOK fx126 Tryz.prog := add_ok fx165_ok ok126 Tryz.call126
def inst138 : Inst := { args := [KA8, KA8], objs := [], nres := 2, out := [(90000, KA8), (90001, KA8)], news := 0 }
def hint138 : HC := (.seq (.region []) (.seq (.region [{}, {}, { new := [10] }]) (.seq (.region []) (.seq (.seq (.region []) (.block (.loop [(6, (.own 11)), (7, KA8), (8, KA3), (100011, (.vec none YA12))] [((.exit 0), [(6, (.own 16)), (7, KA8), (100016, (.vec none YA12))])] (.seq (.seq (.region []) (.cond .leaf .leaf)) (.seq (.block (.seq (.region [{}, {}, {}, {}, { new := [12] }, {}, { wr := [12], new := [13] }, { fz := [(25, 13)] }]) (.block (.loop [(6, (.own 14)), (7, KA8), (100014, (.vec none YA12))] [((.exit 2), [(6, (.own 15)), (7, KA8), (100015, (.vec none YA12))])] (.seq (.seq (.region []) (.cond .leaf .leaf)) (.block (.seq (.region []) (.region [{}, {}, { rd := [14] }, { rd := [14] }, {}, { rd := [14] }, { wr := [14] }])))))))) (.region [])))))) (.seq (.region [{}, { fz := [(40, 16)] }]) .leaf)))))
noncomputable def run138 : Ks.den inst138.args → Ks.den inst138.objs → Option inst138.out.den := fun x _ => chanceryref2_Nat__Divide x.1 x.2.1
theorem ev138 : ∀ x y, evFn fx126 43 (bodyOf Tryz.f138) [.tmp 4, .tmp 5] hint138 inst138 x y = run138 x y := by intro x y; kernel_rfl
theorem ok138 : FnOK Tryz.prog fx126.glob 138 (inst138.sem run138) :=
  fn_add fx126_ok feMixed 138 Tryz.f138 [.tmp 4, .tmp 5] hint138 inst138 43 run138 Tryz.func138 (by kernel_rfl) Tryz.ntmps138 (by kernel_rfl) (by kernel_rfl) ev138
noncomputable def fx138 : Ctx := fx126.add 138 (inst138.sem run138)
theorem fx138_ok : CtxOK fx138 Tryz.prog := add_ok fx126_ok ok138 Tryz.call138
def inst127 : Inst := { args := [KA8], objs := [], nres := 1, out := [(90000, KA10)], news := 0 }
def hint127 : HC := (.seq (.region []) (.seq (.seq (.region []) (.cond (.seq (.region []) .leaf) .leaf)) (.seq (.region []) (.seq (.seq (.region []) (.block (.loop [(3, (.own 12)), (4, KA3), (100012, (.vec none YA16))] [((.exit 0), [(3, (.own 13)), (100013, (.vec none YA16))])] (.seq (.seq (.region []) (.cond .leaf .leaf)) (.seq (.block (.region [{}, {}, {}, {}, {}, {}, {}, { new := [10] }, { rd := [10], wr := [12], new := [11] }])) (.region [])))))) (.seq (.region [{}, { rd := [13] }]) .leaf)))))
noncomputable def run127 : Ks.den inst127.args → Ks.den inst127.objs → Option inst127.out.den := fun x _ => chanceryref2_Nat__Text x.1
theorem ev127 : ∀ x y, evFn fx138 26 (bodyOf Tryz.f127) [.tmp 2] hint127 inst127 x y = run127 x y := by intro x y; kernel_rfl
theorem ok127 : FnOK Tryz.prog fx138.glob 127 (inst127.sem run127) :=
  fn_add fx138_ok feMixed 127 Tryz.f127 [.tmp 2] hint127 inst127 26 run127 Tryz.func127 (by kernel_rfl) Tryz.ntmps127 (by kernel_rfl) (by kernel_rfl) ev127
noncomputable def fx127 : Ctx := fx138.add 127 (inst127.sem run127)
theorem fx127_ok : CtxOK fx127 Tryz.prog := add_ok fx138_ok ok127 Tryz.call127
def inst91 : Inst := { args := [KA5], objs := [], nres := 2, out := [(90000, KA6), (90001, KA3)], news := 0 }
def hint91 : HC := (.seq (.region [{ new := [10] }, { new := [11] }]) (.seq (.seq (.region [{ rd := [10] }, { rd := [10] }]) (.cond (.seq (.region [{}, { wr := [11] }]) .leaf) .leaf)) (.seq (.region [{ rd := [10] }, { rd := [10] }, { rd := [10] }, { rd := [10] }]) (.seq (.region [{ rd := [10] }, { rd := [10] }]) (.seq (.region [{ rd := [10] }, { rd := [10] }]) (.seq (.seq (.cut [(.normal, [(1, (.ptr 12 0)), (2, (.ptr 13 0)), (41, KA9), (100012, KA1), (100013, KA4)])] (.region [])) (.cond (.seq (.region [{}, { wr := [13] }]) .leaf) .leaf)) (.seq (.region [{}, {}, {}, {}, {}, { new := [14] }, { wr := [14] }]) (.seq (.cut [(.normal, [(2, (.ptr 15 0)), (9, (.ptr 16 0)), (100015, KA4), (100016, KA4)])] (.seq (.region [{ rd := [12] }, { rd := [12] }]) (.cond (.region [{ rd := [14] }, { rd := [14] }, {}, { rd := [14] }, { wr := [14] }]) .leaf))) (.seq (.region [{ rd := [16] }, { wr := [15] }]) .leaf)))))))))
noncomputable def run91 : Ks.den inst91.args → Ks.den inst91.objs → Option inst91.out.den := fun x _ => chanceryref2_Rat__Frac x.1
theorem ev91 : ∀ x y, evFn fx127 55 (bodyOf Tryz.f91) [.cell 2 25, .tmp 3] hint91 inst91 x y = run91 x y := by intro x y; kernel_rfl
theorem ok91 : FnOK Tryz.prog fx127.glob 91 (inst91.sem run91) :=
  fn_add fx127_ok feMixed 91 Tryz.f91 [.cell 2 25, .tmp 3] hint91 inst91 55 run91 Tryz.func91 (by kernel_rfl) Tryz.ntmps91 (by kernel_rfl) (by kernel_rfl) ev91
noncomputable def fx91 : Ctx := fx127.add 91 (inst91.sem run91)
theorem fx91_ok : CtxOK fx91 Tryz.prog := add_ok fx127_ok ok91 Tryz.call91
def inst117 : Inst := { args := [KA10], objs := [], nres := 2, out := [(90000, KA5), (90001, KA3)], news := 0 }
def hint117 : HC := (.seq (.region [{ new := [10] }]) (.seq (.seq (.region []) (.cond (.seq (.region [{}, { wr := [10] }]) .leaf) .leaf)) (.seq (.region []) (.seq (.cut [(.normal, [(2, (.ptr 11 0)), (4, KA10), (5, KA9), (100011, KA1)])] (.seq (.region []) (.cond (.region []) .leaf))) (.seq (.region []) (.seq (.region []) (.seq (.region []) (.seq (.cut [(.normal, [(2, (.ptr 12 0)), (4, KA10), (8, KA10), (100012, KA1)]), (.ret, [(2, (.ptr 13 0)), (3, KA3), (100013, KA1)])] (.seq (.region []) (.cond (.seq (.region []) (.seq (.region []) (.seq (.region []) (.seq (.region []) (.cond (.seq (.region [{}, { wr := [11] }]) .leaf) .leaf))))) .leaf))) (.seq (.region []) (.seq (.cut [(.normal, [(2, (.ptr 19 0)), (9, KA3), (100019, KA1)]), (.ret, [(2, (.ptr 20 0)), (3, KA3), (100020, KA1)])] (.seq (.region []) (.cond (.seq (.region []) (.seq (.seq (.cut [(.normal, [(2, (.ptr 14 0)), (56, KA9), (100014, KA1)])] (.region [])) (.cond (.seq (.region [{}, { wr := [14] }]) .leaf) .leaf)) (.seq (.region []) (.seq (.cut [(.normal, [(2, (.ptr 17 0)), (4, KA10), (10, KA3), (100017, KA1)])] (.seq (.cut [(.normal, [(2, (.ptr 15 0)), (65, KA9), (100015, KA1)])] (.region [])) (.cond (.seq (.cut [(.normal, [(2, (.ptr 16 0)), (10, KA3), (100016, KA1)])] (.seq (.region []) (.cond (.region []) .leaf))) (.region [])) .leaf))) (.seq (.seq (.cut [(.normal, [(2, (.ptr 18 0)), (78, KA9), (100018, KA1)])] (.region [])) (.cond (.seq (.region [{}, { wr := [18] }]) .leaf) .leaf)) (.region [])))))) .leaf))) (.seq (.seq (.region []) (.cond (.seq (.region [{}, { wr := [19] }]) .leaf) .leaf)) (.seq (.region [{}, {}, {}, {}, {}, { new := [21] }, { fz := [(92, 21)] }, {}, {}, {}, {}, {}, { new := [22] }, { wr := [22] }]) (.seq (.region [{ rd := [22] }, {}, {}, {}, {}, { new := [23] }, { wr := [23] }]) (.seq (.region [{ rd := [22] }, {}, { wr := [19] }]) .leaf))))))))))))))
noncomputable def run117 : Ks.den inst117.args → Ks.den inst117.objs → Option inst117.out.den := fun x _ => chanceryref2_ReadDecimal x.1
theorem ev117 : ∀ x y, evFn fx91 106 (bodyOf Tryz.f117) [.cell 2 64, .tmp 3] hint117 inst117 x y = run117 x y := by intro x y; kernel_rfl
theorem ok117 : FnOK Tryz.prog fx91.glob 117 (inst117.sem run117) :=
  fn_add fx91_ok feMixed 117 Tryz.f117 [.cell 2 64, .tmp 3] hint117 inst117 106 run117 Tryz.func117 (by kernel_rfl) Tryz.ntmps117 (by kernel_rfl) (by kernel_rfl) ev117
noncomputable def fx117 : Ctx := fx91.add 117 (inst117.sem run117)
theorem fx117_ok : CtxOK fx117 Tryz.prog := add_ok fx91_ok ok117 Tryz.call117
def inst55 : Inst := { args := [KA10], objs := [], nres := 2, out := [(90000, KA5), (90001, KA9)], news := 0 }
def hint55 : HC := (.seq (.region [{ new := [10] }]) (.seq (.region []) (.seq (.cut [(.normal, [(0, KA10), (2, (.ptr 13 0)), (4, KA10), (100013, KA1)])] (.seq (.cut [(.normal, [(2, (.ptr 11 0)), (18, KA9), (100011, KA1)])] (.region [])) (.cond (.seq (.cut [(.normal, [(2, (.ptr 12 0)), (4, KA10), (100012, KA1)])] (.seq (.region []) (.cond (.region []) .leaf))) (.region [])) .leaf))) (.seq (.cut [(.normal, [(2, (.ptr 14 0)), (5, KA9), (100014, KA1)])] (.region [])) (.seq (.cut [(.normal, [(0, KA10), (2, (.ptr 15 0)), (100015, KA1)])] (.seq (.region []) (.cond (.region []) .leaf))) (.seq (.region []) (.seq (.region []) (.seq (.region []) (.seq (.seq (.region []) (.block (.loop [(2, (.ptr 16 0)), (8, KA10), (48, KA3), (100016, KA1)] [((.exit 0), [(2, (.ptr 18 0)), (8, KA10), (100018, KA1)]), (.ret, [(2, (.ptr 19 0)), (3, KA9), (100019, KA1)])] (.seq (.region []) (.seq (.cond .leaf .leaf) (.seq (.block (.seq (.region []) (.seq (.seq (.cut [(.normal, [(2, (.ptr 17 0)), (78, KA9), (100017, KA1)])] (.region [])) (.cond (.seq (.region [{}, { wr := [17] }]) .leaf) .leaf)) (.region [])))) (.region []))))))) (.seq (.region [{}, {}, {}, {}, {}, {}, {}, {}, {}, {}, {}, { new := [20] }, { wr := [20] }]) (.seq (.seq (.region []) (.cond (.seq (.region [{}, { wr := [18] }]) .leaf) .leaf)) (.seq (.cut [(.normal, [(2, (.ptr 21 0)), (11, (.ptr 22 0)), (100021, KA1), (100022, KA1)])] (.seq (.region []) (.cond (.region [{ rd := [20] }, {}, { wr := [20] }]) .leaf))) (.seq (.region [{ rd := [22] }]) (.seq (.region [{ rd := [22] }, {}, {}, { wr := [21] }]) .leaf))))))))))))))
noncomputable def run55 : Ks.den inst55.args → Ks.den inst55.objs → Option inst55.out.den := fun x _ => chanceryref2_enteredNumber x.1
theorem ev55 : ∀ x y, evFn fx117 109 (bodyOf Tryz.f55) [.cell 2 64, .tmp 3] hint55 inst55 x y = run55 x y := by intro x y; kernel_rfl
theorem ok55 : FnOK Tryz.prog fx117.glob 55 (inst55.sem run55) :=
  fn_add fx117_ok feMixed 55 Tryz.f55 [.cell 2 64, .tmp 3] hint55 inst55 109 run55 Tryz.func55 (by kernel_rfl) Tryz.ntmps55 (by kernel_rfl) (by kernel_rfl) ev55
noncomputable def fx55 : Ctx := fx117.add 55 (inst55.sem run55)
theorem fx55_ok : CtxOK fx55 Tryz.prog := add_ok fx117_ok ok55 Tryz.call55
def inst60 : Inst := { args := [KA5], objs := [], nres := 1, out := [(90000, KA17)], news := 0 }
def hint60 : HC := (.seq (.region [{ new := [10] }, { new := [11] }]) (.seq (.region [{ rd := [10] }, {}, {}, {}, {}, { new := [12] }, { wr := [12] }]) (.seq (.seq (.region []) (.cond (.seq (.region [{}, { wr := [11] }]) .leaf) .leaf)) (.seq (.region [{ rd := [12] }, {}, { wr := [11] }]) .leaf))))
noncomputable def run60 : Ks.den inst60.args → Ks.den inst60.objs → Option inst60.out.den := fun x _ => chanceryref2_Number x.1
theorem ev60 : ∀ x y, evFn fx55 15 (bodyOf Tryz.f60) [.cell 2 28] hint60 inst60 x y = run60 x y := by intro x y; kernel_rfl
theorem ok60 : FnOK Tryz.prog fx55.glob 60 (inst60.sem run60) :=
  fn_add fx55_ok feMixed 60 Tryz.f60 [.cell 2 28] hint60 inst60 15 run60 Tryz.func60 (by kernel_rfl) Tryz.ntmps60 (by kernel_rfl) (by kernel_rfl) ev60
noncomputable def fx60 : Ctx := fx55.add 60 (inst60.sem run60)
theorem fx60_ok : CtxOK fx60 Tryz.prog := add_ok fx55_ok ok60 Tryz.call60
def inst120 : Inst := { args := [KA5, KA5], objs := [], nres := 1, out := [(90000, KA5)], news := 0 }
def hint120 : HC := (.seq (.region [{ new := [10] }, { new := [11] }, { new := [12] }]) (.seq (.region [{ rd := [10] }, { rd := [10] }, { rd := [11] }, { rd := [11] }, {}, { rd := [11] }, { rd := [11] }, { rd := [10] }, { rd := [10] }]) (.seq (.region [{ rd := [10] }, { rd := [10] }, { rd := [11] }, { rd := [11] }, {}, {}, { new := [13] }, { wr := [13] }]) (.seq (.cut [(.normal, [(4, (.ptr 14 0)), (7, (.ptr 15 0)), (100014, KA1), (100015, KA1)])] (.block (.seq (.region [{ rd := [10] }, { rd := [10] }, { rd := [11] }, { rd := [11] }]) (.cond (.region [{ rd := [10] }, { rd := [10] }, {}, {}, {}, { rd := [13] }, { wr := [13] }, { rd := [13] }, { wr := [13] }]) (.seq (.region []) (.cond (.region [{ rd := [10] }, { rd := [10] }, {}, {}, {}, { rd := [13] }, { wr := [13] }, { rd := [13] }, { wr := [13] }]) (.region [{ rd := [11] }, { rd := [11] }, {}, {}, {}, { rd := [13] }, { wr := [13] }, { rd := [13] }, { wr := [13] }]))))))) (.seq (.region [{ rd := [15] }, { wr := [14] }]) .leaf)))))
noncomputable def run120 : Ks.den inst120.args → Ks.den inst120.objs → Option inst120.out.den := fun x _ => chanceryref2_Rat__Add x.1 x.2.1
theorem ev120 : ∀ x y, evFn fx60 57 (bodyOf Tryz.f120) [.cell 4 64] hint120 inst120 x y = run120 x y := by intro x y; kernel_rfl
theorem ok120 : FnOK Tryz.prog fx60.glob 120 (inst120.sem run120) :=
  fn_add fx60_ok feMixed 120 Tryz.f120 [.cell 4 64] hint120 inst120 57 run120 Tryz.func120 (by kernel_rfl) Tryz.ntmps120 (by kernel_rfl) (by kernel_rfl) ev120
noncomputable def fx120 : Ctx := fx60.add 120 (inst120.sem run120)
theorem fx120_ok : CtxOK fx120 Tryz.prog := add_ok fx60_ok ok120 Tryz.call120
def inst56 : Inst := { args := [KA10], objs := [], nres := 2, out := [(90000, KA5), (90001, KA9)], news := 0 }
def hint56 : HC := (.seq (.region [{ new := [10] }]) (.seq (.region []) (.seq (.cut [(.normal, [(0, KA10), (2, (.ptr 11 0)), (100011, KA1)])] (.seq (.region []) (.cond (.region []) .leaf))) (.seq (.region []) (.seq (.seq (.region []) (.cond (.seq (.region [{}, { wr := [11] }]) .leaf) .leaf)) (.seq (.region []) (.seq (.seq (.region []) (.cond (.seq (.region [{}, { wr := [11] }]) .leaf) .leaf)) (.seq (.seq (.region []) (.block (.loop [(2, (.ptr 12 0)), (40, KA3), (100012, KA1)] [((.exit 0), [(2, (.ptr 14 0)), (100014, KA1)]), (.ret, [(2, (.ptr 15 0)), (3, KA9), (100015, KA1)])] (.seq (.region []) (.seq (.cond .leaf .leaf) (.seq (.block (.seq (.region []) (.seq (.cut [(.normal, [(2, (.ptr 13 0)), (50, KA9), (100013, KA1)])] (.region [])) (.cond (.seq (.region [{}, { wr := [13] }]) .leaf) .leaf)))) (.region []))))))) (.seq (.region []) (.seq (.seq (.region []) (.cond (.seq (.region [{}, { wr := [14] }]) .leaf) .leaf)) (.seq (.region [{}, {}, {}, {}, { new := [16] }, { fz := [(65, 16)] }, {}, {}, {}, {}, {}, {}, {}, { new := [17] }, { wr := [17] }]) (.seq (.region [{}, { rd := [17] }, { wr := [17] }]) (.seq (.region [{ rd := [17] }, { wr := [14] }]) .leaf)))))))))))))
noncomputable def run56 : Ks.den inst56.args → Ks.den inst56.objs → Option inst56.out.den := fun x _ => chanceryref2_enteredMixed x.1
theorem ev56 : ∀ x y, evFn fx120 77 (bodyOf Tryz.f56) [.cell 2 64, .tmp 3] hint56 inst56 x y = run56 x y := by intro x y; kernel_rfl
theorem ok56 : FnOK Tryz.prog fx120.glob 56 (inst56.sem run56) :=
  fn_add fx120_ok feMixed 56 Tryz.f56 [.cell 2 64, .tmp 3] hint56 inst56 77 run56 Tryz.func56 (by kernel_rfl) Tryz.ntmps56 (by kernel_rfl) (by kernel_rfl) ev56
noncomputable def fx56 : Ctx := fx120.add 56 (inst56.sem run56)
theorem fx56_ok : CtxOK fx56 Tryz.prog := add_ok fx120_ok ok56 Tryz.call56
def inst74 : Inst := { args := [KA3], objs := [], nres := 1, out := [(90000, KA9)], news := 0 }
def hint74 : HC := (.seq (.region []) (.seq (.region []) .leaf))
noncomputable def run74 : Ks.den inst74.args → Ks.den inst74.objs → Option inst74.out.den := fun x _ => chanceryref2_Leap x.1
theorem ev74 : ∀ x y, evFn fx56 16 (bodyOf Tryz.f74) [.tmp 2] hint74 inst74 x y = run74 x y := by intro x y; kernel_rfl
theorem ok74 : FnOK Tryz.prog fx56.glob 74 (inst74.sem run74) :=
  fn_add fx56_ok feMixed 74 Tryz.f74 [.tmp 2] hint74 inst74 16 run74 Tryz.func74 (by kernel_rfl) Tryz.ntmps74 (by kernel_rfl) (by kernel_rfl) ev74
noncomputable def fx74 : Ctx := fx56.add 74 (inst74.sem run74)
theorem fx74_ok : CtxOK fx74 Tryz.prog := add_ok fx56_ok ok74 Tryz.call74
def inst73 : Inst := { args := [KA3, KA3], objs := [], nres := 1, out := [(90000, KA3)], news := 0 }
def hint73 : HC := (.seq (.region []) (.seq (.seq (.region []) (.cond (.seq (.seq (.region []) (.cond (.seq (.region []) .leaf) .leaf)) (.seq (.region []) .leaf)) .leaf)) (.seq (.seq (.cut [(.normal, [(22, KA9)])] (.region [])) (.cond (.seq (.region []) .leaf) .leaf)) (.seq (.region []) .leaf))))
noncomputable def run73 : Ks.den inst73.args → Ks.den inst73.objs → Option inst73.out.den := fun x _ => chanceryref2_MonthDays x.1 x.2.1
theorem ev73 : ∀ x y, evFn fx74 23 (bodyOf Tryz.f73) [.tmp 4] hint73 inst73 x y = run73 x y := by intro x y; kernel_rfl
theorem ok73 : FnOK Tryz.prog fx74.glob 73 (inst73.sem run73) :=
  fn_add fx74_ok feMixed 73 Tryz.f73 [.tmp 4] hint73 inst73 23 run73 Tryz.func73 (by kernel_rfl) Tryz.ntmps73 (by kernel_rfl) (by kernel_rfl) ev73
noncomputable def fx73 : Ctx := fx74.add 73 (inst73.sem run73)
theorem fx73_ok : CtxOK fx73 Tryz.prog := add_ok fx74_ok ok73 Tryz.call73
def inst29 : Inst := { args := [KA3, KA3, KA3], objs := [], nres := 1, out := [(90000, KA3)], news := 0 }
def hint29 : HC := (.seq (.region []) (.seq (.seq (.cut [(.normal, [(34, KA9)])] (.region [])) (.cond (.seq (.region []) .leaf) .leaf)) (.seq (.region []) (.seq (.seq (.region []) (.block (.loop [(7, KA3), (8, KA3)] [((.exit 0), [(7, KA3)])] (.seq (.seq (.region []) (.cond .leaf .leaf)) (.seq (.cut [(.normal, [(7, KA3)])] (.block (.seq (.region []) (.seq (.region []) (.cond (.region []) .leaf))))) (.region [])))))) (.seq (.seq (.region []) (.block (.loop [(7, KA3), (9, KA3)] [((.exit 2), [(7, KA3)])] (.seq (.seq (.region []) (.cond .leaf .leaf)) (.seq (.block (.region [])) (.region [])))))) (.seq (.region []) .leaf))))))
noncomputable def run29 : Ks.den inst29.args → Ks.den inst29.objs → Option inst29.out.den := fun x _ => chanceryref2_Day x.1 x.2.1 x.2.2.1
theorem ev29 : ∀ x y, evFn fx73 58 (bodyOf Tryz.f29) [.tmp 6] hint29 inst29 x y = run29 x y := by intro x y; kernel_rfl
theorem ok29 : FnOK Tryz.prog fx73.glob 29 (inst29.sem run29) :=
  fn_add fx73_ok feMixed 29 Tryz.f29 [.tmp 6] hint29 inst29 58 run29 Tryz.func29 (by kernel_rfl) Tryz.ntmps29 (by kernel_rfl) (by kernel_rfl) ev29
noncomputable def fx29 : Ctx := fx73.add 29 (inst29.sem run29)
theorem fx29_ok : CtxOK fx29 Tryz.prog := add_ok fx73_ok ok29 Tryz.call29
def inst130 : Inst := { args := [KA3], objs := [], nres := 1, out := [(90000, KA10)], news := 0 }
def hint130 : HC := (.seq (.region []) (.seq (.seq (.region []) (.cond (.seq (.region [{}, {}, {}, {}, {}, {}, {}, { new := [10] }, { rd := [10] }]) .leaf) .leaf)) (.seq (.seq (.region []) (.cond (.seq (.region [{}, {}, {}, { new := [11] }, { rd := [11] }]) .leaf) .leaf)) (.seq (.seq (.region []) (.cond (.seq (.region [{}, {}, {}, {}, {}, {}, {}, { new := [12] }, { rd := [12] }]) .leaf) .leaf)) (.seq (.region [{}, {}, {}, { new := [13] }, { rd := [13] }]) .leaf)))))
noncomputable def run130 (m : Nat) : Ks.den inst130.args → Ks.den inst130.objs → Option inst130.out.den := fun x _ => chanceryref2_Decimal_f m x.1
theorem ev130 : ∀ m x y, evFn (fx29.add 130 (inst130.sem (run130 m))) 40 (bodyOf Tryz.f130) [.tmp 2] hint130 inst130 x y = run130 (m + 1) x y := by intro m x y; kernel_rfl
theorem ok130 : ∀ m, FnOK Tryz.prog fx29.glob 130 (inst130.sem (run130 m)) :=
  fn_rec fx29_ok feMixed 130 Tryz.f130 [.tmp 2] hint130 inst130 40 run130 Tryz.func130 (by kernel_rfl) Tryz.ntmps130 (by kernel_rfl) (by kernel_rfl) Tryz.call130 (fun _ _ => rfl) ev130
noncomputable def fx130 : Ctx := fx29.add 130 (inst130.sem (run130 rounds))
theorem fx130_ok : CtxOK fx130 Tryz.prog := add_ok fx29_ok (ok130 rounds) Tryz.call130
def inst129 : Inst := { args := [KA3], objs := [], nres := 1, out := [(90000, KA10)], news := 0 }
def hint129 : HC := (.seq (.region []) (.seq (.region []) .leaf))
noncomputable def run129 : Ks.den inst129.args → Ks.den inst129.objs → Option inst129.out.den := fun x _ => chanceryref2_unsigned x.1
theorem ev129 : ∀ x y, evFn fx130 6 (bodyOf Tryz.f129) [.tmp 2] hint129 inst129 x y = run129 x y := by intro x y; kernel_rfl
theorem ok129 : FnOK Tryz.prog fx130.glob 129 (inst129.sem run129) :=
  fn_add fx130_ok feMixed 129 Tryz.f129 [.tmp 2] hint129 inst129 6 run129 Tryz.func129 (by kernel_rfl) Tryz.ntmps129 (by kernel_rfl) (by kernel_rfl) ev129
noncomputable def fx129 : Ctx := fx130.add 129 (inst129.sem run129)
theorem fx129_ok : CtxOK fx129 Tryz.prog := add_ok fx130_ok ok129 Tryz.call129
def inst70 : Inst := { args := [KA3], objs := [], nres := 1, out := [(90000, KA5)], news := 0 }
def hint70 : HC := (.seq (.region [{ new := [10] }]) (.seq (.seq (.region []) (.cond (.seq (.region [{}, {}, {}, { new := [11] }, { fz := [(8, 11)] }, { wr := [10] }]) .leaf) .leaf)) (.seq (.region [{}, {}, {}, { new := [12] }, { fz := [(13, 12)] }, { wr := [10] }]) .leaf)))
noncomputable def run70 : Ks.den inst70.args → Ks.den inst70.objs → Option inst70.out.den := fun x _ => chanceryref2_Whole x.1
theorem ev70 : ∀ x y, evFn fx129 15 (bodyOf Tryz.f70) [.cell 2 64] hint70 inst70 x y = run70 x y := by intro x y; kernel_rfl
theorem ok70 : FnOK Tryz.prog fx129.glob 70 (inst70.sem run70) :=
  fn_add fx129_ok feMixed 70 Tryz.f70 [.cell 2 64] hint70 inst70 15 run70 Tryz.func70 (by kernel_rfl) Tryz.ntmps70 (by kernel_rfl) (by kernel_rfl) ev70
noncomputable def fx70 : Ctx := fx129.add 70 (inst70.sem run70)
theorem fx70_ok : CtxOK fx70 Tryz.prog := add_ok fx129_ok ok70 Tryz.call70
def inst57 : Inst := { args := [KA10], objs := [], nres := 2, out := [(90000, KA5), (90001, KA9)], news := 0 }
def hint57 : HC := (.seq (.region [{ new := [10] }]) (.seq (.region []) (.seq (.seq (.cut [(.normal, [(2, (.ptr 11 0)), (52, KA9), (100011, KA1)])] (.region [])) (.cond (.seq (.region [{}, { wr := [11] }]) .leaf) .leaf)) (.seq (.region []) (.seq (.region [{}, {}, {}, {}, { wr := [11] }]) .leaf)))))
noncomputable def run57 : Ks.den inst57.args → Ks.den inst57.objs → Option inst57.out.den := fun x _ => chanceryref2_enteredDate x.1
theorem ev57 : ∀ x y, evFn fx70 71 (bodyOf Tryz.f57) [.cell 2 64, .tmp 3] hint57 inst57 x y = run57 x y := by intro x y; kernel_rfl
theorem ok57 : FnOK Tryz.prog fx70.glob 57 (inst57.sem run57) :=
  fn_add fx70_ok feMixed 57 Tryz.f57 [.cell 2 64, .tmp 3] hint57 inst57 71 run57 Tryz.func57 (by kernel_rfl) Tryz.ntmps57 (by kernel_rfl) (by kernel_rfl) ev57
noncomputable def fx57 : Ctx := fx70.add 57 (inst57.sem run57)
theorem fx57_ok : CtxOK fx57 Tryz.prog := add_ok fx70_ok ok57 Tryz.call57
def inst123 : Inst := { args := [KA5], objs := [], nres := 1, out := [(90000, KA5)], news := 0 }
def hint123 : HC := (.seq (.region [{ new := [10] }, { new := [11] }]) (.seq (.region [{ rd := [10] }, { rd := [10] }, { rd := [10] }, { rd := [10] }, { rd := [10] }, { rd := [10] }, {}, { wr := [11] }]) .leaf))
noncomputable def run123 : Ks.den inst123.args → Ks.den inst123.objs → Option inst123.out.den := fun x _ => chanceryref2_Rat__Inverse x.1
theorem ev123 : ∀ x y, evFn fx57 10 (bodyOf Tryz.f123) [.cell 2 64] hint123 inst123 x y = run123 x y := by intro x y; kernel_rfl
theorem ok123 : FnOK Tryz.prog fx57.glob 123 (inst123.sem run123) :=
  fn_add fx57_ok feMixed 123 Tryz.f123 [.cell 2 64] hint123 inst123 10 run123 Tryz.func123 (by kernel_rfl) Tryz.ntmps123 (by kernel_rfl) (by kernel_rfl) ev123
noncomputable def fx123 : Ctx := fx57.add 123 (inst123.sem run123)
theorem fx123_ok : CtxOK fx123 Tryz.prog := add_ok fx57_ok ok123 Tryz.call123
def inst122 : Inst := { args := [KA5, KA5], objs := [], nres := 1, out := [(90000, KA5)], news := 0 }
def hint122 : HC := (.seq (.region [{ new := [10] }, { new := [11] }, { new := [12] }]) (.seq (.region [{ rd := [10] }, { rd := [10] }, { rd := [11] }, { rd := [11] }, {}, { rd := [10] }, { rd := [10] }, { rd := [11] }, { rd := [11] }, {}, { rd := [10] }, { rd := [10] }, { rd := [11] }, { rd := [11] }, {}, {}, { wr := [12] }]) .leaf))
noncomputable def run122 : Ks.den inst122.args → Ks.den inst122.objs → Option inst122.out.den := fun x _ => chanceryref2_Rat__Mul x.1 x.2.1
theorem ev122 : ∀ x y, evFn fx123 21 (bodyOf Tryz.f122) [.cell 4 64] hint122 inst122 x y = run122 x y := by intro x y; kernel_rfl
theorem ok122 : FnOK Tryz.prog fx123.glob 122 (inst122.sem run122) :=
  fn_add fx123_ok feMixed 122 Tryz.f122 [.cell 4 64] hint122 inst122 21 run122 Tryz.func122 (by kernel_rfl) Tryz.ntmps122 (by kernel_rfl) (by kernel_rfl) ev122
noncomputable def fx122 : Ctx := fx123.add 122 (inst122.sem run122)
theorem fx122_ok : CtxOK fx122 Tryz.prog := add_ok fx123_ok ok122 Tryz.call122
def inst58 : Inst := { args := [KA10], objs := [], nres := 2, out := [(90000, KA5), (90001, KA9)], news := 0 }
def hint58 : HC := (.seq (.region [{ new := [10] }]) (.seq (.region []) (.seq (.seq (.cut [(.normal, [(2, (.ptr 11 0)), (58, KA9), (100011, KA1)])] (.region [])) (.cond (.seq (.region [{}, { wr := [11] }]) .leaf) .leaf)) (.seq (.region [{}, {}, {}, {}, {}, {}, {}, {}, {}, {}, {}, {}, { new := [12] }, { wr := [12] }]) (.seq (.cut [(.normal, [(2, (.ptr 16 0)), (5, (.ptr 17 0)), (100016, KA1), (100017, KA1)]), (.ret, [(2, (.ptr 18 0)), (3, KA9), (100018, KA1)])] (.seq (.region []) (.cond (.seq (.region []) (.seq (.seq (.cut [(.normal, [(2, (.ptr 13 0)), (5, (.ptr 14 0)), (121, KA9), (100013, KA1), (100014, KA1)])] (.region [])) (.cond (.seq (.region [{}, { wr := [13] }]) .leaf) .leaf)) (.seq (.region [{ rd := [14] }, {}, {}, {}, {}, {}, {}, { wr := [14] }]) (.seq (.region []) (.cond (.region [{ rd := [14] }, {}, {}, {}, {}, { new := [15] }, { fz := [(138, 15)] }, {}, {}, {}, {}, {}, {}, {}, { wr := [14] }]) .leaf))))) .leaf))) (.seq (.region [{ rd := [17] }, {}, {}, {}, { wr := [16] }]) .leaf))))))
noncomputable def run58 : Ks.den inst58.args → Ks.den inst58.objs → Option inst58.out.den := fun x _ => chanceryref2_enteredTime x.1
theorem ev58 : ∀ x y, evFn fx122 151 (bodyOf Tryz.f58) [.cell 2 64, .tmp 3] hint58 inst58 x y = run58 x y := by intro x y; kernel_rfl
theorem ok58 : FnOK Tryz.prog fx122.glob 58 (inst58.sem run58) :=
  fn_add fx122_ok feMixed 58 Tryz.f58 [.cell 2 64, .tmp 3] hint58 inst58 151 run58 Tryz.func58 (by kernel_rfl) Tryz.ntmps58 (by kernel_rfl) (by kernel_rfl) ev58
noncomputable def fx58 : Ctx := fx122.add 58 (inst58.sem run58)
theorem fx58_ok : CtxOK fx58 Tryz.prog := add_ok fx122_ok ok58 Tryz.call58
def inst59 : Inst := { args := [KA10], objs := [], nres := 2, out := [(90000, KA5), (90001, KA9)], news := 0 }
def hint59 : HC := (.seq (.region [{ new := [10] }]) (.seq (.seq (.region []) (.block (.loop [(2, (.ptr 11 0)), (11, KA3), (100011, KA1)] [((.exit 0), [(2, (.ptr 17 0)), (100017, KA1)]), (.ret, [(2, (.ptr 18 0)), (3, KA9), (100018, KA1)])] (.seq (.region []) (.seq (.cond .leaf .leaf) (.seq (.block (.seq (.region []) (.seq (.region []) (.cond (.seq (.region [{}, {}, {}, {}, {}, {}, {}, { new := [12] }, { wr := [12] }]) (.seq (.region [{}, {}, {}, {}, {}, {}, {}, {}, { new := [13] }, { wr := [13] }]) (.seq (.seq (.cut [(.normal, [(2, (.ptr 14 0)), (5, (.ptr 15 0)), (7, (.ptr 16 0)), (38, KA9), (100014, KA1), (100015, KA1), (100016, KA1)])] (.region [])) (.cond (.seq (.region [{}, { wr := [14] }]) .leaf) .leaf)) (.seq (.region [{ rd := [15] }, { rd := [16] }, {}, { wr := [14] }]) .leaf)))) .leaf)))) (.region []))))))) (.seq (.region [{}, { wr := [17] }]) .leaf)))
noncomputable def run59 : Ks.den inst59.args → Ks.den inst59.objs → Option inst59.out.den := fun x _ => chanceryref2_enteredMoment x.1
theorem ev59 : ∀ x y, evFn fx58 45 (bodyOf Tryz.f59) [.cell 2 64, .tmp 3] hint59 inst59 x y = run59 x y := by intro x y; kernel_rfl
theorem ok59 : FnOK Tryz.prog fx58.glob 59 (inst59.sem run59) :=
  fn_add fx58_ok feMixed 59 Tryz.f59 [.cell 2 64, .tmp 3] hint59 inst59 45 run59 Tryz.func59 (by kernel_rfl) Tryz.ntmps59 (by kernel_rfl) (by kernel_rfl) ev59
noncomputable def fx59 : Ctx := fx58.add 59 (inst59.sem run59)
theorem fx59_ok : CtxOK fx59 Tryz.prog := add_ok fx58_ok ok59 Tryz.call59
def inst11 : Inst := { args := [KA10], objs := [], nres := 1, out := [(90000, KA17)], news := 0 }
def hint11 : HC := (.seq (.region [{ new := [10] }]) (.seq (.block (.seq (.region []) (.cond (.seq (.region [{}, { wr := [10] }]) .leaf) (.seq (.region []) (.cond (.seq (.region [{}, { wr := [10] }]) .leaf) (.seq (.region []) (.cond (.seq (.region [{}, {}, {}, { wr := [10] }]) .leaf) (.seq (.cut [(.normal, [(2, (.ptr 11 0)), (24, KA9), (100011, KA2)])] (.region [])) (.cond (.seq (.region [{}, {}, {}, {}, { wr := [11] }]) .leaf) .leaf))))))))) (.seq (.seq (.region []) (.block (.loop [(2, (.ptr 12 0)), (3, KA3), (100012, KA2)] [((.exit 1), [(2, (.ptr 13 0)), (100013, KA2)]), (.ret, [(2, (.ptr 14 0)), (100014, KA2)])] (.seq (.seq (.region []) (.cond .leaf .leaf)) (.seq (.block (.seq (.region []) (.cond (.seq (.region [{}, {}, { wr := [12] }]) .leaf) .leaf))) (.region [])))))) (.seq (.seq (.region []) (.block (.again (.seq (.region []) (.seq (.cond .leaf .leaf) (.seq (.block (.seq (.region []) (.seq (.region [{}, {}, {}, {}, {}, {}, { new := [15] }, { wr := [15] }]) (.seq (.region []) (.cond (.seq (.region [{ rd := [15] }, {}, { wr := [13] }]) .leaf) .leaf))))) (.region [])))) (.again (.seq (.region []) (.seq (.cond .leaf .leaf) (.seq (.block (.seq (.region []) (.seq (.region [{}, {}, {}, {}, {}, {}, { new := [16] }, { wr := [16] }]) (.seq (.region []) (.cond (.seq (.region [{ rd := [16] }, {}, { wr := [13] }]) .leaf) .leaf))))) (.region [])))) (.again (.seq (.region []) (.seq (.cond .leaf .leaf) (.seq (.block (.seq (.region []) (.seq (.region [{}, {}, {}, {}, {}, {}, { new := [17] }, { wr := [17] }]) (.seq (.region []) (.cond (.seq (.region [{ rd := [17] }, {}, { wr := [13] }]) .leaf) .leaf))))) (.region [])))) (.again (.seq (.region []) (.seq (.cond .leaf .leaf) (.seq (.block (.seq (.region []) (.seq (.region [{}, {}, {}, {}, {}, {}, { new := [18] }, { wr := [18] }]) (.seq (.region []) (.cond (.seq (.region [{ rd := [18] }, {}, { wr := [13] }]) .leaf) .leaf))))) (.region [])))) (.again (.seq (.region []) (.seq (.cond .leaf .leaf) (.seq (.block (.seq (.region []) (.seq (.region [{}, {}, {}, {}, {}, {}, { new := [19] }, { wr := [19] }]) (.seq (.region []) (.cond (.seq (.region [{ rd := [19] }, {}, { wr := [13] }]) .leaf) .leaf))))) (.region [])))) (.again (.seq (.region []) (.seq (.cond .leaf .leaf) (.seq (.block (.seq (.region []) (.seq (.region []) (.seq (.region []) (.cond (.seq (.region []) .leaf) .leaf))))) (.region [])))) .leaf)))))))) (.seq (.region [{}, {}, { wr := [13] }]) .leaf)))))
noncomputable def run11 : Ks.den inst11.args → Ks.den inst11.objs → Option inst11.out.den := fun x _ => chanceryref2_Enter x.1
theorem ev11 : ∀ x y, evFn fx59 64 (bodyOf Tryz.f11) [.cell 2 28] hint11 inst11 x y = run11 x y := by intro x y; kernel_rfl
theorem ok11 : FnOK Tryz.prog fx59.glob 11 (inst11.sem run11) :=
  fn_add fx59_ok feMixed 11 Tryz.f11 [.cell 2 28] hint11 inst11 64 run11 Tryz.func11 (by kernel_rfl) Tryz.ntmps11 (by kernel_rfl) (by kernel_rfl) ev11
noncomputable def fx11 : Ctx := fx59.add 11 (inst11.sem run11)
theorem fx11_ok : CtxOK fx11 Tryz.prog := add_ok fx59_ok ok11 Tryz.call11
def inst9 : Inst := { args := [KA17, KA17], objs := [], nres := 1, out := [(90000, KA9)], news := 0 }
def hint9 : HC := (.seq (.region [{ new := [10] }, { new := [11] }]) (.seq (.seq (.cut [(.normal, [(2, (.ptr 12 0)), (3, (.ptr 13 0)), (61, KA9), (100012, KA2), (100013, KA2)])] (.region [{ rd := [10] }, { rd := [10] }, { rd := [11] }, { rd := [11] }, {}, {}, { rd := [10] }, { rd := [10] }, { rd := [11] }, { rd := [11] }, {}, {}, {}, { rd := [10] }, { rd := [10] }, { rd := [11] }, { rd := [11] }, {}, {}, {}, { rd := [10] }, { rd := [10] }, { rd := [11] }, { rd := [11] }, {}, {}, {}, { rd := [10] }, { rd := [10] }, { rd := [11] }, { rd := [11] }, {}, {}, {}, { rd := [10] }, { rd := [10] }, { rd := [11] }, { rd := [11] }, {}, {}, {}, { rd := [10] }, { rd := [10] }, { rd := [11] }, { rd := [11] }, {}, {}, {}, { rd := [10] }, { rd := [10] }, {}, { rd := [11] }, { rd := [11] }])) (.cond (.seq (.region []) .leaf) .leaf)) (.seq (.seq (.region [{ rd := [12] }, { rd := [12] }]) (.block (.loop [(2, (.ptr 14 0)), (3, (.ptr 15 0)), (65, KA3), (100014, KA2), (100015, KA2)] [((.exit 0), []), (.ret, [(4, KA9)])] (.seq (.region []) (.seq (.cond .leaf .leaf) (.seq (.block (.seq (.region []) (.seq (.region [{ rd := [14] }, { rd := [14] }, {}, {}, {}, { rd := [15] }, { rd := [15] }]) (.cond (.seq (.region []) .leaf) .leaf)))) (.region []))))))) (.seq (.region []) .leaf))))
noncomputable def run9 (m : Nat) : Ks.den inst9.args → Ks.den inst9.objs → Option inst9.out.den := fun x _ => chanceryref2_SameValue_f m x.1 x.2.1
theorem ev9 : ∀ m x y, evFn (fx11.add 9 (inst9.sem (run9 m))) 81 (bodyOf Tryz.f9) [.tmp 4] hint9 inst9 x y = run9 (m + 1) x y := by intro m x y; kernel_rfl
theorem ok9 : ∀ m, FnOK Tryz.prog fx11.glob 9 (inst9.sem (run9 m)) :=
  fn_rec fx11_ok feMixed 9 Tryz.f9 [.tmp 4] hint9 inst9 81 run9 Tryz.func9 (by kernel_rfl) Tryz.ntmps9 (by kernel_rfl) (by kernel_rfl) Tryz.call9 (fun _ _ => rfl) ev9
noncomputable def fx9 : Ctx := fx11.add 9 (inst9.sem (run9 rounds))
theorem fx9_ok : CtxOK fx9 Tryz.prog := add_ok fx11_ok (ok9 rounds) Tryz.call9
def inst3 : Inst := { args := [KA10], objs := [], nres := 1, out := [(90000, KA9)], news := 0 }
def hint3 : HC := (.seq (.region []) (.seq (.region []) .leaf))
noncomputable def run3 : Ks.den inst3.args → Ks.den inst3.objs → Option inst3.out.den := fun x _ => chancerylaw2_ValueEnterMatches x.1
theorem ev3 : ∀ x y, evFn fx9 11 (bodyOf Tryz.f3) [.tmp 2] hint3 inst3 x y = run3 x y := by intro x y; kernel_rfl
theorem ok3 : FnOK Tryz.prog fx9.glob 3 (inst3.sem run3) :=
  fn_add fx9_ok feMixed 3 Tryz.f3 [.tmp 2] hint3 inst3 11 run3 Tryz.func3 (by kernel_rfl) Tryz.ntmps3 (by kernel_rfl) (by kernel_rfl) ev3
noncomputable def fx3 : Ctx := fx9.add 3 (inst3.sem run3)
theorem fx3_ok : CtxOK fx3 Tryz.prog := add_ok fx9_ok ok3 Tryz.call3
end Go.Proofs.YtmbejoibeninmaaGreatDoor
