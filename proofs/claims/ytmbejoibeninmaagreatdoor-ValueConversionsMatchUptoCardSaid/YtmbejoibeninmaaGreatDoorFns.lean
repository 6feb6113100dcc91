/- The contracts that say what the program's functions come to. Printed by a program (fegen.py). -/
import Derived.Test.YtmbejoibeninmaaGreatDoorFun
import Derived.Test.YtmbejoibeninmaaGreatDoorShelf
import Derived.Test.YtmbejoibeninmaaGreatDoorNat
import Derived.WalkKit
import Derived.Lib.Builder
import Derived.BigRegion
import Derived.Test.YtmbejoibeninmaaGreatDoorProg
namespace Go.Proofs
open Go Go.RowKit
set_option maxRecDepth 100000
theorem Tryz.bldUsed (b : Nat) (w : World) (h0 : w.cell? ⟨b, 0, none⟩ = some (.pointer (some ⟨b, 0, none⟩))) :
  Calls Tryz.prog 236 #[.pointer (some ⟨b, 0, none⟩)] w fun e w' => e = .returned (.tuple #[]) /\ w' = w := by
 obtain ⟨j, hj, _⟩ := Option.map_eq_some_iff.1 (show (Tryz.prog.info? 195).map (·.size) = some 2 by kernel_rfl)
 go_enter Tryz.func236, Tryz.ntmps236
 go_wp2
 rw [Lib.run_neq_ptr_same w _ Tryz.underlying193 hj]
 go_wp2
 go_end0
 exact ⟨rfl, rfl⟩
theorem Tryz.bldFresh (b : Nat) (w : World) (h0 : w.cell? ⟨b, 0, none⟩ = some (.pointer none)) (hsh : w.shape? b = some (195, 2)) (hfz : w.frozen? ⟨b, 0, none⟩ = false) :
  Calls Tryz.prog 236 #[.pointer (some ⟨b, 0, none⟩)] w fun e w' => e = .returned (.tuple #[]) /\ w' = w.setCell ⟨b, 0, none⟩ (.pointer (some ⟨b, 0, none⟩)) := by
 obtain ⟨j, hj, hjs⟩ := Option.map_eq_some_iff.1 (show (Tryz.prog.info? 195).map (·.size) = some 2 by kernel_rfl)
 have hlies : liesAt Tryz.prog Tryz.prog.depth 195 (2 / Tryz.prog.cellsOf 195) 0 195 1 = true := by kernel_rfl
 go_enter Tryz.func236, Tryz.ntmps236
 go_wp2
 rw [Lib.run_to_unsafe w ⟨b, 0, none⟩ Tryz.underlying193 Tryz.underlying230 hj (by rw [hjs]; decide) hsh (Nat.zero_lt_succ 1)]
 simp only [Result.andThen]
 rw [Oper.upon_value]
 go_wp2
 rw [run_callFunc_extern Tryz.func251 (by kernel_rfl) (by kernel_rfl) (by kernel_rfl) (e := Extern.AbiNoEscape.same) (by kernel_rfl)]
 rw [Lib.run_noEscape]
 simp only [Result.andThen]
 rw [Oper.upon_value]
 go_wp2
 rw [Lib.run_from_unsafe w ⟨b, 0, none⟩ Tryz.underlying230 Tryz.underlying193 hj hsh hlies]
 simp only [Result.andThen]
 rw [Oper.upon_value]
 go_wp2
 go_end0
 exact ⟨rfl, rfl⟩
set_option maxHeartbeats 2000000 in
theorem Tryz.bldStr (b : Nat) (v pv : Value) (a : Option Addr) (n cap : Nat) (s : ByteArray) (w w2 : World) (hv : v = .slice a n cap) (hc : w.cell? ⟨b, 1, none⟩ = some v)
  (h1 : (Builtin.unsafeSliceData_ #[103] 218 #[v]).run Tryz.prog w.drew = .ok pv w.drew) (h2 : (Builtin.unsafeString_ #[218, 3] 9 #[pv, .int .i64 n]).run Tryz.prog w.drew = .ok (.string s) w2) :
  Calls Tryz.prog 212 #[.pointer (some ⟨b, 0, none⟩)] w fun e w' => e = .returned (.string s) /\ w' = w2 := by
 subst hv
 have hc : w.drew.cell? ⟨b, 1, none⟩ = some (.slice a n cap) := hc
 have mixed : Tryz.prog.follows .mixedOrders = true := by kernel_rfl
 go_enter Tryz.func212, Tryz.ntmps212
 go_wp2
 go_region
 all_goals (go_wp2; go_ret; exact ⟨rfl, rfl⟩)
end Go.Proofs
namespace Go.Proofs.YtmbejoibeninmaaGreatDoor
open Go Go.Fe
noncomputable section
abbrev KA7 : K := (.val (.pair .str (.pair .str .unit)))
abbrev KA8 : K := (.val .bool)
abbrev KA10 : K := (.val .str)
abbrev KA5 : K := (.rcd (.cons KA10 (.cons KA10 .unit)))
abbrev YA13 : Ty := (.int .i64)
abbrev YA0 : Ty := (.mu (.pair YA13 (.pair (.pair .str (.pair .str .unit)) (.pair .str (.pair .bool (.pair YA13 (.pair YA13 (.pair YA13 .unit))))))))
abbrev KA3 : K := (.val YA13)
abbrev KA2 : K := (.rcd (.cons KA3 (.cons KA10 (.cons KA10 (.cons KA10 (.cons KA8 (.cons KA3 (.cons KA3 (.cons KA3 (.cons (.val (.sl YA0)) .unit))))))))))
abbrev KA4 : K := (.val (.pair .bool (.pair (.sl YA13) (.pair (.sl YA13) .unit))))
abbrev KA9 : K := (.val (.sl YA13))
abbrev KA1 : K := (.rcd (.cons KA8 (.cons KA9 (.cons KA9 .unit))))
abbrev KA15 : K := (.val YA0)
abbrev YA16 : Ty := (.int .u32)
abbrev YA6 : Ty := (.sl YA16)
abbrev KA11 : K := (.val (.pair .bool (.pair YA6 (.pair YA6 .unit))))
abbrev KA14 : K := (.val YA6)
abbrev KA12 : K := (.rcd (.cons KA8 (.cons KA14 (.cons KA14 .unit))))
abbrev YA17 : Ty := (.int .u8)
abbrev KA18 : K := (.val (.int .u64))
abbrev rd (n : Nat) : OH := { rd := [n] }
abbrev wr (n : Nat) : OH := { wr := [n] }
abbrev nw (n : Nat) : OH := { new := [n] }
abbrev fz (k n : Nat) : OH := { fz := [(k, n)] }
abbrev rz : HC := .region []
abbrev rg := HC.region
abbrev sq := HC.seq
abbrev cn := HC.cond
abbrev bk := HC.block
abbrev lf := HC.leaf
def feTab : List (TypeId × Ty) := [(3, YA13), (4, .bool), (5, YA17), (9, .str), (21, (.int .i32)), (25, (.pair .str (.pair .str .unit))), (26, (.sl YA0)), (28, YA0), (61, (.sl YA13)), (62, (.sl YA13)), (64, (.pair .bool (.pair (.sl YA13) (.pair (.sl YA13) .unit)))), (73, (.arr 9 .str)), (87, (.arr 12 YA13)), (103, (.sl YA17)), (112, (.sl .str)), (123, (.arr 3 .str)), (129, YA6), (131, (.pair .bool (.pair YA6 (.pair YA6 .unit)))), (146, YA16), (154, .err), (174, (.int .u64)), (182, (.arr 256 .bool))]
def fe0 : Ctx := (Ctx.withFa (Ctx.withBld (Ctx.base feTab (globOf [(0, ⟨(.arr 9 .str), some [[], [35, 68, 73, 86, 47, 48, 33], [35, 86, 65, 76, 85, 69, 33], [35, 82, 69, 70, 33], [35, 78, 65, 77, 69, 63], [35, 78, 85, 77, 33], [35, 78, 47, 65], [35, 83, 80, 73, 76, 76, 33], [35, 67, 89, 67, 76, 69, 33]]⟩), (1, ⟨(.arr 9 .str), some [[], [35, 68, 73, 86, 47, 48, 33], [35, 86, 65, 76, 85, 69, 33], [35, 82, 69, 70, 33], [35, 78, 65, 77, 69, 63], [35, 78, 85, 77, 33], [35, 78, 47, 65], [35, 83, 80, 73, 76, 76, 33], [35, 67, 89, 67, 76, 69, 33]]⟩), (2, ⟨(.arr 256 YA17), some runeFirst⟩), (3, ⟨(.arr 16 (.pair YA17 (.pair YA17 .unit))), some runeAccept⟩), (4, ⟨YA13, none⟩), (5, ⟨.err, some true⟩), (6, ⟨.err, some true⟩), (7, ⟨(.arr 20 (.int .u64)), some Lib.pow10Tab⟩)])) [195]) [(75, 5), (78, 5)]).eqs [(25, (.pair .str (.pair .str .unit)))]
theorem fe0_ok : CtxOK fe0 Tryz.prog := eqs_ok (fa_ok (bld_ok (base_ok (by kernel_rfl)) (by kernel_rfl)) (by kernel_rfl)) (by kernel_rfl)
theorem feMixed : Tryz.prog.follows .mixedOrders = true := by kernel_rfl
def fx46 : Ctx := fe0.add 46 (shelfSem [.str, .str] [.str, .bool] sCutPrefix)
theorem fx46_ok : CtxOK fx46 Tryz.prog := add_ok fe0_ok (okCutPrefix Tryz.strings_CutPrefix) Tryz.call46
def fx94 : Ctx := fx46.add 94 (shelfSem [.str] [(.int .i32), YA13] sRune)
theorem fx94_ok : CtxOK fx94 Tryz.prog := add_ok fx46_ok (okRune (g3 := 2) (g4 := 3) rfl rfl Tryz.utf8_DecodeRuneInString) Tryz.call94
def fx97 : Ctx := fx94.add 97 (shelfSem [.str, .str] [.str] sTrimPrefix)
theorem fx97_ok : CtxOK fx97 Tryz.prog := add_ok fx94_ok (okTrimPrefix Tryz.strings_TrimPrefix) Tryz.call97
def fx99 : Ctx := fx97.add 99 (shelfSem [.str, .str] [.str, .bool] sCutSuffix)
theorem fx99_ok : CtxOK fx99 Tryz.prog := add_ok fx97_ok (okCutSuffix Tryz.strings_CutSuffix) Tryz.call99
def fx128 : Ctx := fx99.add 128 (shelfSem [YA13] [.str] sItoa)
theorem fx128_ok : CtxOK fx128 Tryz.prog := add_ok fx99_ok (okItoa (g := 7) rfl (by kernel_rfl) Tryz.strconv_Itoa) Tryz.call128
def fx144 : Ctx := fx128.add 144 (shelfSem [.str, .str] [.bool] sHasPrefix)
theorem fx144_ok : CtxOK fx144 Tryz.prog := add_ok fx128_ok (okHasPrefix Tryz.strings_HasPrefix) Tryz.call144
def fx159 : Ctx := fx144.add 159 (shelfSem [.str] [YA13, .err] sAtoi)
theorem fx159_ok : CtxOK fx159 Tryz.prog := add_ok fx144_ok (okAtoi (g1 := 5) (g2 := 6) rfl rfl Tryz.strconv_Atoi_ok Tryz.strconv_Atoi_syntax Tryz.strconv_Atoi_range) Tryz.call159
def fx176 : Ctx := fx159.add 176 (shelfSem [.str, .str] [.str] sTrimSuffix)
theorem fx176_ok : CtxOK fx176 Tryz.prog := add_ok fx159_ok (okTrimSuffix Tryz.strings_TrimSuffix) Tryz.call176
def fx182 : Ctx := fx176.add 182 (shelfSem [.str, YA13] [.str] sRepeat)
theorem fx182_ok : CtxOK fx182 Tryz.prog := add_ok fx176_ok (okRepeat Tryz.strings_Repeat) Tryz.call182
def fx184 : Ctx := fx182.add 184 (shelfSem [YA6] [.str] sNatText)
theorem fx184_ok : CtxOK fx184 Tryz.prog := add_ok fx182_ok (Tryz.okNatText rfl) Tryz.call184
def fx185 : Ctx := fx184.add 185 (shelfSem [.str, .str] [YA13] sIndex)
theorem fx185_ok : CtxOK fx185 Tryz.prog := add_ok fx184_ok (okIndex Tryz.stringslite_Index_one) Tryz.call185
def fx189 : Ctx := fx185.add 189 (shelfSem [.str, YA13] [(.sl .str)] (sNever [Ty.str, (Ty.int .i64)] [(Ty.sl .str)]))
theorem fx189_ok : CtxOK fx189 Tryz.prog := add_ok fx185_ok (okNever (l := [.str, YA13]) (r := [(.sl .str)])) Tryz.call189
def fx190 : Ctx := fx189.add 190 (shelfSem [.str, .str] [YA13] sCount)
theorem fx190_ok : CtxOK fx190 Tryz.prog := add_ok fx189_ok (okCount Tryz.strings_Count_one) Tryz.call190
def fx197 : Ctx := fx190.add 197 (shelfSem [.str, .str] [.str] (sNever [Ty.str, Ty.str] [Ty.str]))
theorem fx197_ok : CtxOK fx197 Tryz.prog := add_ok fx190_ok (okNever (l := [.str, .str]) (r := [.str])) Tryz.call197
def fx207 : Ctx := fx197.add 207 (shelfSem [.str, .str] [.str] (sNever [Ty.str, Ty.str] [Ty.str]))
theorem fx207_ok : CtxOK fx207 Tryz.prog := add_ok fx197_ok (okNever (l := [.str, .str]) (r := [.str])) Tryz.call207
def fx212 : Ctx := fx207.add 212 bldStr
theorem fx212_ok : CtxOK fx212 Tryz.prog := add_ok fx207_ok (bld_str (i := 212) (Ts := 103) (Tp := 218) (Ti := 3) (Tz := 9) Tryz.underlying218 (by kernel_rfl) Tryz.bldStr) Tryz.call212
def fx236 : Ctx := fx212.add 236 (bldCopy 195)
theorem fx236_ok : CtxOK fx236 Tryz.prog := add_ok fx212_ok (bld_copy Tryz.bldUsed Tryz.bldFresh) Tryz.call236
def fx255 : Ctx := fx236.add 255 (shelfSem [.str, YA17] [YA13] sIndexByte)
theorem fx255_ok : CtxOK fx255 Tryz.prog := add_ok fx236_ok (okIndexByte Tryz.strings_IndexByte) Tryz.call255
def inst95 : Inst := mk1 [KA3] KA8
def run95 : inst95.F := fun x _ => flow_Char x.1
def fx95 : Ctx := fx255.add 95 (inst95.sem run95)
theorem fx95_ok : CtxOK fx95 Tryz.prog := fn_put fx255_ok feMixed 95 Tryz.f95 [.tmp 2] (sq rz (sq rz lf)) inst95 33 run95 Tryz.func95 (by kernel_rfl) Tryz.ntmps95 (by kernel_rfl) (by intro x y; kernel_rfl) Tryz.call95
def inst45 : Inst := mk1 [KA10] KA3
def run45 : inst45.F := fun x _ => value_text x.1
def fx45 : Ctx := fx95.add 45 (inst45.sem run45)
theorem fx45_ok : CtxOK fx45 Tryz.prog := fn_put fx95_ok feMixed 45 Tryz.f45 [.tmp 2] (sq rz (sq (sq rz (cn (sq rz lf) lf)) (sq (bk (.loop [(0, KA10)] [((.exit 0), []), (.ret, [(2, KA3)])] (sq (sq rz (cn lf lf)) (bk (sq rz (sq (sq (.cut [(.normal, [(26, KA8)])] rz) (cn (sq rz lf) lf)) rz)))))) (sq rz lf)))) inst45 30 run45 Tryz.func45 (by kernel_rfl) Tryz.ntmps45 (by kernel_rfl) (by intro x y; kernel_rfl) Tryz.call45
def inst61 : Inst := mk1 [KA15] KA3
def run61 : inst61.F := fun x _ => value_zeros x.1
def fx61 : Ctx := fx45.add 61 (inst61.sem run61)
theorem fx61_ok : CtxOK fx61 Tryz.prog := fn_put fx45_ok feMixed 61 Tryz.f61 [.tmp 2] (sq (rg [(nw 10)]) (sq (rg [(rd 10), (rd 10)]) (sq (.cut [(.normal, [(4, KA8)])] (rg [{}, {}, {}, (rd 10), (rd 10), {}, {}, {}, {}, {}, {}, {}, (rd 10), (rd 10), {}, {}, {}, {}, {}, {}, {}, (rd 10), (rd 10), {}, {}, {}, {}, {}, {}, (rd 10), (rd 10), {}, {}, {}, {}, {}, {}, {}, (rd 10), (rd 10), {}, {}, (rd 10), (rd 10), {}, {}, {}, (rd 10), (rd 10)])) (sq (sq rz (cn (sq rz lf) lf)) (sq rz lf))))) inst61 62 run61 Tryz.func61 (by kernel_rfl) Tryz.ntmps61 (by kernel_rfl) (by intro x y; kernel_rfl) Tryz.call61
def inst205 : Inst := mk1 [KA10, (.val YA17)] KA10
def run205 : inst205.F := fun x _ => strings_trimRightByte x.1 x.2.1
def fx205 : Ctx := fx61.add 205 (inst205.sem run205)
theorem fx205_ok : CtxOK fx205 Tryz.prog := fn_put fx61_ok feMixed 205 Tryz.f205 [.tmp 4] (sq rz (sq (bk (.loop [(0, KA10)] [((.exit 0), [(0, KA10)])] (sq (sq (.cut [(.normal, [(16, KA8)])] rz) (cn lf lf)) (bk rz)))) (sq rz lf))) inst205 23 run205 Tryz.func205 (by kernel_rfl) Tryz.ntmps205 (by kernel_rfl) (by intro x y; kernel_rfl) Tryz.call205
def inst194 : Inst := mk1 [KA10, (.val YA17)] KA10
def run194 : inst194.F := fun x _ => strings_trimLeftByte x.1 x.2.1
def fx194 : Ctx := fx205.add 194 (inst194.sem run194)
theorem fx194_ok : CtxOK fx194 Tryz.prog := fn_put fx205_ok feMixed 194 Tryz.f194 [.tmp 4] (sq rz (sq (bk (.loop [(0, KA10)] [((.exit 0), [(0, KA10)])] (sq (sq (.cut [(.normal, [(13, KA8)])] rz) (cn lf lf)) (bk rz)))) (sq rz lf))) inst194 17 run194 Tryz.func194 (by kernel_rfl) Tryz.ntmps194 (by kernel_rfl) (by intro x y; kernel_rfl) Tryz.call194
def inst195 : Inst := mk2 [KA10] (.val (.arr 256 .bool)) KA8
def run195 : inst195.F := fun x _ => strings_makeASCIISet x.1
def fx195 : Ctx := fx194.add 195 (inst195.sem run195)
theorem fx195_ok : CtxOK fx195 Tryz.prog := fn_put fx194_ok feMixed 195 Tryz.f195 [.cell 2 182, .tmp 3] (sq (rg [(nw 10)]) (sq (sq rz (bk (.loop [(2, (.ptr 11 0)), (4, KA3), (100011, (.vec (some 256) .bool))] [((.exit 0), [(2, (.ptr 12 0)), (100012, (.vec (some 256) .bool))]), (.ret, [(2, (.ptr 13 0)), (3, KA8), (100013, (.vec (some 256) .bool))])] (sq (sq rz (cn lf lf)) (sq (bk (sq rz (sq (sq rz (cn (sq (rg [(rd 11), (wr 11)]) lf) lf)) (rg [{}, (rd 11), (wr 11)])))) rz))))) (sq (rg [(rd 12), (wr 12)]) lf))) inst195 21 run195 Tryz.func195 (by kernel_rfl) Tryz.ntmps195 (by kernel_rfl) (by intro x y; kernel_rfl) Tryz.call195
def inst227 : Inst := { args := [(.ptr 0 0), (.val YA17)], objs := [(.vec (some 256) .bool)], nres := 1, out := [(90000, KA8), (0, (.ptr 0 0)), (100000, (.vec (some 256) .bool))], news := 0 }
def run227 : inst227.F := fun x y => _strings_asciiSet__contains x.2.1 y.1
def fx227 : Ctx := fx195.add 227 (inst227.sem run227)
theorem fx227_ok : CtxOK fx227 Tryz.prog := fn_put fx195_ok feMixed 227 Tryz.f227 [.tmp 4] (sq rz (sq (rg [{}, {}, (rd 0), (rd 0), (rd 0)]) lf)) inst227 10 run227 Tryz.func227 (by kernel_rfl) Tryz.ntmps227 (by kernel_rfl) (by intro x y; kernel_rfl) Tryz.call227
def inst206 : Inst := { args := [KA10, (.ptr 0 0)], objs := [(.vec (some 256) .bool)], nres := 1, out := [(90000, KA10), (1, (.ptr 0 0)), (100000, (.vec (some 256) .bool))], news := 0 }
def run206 : inst206.F := fun x y => strings_trimRightASCII x.1 y.1
def fx206 : Ctx := fx227.add 206 (inst206.sem run206)
theorem fx206_ok : CtxOK fx206 Tryz.prog := fn_put fx227_ok feMixed 206 Tryz.f206 [.tmp 4] (sq rz (sq (bk (.loop [(0, KA10), (1, (.ptr 11 0)), (100011, (.vec (some 256) .bool))] [((.exit 0), [(0, KA10), (1, (.ptr 12 0)), (100012, (.vec (some 256) .bool))])] (sq (sq rz (cn lf lf)) (bk (sq (sq (rg [{}, {}, {}, {}, {}, {}, (wr 11)]) (cn lf lf)) rz))))) (sq rz lf))) inst206 22 run206 Tryz.func206 (by kernel_rfl) Tryz.ntmps206 (by kernel_rfl) (by intro x y; kernel_rfl) Tryz.call206
def inst196 : Inst := { args := [KA10, (.ptr 0 0)], objs := [(.vec (some 256) .bool)], nres := 1, out := [(90000, KA10), (1, (.ptr 0 0)), (100000, (.vec (some 256) .bool))], news := 0 }
def run196 : inst196.F := fun x y => strings_trimLeftASCII x.1 y.1
def fx196 : Ctx := fx206.add 196 (inst196.sem run196)
theorem fx196_ok : CtxOK fx196 Tryz.prog := fn_put fx206_ok feMixed 196 Tryz.f196 [.tmp 4] (sq rz (sq (bk (.loop [(0, KA10), (1, (.ptr 11 0)), (100011, (.vec (some 256) .bool))] [((.exit 0), [(0, KA10), (1, (.ptr 12 0)), (100012, (.vec (some 256) .bool))])] (sq (sq rz (cn lf lf)) (bk (sq (sq (rg [{}, {}, {}, (wr 11)]) (cn lf lf)) rz))))) (sq rz lf))) inst196 16 run196 Tryz.func196 (by kernel_rfl) Tryz.ntmps196 (by kernel_rfl) (by intro x y; kernel_rfl) Tryz.call196
def inst199 : Inst := mk1 [KA10, KA10] KA10
def run199 : inst199.F := fun x _ => strings_Trim x.1 x.2.1
def fx199 : Ctx := fx196.add 199 (inst199.sem run199)
theorem fx199_ok : CtxOK fx199 Tryz.prog := fn_put fx196_ok feMixed 199 Tryz.f199 [.tmp 4] (sq rz (sq (sq (.cut [(.normal, [(12, KA8)])] rz) (cn (sq rz lf) lf)) (sq (sq (.cut [(.normal, [(21, KA8)])] rz) (cn (sq rz lf) lf)) (sq (sq (rg [{}, {}, {}, {}, {}, (nw 10), (wr 10)]) (sq rz (cn (sq (rg [{}, (wr 10), (wr 10)]) lf) lf))) (sq rz lf))))) inst199 43 run199 Tryz.func199 (by kernel_rfl) Tryz.ntmps199 (by kernel_rfl) (by intro x y; kernel_rfl) Tryz.call199
def inst168 : Inst := mk1 [KA10] KA8
def run168 : inst168.F := fun x _ => exact_digits x.1
def fx168 : Ctx := fx199.add 168 (inst168.sem run168)
theorem fx168_ok : CtxOK fx168 Tryz.prog := fn_put fx199_ok feMixed 168 Tryz.f168 [.tmp 2] (sq rz (sq (sq (.cut [(.normal, [(14, KA8)])] rz) (cn (sq rz lf) lf)) (sq rz lf))) inst168 18 run168 Tryz.func168 (by kernel_rfl) Tryz.ntmps168 (by kernel_rfl) (by intro x y; kernel_rfl) Tryz.call168
def inst181 : Inst := mk1 [KA14] KA14
def run181 : inst181.F := fun x _ => exact_nat__trim x.1
def fx181 : Ctx := fx168.add 181 (inst181.sem run181)
theorem fx181_ok : CtxOK fx181 Tryz.prog := fn_put fx168_ok feMixed 181 Tryz.f181 [.tmp 2] (sq rz (sq (bk (.loop [(0, KA14)] [((.exit 0), [(0, KA14)])] (sq (sq (.cut [(.normal, [(14, KA8)])] rz) (cn lf lf)) (bk rz)))) (sq rz lf))) inst181 21 run181 Tryz.func181 (by kernel_rfl) Tryz.ntmps181 (by kernel_rfl) (by intro x y; kernel_rfl) Tryz.call181
def inst148 : Inst := mk1 [KA10] KA14
def run148 : inst148.F := fun x _ => exact_parse x.1
def fx148 : Ctx := fx181.add 148 (inst148.sem run148)
theorem fx148_ok : CtxOK fx148 Tryz.prog := fn_put fx181_ok feMixed 148 Tryz.f148 [.tmp 2] (sq rz (sq rz (sq (bk (.loop [(0, KA10), (3, (.own 12)), (100012, (.vec none YA16))] [((.exit 0), [(3, (.own 13)), (100013, (.vec none YA16))])] (sq (sq rz (cn lf lf)) (bk (sq rz (sq rz (sq (rg [{}, {}, {}, (nw 10), { rd := [10], wr := [12], new := [11] }]) rz))))))) (sq (rg [{}, (fz 29 13)]) lf)))) inst148 31 run148 Tryz.func148 (by kernel_rfl) Tryz.ntmps148 (by kernel_rfl) (by intro x y; kernel_rfl) Tryz.call148
def inst154 : Inst := mk1 [KA14] KA8
def run154 : inst154.F := fun x _ => exact_nat__zero x.1
def fx154 : Ctx := fx148.add 154 (inst154.sem run154)
theorem fx154_ok : CtxOK fx154 Tryz.prog := fn_put fx148_ok feMixed 154 Tryz.f154 [.tmp 2] (sq rz (sq rz lf)) inst154 6 run154 Tryz.func154 (by kernel_rfl) Tryz.ntmps154 (by kernel_rfl) (by intro x y; kernel_rfl) Tryz.call154
def inst187 : Inst := mk1 [KA14, KA14] KA3
def run187 : inst187.F := fun x _ => exact_nat__compare x.1 x.2.1
def fx187 : Ctx := fx154.add 187 (inst187.sem run187)
theorem fx187_ok : CtxOK fx187 Tryz.prog := fn_put fx154_ok feMixed 187 Tryz.f187 [.tmp 4] (sq rz (sq (sq rz (cn (sq rz lf) lf)) (sq (sq rz (bk (.loop [(5, KA3)] [((.exit 0), []), (.ret, [(4, KA3)])] (sq (sq rz (cn lf lf)) (sq (bk (sq rz (cn (sq (sq rz (cn (sq rz lf) lf)) (sq rz lf)) lf))) rz))))) (sq rz lf)))) inst187 41 run187 Tryz.func187 (by kernel_rfl) Tryz.ntmps187 (by kernel_rfl) (by intro x y; kernel_rfl) Tryz.call187
def inst150 : Inst := mk1 [KA14, KA14] KA14
def run150 : inst150.F := fun x _ => exact_nat__times x.1 x.2.1
def fx150 : Ctx := fx187.add 150 (inst150.sem run150)
theorem fx150_ok : CtxOK fx150 Tryz.prog := fn_put fx187_ok feMixed 150 Tryz.f150 [.tmp 4] (sq rz (sq (rg [{}, {}, {}, {}, {}, (nw 10)]) (sq (sq rz (bk (.loop [(5, (.own 11)), (20, KA3), (100011, (.vec none YA16))] [((.exit 0), [(5, (.own 14)), (100014, (.vec none YA16))])] (sq rz (sq (cn lf lf) (sq (bk (sq rz (sq rz (sq (sq rz (bk (.loop [(5, (.own 12)), (8, KA18), (27, KA3), (100012, (.vec none YA16))] [((.exit 2), [(5, (.own 13)), (8, KA18), (100013, (.vec none YA16))])] (sq rz (sq (cn lf lf) (sq (bk (sq rz (sq (rg [{}, {}, {}, {}, {}, {}, {}, {}, {}, (rd 12), (rd 12)]) (sq (rg [{}, {}, {}, {}, {}, {}, {}, (rd 12), (wr 12)]) rz)))) rz)))))) (rg [{}, {}, {}, {}, {}, {}, {}, (rd 13), (wr 13)]))))) rz)))))) (sq (rg [{}, (fz 67 14)]) lf)))) inst150 69 run150 Tryz.func150 (by kernel_rfl) Tryz.ntmps150 (by kernel_rfl) (by intro x y; kernel_rfl) Tryz.call150
def inst213 : Inst := mk1 [KA14, KA14] (.val YA16)
def run213 : inst213.F := fun x _ => exact_digit x.1 x.2.1
def fx213 : Ctx := fx150.add 213 (inst213.sem run213)
theorem fx213_ok : CtxOK fx213 Tryz.prog := fn_put fx150_ok feMixed 213 Tryz.f213 [.tmp 4] (sq rz (sq (sq rz (cn (sq rz lf) lf)) (sq rz (sq rz (sq (sq rz (bk (.loop [(6, KA18), (7, KA3)] [((.exit 0), [(6, KA18)])] (sq (sq rz (cn lf lf)) (sq (bk rz) rz))))) (sq rz (sq (bk (.loop [(8, KA18), (9, KA18)] [((.exit 2), [(8, KA18)])] (sq (sq rz (cn lf lf)) (bk (sq rz (sq (rg [{}, {}, {}, (nw 10), (fz 61 10)]) (cn rz rz))))))) (sq rz lf)))))))) inst213 72 run213 Tryz.func213 (by kernel_rfl) Tryz.ntmps213 (by kernel_rfl) (by intro x y; kernel_rfl) Tryz.call213
def inst219 : Inst := { args := [KA14], objs := [], nres := 1, out := [(90000, (.own 0)), (100000, (.vec none YA16))], news := 1 }
def run219 : inst219.F := fun x _ => exact_nat_uint32_ x.1
def fx219 : Ctx := fx213.add 219 (inst219.sem run219)
theorem fx219_ok : CtxOK fx219 Tryz.prog := fn_put fx213_ok feMixed 219 Tryz.f219 [.tmp 2] (sq rz (sq (sq rz (cn (sq rz lf) lf)) (sq (rg [(nw 10), {}, { wr := [10], new := [11] }]) lf))) inst219 8 run219 Tryz.func219 (by kernel_rfl) Tryz.ntmps219 (by kernel_rfl) (by intro x y; kernel_rfl) Tryz.call219
def inst188 : Inst := mk1 [KA14, KA14] KA14
def run188 : inst188.F := fun x _ => exact_nat__minus x.1 x.2.1
def fx188 : Ctx := fx219.add 188 (inst188.sem run188)
theorem fx188_ok : CtxOK fx188 Tryz.prog := fn_put fx219_ok feMixed 188 Tryz.f188 [.tmp 4] (sq rz (sq (rg [{}, (nw 10)]) (sq rz (sq (sq (rg [{}, (rd 10)]) (bk (.loop [(5, (.own 11)), (6, (.val YA16)), (13, KA3), (100011, (.vec none YA16))] [((.exit 0), [(5, (.own 14)), (100014, (.vec none YA16))])] (sq rz (sq (cn lf lf) (sq (bk (sq rz (sq rz (sq (.cut [(.normal, [(5, (.own 12)), (8, (.val YA16)), (100012, (.vec none YA16))])] (sq rz (cn rz lf))) (sq rz (sq (.cut [(.normal, [(5, (.own 13)), (6, (.val YA16)), (100013, (.vec none YA16))])] (sq (rg [{}, {}, (rd 12), (rd 12)]) (cn (sq (rg [{}, {}, (rd 12), (rd 12), {}, (rd 12), (wr 12)]) rz) lf))) (rg [{}, {}, (rd 13), (rd 13), {}, {}, (rd 13), (wr 13)]))))))) rz)))))) (sq (rg [{}, (fz 47 14)]) lf))))) inst188 49 run188 Tryz.func188 (by kernel_rfl) Tryz.ntmps188 (by kernel_rfl) (by intro x y; kernel_rfl) Tryz.call188
def inst183 : Inst := mk2 [KA14, KA14] KA14 KA14
def run183 : inst183.F := fun x _ => exact_divide x.1 x.2.1
def fx183 : Ctx := fx188.add 183 (inst183.sem run183)
theorem fx183_ok : CtxOK fx183 Tryz.prog := fn_put fx188_ok feMixed 183 Tryz.f183 [.tmp 4, .tmp 5] (sq rz (sq (rg [{}, {}, (nw 10)]) (sq rz (sq (sq rz (bk (.loop [(6, (.own 11)), (7, KA14), (8, KA3), (100011, (.vec none YA16))] [((.exit 0), [(6, (.own 15)), (7, KA14), (100015, (.vec none YA16))])] (sq (sq rz (cn lf lf)) (sq (bk (sq (rg [{}, {}, {}, {}, (nw 12), {}, { wr := [12], new := [13] }, (fz 25 13)]) (sq (rg [{}, {}, {}, {}, {}, (rd 11), (wr 11)]) (rg [{}, {}, {}, {}, (rd 11), (rd 11), (nw 14), (fz 39 14)])))) rz))))) (sq (rg [{}, (fz 43 15)]) lf))))) inst183 46 run183 Tryz.func183 (by kernel_rfl) Tryz.ntmps183 (by kernel_rfl) (by intro x y; kernel_rfl) Tryz.call183
def inst169 : Inst := mk1 [KA14, KA14] KA14
def run169 : inst169.F := fun x _ => exact_common x.1 x.2.1
def fx169 : Ctx := fx183.add 169 (inst169.sem run169)
theorem fx169_ok : CtxOK fx169 Tryz.prog := fn_put fx183_ok feMixed 169 Tryz.f169 [.tmp 4] (sq rz (sq (bk (.loop [(0, KA14), (1, KA14)] [((.exit 0), [(0, KA14)])] (sq (sq rz (cn lf lf)) (bk (sq rz rz))))) (sq rz lf))) inst169 19 run169 Tryz.func169 (by kernel_rfl) Tryz.ntmps169 (by kernel_rfl) (by intro x y; kernel_rfl) Tryz.call169
def inst170 : Inst := mk1 [KA14] KA8
def run170 : inst170.F := fun x _ => exact_nat__one x.1
def fx170 : Ctx := fx169.add 170 (inst170.sem run170)
theorem fx170_ok : CtxOK fx170 Tryz.prog := fn_put fx169_ok feMixed 170 Tryz.f170 [.tmp 2] (sq rz (sq rz lf)) inst170 12 run170 Tryz.func170 (by kernel_rfl) Tryz.ntmps170 (by kernel_rfl) (by intro x y; kernel_rfl) Tryz.call170
def inst124 : Inst := mk2 [KA7] KA11 KA3
def run124 : inst124.F := fun x _ => exact_read x.1
def fx124 : Ctx := fx170.add 124 (inst124.sem run124)
theorem fx124_ok : CtxOK fx124 Tryz.prog := fn_put fx170_ok feMixed 124 Tryz.f124 [.cell 2 131, .tmp 3] (sq (rg [(nw 10), (nw 11)]) (sq (rg [(rd 10), (rd 10)]) (sq (sq (.cut [(.normal, [(1, (.ptr 12 0)), (2, (.ptr 13 0)), (33, KA8), (100012, KA5), (100013, KA12)])] (rg [{}, {}, {}, {}, (rd 10), (rd 10), {}, {}, {}, {}, (rd 10), (rd 10)])) (cn (sq (rg [{}, (wr 13)]) lf) lf)) (sq (sq (.cut [(.normal, [(1, (.ptr 14 0)), (2, (.ptr 15 0)), (43, KA8), (100014, KA5), (100015, KA12)])] (rg [{}, {}, {}, {}, (rd 12), (rd 12)])) (cn (sq (rg [{}, (wr 15)]) lf) lf)) (sq (rg [{}, {}, {}, (rd 14), (rd 14), {}, {}, (nw 16), (wr 16)]) (sq (sq (rg [(rd 16), (rd 16), (rd 16), (rd 16)]) (cn (sq (rg [{}, (wr 15)]) lf) lf)) (sq (rg [(rd 16), (wr 15)]) lf))))))) inst124 61 run124 Tryz.func124 (by kernel_rfl) Tryz.ntmps124 (by kernel_rfl) (by intro x y; kernel_rfl) Tryz.call124
def inst62 : Inst := mk1 [KA7] KA3
def run62 : inst62.F := fun x _ => exact_Check x.1
def fx62 : Ctx := fx124.add 62 (inst62.sem run62)
theorem fx62_ok : CtxOK fx62 Tryz.prog := fn_put fx124_ok feMixed 62 Tryz.f62 [.tmp 2] (sq (rg [(nw 10)]) (sq (rg [(rd 10), {}, {}, {}, {}, (nw 11), (wr 11)]) (sq rz lf))) inst62 11 run62 Tryz.func62 (by kernel_rfl) Tryz.ntmps62 (by kernel_rfl) (by intro x y; kernel_rfl) Tryz.call62
def inst26 : Inst := mk1 [KA3] KA10
def run26 : inst26.F := fun x _ => value_FaultText x.1
def fx26 : Ctx := fx62.add 26 (inst26.sem run26)
theorem fx26_ok : CtxOK fx26 Tryz.prog := fn_put fx62_ok feMixed 26 Tryz.f26 [.tmp 2] (sq rz (sq (sq (.cut [(.normal, [(8, KA8)])] rz) (cn (sq rz lf) lf)) (sq rz lf))) inst26 12 run26 Tryz.func26 (by kernel_rfl) Tryz.ntmps26 (by kernel_rfl) (by intro x y; kernel_rfl) Tryz.call26
def inst12 : Inst := mk1 [KA15] KA3
def hint12 : HC := (sq (rg [(nw 10)]) (sq (sq (.cut [(.normal, [(1, (.ptr 11 0)), (11, KA8), (100011, KA2)])] (rg [(rd 10), (rd 10), {}, {}, (rd 10), (rd 10)])) (cn (sq rz lf) lf)) (sq (sq (rg [(rd 11)]) (sq rz (cn (sq rz lf) lf))) (sq (.cut [(.normal, []), (.ret, [(2, KA3)])] (sq (rg [(rd 11), (rd 11)]) (bk (sq rz (cn (sq (rg [(rd 11), (rd 11)]) lf) (sq rz (cn (sq (rg [(rd 11), (rd 11)]) lf) (sq rz (cn (sq (rg [(rd 11), (rd 11)]) (cn (sq rz lf) lf)) (sq rz (cn (sq (rg [(rd 11)]) lf) lf))))))))))) (sq rz lf)))))
def run12 (m : Nat) : Ks.den inst12.args -> Ks.den inst12.objs -> Option inst12.out.den := fun x _ => value_Check_f m x.1
def g12 (m : Nat) : Ctx := fx26.add 12 (inst12.sem (run12 m))
theorem g12_ok {m : Nat} (h : FnOK Tryz.prog fx26.glob 12 (inst12.sem (run12 m))) : CtxOK (g12 m) Tryz.prog := add_ok fx26_ok h Tryz.call12
def inst63 : Inst := mk1 [KA15] KA3
def hint63 : HC := (sq (rg [(nw 10)]) (sq (sq (.cut [(.normal, [(1, (.ptr 11 0)), (23, KA8), (100011, KA2)])] (rg [(rd 10), (rd 10), {}, {}, (rd 10), (rd 10), {}, {}, {}, (rd 10), (rd 10), {}, {}, {}, (rd 10), (rd 10)])) (cn (sq rz lf) lf)) (sq (sq (rg [(rd 11), (rd 11), (rd 11), (rd 11)]) (cn (sq rz lf) lf)) (sq (sq (rg [(rd 11), (rd 11), {}, (rd 11), (rd 11), (rd 11), (rd 11)]) (cn (sq rz lf) lf)) (sq (sq (rg [(rd 11), (rd 11)]) (bk (.loop [(42, KA3)] [((.exit 0), []), (.ret, [(2, KA3)])] (sq rz (sq (cn lf lf) (sq (bk (sq (rg [{}, {}, (nw 12), (wr 12)]) (sq (sq (rg [(rd 12), (rd 12)]) (cn (sq rz lf) lf)) (sq (rg [(rd 12)]) (sq rz (cn (sq rz lf) lf)))))) rz)))))) (sq rz lf))))))
def run63 (m : Nat) : Ks.den inst63.args -> Ks.den inst63.objs -> Option inst63.out.den := fun x _ => value_array (value_Check_f m) x.1
theorem ev63 : ∀ m x y, evFn (g12 m) 55 (bodyOf Tryz.f63) [.tmp 2] hint63 inst63 x y = run63 m x y := by intro m x y; kernel_rfl
theorem ok63 {m : Nat} (h : FnOK Tryz.prog fx26.glob 12 (inst12.sem (run12 m))) : FnOK Tryz.prog (g12 m).glob 63 (inst63.sem (run63 m)) :=
 fn_add (g12_ok h) feMixed 63 Tryz.f63 [.tmp 2] hint63 inst63 55 (run63 m) Tryz.func63 (by kernel_rfl) Tryz.ntmps63 (by kernel_rfl) (by kernel_rfl) (ev63 m)
def g12_63 (m : Nat) : Ctx := (g12 m).more 63 (inst63.sem (run63 m))
theorem g12_63_ok {m : Nat} (h : FnOK Tryz.prog fx26.glob 12 (inst12.sem (run12 m))) : CtxOK (g12_63 m) Tryz.prog := more_ok (g12_ok h) (ok63 h) Tryz.call63
theorem ev12 : ∀ m x y, evFn (g12_63 m) 39 (bodyOf Tryz.f12) [.tmp 2] hint12 inst12 x y = run12 (m + 1) x y := by intro m x y; kernel_rfl
theorem ok12 : ∀ m, FnOK Tryz.prog fx26.glob 12 (inst12.sem (run12 m)) :=
 fn_recs fx26.glob g12_63 (fun _ => rfl) 12 inst12 run12 (fun _ h => g12_63_ok h) feMixed Tryz.f12 [.tmp 2] hint12 39 Tryz.func12 (by kernel_rfl) Tryz.ntmps12 (by kernel_rfl) (by kernel_rfl) (fun _ _ => rfl) ev12
def fx12 : Ctx := fx26.add 12 (inst12.sem (run12 rounds))
theorem fx12_ok : CtxOK fx12 Tryz.prog := add_ok fx26_ok (ok12 rounds) Tryz.call12
def inst68 : Inst := mk1 [KA15] KA15
def run68 : inst68.F := fun x _ => value_valid x.1
def fx68 : Ctx := fx12.add 68 (inst68.sem run68)
theorem fx68_ok : CtxOK fx68 Tryz.prog := fn_put fx12_ok feMixed 68 Tryz.f68 [.cell 2 28] (sq (rg [(nw 10), (nw 11)]) (sq (sq (rg [(rd 10)]) (cn (sq (rg [{}, (wr 11)]) lf) lf)) (sq (rg [(rd 10), (wr 11)]) lf))) inst68 8 run68 Tryz.func68 (by kernel_rfl) Tryz.ntmps68 (by kernel_rfl) (by intro x y; kernel_rfl) Tryz.call68
def inst21 : Inst := mk1 [KA3] KA15
def run21 : inst21.F := fun x _ => value_Fault x.1
def fx21 : Ctx := fx68.add 21 (inst21.sem run21)
theorem fx21_ok : CtxOK fx21 Tryz.prog := fn_put fx68_ok feMixed 21 Tryz.f21 [.cell 2 28] (sq (rg [(nw 10)]) (sq (rg [{}, {}, {}, (wr 10)]) lf)) inst21 6 run21 Tryz.func21 (by kernel_rfl) Tryz.ntmps21 (by kernel_rfl) (by intro x y; kernel_rfl) Tryz.call21
def inst19 : Inst := mk1 [KA10] KA15
def run19 : inst19.F := fun x _ => value_Text x.1
def fx19 : Ctx := fx21.add 19 (inst19.sem run19)
theorem fx19_ok : CtxOK fx19 Tryz.prog := fn_put fx21_ok feMixed 19 Tryz.f19 [.cell 2 28] (sq (rg [(nw 10)]) (sq (rg [{}, {}, {}, (wr 10)]) lf)) inst19 6 run19 Tryz.func19 (by kernel_rfl) Tryz.ntmps19 (by kernel_rfl) (by intro x y; kernel_rfl) Tryz.call19
def inst47 : Inst := mk1 [KA10] KA10
def run47 : inst47.F := fun x _ => value_Lower x.1
def fx47 : Ctx := fx19.add 47 (inst47.sem run47)
theorem fx47_ok : CtxOK fx47 Tryz.prog := fn_put fx19_ok feMixed 47 Tryz.f47 [.tmp 2] (sq rz (sq (rg [{}, (nw 10)]) (sq (sq (rg [{}, (rd 10)]) (bk (.loop [(3, (.own 11)), (8, (.own 11)), (10, KA3), (100011, (.vec none YA17))] [((.exit 0), [(3, (.own 14)), (100014, (.vec none YA17))])] (sq rz (sq (cn lf lf) (sq (.cut [(.normal, [(3, (.own 13)), (8, (.own 13)), (100013, (.vec none YA17))])] (bk (sq (rg [{}, (rd 11), (rd 11)]) (sq (.cut [(.normal, [(3, (.own 12)), (8, (.own 12)), (20, KA8), (100012, (.vec none YA17))])] rz) (cn (rg [{}, {}, (rd 12), (rd 12), {}, (rd 12), (wr 12)]) lf))))) rz)))))) (sq (rg [{}, (rd 14)]) lf)))) inst47 30 run47 Tryz.func47 (by kernel_rfl) Tryz.ntmps47 (by kernel_rfl) (by intro x y; kernel_rfl) Tryz.call47
def inst22 : Inst := mk1 [KA8] KA15
def run22 : inst22.F := fun x _ => value_Bool x.1
def fx22 : Ctx := fx47.add 22 (inst22.sem run22)
theorem fx22_ok : CtxOK fx22 Tryz.prog := fn_put fx47_ok feMixed 22 Tryz.f22 [.cell 2 28] (sq (rg [(nw 10)]) (sq (rg [{}, {}, (wr 10)]) lf)) inst22 5 run22 Tryz.func22 (by kernel_rfl) Tryz.ntmps22 (by kernel_rfl) (by intro x y; kernel_rfl) Tryz.call22
def inst160 : Inst := mk1 [KA10, KA10] KA10
def run160 : inst160.F := fun x _ => strings_TrimLeft x.1 x.2.1
def fx160 : Ctx := fx22.add 160 (inst160.sem run160)
theorem fx160_ok : CtxOK fx160 Tryz.prog := fn_put fx22_ok feMixed 160 Tryz.f160 [.tmp 4] (sq rz (sq (sq (.cut [(.normal, [(12, KA8)])] rz) (cn (sq rz lf) lf)) (sq (sq (.cut [(.normal, [(21, KA8)])] rz) (cn (sq rz lf) lf)) (sq (sq (rg [{}, {}, {}, {}, {}, (nw 10), (wr 10)]) (sq rz (cn (sq (rg [{}, (wr 10)]) lf) lf))) (sq rz lf))))) inst160 37 run160 Tryz.func160 (by kernel_rfl) Tryz.ntmps160 (by kernel_rfl) (by intro x y; kernel_rfl) Tryz.call160
def inst108 : Inst := mk2 [KA10] KA10 KA10
def run108 : inst108.F := fun x _ => value_digits x.1
def fx108 : Ctx := fx160.add 108 (inst108.sem run108)
theorem fx108_ok : CtxOK fx108 Tryz.prog := fn_put fx160_ok feMixed 108 Tryz.f108 [.tmp 2, .tmp 3] (sq rz (sq rz (sq rz lf))) inst108 15 run108 Tryz.func108 (by kernel_rfl) Tryz.ntmps108 (by kernel_rfl) (by intro x y; kernel_rfl) Tryz.call108
def inst98 : Inst := mk2 [KA10] KA10 KA10
def run98 : inst98.F := fun x _ => value_grouped x.1
def fx98 : Ctx := fx108.add 98 (inst98.sem run98)
theorem fx98_ok : CtxOK fx98 Tryz.prog := fn_put fx108_ok feMixed 98 Tryz.f98 [.tmp 2, .tmp 3] (sq rz (sq rz (sq (sq (.cut [(.normal, [(20, KA8)])] rz) (cn (sq rz lf) lf)) (sq (bk (.loop [(4, KA10), (5, KA10)] [((.exit 0), [(4, KA10), (5, KA10)])] (sq (sq rz (cn lf lf)) (bk (sq rz (sq (sq rz (cn lf lf)) rz)))))) (sq rz lf))))) inst98 40 run98 Tryz.func98 (by kernel_rfl) Tryz.ntmps98 (by kernel_rfl) (by intro x y; kernel_rfl) Tryz.call98
def inst146 : Inst := mk2 [KA10] KA10 KA10
def run146 : inst146.F := fun x _ => exact_run x.1
def fx146 : Ctx := fx98.add 146 (inst146.sem run146)
theorem fx146_ok : CtxOK fx146 Tryz.prog := fn_put fx98_ok feMixed 146 Tryz.f146 [.tmp 2, .tmp 3] (sq rz (sq rz (sq rz lf))) inst146 15 run146 Tryz.func146 (by kernel_rfl) Tryz.ntmps146 (by kernel_rfl) (by intro x y; kernel_rfl) Tryz.call146
def inst147 : Inst := mk2 [KA10] KA3 KA8
def run147 : inst147.F := fun x _ => exact_exponent x.1
def fx147 : Ctx := fx146.add 147 (inst147.sem run147)
theorem fx147_ok : CtxOK fx147 Tryz.prog := fn_put fx146_ok feMixed 147 Tryz.f147 [.tmp 2, .tmp 3] (sq rz (sq (sq rz (cn (sq rz lf) lf)) (sq (sq (.cut [(.normal, [(18, KA8)])] rz) (cn (sq rz lf) lf)) (sq rz (sq rz (sq (.cut [(.normal, [(0, KA10)])] (sq (.cut [(.normal, [(27, KA8)])] rz) (cn rz lf))) (sq rz (sq (sq (.cut [(.normal, [(45, KA8)])] rz) (cn (sq rz lf) lf)) (sq rz (sq (.cut [(.normal, [(7, KA3)])] (sq rz (cn rz lf))) (sq rz lf))))))))))) inst147 55 run147 Tryz.func147 (by kernel_rfl) Tryz.ntmps147 (by kernel_rfl) (by intro x y; kernel_rfl) Tryz.call147
def inst149 : Inst := mk1 [KA3] KA14
def run149 : inst149.F := fun x _ => exact_ten x.1
def fx149 : Ctx := fx147.add 149 (inst149.sem run149)
theorem fx149_ok : CtxOK fx149 Tryz.prog := fn_put fx147_ok feMixed 149 Tryz.f149 [.tmp 2] (sq rz (sq rz lf)) inst149 7 run149 Tryz.func149 (by kernel_rfl) Tryz.ntmps149 (by kernel_rfl) (by intro x y; kernel_rfl) Tryz.call149
def inst151 : Inst := mk2 [KA11] KA7 KA3
def run151 : inst151.F := fun x _ => exact_number__write x.1
def fx151 : Ctx := fx149.add 151 (inst151.sem run151)
theorem fx151_ok : CtxOK fx151 Tryz.prog := fn_put fx149_ok feMixed 151 Tryz.f151 [.cell 2 25, .tmp 3] (sq (rg [(nw 10), (nw 11)]) (sq (sq (rg [(rd 10), (rd 10)]) (cn (sq (rg [{}, (wr 11)]) lf) lf)) (sq (rg [(rd 10), (rd 10), (rd 10), (rd 10)]) (sq (rg [(rd 10), (rd 10)]) (sq (rg [(rd 10), (rd 10)]) (sq (rg [{}, {}, {}, {}, {}, (nw 12), (wr 12)]) (sq (sq (.cut [(.normal, [(1, (.ptr 13 0)), (2, (.ptr 14 0)), (9, (.ptr 15 0)), (47, KA8), (100013, KA12), (100014, KA5), (100015, KA5)])] (rg [(rd 12), (rd 12), {}, {}, {}, (rd 12), (rd 12)])) (cn (sq (rg [{}, (wr 14)]) lf) lf)) (sq (.cut [(.normal, [(2, (.ptr 16 0)), (9, (.ptr 17 0)), (100016, KA5), (100017, KA5)])] (sq (rg [(rd 13), (rd 13)]) (cn (rg [(rd 15), (rd 15), {}, (rd 15), (wr 15)]) lf))) (sq (rg [(rd 17), (wr 16)]) lf))))))))) inst151 56 run151 Tryz.func151 (by kernel_rfl) Tryz.ntmps151 (by kernel_rfl) (by intro x y; kernel_rfl) Tryz.call151
def inst100 : Inst := mk2 [KA10] KA7 KA3
def run100 : inst100.F := fun x _ => exact_Parse x.1
def fx100 : Ctx := fx151.add 100 (inst100.sem run100)
theorem fx100_ok : CtxOK fx100 Tryz.prog := fn_put fx151_ok feMixed 100 Tryz.f100 [.cell 2 25, .tmp 3] (sq (rg [(nw 10)]) (sq (sq rz (cn (sq (rg [{}, (wr 10)]) lf) lf)) (sq rz (sq rz (sq rz (sq (.cut [(.normal, [(2, (.ptr 11 0)), (4, KA10), (7, KA10), (100011, KA5)]), (.ret, [(2, (.ptr 12 0)), (3, KA3), (100012, KA5)])] (sq rz (sq rz (cn (sq rz (sq rz (cn (sq (rg [{}, (wr 10)]) lf) lf))) lf)))) (sq rz (sq (sq (.cut [(.normal, [(2, (.ptr 13 0)), (51, KA8), (100013, KA5)])] rz) (cn (sq (rg [{}, (wr 13)]) lf) lf)) (sq (rg [{}, {}, {}, {}, {}, (nw 14), (fz 58 14), (nw 15), (wr 15)]) (sq (.cut [(.normal, [(2, (.ptr 16 0)), (12, (.ptr 17 0)), (100016, KA5), (100017, KA12)])] (sq rz (sq rz (cn (rg [{}, {}, {}, (rd 15), (wr 15)]) (rg [(rd 15), (rd 15), {}, {}, {}, (rd 15), (wr 15)]))))) (sq (rg [(rd 17), {}, {}, {}, (wr 16)]) lf))))))))))) inst100 80 run100 Tryz.func100 (by kernel_rfl) Tryz.ntmps100 (by kernel_rfl) (by intro x y; kernel_rfl) Tryz.call100
def inst69 : Inst := mk1 [KA3] KA7
def run69 : inst69.F := fun x _ => exact_Of x.1
def fx69 : Ctx := fx100.add 69 (inst69.sem run69)
theorem fx69_ok : CtxOK fx69 Tryz.prog := fn_put fx100_ok feMixed 69 Tryz.f69 [.cell 2 25] (sq (rg [(nw 10)]) (sq (rg [{}, {}, {}, (wr 10)]) lf)) inst69 6 run69 Tryz.func69 (by kernel_rfl) Tryz.ntmps69 (by kernel_rfl) (by intro x y; kernel_rfl) Tryz.call69
def inst172 : Inst := mk3 [KA7, KA7] KA11 KA11 KA3
def run172 : inst172.F := fun x _ => exact_both x.1 x.2.1
def fx172 : Ctx := fx69.add 172 (inst172.sem run172)
theorem fx172_ok : CtxOK fx172 Tryz.prog := fn_put fx69_ok feMixed 172 Tryz.f172 [.cell 4 131, .cell 5 131, .tmp 6] (sq (rg [(nw 10), (nw 11), (nw 12), (nw 13)]) (sq (rg [(rd 10), {}, {}, {}, {}, (nw 14), (wr 14)]) (sq (sq rz (cn (sq (rg [(rd 14), (rd 14), {}, (wr 12), (wr 13)]) lf) lf)) (sq (rg [(rd 11), {}, {}, {}, {}, (nw 15), (wr 15)]) (sq (rg [(rd 14), (rd 15), {}, (wr 12), (wr 13)]) lf))))) inst172 28 run172 Tryz.func172 (by kernel_rfl) Tryz.ntmps172 (by kernel_rfl) (by intro x y; kernel_rfl) Tryz.call172
def inst153 : Inst := mk2 [KA11, KA11] KA11 KA3
def run153 : inst153.F := fun x _ => exact_Div_1 x.1 x.2.1
def fx153 : Ctx := fx172.add 153 (inst153.sem run153)
theorem fx153_ok : CtxOK fx153 Tryz.prog := fn_put fx172_ok feMixed 153 Tryz.f153 [.cell 4 131, .tmp 5] (sq (rg [(nw 10), (nw 11), (nw 12)]) (sq (sq (rg [(rd 11), (rd 11)]) (cn (sq (rg [{}, (wr 12)]) lf) lf)) (sq (rg [(rd 10), (rd 10), (rd 11), (rd 11), {}, (rd 10), (rd 10), (rd 11), (rd 11), {}, (rd 10), (rd 10), (rd 11), (rd 11), {}, {}, (wr 12)]) lf))) inst153 26 run153 Tryz.func153 (by kernel_rfl) Tryz.ntmps153 (by kernel_rfl) (by intro x y; kernel_rfl) Tryz.call153
def inst152 : Inst := mk2 [KA7, KA7, (.fn 153 .unit)] KA7 KA3
def run152 : inst152.F := fun x _ => exact_two_Div_1 x.1 x.2.1
def fx152 : Ctx := fx153.add 152 (inst152.sem run152)
theorem fx152_ok : CtxOK fx152 Tryz.prog := fn_put fx153_ok feMixed 152 Tryz.f152 [.cell 6 25, .tmp 7] (sq (rg [(nw 10), (nw 11), (nw 12)]) (sq (rg [(rd 10), (rd 11), {}, {}, {}, {}, {}, (nw 13), (nw 14), (wr 13), (wr 14)]) (sq (sq rz (cn (sq (rg [{}, {}, (wr 12)]) lf) lf)) (sq (rg [{}, (rd 13), (rd 14), {}, {}, {}, {}, (nw 15), (wr 15)]) (sq (sq rz (cn (sq (rg [{}, {}, (wr 12)]) lf) lf)) (sq (rg [(rd 15), {}, {}, {}, (wr 12)]) lf)))))) inst152 38 run152 Tryz.func152 (by kernel_rfl) Tryz.ntmps152 (by kernel_rfl) (by intro x y; kernel_rfl) Tryz.call152
def inst101 : Inst := mk2 [KA7, KA7] KA7 KA3
def run101 : inst101.F := fun x _ => exact_Div x.1 x.2.1
def fx101 : Ctx := fx152.add 101 (inst101.sem run101)
theorem fx101_ok : CtxOK fx101 Tryz.prog := fn_put fx152_ok feMixed 101 Tryz.f101 [.cell 4 25, .tmp 5] (sq (rg [(nw 10), (nw 11), (nw 12)]) (sq (rg [(rd 10), (rd 11), {}, {}, {}, (wr 12)]) lf)) inst101 11 run101 Tryz.func101 (by kernel_rfl) Tryz.ntmps101 (by kernel_rfl) (by intro x y; kernel_rfl) Tryz.call101
def inst48 : Inst := mk2 [KA10] KA7 KA8
def run48 : inst48.F := fun x _ => value_number x.1
def fx48 : Ctx := fx101.add 48 (inst48.sem run48)
theorem fx48_ok : CtxOK fx48 Tryz.prog := fn_put fx101_ok feMixed 48 Tryz.f48 [.cell 2 25, .tmp 3] (sq (rg [(nw 10)]) (sq rz (sq (.cut [(.normal, [(0, KA10), (2, (.ptr 12 0)), (4, KA10), (100012, KA5)])] (sq (.cut [(.normal, [(2, (.ptr 11 0)), (17, KA8), (100011, KA5)])] rz) (cn rz lf))) (sq rz (sq rz (sq (sq rz (cn (sq (rg [{}, (wr 12)]) lf) lf)) (sq (rg [{}, {}, {}, {}, {}, {}, {}, {}, {}, (nw 13), (wr 13)]) (sq (.cut [(.normal, [(2, (.ptr 16 0)), (8, (.ptr 17 0)), (9, KA3), (100016, KA5), (100017, KA5)])] (sq (.cut [(.normal, [(2, (.ptr 14 0)), (8, (.ptr 15 0)), (49, KA8), (100014, KA5), (100015, KA5)])] rz) (cn (rg [(rd 15), {}, {}, {}, {}, {}, (wr 15)]) lf))) (sq (rg [(rd 17), {}, {}, (wr 16)]) lf))))))))) inst48 59 run48 Tryz.func48 (by kernel_rfl) Tryz.ntmps48 (by kernel_rfl) (by intro x y; kernel_rfl) Tryz.call48
def inst18 : Inst := mk1 [KA7] KA15
def run18 : inst18.F := fun x _ => value_Number x.1
def fx18 : Ctx := fx48.add 18 (inst18.sem run18)
theorem fx18_ok : CtxOK fx18 Tryz.prog := fn_put fx48_ok feMixed 18 Tryz.f18 [.cell 2 28] (sq (rg [(nw 10), (nw 11)]) (sq (rg [(rd 10), {}, {}, (wr 11)]) lf)) inst18 6 run18 Tryz.func18 (by kernel_rfl) Tryz.ntmps18 (by kernel_rfl) (by intro x y; kernel_rfl) Tryz.call18
def inst155 : Inst := mk3 [KA10, KA10] KA10 KA10 KA8
def run155 : inst155.F := fun x _ => stringslite_Cut x.1 x.2.1
def fx155 : Ctx := fx18.add 155 (inst155.sem run155)
theorem fx155_ok : CtxOK fx155 Tryz.prog := fn_put fx18_ok feMixed 155 Tryz.f155 [.tmp 4, .tmp 5, .tmp 6] (sq rz (sq (sq rz (sq rz (cn (sq rz lf) lf))) (sq rz lf))) inst155 23 run155 Tryz.func155 (by kernel_rfl) Tryz.ntmps155 (by kernel_rfl) (by intro x y; kernel_rfl) Tryz.call155
def inst102 : Inst := mk3 [KA10, KA10] KA10 KA10 KA8
def run102 : inst102.F := fun x _ => strings_Cut x.1 x.2.1
def fx102 : Ctx := fx155.add 102 (inst102.sem run102)
theorem fx102_ok : CtxOK fx102 Tryz.prog := fn_put fx155_ok feMixed 102 Tryz.f102 [.tmp 4, .tmp 5, .tmp 6] (sq rz (sq rz lf)) inst102 13 run102 Tryz.func102 (by kernel_rfl) Tryz.ntmps102 (by kernel_rfl) (by intro x y; kernel_rfl) Tryz.call102
def inst103 : Inst := mk2 [KA10] KA7 KA8
def run103 : inst103.F := fun x _ => value_whole x.1
def fx103 : Ctx := fx102.add 103 (inst103.sem run103)
theorem fx103_ok : CtxOK fx103 Tryz.prog := fn_put fx102_ok feMixed 103 Tryz.f103 [.cell 2 25, .tmp 3] (sq (rg [(nw 10)]) (sq (sq rz (sq (.cut [(.normal, [(2, (.ptr 11 0)), (23, KA8), (100011, KA5)])] rz) (cn (sq (rg [{}, (wr 11)]) lf) lf))) (sq (rg [{}, {}, {}, {}, {}, (nw 12), (wr 12)]) (sq (rg [(rd 12), {}, {}, (wr 11)]) lf)))) inst103 33 run103 Tryz.func103 (by kernel_rfl) Tryz.ntmps103 (by kernel_rfl) (by intro x y; kernel_rfl) Tryz.call103
def inst186 : Inst := mk1 [KA14, KA14] KA14
def run186 : inst186.F := fun x _ => exact_nat__plus x.1 x.2.1
def fx186 : Ctx := fx103.add 186 (inst186.sem run186)
theorem fx186_ok : CtxOK fx186 Tryz.prog := fn_put fx103_ok feMixed 186 Tryz.f186 [.tmp 4] (sq rz (sq (rg [{}, {}, {}, {}, {}, {}, (nw 10)]) (sq rz (sq (sq rz (bk (.loop [(5, (.own 11)), (6, (.val YA16)), (7, KA3), (100011, (.vec none YA16))] [((.exit 0), [(5, (.own 17)), (100017, (.vec none YA16))])] (sq (sq (.cut [(.normal, [(5, (.own 12)), (29, KA8), (100012, (.vec none YA16))])] rz) (cn lf lf)) (sq (bk (sq rz (sq (.cut [(.normal, [(5, (.own 13)), (8, (.val YA16)), (100013, (.vec none YA16))])] (sq rz (cn rz lf))) (sq (.cut [(.normal, [(5, (.own 14)), (8, (.val YA16)), (100014, (.vec none YA16))])] (sq rz (cn rz lf))) (sq (rg [{}, {}, {}, (nw 15), { rd := [15], wr := [14], new := [16] }]) rz))))) rz))))) (sq rz lf))))) inst186 61 run186 Tryz.func186 (by kernel_rfl) Tryz.ntmps186 (by kernel_rfl) (by intro x y; kernel_rfl) Tryz.call186
def inst157 : Inst := mk1 [KA11, KA11] KA11
def run157 : inst157.F := fun x _ => exact_sum x.1 x.2.1
def fx157 : Ctx := fx186.add 157 (inst157.sem run157)
theorem fx157_ok : CtxOK fx157 Tryz.prog := fn_put fx186_ok feMixed 157 Tryz.f157 [.cell 4 131] (sq (rg [(nw 10), (nw 11), (nw 12)]) (sq (rg [(rd 10), (rd 10), (rd 11), (rd 11), {}, (rd 11), (rd 11), (rd 10), (rd 10)]) (sq (rg [(rd 10), (rd 10), (rd 11), (rd 11)]) (sq (sq (rg [(rd 10), (rd 10), (rd 11), (rd 11)]) (cn (sq (rg [(rd 10), (rd 10), {}, {}, {}, {}, {}, (wr 12)]) lf) lf)) (sq (sq rz (cn (sq (rg [(rd 10), (rd 10), {}, {}, {}, {}, {}, (wr 12)]) lf) lf)) (sq (rg [(rd 11), (rd 11), {}, {}, {}, {}, {}, (wr 12)]) lf)))))) inst157 53 run157 Tryz.func157 (by kernel_rfl) Tryz.ntmps157 (by kernel_rfl) (by intro x y; kernel_rfl) Tryz.call157
def inst156 : Inst := mk2 [KA11, KA11] KA11 KA3
def run156 : inst156.F := fun x _ => exact_Add_1 x.1 x.2.1
def fx156 : Ctx := fx157.add 156 (inst156.sem run156)
theorem fx156_ok : CtxOK fx156 Tryz.prog := fn_put fx157_ok feMixed 156 Tryz.f156 [.cell 4 131, .tmp 5] (sq (rg [(nw 10), (nw 11), (nw 12)]) (sq (rg [(rd 10), (rd 11), {}, (wr 12)]) lf)) inst156 9 run156 Tryz.func156 (by kernel_rfl) Tryz.ntmps156 (by kernel_rfl) (by intro x y; kernel_rfl) Tryz.call156
def inst152x2 : Inst := mk2 [KA7, KA7, (.fn 156 .unit)] KA7 KA3
def run152x2 : inst152x2.F := fun x _ => exact_two_Add_1 x.1 x.2.1
def fx152x2 : Ctx := fx156.more 152 (inst152x2.sem run152x2)
theorem fx152x2_ok : CtxOK fx152x2 Tryz.prog := fn_put2 fx156_ok feMixed 152 Tryz.f152 [.cell 6 25, .tmp 7] (sq (rg [(nw 10), (nw 11), (nw 12)]) (sq (rg [(rd 10), (rd 11), {}, {}, {}, {}, {}, (nw 13), (nw 14), (wr 13), (wr 14)]) (sq (sq rz (cn (sq (rg [{}, {}, (wr 12)]) lf) lf)) (sq (rg [{}, (rd 13), (rd 14), {}, {}, {}, {}, (nw 15), (wr 15)]) (sq (sq rz (cn (sq (rg [{}, {}, (wr 12)]) lf) lf)) (sq (rg [(rd 15), {}, {}, {}, (wr 12)]) lf)))))) inst152x2 38 run152x2 Tryz.func152 (by kernel_rfl) Tryz.ntmps152 (by kernel_rfl) (by intro x y; kernel_rfl) Tryz.call152
def inst104 : Inst := mk2 [KA7, KA7] KA7 KA3
def run104 : inst104.F := fun x _ => exact_Add x.1 x.2.1
def fx104 : Ctx := fx152x2.add 104 (inst104.sem run104)
theorem fx104_ok : CtxOK fx104 Tryz.prog := fn_put fx152x2_ok feMixed 104 Tryz.f104 [.cell 4 25, .tmp 5] (sq (rg [(nw 10), (nw 11), (nw 12)]) (sq (rg [(rd 10), (rd 11), {}, {}, {}, (wr 12)]) lf)) inst104 11 run104 Tryz.func104 (by kernel_rfl) Tryz.ntmps104 (by kernel_rfl) (by intro x y; kernel_rfl) Tryz.call104
def inst105 : Inst := mk2 [KA7] KA7 KA3
def run105 : inst105.F := fun x _ => exact_Neg x.1
def fx105 : Ctx := fx104.add 105 (inst105.sem run105)
theorem fx105_ok : CtxOK fx105 Tryz.prog := fn_put fx104_ok feMixed 105 Tryz.f105 [.cell 2 25, .tmp 3] (sq (rg [(nw 10), (nw 11)]) (sq (rg [(rd 10), {}, {}, {}, {}, (nw 12), (wr 12)]) (sq (sq rz (cn (sq (rg [{}, {}, (wr 11)]) lf) lf)) (sq (rg [(rd 12), (rd 12), {}, (rd 12), (wr 12)]) (sq (rg [(rd 12), {}, {}, {}, (wr 11)]) lf))))) inst105 23 run105 Tryz.func105 (by kernel_rfl) Tryz.ntmps105 (by kernel_rfl) (by intro x y; kernel_rfl) Tryz.call105
def inst49 : Inst := mk2 [KA10] KA7 KA8
def run49 : inst49.F := fun x _ => value_mixed x.1
def fx49 : Ctx := fx105.add 49 (inst49.sem run49)
theorem fx49_ok : CtxOK fx49 Tryz.prog := fn_put fx105_ok feMixed 49 Tryz.f49 [.cell 2 25, .tmp 3] (sq (rg [(nw 10)]) (sq rz (sq rz (sq rz (sq (rg [{}, {}, {}, {}, {}, (nw 11), (wr 11)]) (sq (rg [{}, {}, {}, {}, {}, (nw 12), (wr 12)]) (sq (rg [{}, {}, {}, {}, {}, (nw 13), (wr 13)]) (sq (sq (.cut [(.normal, [(2, (.ptr 14 0)), (11, (.ptr 15 0)), (13, (.ptr 16 0)), (15, (.ptr 17 0)), (70, KA8), (100014, KA5), (100015, KA5), (100016, KA5), (100017, KA5)])] rz) (cn (sq (rg [{}, (wr 14)]) lf) lf)) (sq (rg [(rd 16), (rd 17), {}, {}, {}, {}, (nw 18), (wr 18)]) (sq (rg [(rd 15), (rd 18), {}, {}, {}, {}, (nw 19), (wr 19)]) (sq (sq (.cut [(.normal, [(2, (.ptr 20 0)), (19, (.ptr 21 0)), (89, KA8), (100020, KA5), (100021, KA5)])] rz) (cn (sq (rg [{}, (wr 20)]) lf) lf)) (sq (.cut [(.normal, [(2, (.ptr 22 0)), (19, (.ptr 23 0)), (100022, KA5), (100023, KA5)])] (sq rz (cn (rg [(rd 21), {}, {}, {}, {}, (wr 21)]) lf))) (sq (rg [(rd 23), (wr 22)]) lf))))))))))))) inst49 98 run49 Tryz.func49 (by kernel_rfl) Tryz.ntmps49 (by kernel_rfl) (by intro x y; kernel_rfl) Tryz.call49
def inst191 : Inst := mk1 [KA10, KA10] KA3
def run191 : inst191.F := fun x _ => strings_Index x.1 x.2.1
def fx191 : Ctx := fx49.add 191 (inst191.sem run191)
theorem fx191_ok : CtxOK fx191 Tryz.prog := fn_put fx49_ok feMixed 191 Tryz.f191 [.tmp 4] (sq rz (sq rz lf)) inst191 8 run191 Tryz.func191 (by kernel_rfl) Tryz.ntmps191 (by kernel_rfl) (by intro x y; kernel_rfl) Tryz.call191
def inst158 : Inst := mk1 [KA10, KA10, KA3, KA3] (.val (.sl .str))
def run158 : inst158.F := fun x _ => strings_genSplit x.1 x.2.1 x.2.2.1 x.2.2.2.1
def fx158 : Ctx := fx191.add 158 (inst158.sem run158)
theorem fx158_ok : CtxOK fx158 Tryz.prog := fn_put fx191_ok feMixed 158 Tryz.f158 [.tmp 8] (sq rz (sq (sq rz (cn (sq rz lf) lf)) (sq (sq rz (cn (sq rz lf) lf)) (sq (.cut [(.normal, [(3, KA3)])] (sq rz (cn rz lf))) (sq rz (sq (rg [{}, (nw 10)]) (sq rz (sq rz (sq (bk (.loop [(0, KA10), (9, (.own 11)), (10, KA3), (100011, (.vec none .str))] [((.exit 0), [(0, KA10), (9, (.own 12)), (10, KA3), (100012, (.vec none .str))])] (sq (sq rz (cn lf lf)) (bk (sq rz (sq (sq rz (cn lf lf)) (sq (rg [{}, {}, {}, {}, {}, {}, {}, (rd 11), (wr 11)]) (sq rz rz)))))))) (sq (rg [{}, {}, {}, (rd 12), (wr 12)]) (sq (rg [{}, {}, {}, { wr := [12], new := [13] }]) lf))))))))))) inst158 66 run158 Tryz.func158 (by kernel_rfl) Tryz.ntmps158 (by kernel_rfl) (by intro x y; kernel_rfl) Tryz.call158
def inst106 : Inst := mk1 [KA10, KA10] (.val (.sl .str))
def run106 : inst106.F := fun x _ => strings_Split x.1 x.2.1
def fx106 : Ctx := fx158.add 106 (inst106.sem run106)
theorem fx106_ok : CtxOK fx106 Tryz.prog := fn_put fx158_ok feMixed 106 Tryz.f106 [.tmp 4] (sq rz (sq rz lf)) inst106 8 run106 Tryz.func106 (by kernel_rfl) Tryz.ntmps106 (by kernel_rfl) (by intro x y; kernel_rfl) Tryz.call106
def inst107 : Inst := mk2 [KA10, KA3] KA3 KA8
def run107 : inst107.F := fun x _ => value_count x.1 x.2.1
def fx107 : Ctx := fx106.add 107 (inst107.sem run107)
theorem fx107_ok : CtxOK fx107 Tryz.prog := fn_put fx106_ok feMixed 107 Tryz.f107 [.tmp 4, .tmp 5] (sq rz (sq rz (sq rz (sq rz lf)))) inst107 33 run107 Tryz.func107 (by kernel_rfl) Tryz.ntmps107 (by kernel_rfl) (by intro x y; kernel_rfl) Tryz.call107
def inst71 : Inst := mk1 [KA3] (.val (.arr 12 YA13))
def run71 : inst71.F := fun x _ => value_lengths x.1
def fx71 : Ctx := fx107.add 71 (inst71.sem run71)
theorem fx71_ok : CtxOK fx71 Tryz.prog := fn_put fx107_ok feMixed 71 Tryz.f71 [.cell 2 87] (sq (rg [(nw 10)]) (sq (rg [{}, (nw 11), (wr 11)]) (sq (.cut [(.normal, [(2, (.ptr 14 0)), (3, (.ptr 15 0)), (100014, (.vec (some 12) YA13)), (100015, (.vec (some 12) YA13))])] (sq (.cut [(.normal, [(2, (.ptr 12 0)), (3, (.ptr 13 0)), (17, KA8), (100012, (.vec (some 12) YA13)), (100013, (.vec (some 12) YA13))])] rz) (cn (rg [(rd 13), (wr 13)]) lf))) (sq (rg [(rd 15), (wr 14)]) lf)))) inst71 20 run71 Tryz.func71 (by kernel_rfl) Tryz.ntmps71 (by kernel_rfl) (by intro x y; kernel_rfl) Tryz.call71
def inst72 : Inst := mk1 [KA3] KA3
def run72 : inst72.F := fun x _ => value_before x.1
def fx72 : Ctx := fx71.add 72 (inst72.sem run72)
theorem fx72_ok : CtxOK fx72 Tryz.prog := fn_put fx71_ok feMixed 72 Tryz.f72 [.tmp 2] (sq rz (sq rz (sq rz lf))) inst72 19 run72 Tryz.func72 (by kernel_rfl) Tryz.ntmps72 (by kernel_rfl) (by intro x y; kernel_rfl) Tryz.call72
def inst28 : Inst := mk2 [KA3, KA3, KA3] KA3 KA8
def run28 : inst28.F := fun x _ => value_Day x.1 x.2.1 x.2.2.1
def fx28 : Ctx := fx72.add 28 (inst28.sem run28)
theorem fx28_ok : CtxOK fx28 Tryz.prog := fn_put fx72_ok feMixed 28 Tryz.f28 [.tmp 6, .tmp 7] (sq rz (sq (sq (.cut [(.normal, [(25, KA8)])] rz) (cn (sq rz lf) lf)) (sq (rg [{}, {}, (nw 10), (wr 10)]) (sq (sq (.cut [(.normal, [(8, (.ptr 11 0)), (37, KA8), (100011, (.vec (some 12) YA13))])] (rg [{}, {}, {}, {}, {}, {}, (rd 10), (rd 10)])) (cn (sq rz lf) lf)) (sq rz (sq (sq (rg [{}, {}, { wr := [11], new := [12] }, (rd 12)]) (bk (.loop [(9, KA3), (44, (.own 13)), (46, KA3), (100013, (.vec none YA13))] [((.exit 0), [(9, KA3)])] (sq rz (sq (cn lf lf) (sq (bk (sq (rg [(rd 13), (rd 13)]) rz)) rz)))))) (sq rz lf))))))) inst28 55 run28 Tryz.func28 (by kernel_rfl) Tryz.ntmps28 (by kernel_rfl) (by intro x y; kernel_rfl) Tryz.call28
def inst50 : Inst := mk2 [KA10] KA7 KA8
def run50 : inst50.F := fun x _ => value_date x.1
def fx50 : Ctx := fx28.add 50 (inst50.sem run50)
theorem fx50_ok : CtxOK fx50 Tryz.prog := fn_put fx28_ok feMixed 50 Tryz.f50 [.cell 2 25, .tmp 3] (sq (rg [(nw 10)]) (sq rz (sq (sq rz (cn (sq (rg [{}, (wr 10)]) lf) lf)) (sq rz (sq rz (sq rz (sq rz (sq (rg [{}, {}, {}, {}, {}, {}, {}, {}, {}, {}, {}, {}, (wr 10)]) lf)))))))) inst50 59 run50 Tryz.func50 (by kernel_rfl) Tryz.ntmps50 (by kernel_rfl) (by intro x y; kernel_rfl) Tryz.call50
def inst51 : Inst := mk2 [KA10] KA7 KA8
def run51 : inst51.F := fun x _ => value_clock x.1
def fx51 : Ctx := fx50.add 51 (inst51.sem run51)
theorem fx51_ok : CtxOK fx51 Tryz.prog := fn_put fx50_ok feMixed 51 Tryz.f51 [.cell 2 25, .tmp 3] (sq (rg [(nw 10)]) (sq rz (sq (sq (.cut [(.normal, [(2, (.ptr 11 0)), (30, KA8), (100011, KA5)])] rz) (cn (sq (rg [{}, (wr 11)]) lf) lf)) (sq rz (sq rz (sq (sq (.cut [(.normal, [(2, (.ptr 12 0)), (70, KA8), (100012, KA5)])] rz) (cn (sq (rg [{}, (wr 12)]) lf) lf)) (sq (rg [{}, {}, {}, {}, {}, {}, (nw 13), (wr 13)]) (sq (.cut [(.normal, [(2, (.ptr 17 0)), (9, (.ptr 18 0)), (100017, KA5), (100018, KA5)]), (.ret, [(2, (.ptr 19 0)), (3, KA8), (100019, KA5)])] (sq rz (cn (sq rz (sq rz (sq rz (sq (sq (.cut [(.normal, [(2, (.ptr 14 0)), (9, (.ptr 15 0)), (120, KA8), (100014, KA5), (100015, KA5)])] rz) (cn (sq (rg [{}, (wr 14)]) lf) lf)) (sq (rg [{}, {}, {}, {}, {}, {}, {}, (nw 16), (wr 16)]) (rg [(rd 15), (rd 16), {}, {}, {}, {}, (wr 15)])))))) lf))) (sq (rg [(rd 18), {}, {}, {}, {}, {}, (nw 20), (wr 20)]) (sq (rg [(rd 20), {}, {}, (wr 17)]) lf)))))))))) inst51 144 run51 Tryz.func51 (by kernel_rfl) Tryz.ntmps51 (by kernel_rfl) (by intro x y; kernel_rfl) Tryz.call51
def inst52 : Inst := mk2 [KA10] KA7 KA8
def run52 : inst52.F := fun x _ => value_instant x.1
def fx52 : Ctx := fx51.add 52 (inst52.sem run52)
theorem fx52_ok : CtxOK fx52 Tryz.prog := fn_put fx51_ok feMixed 52 Tryz.f52 [.cell 2 25, .tmp 3] (sq (rg [(nw 10)]) (sq rz (sq (rg [{}, {}, {}, {}, {}, (nw 11), (wr 11)]) (sq (rg [{}, {}, {}, {}, {}, (nw 12), (wr 12)]) (sq (rg [(rd 11), (rd 12), {}, {}, {}, {}, (nw 13), (wr 13)]) (sq (rg [(rd 13), {}, {}, {}, {}, {}, {}, {}, {}, {}, {}, {}, (wr 10)]) lf)))))) inst52 47 run52 Tryz.func52 (by kernel_rfl) Tryz.ntmps52 (by kernel_rfl) (by intro x y; kernel_rfl) Tryz.call52
def inst10 : Inst := mk1 [KA10] KA15
def run10 : inst10.F := fun x _ => value_Enter x.1
def fx10 : Ctx := fx52.add 10 (inst10.sem run10)
theorem fx10_ok : CtxOK fx10 Tryz.prog := fn_put fx52_ok feMixed 10 Tryz.f10 [.cell 2 28] (sq (rg [(nw 10)]) (sq (sq rz (cn (sq (rg [{}, (wr 10)]) lf) lf)) (sq (sq rz (cn (sq (rg [{}, (wr 10)]) lf) lf)) (sq (sq rz (sq rz (cn (sq (rg [{}, {}, (wr 10)]) lf) lf))) (sq (sq rz (sq (.cut [(.normal, [(2, (.ptr 11 0)), (34, KA8), (100011, KA2)])] rz) (cn (sq (rg [{}, {}, {}, (wr 11)]) lf) lf))) (sq (sq rz (bk (.loop [(2, (.ptr 12 0)), (39, KA3), (100012, KA2)] [((.exit 0), [(2, (.ptr 14 0)), (100014, KA2)]), (.ret, [(2, (.ptr 15 0)), (100015, KA2)])] (sq rz (sq (cn lf lf) (sq (bk (sq rz (sq (.cut [(.normal, [(2, (.ptr 13 0)), (49, KA8), (100013, KA2)])] rz) (cn (sq (rg [{}, {}, (wr 13)]) lf) lf)))) rz)))))) (sq (sq rz (bk (.again (sq rz (sq (cn lf lf) (sq (bk (sq rz (sq (rg [{}, {}, {}, {}, {}, {}, (nw 16), (wr 16)]) (sq rz (cn (sq (rg [(rd 16), {}, (wr 14)]) lf) lf))))) rz))) (.again (sq rz (sq (cn lf lf) (sq (bk (sq rz (sq (rg [{}, {}, {}, {}, {}, {}, (nw 17), (wr 17)]) (sq rz (cn (sq (rg [(rd 17), {}, (wr 14)]) lf) lf))))) rz))) (.again (sq rz (sq (cn lf lf) (sq (bk (sq rz (sq (rg [{}, {}, {}, {}, {}, {}, (nw 18), (wr 18)]) (sq rz (cn (sq (rg [(rd 18), {}, (wr 14)]) lf) lf))))) rz))) (.again (sq rz (sq (cn lf lf) (sq (bk (sq rz (sq (rg [{}, {}, {}, {}, {}, {}, (nw 19), (wr 19)]) (sq rz (cn (sq (rg [(rd 19), {}, (wr 14)]) lf) lf))))) rz))) (.again (sq rz (sq (cn lf lf) (sq (bk (sq rz (sq (rg [{}, {}, {}, {}, {}, {}, (nw 20), (wr 20)]) (sq rz (cn (sq (rg [(rd 20), {}, (wr 14)]) lf) lf))))) rz))) (.again (sq rz (sq (cn lf lf) (sq (bk (sq rz (sq rz (sq rz (cn (sq rz lf) lf))))) rz))) lf)))))))) (sq (rg [{}, {}, (wr 14)]) lf)))))))) inst10 69 run10 Tryz.func10 (by kernel_rfl) Tryz.ntmps10 (by kernel_rfl) (by intro x y; kernel_rfl) Tryz.call10
def inst14 : Inst := mk1 [KA15, KA15] KA8
def hint14 : HC := (sq (rg [(nw 10), (nw 11)]) (sq (rg [(rd 10), (rd 11), (nw 12), (nw 13), (wr 12), (wr 13)]) (sq (rg [(rd 12), (wr 12), (rd 13), (wr 13)]) (sq (rg [(rd 12), (rd 12), (rd 13), (rd 13), {}, {}, (rd 12), (rd 12), (rd 13), (rd 13), {}, {}, {}, (rd 12), (rd 12), (rd 13), (rd 13), {}, {}, {}, (rd 12), (rd 12), (rd 13), (rd 13), {}, {}, {}, (rd 12), (rd 12), (rd 13), (rd 13), {}, {}, {}, (rd 12), (rd 12), (rd 13), (rd 13), {}, {}, {}, (rd 12), (rd 12), (rd 13), (rd 13), {}, {}, {}, (rd 10), (rd 10), (rd 11), (rd 11)]) lf))))
def run14 (m : Nat) : Ks.den inst14.args -> Ks.den inst14.objs -> Option inst14.out.den := fun x _ => value_Same_f m x.1 x.2.1
def g14 (m : Nat) : Ctx := fx10.add 14 (inst14.sem (run14 m))
theorem g14_ok {m : Nat} (h : FnOK Tryz.prog fx10.glob 14 (inst14.sem (run14 m))) : CtxOK (g14 m) Tryz.prog := add_ok fx10_ok h Tryz.call14
def inst66 : Inst := mk1 [(.val (.sl YA0)), (.val (.sl YA0)), (.fn 14 .unit)] KA8
def hint66 : HC := (sq rz (sq (sq rz (cn (sq rz lf) lf)) (sq (sq rz (bk (.loop [(2, (.fn 14 .unit)), (17, KA3)] [((.exit 0), []), (.ret, [(6, KA8)])] (sq rz (sq (cn lf lf) (sq (bk (sq (rg [{}, {}, {}, (nw 10), {}, (wr 10)]) (sq (rg [{}, {}, {}, {}, (nw 11), (wr 11)]) (sq (rg [{}, (rd 10), (rd 11)]) (cn (sq rz lf) lf))))) rz)))))) (sq rz lf))))
def run66 (m : Nat) : Ks.den inst66.args -> Ks.den inst66.objs -> Option inst66.out.den := fun x _ => api_Value__Same (value_Same_f m) x.1 x.2.1
theorem ev66 : ∀ m x y, evFn (g14 m) 32 (bodyOf Tryz.f66) [.tmp 6] hint66 inst66 x y = run66 m x y := by intro m x y; kernel_rfl
theorem ok66 {m : Nat} (h : FnOK Tryz.prog fx10.glob 14 (inst14.sem (run14 m))) : FnOK Tryz.prog (g14 m).glob 66 (inst66.sem (run66 m)) :=
 fn_add (g14_ok h) feMixed 66 Tryz.f66 [.tmp 6] hint66 inst66 32 (run66 m) Tryz.func66 (by kernel_rfl) Tryz.ntmps66 (by kernel_rfl) (by kernel_rfl) (ev66 m)
def g14_66 (m : Nat) : Ctx := (g14 m).more 66 (inst66.sem (run66 m))
theorem g14_66_ok {m : Nat} (h : FnOK Tryz.prog fx10.glob 14 (inst14.sem (run14 m))) : CtxOK (g14_66 m) Tryz.prog := more_ok (g14_ok h) (ok66 h) Tryz.call66
theorem ev14 : ∀ m x y, evFn (g14_66 m) 65 (bodyOf Tryz.f14) [.tmp 4] hint14 inst14 x y = run14 (m + 1) x y := by intro m x y; kernel_rfl
theorem ok14 : ∀ m, FnOK Tryz.prog fx10.glob 14 (inst14.sem (run14 m)) :=
 fn_recs fx10.glob g14_66 (fun _ => rfl) 14 inst14 run14 (fun _ h => g14_66_ok h) feMixed Tryz.f14 [.tmp 4] hint14 65 Tryz.func14 (by kernel_rfl) Tryz.ntmps14 (by kernel_rfl) (by kernel_rfl) (fun _ _ => rfl) ev14
def fx14 : Ctx := fx10.add 14 (inst14.sem (run14 rounds))
theorem fx14_ok : CtxOK fx14 Tryz.prog := add_ok fx10_ok (ok14 rounds) Tryz.call14
def inst8 : Inst := mk1 [] KA8
def hint8 : HC := (sq rz (sq rz lf))
def run8 : inst8.F := fun _ _ => chancerylaw2_values
theorem ok8 : FnOK Tryz.prog fx14.glob 8 (inst8.sem run8) :=
 fn_add fx14_ok feMixed 8 Tryz.f8 [.tmp 0] hint8 inst8 5 run8 Tryz.func8 (by kernel_rfl) Tryz.ntmps8 (by kernel_rfl) (by kernel_rfl) (by intro x y; kernel_rfl)
def fx8 : Ctx := fx14.add 8 (inst8.sem run8)
theorem fx8_ok : CtxOK fx8 Tryz.prog := add_ok fx14_ok ok8 Tryz.call8
def inst201 : Inst := mk1 [KA11, KA3] KA10
def run201 : inst201.F := fun x _ => exact_number__decimal x.1 x.2.1
def fx201 : Ctx := fx8.add 201 (inst201.sem run201)
theorem fx201_ok : CtxOK fx201 Tryz.prog := fn_put fx8_ok feMixed 201 Tryz.f201 [.tmp 4] (sq (rg [(nw 10)]) (sq (rg [(rd 10), (rd 10)]) (sq rz (sq (.cut [(.normal, [(2, (.ptr 11 0)), (5, KA10), (100011, KA12)])] (sq rz (cn rz lf))) (sq (.cut [(.normal, [(5, KA10)])] (sq (.cut [(.normal, [(41, KA8)])] (rg [(rd 11), (rd 11), {}, (rd 11), (rd 11)])) (cn rz lf))) (sq rz lf)))))) inst201 45 run201 Tryz.func201 (by kernel_rfl) Tryz.ntmps201 (by kernel_rfl) (by intro x y; kernel_rfl) Tryz.call201
def inst174 : Inst := mk3 [KA7] KA10 KA8 KA3
def run174 : inst174.F := fun x _ => exact_Shortest x.1
def fx174 : Ctx := fx201.add 174 (inst174.sem run174)
theorem fx174_ok : CtxOK fx174 Tryz.prog := fn_put fx201_ok feMixed 174 Tryz.f174 [.tmp 2, .tmp 3, .tmp 4] (sq (rg [(nw 10)]) (sq (rg [(rd 10), {}, {}, {}, {}, (nw 11), (wr 11)]) (sq (sq rz (cn (sq rz lf) lf)) (sq rz (sq (sq (rg [(rd 11), (rd 11)]) (bk (.loop [(5, (.ptr 12 0)), (7, KA3), (8, KA14), (100012, KA12)] [((.exit 0), [(5, (.ptr 16 0)), (7, KA3), (100016, KA12)]), (.ret, [(2, KA10), (3, KA8), (4, KA3)])] (sq (sq rz (cn lf lf)) (sq (bk (sq (rg [{}, (nw 13), (fz 31 13)]) (sq (.cut [(.normal, [(5, (.ptr 15 0)), (9, KA14), (100015, KA12)]), (.ret, [(2, KA10), (3, KA8), (4, KA3)])] (sq rz (cn (sq (rg [{}, (nw 14), (fz 39 14)]) (sq (sq rz (cn (sq rz lf) lf)) rz)) lf))) rz))) rz))))) (sq (rg [(rd 16), (rd 16), {}, {}, {}, (rd 16), (rd 16)]) (sq (rg [(rd 16), (rd 16), {}, (nw 17), (fz 64 17)]) lf))))))) inst174 68 run174 Tryz.func174 (by kernel_rfl) Tryz.ntmps174 (by kernel_rfl) (by intro x y; kernel_rfl) Tryz.call174
def inst202 : Inst := mk1 [KA11, KA3] KA11
def run202 : inst202.F := fun x _ => exact_number__scaled x.1 x.2.1
def fx202 : Ctx := fx174.add 202 (inst202.sem run202)
theorem fx202_ok : CtxOK fx202 Tryz.prog := fn_put fx174_ok feMixed 202 Tryz.f202 [.cell 4 131] (sq (rg [(nw 10), (nw 11)]) (sq (.cut [(.normal, [(2, (.ptr 12 0)), (4, (.ptr 13 0)), (100012, KA12), (100013, KA12)])] (sq rz (cn (rg [(rd 10), (rd 10), {}, {}, {}, {}, (rd 10), (wr 10)]) (rg [(rd 10), (rd 10), {}, {}, {}, (rd 10), (wr 10)])))) (sq (rg [(rd 12), (wr 13)]) lf))) inst202 21 run202 Tryz.func202 (by kernel_rfl) Tryz.ntmps202 (by kernel_rfl) (by intro x y; kernel_rfl) Tryz.call202
def inst203 : Inst := mk1 [KA11] KA11
def run203 : inst203.F := fun x _ => exact_number__rounded x.1
def fx203 : Ctx := fx202.add 203 (inst203.sem run203)
theorem fx203_ok : CtxOK fx203 Tryz.prog := fn_put fx202_ok feMixed 203 Tryz.f203 [.cell 2 131] (sq (rg [(nw 10), (nw 11)]) (sq (rg [(rd 10), (rd 10), (rd 10), (rd 10), {}, (rd 10), (rd 10), {}, (rd 10), (rd 10), (rd 10), (rd 10)]) (sq (rg [(rd 10), (rd 10), {}, (nw 12), (fz 25 12), (wr 11)]) lf))) inst203 27 run203 Tryz.func203 (by kernel_rfl) Tryz.ntmps203 (by kernel_rfl) (by intro x y; kernel_rfl) Tryz.call203
def inst175 : Inst := mk2 [KA7, KA3] KA10 KA3
def run175 : inst175.F := fun x _ => exact_Fixed x.1 x.2.1
def fx175 : Ctx := fx203.add 175 (inst175.sem run175)
theorem fx175_ok : CtxOK fx175 Tryz.prog := fn_put fx203_ok feMixed 175 Tryz.f175 [.tmp 4, .tmp 5] (sq (rg [(nw 10)]) (sq (rg [(rd 10), {}, {}, {}, {}, (nw 11), (wr 11)]) (sq (sq rz (cn (sq rz lf) lf)) (sq (sq (.cut [(.normal, [(6, (.ptr 12 0)), (24, KA8), (100012, KA12)])] rz) (cn (sq rz lf) lf)) (sq (rg [(rd 12), {}, {}, {}, (nw 13), (wr 13)]) (sq (sq (rg [(rd 13), {}, {}, {}, {}, {}, {}, {}, (nw 14), (wr 14)]) (sq rz (cn (sq rz lf) lf))) (sq (rg [(rd 13)]) lf))))))) inst175 43 run175 Tryz.func175 (by kernel_rfl) Tryz.ntmps175 (by kernel_rfl) (by intro x y; kernel_rfl) Tryz.call175
def inst177 : Inst := mk1 [KA10, KA10] KA10
def run177 : inst177.F := fun x _ => strings_TrimRight x.1 x.2.1
def fx177 : Ctx := fx175.add 177 (inst177.sem run177)
theorem fx177_ok : CtxOK fx177 Tryz.prog := fn_put fx175_ok feMixed 177 Tryz.f177 [.tmp 4] (sq rz (sq (sq (.cut [(.normal, [(12, KA8)])] rz) (cn (sq rz lf) lf)) (sq (sq (.cut [(.normal, [(21, KA8)])] rz) (cn (sq rz lf) lf)) (sq (sq (rg [{}, {}, {}, {}, {}, (nw 10), (wr 10)]) (sq rz (cn (sq (rg [{}, (wr 10)]) lf) lf))) (sq rz lf))))) inst177 37 run177 Tryz.func177 (by kernel_rfl) Tryz.ntmps177 (by kernel_rfl) (by intro x y; kernel_rfl) Tryz.call177
def inst136 : Inst := mk1 [KA7] KA10
def run136 : inst136.F := fun x _ => value_decimal x.1
def fx136 : Ctx := fx177.add 136 (inst136.sem run136)
theorem fx136_ok : CtxOK fx136 Tryz.prog := fn_put fx177_ok feMixed 136 Tryz.f136 [.tmp 2] (sq (rg [(nw 10)]) (sq (sq (rg [(rd 10)]) (sq (.cut [(.normal, [(1, (.ptr 11 0)), (19, KA8), (100011, KA5)])] rz) (cn (sq rz lf) lf))) (sq (rg [(rd 11)]) (sq (sq rz (cn (sq rz lf) lf)) (sq rz lf))))) inst136 32 run136 Tryz.func136 (by kernel_rfl) Tryz.ntmps136 (by kernel_rfl) (by intro x y; kernel_rfl) Tryz.call136
def inst86 : Inst := mk1 [KA15] KA10
def hint86 : HC := (sq (rg [(nw 10)]) (sq (sq (rg [(rd 10), (rd 10)]) (bk (sq rz (cn (sq (rg [(rd 10), (rd 10)]) lf) (sq rz (cn (sq (rg [(rd 10), (rd 10)]) lf) (sq rz (cn (sq (sq (rg [(rd 10), (rd 10)]) (cn (sq rz lf) lf)) (sq rz lf)) (sq rz (cn (sq (rg [(rd 10), (rd 10)]) lf) (sq rz (cn (sq (rg [(rd 10), (rd 10)]) lf) lf)))))))))))) (sq rz lf)))
def run86 (m : Nat) : Ks.den inst86.args -> Ks.den inst86.objs -> Option inst86.out.den := fun x _ => value_shown_f m x.1
theorem ev86 : ∀ m x y, evFn (fx136.add 86 (inst86.sem (run86 m))) 30 (bodyOf Tryz.f86) [.tmp 2] hint86 inst86 x y = run86 (m + 1) x y := by intro m x y; kernel_rfl
theorem ok86 : ∀ m, FnOK Tryz.prog fx136.glob 86 (inst86.sem (run86 m)) :=
 fn_rec fx136_ok feMixed 86 Tryz.f86 [.tmp 2] hint86 inst86 30 run86 Tryz.func86 (by kernel_rfl) Tryz.ntmps86 (by kernel_rfl) (by kernel_rfl) Tryz.call86 (fun _ _ => rfl) ev86
def fx86 : Ctx := fx136.add 86 (inst86.sem (run86 rounds))
theorem fx86_ok : CtxOK fx86 Tryz.prog := add_ok fx136_ok (ok86 rounds) Tryz.call86
def inst36 : Inst := mk2 [KA15] KA10 KA3
def run36 : inst36.F := fun x _ => value_Show x.1
def fx36 : Ctx := fx86.add 36 (inst36.sem run36)
theorem fx36_ok : CtxOK fx36 Tryz.prog := fn_put fx86_ok feMixed 36 Tryz.f36 [.tmp 2, .tmp 3] (sq (rg [(nw 10)]) (sq (sq (rg [(rd 10)]) (sq rz (cn (sq rz lf) lf))) (sq (rg [(rd 10)]) lf))) inst36 12 run36 Tryz.func36 (by kernel_rfl) Tryz.ntmps36 (by kernel_rfl) (by intro x y; kernel_rfl) Tryz.call36
def inst64 : Inst := { args := [KA3, KA8, (.ptr 0 0)], objs := [KA2], nres := 1, out := [(90000, KA8), (2, (.ptr 0 0)), (100000, KA2)], news := 0 }
def run64 : inst64.F := fun x y => chanceryref2_ValueError_1 x.1 x.2.1 y.1.1 y.1.2.1 y.1.2.2.1 y.1.2.2.2.1 y.1.2.2.2.2.1 y.1.2.2.2.2.2.1 y.1.2.2.2.2.2.2.1 y.1.2.2.2.2.2.2.2.1 y.1.2.2.2.2.2.2.2.2.1
def fx64 : Ctx := fx36.add 64 (inst64.sem run64)
theorem fx64_ok : CtxOK fx64 Tryz.prog := fn_put fx36_ok feMixed 64 Tryz.f64 [.tmp 5] (sq rz (sq (rg [(rd 0), (rd 0)]) lf)) inst64 13 run64 Tryz.func64 (by kernel_rfl) Tryz.ntmps64 (by kernel_rfl) (by intro x y; kernel_rfl) Tryz.call64
def inst125 : Inst := mk1 [KA10] KA8
def run125 : inst125.F := fun x _ => chanceryref2_Digits x.1
def fx125 : Ctx := fx64.add 125 (inst125.sem run125)
theorem fx125_ok : CtxOK fx125 Tryz.prog := fn_put fx64_ok feMixed 125 Tryz.f125 [.tmp 2] (sq rz (sq (sq rz (bk (.loop [(6, KA3)] [((.exit 0), []), (.ret, [(2, KA8)])] (sq rz (sq (cn lf lf) (sq (bk (sq rz (sq (.cut [(.normal, [(18, KA8)])] rz) (cn (sq rz lf) lf)))) rz)))))) (sq rz lf))) inst125 31 run125 Tryz.func125 (by kernel_rfl) Tryz.ntmps125 (by kernel_rfl) (by intro x y; kernel_rfl) Tryz.call125
def inst164 : Inst := mk1 [KA9] KA9
def run164 : inst164.F := fun x _ => chanceryref2_Nat__trim x.1
def fx164 : Ctx := fx125.add 164 (inst164.sem run164)
theorem fx164_ok : CtxOK fx164 Tryz.prog := fn_put fx125_ok feMixed 164 Tryz.f164 [.tmp 2] (sq rz (sq (bk (.loop [(0, KA9)] [((.exit 0), [(0, KA9)])] (sq (sq (.cut [(.normal, [(14, KA8)])] rz) (cn lf lf)) (bk rz)))) (sq rz lf))) inst164 21 run164 Tryz.func164 (by kernel_rfl) Tryz.ntmps164 (by kernel_rfl) (by intro x y; kernel_rfl) Tryz.call164
def inst119 : Inst := mk1 [KA10] KA9
def run119 : inst119.F := fun x _ => chanceryref2_NatOf x.1
def fx119 : Ctx := fx164.add 119 (inst119.sem run119)
theorem fx119_ok : CtxOK fx119 Tryz.prog := fn_put fx164_ok feMixed 119 Tryz.f119 [.tmp 2] (sq rz (sq rz (sq (sq rz (bk (.loop [(3, (.own 12)), (4, KA3), (100012, (.vec none YA13))] [((.exit 0), [(3, (.own 13)), (100013, (.vec none YA13))])] (sq (sq rz (cn lf lf)) (sq (bk (rg [{}, {}, {}, {}, {}, {}, (nw 10), { rd := [10], wr := [12], new := [11] }])) rz))))) (sq (rg [{}, (fz 20 13)]) lf)))) inst119 22 run119 Tryz.func119 (by kernel_rfl) Tryz.ntmps119 (by kernel_rfl) (by intro x y; kernel_rfl) Tryz.call119
def inst137 : Inst := mk1 [KA9] KA9
def run137 : inst137.F := fun x _ => chanceryref2_Nat__half x.1
def fx137 : Ctx := fx119.add 137 (inst137.sem run137)
theorem fx137_ok : CtxOK fx137 Tryz.prog := fn_put fx119_ok feMixed 137 Tryz.f137 [.tmp 2] (sq rz (sq (rg [{}, {}, (nw 10)]) (sq rz (sq (sq rz (bk (.loop [(3, (.own 11)), (4, KA3), (5, KA3), (100011, (.vec none YA13))] [((.exit 0), [(3, (.own 12)), (100012, (.vec none YA13))])] (sq (sq rz (cn lf lf)) (sq (bk (sq rz (sq (rg [{}, {}, {}, {}, (rd 11), (wr 11)]) rz))) rz))))) (sq (rg [{}, (fz 31 12)]) lf))))) inst137 33 run137 Tryz.func137 (by kernel_rfl) Tryz.ntmps137 (by kernel_rfl) (by intro x y; kernel_rfl) Tryz.call137
def inst166 : Inst := mk1 [KA9, KA9] KA3
def run166 : inst166.F := fun x _ => chanceryref2_Nat__Compare x.1 x.2.1
def fx166 : Ctx := fx137.add 166 (inst166.sem run166)
theorem fx166_ok : CtxOK fx166 Tryz.prog := fn_put fx137_ok feMixed 166 Tryz.f166 [.tmp 4] (sq rz (sq (sq rz (cn (sq (sq rz (cn (sq rz lf) lf)) (sq rz lf)) lf)) (sq (sq rz (bk (.loop [(5, KA3)] [((.exit 0), []), (.ret, [(4, KA3)])] (sq (sq rz (cn lf lf)) (sq (bk (sq (sq rz (cn (sq rz lf) lf)) (sq rz (cn (sq rz lf) lf)))) rz))))) (sq rz lf)))) inst166 41 run166 Tryz.func166 (by kernel_rfl) Tryz.ntmps166 (by kernel_rfl) (by intro x y; kernel_rfl) Tryz.call166
def inst198 : Inst := mk1 [KA9, KA3] KA3
def run198 : inst198.F := fun x _ => chanceryref2_digitAt x.1 x.2.1
def fx198 : Ctx := fx166.add 198 (inst198.sem run198)
theorem fx198_ok : CtxOK fx198 Tryz.prog := fn_put fx166_ok feMixed 198 Tryz.f198 [.tmp 4] (sq rz (sq (sq rz (cn (sq rz lf) lf)) (sq rz lf))) inst198 13 run198 Tryz.func198 (by kernel_rfl) Tryz.ntmps198 (by kernel_rfl) (by intro x y; kernel_rfl) Tryz.call198
def inst167 : Inst := mk1 [KA9, KA9] KA9
def run167 : inst167.F := fun x _ => chanceryref2_Nat__Less x.1 x.2.1
def fx167 : Ctx := fx198.add 167 (inst167.sem run167)
theorem fx167_ok : CtxOK fx167 Tryz.prog := fn_put fx198_ok feMixed 167 Tryz.f167 [.tmp 4] (sq rz (sq rz (sq rz (sq (sq rz (bk (.loop [(5, (.own 12)), (6, KA3), (11, KA3), (100012, (.vec none YA13))] [((.exit 0), [(5, (.own 14)), (100014, (.vec none YA13))])] (sq rz (sq (cn lf lf) (sq (bk (sq rz (sq rz (sq rz (sq (.cut [(.normal, [(5, (.own 13)), (6, KA3), (8, KA3), (100013, (.vec none YA13))])] (sq rz (cn (sq rz rz) lf))) (rg [{}, {}, (nw 10), { rd := [10], wr := [13], new := [11] }])))))) rz)))))) (sq (rg [{}, (fz 33 14)]) lf))))) inst167 35 run167 Tryz.func167 (by kernel_rfl) Tryz.ntmps167 (by kernel_rfl) (by intro x y; kernel_rfl) Tryz.call167
def inst165 : Inst := mk1 [KA9, KA9] KA9
def run165 : inst165.F := fun x _ => chanceryref2_Nat__Plus x.1 x.2.1
def fx165 : Ctx := fx167.add 165 (inst165.sem run165)
theorem fx165_ok : CtxOK fx165 Tryz.prog := fn_put fx167_ok feMixed 165 Tryz.f165 [.tmp 4] (sq rz (sq rz (sq rz (sq (sq rz (bk (.loop [(5, (.own 12)), (6, KA3), (7, KA3), (100012, (.vec none YA13))] [((.exit 0), [(5, (.own 14)), (100014, (.vec none YA13))])] (sq (sq (.cut [(.normal, [(5, (.own 13)), (22, KA8), (100013, (.vec none YA13))])] rz) (cn lf lf)) (sq (bk (sq rz (sq (rg [{}, {}, {}, (nw 10), { rd := [10], wr := [13], new := [11] }]) rz))) rz))))) (sq rz lf))))) inst165 42 run165 Tryz.func165 (by kernel_rfl) Tryz.ntmps165 (by kernel_rfl) (by intro x y; kernel_rfl) Tryz.call165
def inst126 : Inst := mk1 [KA9, KA9] KA9
def run126 : inst126.F := fun x _ => chanceryref2_Gcd x.1 x.2.1
def fx126 : Ctx := fx165.add 126 (inst126.sem run126)
theorem fx126_ok : CtxOK fx126 Tryz.prog := fn_put fx165_ok feMixed 126 Tryz.f126 [.tmp 4] (sq rz (sq (sq rz (cn (sq rz lf) lf)) (sq (sq rz (cn (sq rz lf) lf)) (sq rz (sq (bk (.loop [(0, KA9), (1, KA9), (5, KA3)] [((.exit 0), [(0, KA9), (1, KA9), (5, KA3)])] (sq (sq (.cut [(.normal, [(25, KA8)])] rz) (cn lf lf)) (bk (sq rz rz))))) (sq (bk (.loop [(0, KA9), (1, KA9)] [((.exit 2), [(1, KA9)])] (sq (sq rz (cn lf lf)) (bk (sq (bk (.loop [(0, KA9)] [((.exit 4), [(0, KA9)])] (sq (sq (.cut [(.normal, [(44, KA8)])] rz) (cn lf lf)) (bk rz)))) (sq (bk (.loop [(1, KA9)] [((.exit 6), [(1, KA9)])] (sq (sq rz (cn lf lf)) (bk rz)))) (sq (.cut [(.normal, [(0, KA9), (1, KA9)])] (sq rz (cn rz lf))) rz))))))) (sq (sq rz (bk (.loop [(1, KA9), (64, KA3)] [((.exit 8), [(1, KA9)])] (sq rz (sq (cn lf lf) (sq (bk rz) rz)))))) (sq rz lf)))))))) inst126 71 run126 Tryz.func126 (by kernel_rfl) Tryz.ntmps126 (by kernel_rfl) (by intro x y; kernel_rfl) Tryz.call126
def inst127 : Inst := mk1 [KA9] KA10
def run127 : inst127.F := fun x _ => chanceryref2_Nat__Text x.1
def fx127 : Ctx := fx126.add 127 (inst127.sem run127)
theorem fx127_ok : CtxOK fx127 Tryz.prog := fn_put fx126_ok feMixed 127 Tryz.f127 [.tmp 2] (sq rz (sq (sq rz (cn (sq rz lf) lf)) (sq rz (sq (sq rz (bk (.loop [(3, (.own 12)), (4, KA3), (100012, (.vec none YA17))] [((.exit 0), [(3, (.own 13)), (100013, (.vec none YA17))])] (sq (sq rz (cn lf lf)) (sq (bk (rg [{}, {}, {}, {}, {}, {}, {}, (nw 10), { rd := [10], wr := [12], new := [11] }])) rz))))) (sq (rg [{}, (rd 13)]) lf))))) inst127 26 run127 Tryz.func127 (by kernel_rfl) Tryz.ntmps127 (by kernel_rfl) (by intro x y; kernel_rfl) Tryz.call127
def inst65 : Inst := mk1 [KA7] KA3
def run65 : inst65.F := fun x _ => chanceryref2_FracError x.1
def fx65 : Ctx := fx127.add 65 (inst65.sem run65)
theorem fx65_ok : CtxOK fx65 Tryz.prog := fn_put fx127_ok feMixed 65 Tryz.f65 [.tmp 2] (sq (rg [(nw 10)]) (sq (rg [(rd 10), (rd 10)]) (sq (.cut [(.normal, [(1, (.ptr 12 0)), (3, KA10), (4, KA8), (100012, KA5)])] (sq (.cut [(.normal, [(1, (.ptr 11 0)), (13, KA8), (100011, KA5)])] rz) (cn rz lf))) (sq (sq (.cut [(.normal, [(1, (.ptr 13 0)), (36, KA8), (100013, KA5)])] (rg [{}, {}, {}, {}, (rd 12), (rd 12), {}, {}, {}, {}, (rd 12), (rd 12)])) (cn (sq rz lf) lf)) (sq (sq (.cut [(.normal, [(1, (.ptr 14 0)), (45, KA8), (100014, KA5)])] (rg [{}, {}, {}, {}, (rd 13), (rd 13)])) (cn (sq rz lf) lf)) (sq (sq (rg [{}, {}, (rd 14), (rd 14)]) (cn (sq rz lf) lf)) (sq rz lf))))))) inst65 54 run65 Tryz.func65 (by kernel_rfl) Tryz.ntmps65 (by kernel_rfl) (by intro x y; kernel_rfl) Tryz.call65
def inst109 : Inst := mk2 [KA10] KA3 KA3
def run109 : inst109.F := fun x _ => chanceryref2_Rune x.1
def fx109 : Ctx := fx65.add 109 (inst109.sem run109)
theorem fx109_ok : CtxOK fx109 Tryz.prog := fn_put fx65_ok feMixed 109 Tryz.f109 [.tmp 2, .tmp 3] (sq rz (sq rz (sq rz (sq (.cut [(.normal, [(4, KA3), (5, KA3), (6, KA3)]), (.ret, [(2, KA3), (3, KA3)])] (bk (sq rz (cn (sq rz lf) (sq (.cut [(.normal, [(15, KA8)])] rz) (cn rz (sq (.cut [(.normal, [(24, KA8)])] rz) (cn rz (sq (.cut [(.normal, [(33, KA8)])] rz) (cn rz (sq rz lf))))))))))) (sq (sq rz (cn (sq rz lf) lf)) (sq (sq rz (bk (.loop [(4, KA3), (7, KA3)] [((.exit 1), [(4, KA3)]), (.ret, [(2, KA3), (3, KA3)])] (sq (sq rz (cn lf lf)) (sq (bk (sq (sq rz (cn (sq rz lf) lf)) rz)) rz))))) (sq (sq (.cut [(.normal, [(78, KA8)])] rz) (cn (sq rz lf) lf)) (sq rz lf)))))))) inst109 81 run109 Tryz.func109 (by kernel_rfl) Tryz.ntmps109 (by kernel_rfl) (by intro x y; kernel_rfl) Tryz.call109
def inst110 : Inst := mk1 [KA3] KA8
def run110 : inst110.F := fun x _ => chanceryref2_Char x.1
def fx110 : Ctx := fx109.add 110 (inst110.sem run110)
theorem fx110_ok : CtxOK fx110 Tryz.prog := fn_put fx109_ok feMixed 110 Tryz.f110 [.tmp 2] (sq rz (sq rz lf)) inst110 33 run110 Tryz.func110 (by kernel_rfl) Tryz.ntmps110 (by kernel_rfl) (by intro x y; kernel_rfl) Tryz.call110
def inst53 : Inst := mk1 [KA10] KA3
def run53 : inst53.F := fun x _ => chanceryref2_TextError x.1
def fx53 : Ctx := fx110.add 53 (inst53.sem run53)
theorem fx53_ok : CtxOK fx53 Tryz.prog := fn_put fx110_ok feMixed 53 Tryz.f53 [.tmp 2] (sq rz (sq (sq rz (cn (sq rz lf) lf)) (sq (bk (.loop [(0, KA10)] [((.exit 0), []), (.ret, [(2, KA3)])] (sq (sq rz (cn lf lf)) (bk (sq rz (sq (sq (.cut [(.normal, [(21, KA8)])] rz) (cn (sq rz lf) lf)) rz)))))) (sq rz lf)))) inst53 25 run53 Tryz.func53 (by kernel_rfl) Tryz.ntmps53 (by kernel_rfl) (by intro x y; kernel_rfl) Tryz.call53
def inst27 : Inst := mk1 [KA3] KA10
def run27 : inst27.F := fun x _ => chanceryref2_FaultText x.1
def fx27 : Ctx := fx53.add 27 (inst27.sem run27)
theorem fx27_ok : CtxOK fx27 Tryz.prog := fn_put fx53_ok feMixed 27 Tryz.f27 [.tmp 2] (sq rz (sq (sq (.cut [(.normal, [(8, KA8)])] rz) (cn (sq rz lf) lf)) (sq rz lf))) inst27 12 run27 Tryz.func27 (by kernel_rfl) Tryz.ntmps27 (by kernel_rfl) (by intro x y; kernel_rfl) Tryz.call27
def inst13 : Inst := mk1 [KA15] KA3
def hint13 : HC := (sq (rg [(nw 10)]) (sq (sq (.cut [(.normal, [(1, (.ptr 11 0)), (14, KA8), (100011, KA2)])] (rg [(rd 10), (rd 10), {}, {}, (rd 10), (rd 10)])) (cn (sq rz lf) lf)) (sq rz (sq (sq (.cut [(.normal, [(1, (.ptr 12 0)), (65, KA8), (100012, KA2)])] (rg [{}, (rd 11), (rd 11), {}, {}, (wr 11), {}, {}, {}, (rd 11), (rd 11), {}, (wr 11), {}, {}, {}, {}, (rd 11), (rd 11), {}, (wr 11), {}, {}, {}, {}, (rd 11), (rd 11), {}, (wr 11), {}, {}, {}, {}, (rd 11), (rd 11), {}, {}, (rd 11), (rd 11), {}, {}, {}, (rd 11), (rd 11), {}, {}, {}, (wr 11)])) (cn (sq rz lf) lf)) (sq (bk (sq (rg [(rd 12), (rd 12)]) (cn (sq (rg [(rd 12), (rd 12)]) lf) (sq (rg [(rd 12), (rd 12)]) (cn (sq (rg [(rd 12), (rd 12)]) lf) (sq (.cut [(.normal, [(1, (.ptr 13 0)), (80, KA8), (100013, KA2)])] (rg [(rd 12), (rd 12), {}, {}, (rd 12), (rd 12)])) (cn (sq rz lf) (sq (rg [(rd 13), (rd 13)]) (cn (sq rz lf) (sq (.cut [(.normal, [(1, (.ptr 14 0)), (94, KA8), (100014, KA2)])] (rg [(rd 13), (rd 13), {}, {}, (rd 13), (rd 13), {}, {}, {}, (rd 13), (rd 13), {}, {}, {}, (rd 13), (rd 13)])) (cn (sq rz lf) (sq (rg [(rd 14), (rd 14), (rd 14), (rd 14)]) (cn (sq rz lf) (sq (rg [(rd 14), (rd 14), (rd 14), (rd 14), {}, (rd 14), (rd 14)]) (cn (sq rz lf) lf))))))))))))))) (sq (sq (rg [(rd 14), (rd 14)]) (bk (.loop [(133, KA3)] [((.exit 1), []), (.ret, [(2, KA3)])] (sq rz (sq (cn lf lf) (sq (bk (sq (rg [{}, {}, (nw 15), (wr 15)]) (sq (sq (rg [(rd 15), (rd 15)]) (cn (sq rz lf) lf)) (sq (rg [(rd 15)]) (sq rz (cn (sq rz lf) lf)))))) rz)))))) (sq rz lf)))))))
def run13 (m : Nat) : Ks.den inst13.args -> Ks.den inst13.objs -> Option inst13.out.den := fun x _ => chanceryref2_ValueError_f m x.1
theorem ev13 : ∀ m x y, evFn (fx27.add 13 (inst13.sem (run13 m))) 146 (bodyOf Tryz.f13) [.tmp 2] hint13 inst13 x y = run13 (m + 1) x y := by intro m x y; kernel_rfl
theorem ok13 : ∀ m, FnOK Tryz.prog fx27.glob 13 (inst13.sem (run13 m)) :=
 fn_rec fx27_ok feMixed 13 Tryz.f13 [.tmp 2] hint13 inst13 146 run13 Tryz.func13 (by kernel_rfl) Tryz.ntmps13 (by kernel_rfl) (by kernel_rfl) Tryz.call13 (fun _ _ => rfl) ev13
def fx13 : Ctx := fx27.add 13 (inst13.sem (run13 rounds))
theorem fx13_ok : CtxOK fx13 Tryz.prog := add_ok fx27_ok (ok13 rounds) Tryz.call13
def inst87 : Inst := mk1 [KA7] KA4
def run87 : inst87.F := fun x _ => chanceryref2_RatOf x.1
def fx87 : Ctx := fx13.add 87 (inst87.sem run87)
theorem fx87_ok : CtxOK fx87 Tryz.prog := fn_put fx13_ok feMixed 87 Tryz.f87 [.cell 2 64] (sq (rg [(nw 10), (nw 11)]) (sq (sq (rg [(rd 10), (rd 10)]) (cn (sq (rg [(rd 10), (rd 10), {}, {}, (rd 10), (rd 10), {}, {}, (wr 11)]) lf) lf)) (sq (rg [(rd 10), (rd 10), {}, (rd 10), (rd 10), {}, {}, (wr 11)]) lf))) inst87 22 run87 Tryz.func87 (by kernel_rfl) Tryz.ntmps87 (by kernel_rfl) (by intro x y; kernel_rfl) Tryz.call87
def inst138 : Inst := mk2 [KA9, KA9] KA9 KA9
def run138 : inst138.F := fun x _ => chanceryref2_Nat__Divide x.1 x.2.1
def fx138 : Ctx := fx87.add 138 (inst138.sem run138)
theorem fx138_ok : CtxOK fx138 Tryz.prog := fn_put fx87_ok feMixed 138 Tryz.f138 [.tmp 4, .tmp 5] (sq rz (sq (rg [{}, {}, (nw 10)]) (sq rz (sq (sq rz (bk (.loop [(6, (.own 11)), (7, KA9), (8, KA3), (100011, (.vec none YA13))] [((.exit 0), [(6, (.own 16)), (7, KA9), (100016, (.vec none YA13))])] (sq (sq rz (cn lf lf)) (sq (bk (sq (rg [{}, {}, {}, {}, (nw 12), {}, { wr := [12], new := [13] }, (fz 25 13)]) (bk (.loop [(6, (.own 14)), (7, KA9), (100014, (.vec none YA13))] [((.exit 2), [(6, (.own 15)), (7, KA9), (100015, (.vec none YA13))])] (sq (sq rz (cn lf lf)) (bk (sq rz (rg [{}, {}, (rd 14), (rd 14), {}, (rd 14), (wr 14)])))))))) rz))))) (sq (rg [{}, (fz 40 16)]) lf))))) inst138 43 run138 Tryz.func138 (by kernel_rfl) Tryz.ntmps138 (by kernel_rfl) (by intro x y; kernel_rfl) Tryz.call138
def inst91 : Inst := mk2 [KA4] KA7 KA3
def run91 : inst91.F := fun x _ => chanceryref2_Rat__Frac x.1
def fx91 : Ctx := fx138.add 91 (inst91.sem run91)
theorem fx91_ok : CtxOK fx91 Tryz.prog := fn_put fx138_ok feMixed 91 Tryz.f91 [.cell 2 25, .tmp 3] (sq (rg [(nw 10), (nw 11)]) (sq (sq (rg [(rd 10), (rd 10)]) (cn (sq (rg [{}, (wr 11)]) lf) lf)) (sq (rg [(rd 10), (rd 10), (rd 10), (rd 10)]) (sq (rg [(rd 10), (rd 10)]) (sq (rg [(rd 10), (rd 10)]) (sq (sq (.cut [(.normal, [(1, (.ptr 12 0)), (2, (.ptr 13 0)), (41, KA8), (100012, KA1), (100013, KA5)])] rz) (cn (sq (rg [{}, (wr 13)]) lf) lf)) (sq (rg [{}, {}, {}, {}, {}, (nw 14), (wr 14)]) (sq (.cut [(.normal, [(2, (.ptr 15 0)), (9, (.ptr 16 0)), (100015, KA5), (100016, KA5)])] (sq (rg [(rd 12), (rd 12)]) (cn (rg [(rd 14), (rd 14), {}, (rd 14), (wr 14)]) lf))) (sq (rg [(rd 16), (wr 15)]) lf))))))))) inst91 55 run91 Tryz.func91 (by kernel_rfl) Tryz.ntmps91 (by kernel_rfl) (by intro x y; kernel_rfl) Tryz.call91
def inst88 : Inst := mk1 [KA4] KA3
def run88 : inst88.F := fun x _ => chanceryref2_Rat__Places x.1
def fx88 : Ctx := fx91.add 88 (inst88.sem run88)
theorem fx88_ok : CtxOK fx88 Tryz.prog := fn_put fx91_ok feMixed 88 Tryz.f88 [.tmp 2] (sq (rg [(nw 10)]) (sq (rg [(rd 10), {}, {}, {}, {}, (nw 11), (wr 11)]) (sq (sq rz (cn (sq rz lf) lf)) (sq (rg [(rd 11), (rd 11)]) (sq rz (sq (bk (.loop [(5, KA9), (6, KA3)] [((.exit 0), [(5, KA9), (6, KA3)])] (sq (sq rz (cn lf lf)) (bk (sq rz rz))))) (sq (bk (.loop [(5, KA9), (7, KA3)] [((.exit 2), [(5, KA9), (7, KA3)])] (bk (sq (rg [{}, (nw 12), (fz 31 12)]) (sq (sq rz (cn lf lf)) (sq rz rz)))))) (sq (sq rz (cn (sq rz lf) lf)) (sq rz lf))))))))) inst88 47 run88 Tryz.func88 (by kernel_rfl) Tryz.ntmps88 (by kernel_rfl) (by intro x y; kernel_rfl) Tryz.call88
def inst163 : Inst := mk1 [KA3] KA9
def run163 : inst163.F := fun x _ => chanceryref2_Ten x.1
def fx163 : Ctx := fx88.add 163 (inst163.sem run163)
theorem fx163_ok : CtxOK fx163 Tryz.prog := fn_put fx88_ok feMixed 163 Tryz.f163 [.tmp 2] (sq rz (sq (rg [{}, {}, (nw 10)]) (sq (rg [{}, {}, (rd 10), (wr 10)]) (sq rz lf)))) inst163 11 run163 Tryz.func163 (by kernel_rfl) Tryz.ntmps163 (by kernel_rfl) (by intro x y; kernel_rfl) Tryz.call163
def inst162 : Inst := mk1 [KA9, KA9] KA9
def run162 : inst162.F := fun x _ => chanceryref2_Nat__Times x.1 x.2.1
def fx162 : Ctx := fx163.add 162 (inst162.sem run162)
theorem fx162_ok : CtxOK fx162 Tryz.prog := fn_put fx163_ok feMixed 162 Tryz.f162 [.tmp 4] (sq rz (sq (rg [{}, {}, {}, {}, {}, (nw 10)]) (sq (sq rz (bk (.loop [(5, (.own 11)), (19, KA3), (100011, (.vec none YA13))] [((.exit 0), [(5, (.own 16)), (100016, (.vec none YA13))])] (sq rz (sq (cn lf lf) (sq (bk (sq rz (sq (sq rz (bk (.loop [(5, (.own 12)), (24, KA3), (100012, (.vec none YA13))] [((.exit 2), [(5, (.own 13)), (100013, (.vec none YA13))])] (sq rz (sq (cn lf lf) (sq (bk (sq rz (rg [{}, {}, {}, {}, (rd 12), (rd 12), {}, {}, {}, {}, {}, {}, {}, {}, {}, {}, (rd 12), (wr 12)]))) rz)))))) (sq rz (sq rz (bk (.loop [(5, (.own 14)), (8, KA3), (9, KA3), (100014, (.vec none YA13))] [((.exit 4), [(5, (.own 15)), (100015, (.vec none YA13))])] (sq (sq (rg [{}, {}, (rd 14)]) (cn lf lf)) (sq (bk (sq (rg [{}, {}, (rd 14), (rd 14)]) (sq (rg [{}, {}, {}, {}, (rd 14), (wr 14)]) rz))) rz))))))))) rz)))))) (sq (rg [{}, (fz 66 16)]) lf)))) inst162 68 run162 Tryz.func162 (by kernel_rfl) Tryz.ntmps162 (by kernel_rfl) (by intro x y; kernel_rfl) Tryz.call162
def inst118 : Inst := mk1 [KA4, KA3] KA4
def run118 : inst118.F := fun x _ => chanceryref2_Rat__Scaled x.1 x.2.1
def fx118 : Ctx := fx162.add 118 (inst118.sem run118)
theorem fx118_ok : CtxOK fx118 Tryz.prog := fn_put fx162_ok feMixed 118 Tryz.f118 [.cell 4 64] (sq (rg [(nw 10), (nw 11)]) (sq (sq rz (cn (sq (rg [(rd 10), (rd 10), (rd 10), (rd 10), (rd 10), (rd 10), {}, {}, {}, {}, {}, (wr 11)]) lf) lf)) (sq (rg [(rd 10), (rd 10), (rd 10), (rd 10), {}, {}, {}, (rd 10), (rd 10), {}, (wr 11)]) lf))) inst118 28 run118 Tryz.func118 (by kernel_rfl) Tryz.ntmps118 (by kernel_rfl) (by intro x y; kernel_rfl) Tryz.call118
def inst173 : Inst := mk1 [KA4] KA4
def run173 : inst173.F := fun x _ => chanceryref2_Rat__Negative x.1
def fx173 : Ctx := fx118.add 173 (inst173.sem run173)
theorem fx173_ok : CtxOK fx173 Tryz.prog := fn_put fx118_ok feMixed 173 Tryz.f173 [.cell 2 64] (sq (rg [(nw 10), (nw 11)]) (sq (rg [(rd 10), (rd 10), {}, (rd 10), (rd 10), (rd 10), (rd 10), {}, (wr 11)]) lf)) inst173 11 run173 Tryz.func173 (by kernel_rfl) Tryz.ntmps173 (by kernel_rfl) (by intro x y; kernel_rfl) Tryz.call173
def inst178 : Inst := mk1 [] KA4
def run178 : inst178.F := fun _ _ => chanceryref2_Half
def fx178 : Ctx := fx173.add 178 (inst178.sem run178)
theorem fx178_ok : CtxOK fx178 Tryz.prog := fn_put fx173_ok feMixed 178 Tryz.f178 [.cell 0 64] (sq (rg [(nw 10)]) (sq (rg [(nw 11), (nw 12), { fz := [(1, 11), (2, 12)] }, (wr 10)]) lf)) inst178 4 run178 Tryz.func178 (by kernel_rfl) Tryz.ntmps178 (by kernel_rfl) (by intro x y; kernel_rfl) Tryz.call178
def inst120 : Inst := mk1 [KA4, KA4] KA4
def run120 : inst120.F := fun x _ => chanceryref2_Rat__Add x.1 x.2.1
def fx120 : Ctx := fx178.add 120 (inst120.sem run120)
theorem fx120_ok : CtxOK fx120 Tryz.prog := fn_put fx178_ok feMixed 120 Tryz.f120 [.cell 4 64] (sq (rg [(nw 10), (nw 11), (nw 12)]) (sq (rg [(rd 10), (rd 10), (rd 11), (rd 11), {}, (rd 11), (rd 11), (rd 10), (rd 10)]) (sq (rg [(rd 10), (rd 10), (rd 11), (rd 11), {}, {}, (nw 13), (wr 13)]) (sq (.cut [(.normal, [(4, (.ptr 14 0)), (7, (.ptr 15 0)), (100014, KA1), (100015, KA1)])] (bk (sq (rg [(rd 10), (rd 10), (rd 11), (rd 11)]) (cn (rg [(rd 10), (rd 10), {}, {}, {}, (rd 13), (wr 13), (rd 13), (wr 13)]) (sq rz (cn (rg [(rd 10), (rd 10), {}, {}, {}, (rd 13), (wr 13), (rd 13), (wr 13)]) (rg [(rd 11), (rd 11), {}, {}, {}, (rd 13), (wr 13), (rd 13), (wr 13)]))))))) (sq (rg [(rd 15), (wr 14)]) lf))))) inst120 57 run120 Tryz.func120 (by kernel_rfl) Tryz.ntmps120 (by kernel_rfl) (by intro x y; kernel_rfl) Tryz.call120
def inst179 : Inst := mk1 [KA4] KA4
def run179 : inst179.F := fun x _ => chanceryref2_Rat__Floor x.1
def fx179 : Ctx := fx120.add 179 (inst179.sem run179)
theorem fx179_ok : CtxOK fx179 Tryz.prog := fn_put fx120_ok feMixed 179 Tryz.f179 [.cell 2 64] (sq (rg [(nw 10), (nw 11)]) (sq (rg [(rd 10), (rd 10), (rd 10), (rd 10)]) (sq (.cut [(.normal, [(1, (.ptr 15 0)), (2, (.ptr 16 0)), (3, KA9), (100015, KA1), (100016, KA1)])] (sq (.cut [(.normal, [(1, (.ptr 12 0)), (2, (.ptr 13 0)), (19, KA8), (100012, KA1), (100013, KA1)])] (rg [(rd 10), (rd 10)])) (cn (rg [{}, (nw 14), (fz 21 14)]) lf))) (sq (rg [(rd 15), (rd 15), {}, (nw 17), (fz 26 17), (wr 16)]) lf)))) inst179 28 run179 Tryz.func179 (by kernel_rfl) Tryz.ntmps179 (by kernel_rfl) (by intro x y; kernel_rfl) Tryz.call179
def inst139 : Inst := mk1 [KA4] KA4
def hint139 : HC := (sq (rg [(nw 10), (nw 11)]) (sq (sq (rg [(rd 10), (rd 10)]) (cn (sq (rg [(rd 10), {}, {}, {}, (wr 11)]) lf) lf)) (sq (rg [(rd 10), {}, {}, {}, (wr 11)]) lf)))
def run139 (m : Nat) : Ks.den inst139.args -> Ks.den inst139.objs -> Option inst139.out.den := fun x _ => chanceryref2_Rat__Nearest_f m x.1
theorem ev139 : ∀ m x y, evFn (fx179.add 139 (inst139.sem (run139 m))) 13 (bodyOf Tryz.f139) [.cell 2 64] hint139 inst139 x y = run139 (m + 1) x y := by intro m x y; kernel_rfl
theorem ok139 : ∀ m, FnOK Tryz.prog fx179.glob 139 (inst139.sem (run139 m)) :=
 fn_rec fx179_ok feMixed 139 Tryz.f139 [.cell 2 64] hint139 inst139 13 run139 Tryz.func139 (by kernel_rfl) Tryz.ntmps139 (by kernel_rfl) (by kernel_rfl) Tryz.call139 (fun _ _ => rfl) ev139
def fx139 : Ctx := fx179.add 139 (inst139.sem (run139 rounds))
theorem fx139_ok : CtxOK fx139 Tryz.prog := add_ok fx179_ok (ok139 rounds) Tryz.call139
def inst140 : Inst := mk1 [KA4] KA3
def run140 : inst140.F := fun x _ => chanceryref2_Rat__Sign x.1
def fx140 : Ctx := fx139.add 140 (inst140.sem run140)
theorem fx140_ok : CtxOK fx140 Tryz.prog := fn_put fx139_ok feMixed 140 Tryz.f140 [.tmp 2] (sq (rg [(nw 10)]) (sq (bk (sq (rg [(rd 10), (rd 10)]) (cn (sq rz lf) (sq (rg [(rd 10), (rd 10)]) (cn (sq rz lf) lf))))) (sq rz lf))) inst140 11 run140 Tryz.func140 (by kernel_rfl) Tryz.ntmps140 (by kernel_rfl) (by intro x y; kernel_rfl) Tryz.call140
def inst89 : Inst := mk1 [KA4, KA3] KA10
def run89 : inst89.F := fun x _ => chanceryref2_Rat__Fixed x.1 x.2.1
def fx89 : Ctx := fx140.add 89 (inst89.sem run89)
theorem fx89_ok : CtxOK fx89 Tryz.prog := fn_put fx140_ok feMixed 89 Tryz.f89 [.tmp 4] (sq (rg [(nw 10)]) (sq (rg [(rd 10), {}, {}, {}, (nw 11), (wr 11)]) (sq (rg [(rd 11), (rd 11)]) (sq (bk (.loop [(5, (.ptr 12 0)), (6, KA10), (100012, KA1)] [((.exit 0), [(5, (.ptr 13 0)), (6, KA10), (100013, KA1)])] (sq (sq rz (cn lf lf)) (bk rz)))) (sq (.cut [(.normal, [(5, (.ptr 14 0)), (6, KA10), (100014, KA1)])] (sq rz (cn rz lf))) (sq (.cut [(.normal, [(6, KA10)])] (sq (rg [(rd 14)]) (cn rz lf))) (sq rz lf))))))) inst89 42 run89 Tryz.func89 (by kernel_rfl) Tryz.ntmps89 (by kernel_rfl) (by intro x y; kernel_rfl) Tryz.call89
def inst90 : Inst := mk1 [KA4, KA3] KA4
def run90 : inst90.F := fun x _ => chanceryref2_Rat__Round x.1 x.2.1
def fx90 : Ctx := fx89.add 90 (inst90.sem run90)
theorem fx90_ok : CtxOK fx90 Tryz.prog := fn_put fx89_ok feMixed 90 Tryz.f90 [.cell 4 64] (sq (rg [(nw 10), (nw 11)]) (sq (rg [(rd 10), {}, {}, {}, {}, {}, {}, (wr 11)]) lf)) inst90 12 run90 Tryz.func90 (by kernel_rfl) Tryz.ntmps90 (by kernel_rfl) (by intro x y; kernel_rfl) Tryz.call90
def inst37 : Inst := mk1 [KA15] KA10
def hint37 : HC := (sq (rg [(nw 10)]) (sq (sq (rg [(rd 10), (rd 10)]) (bk (sq rz (cn (sq (rg [(rd 10), (rd 10), {}, (nw 11), (wr 11)]) (sq (.cut [(.normal, [(3, (.ptr 12 0)), (100012, KA1)]), (.ret, [(2, KA10)])] (sq (rg [(rd 11)]) (sq rz (cn (sq (rg [(rd 11)]) (sq rz (cn (sq rz lf) lf))) lf)))) (sq (sq (rg [(rd 12), {}, {}, {}, {}, {}, (nw 13), (wr 13)]) (sq rz (cn (sq rz lf) lf))) (sq (rg [(rd 12)]) (sq (bk (.loop [(8, KA10)] [((.exit 1), [(8, KA10)])] (sq (sq rz (cn lf lf)) (bk rz)))) (sq (.cut [(.normal, [(8, KA10)])] (sq rz (cn rz lf))) (sq rz lf))))))) (sq rz (cn (sq (rg [(rd 10), (rd 10)]) lf) (sq rz (cn (sq (sq (rg [(rd 10), (rd 10)]) (cn (sq rz lf) lf)) (sq rz lf)) (sq rz (cn (sq (rg [(rd 10), (rd 10)]) lf) (sq rz (cn (sq (rg [(rd 10), (rd 10)]) lf) lf)))))))))))) (sq rz lf)))
def run37 (m : Nat) : Ks.den inst37.args -> Ks.den inst37.objs -> Option inst37.out.den := fun x _ => chanceryref2_Show_f m x.1
theorem ev37 : ∀ m x y, evFn (fx90.add 37 (inst37.sem (run37 m))) 80 (bodyOf Tryz.f37) [.tmp 2] hint37 inst37 x y = run37 (m + 1) x y := by intro m x y; kernel_rfl
theorem ok37 : ∀ m, FnOK Tryz.prog fx90.glob 37 (inst37.sem (run37 m)) :=
 fn_rec fx90_ok feMixed 37 Tryz.f37 [.tmp 2] hint37 inst37 80 run37 Tryz.func37 (by kernel_rfl) Tryz.ntmps37 (by kernel_rfl) (by kernel_rfl) Tryz.call37 (fun _ _ => rfl) ev37
def fx37 : Ctx := fx90.add 37 (inst37.sem (run37 rounds))
theorem fx37_ok : CtxOK fx37 Tryz.prog := add_ok fx90_ok (ok37 rounds) Tryz.call37
def inst92 : Inst := mk1 [KA15] KA15
def run92 : inst92.F := fun x _ => value_scalar x.1
def fx92 : Ctx := fx37.add 92 (inst92.sem run92)
theorem fx92_ok : CtxOK fx92 Tryz.prog := fn_put fx37_ok feMixed 92 Tryz.f92 [.cell 2 28] (sq (rg [(nw 10), (nw 11)]) (sq (sq (rg [(rd 10), {}, (wr 10)]) (sq (rg [(rd 10), (rd 10)]) (cn (sq (rg [(rd 10), (rd 10), {}, {}, (wr 11)]) lf) lf))) (sq (rg [(rd 10), (wr 11)]) lf))) inst92 13 run92 Tryz.func92 (by kernel_rfl) Tryz.ntmps92 (by kernel_rfl) (by intro x y; kernel_rfl) Tryz.call92
def inst38 : Inst := mk2 [KA15] KA7 KA3
def run38 : inst38.F := fun x _ => value_ToNumber x.1
def fx38 : Ctx := fx92.add 38 (inst38.sem run38)
theorem fx38_ok : CtxOK fx38 Tryz.prog := fn_put fx92_ok feMixed 38 Tryz.f38 [.cell 2 25, .tmp 3] (sq (rg [(nw 10), (nw 11)]) (sq (rg [(rd 10), {}, (wr 10)]) (sq (.cut [(.normal, [(1, (.ptr 12 0)), (2, (.ptr 13 0)), (100012, KA2), (100013, KA5)]), (.ret, [(2, (.ptr 14 0)), (3, KA3), (100014, KA5)])] (sq (rg [(rd 10), (rd 10)]) (cn (sq (rg [(rd 10), (rd 10), {}, (wr 10)]) (sq (rg [(rd 10), (rd 10)]) (cn (sq (rg [{}, (wr 11)]) lf) lf))) lf))) (sq (sq (rg [(rd 12), (rd 12)]) (bk (sq rz (cn (sq (rg [(rd 12), (rd 12), (wr 13)]) lf) (sq rz (cn (sq (rg [{}, (rd 12), (rd 12), (wr 13)]) lf) lf)))))) (sq (sq (rg [(rd 12), (rd 12)]) (cn (sq (rg [{}, (wr 13)]) lf) lf)) (sq (rg [{}, (wr 13)]) lf)))))) inst38 31 run38 Tryz.func38 (by kernel_rfl) Tryz.ntmps38 (by kernel_rfl) (by intro x y; kernel_rfl) Tryz.call38
def inst39 : Inst := mk2 [KA15] KA10 KA3
def run39 : inst39.F := fun x _ => value_ToText x.1
def fx39 : Ctx := fx38.add 39 (inst39.sem run39)
theorem fx39_ok : CtxOK fx39 Tryz.prog := fn_put fx38_ok feMixed 39 Tryz.f39 [.tmp 2, .tmp 3] (sq (rg [(nw 10)]) (sq (rg [(rd 10), {}, (wr 10)]) (sq (sq (rg [(rd 10), (rd 10)]) (cn (sq (rg [(rd 10), (rd 10)]) lf) lf)) (sq (rg [(rd 10)]) lf)))) inst39 13 run39 Tryz.func39 (by kernel_rfl) Tryz.ntmps39 (by kernel_rfl) (by intro x y; kernel_rfl) Tryz.call39
def inst40 : Inst := mk2 [KA15] KA8 KA3
def run40 : inst40.F := fun x _ => value_ToBool x.1
def fx40 : Ctx := fx39.add 40 (inst40.sem run40)
theorem fx40_ok : CtxOK fx40 Tryz.prog := fn_put fx39_ok feMixed 40 Tryz.f40 [.tmp 2, .tmp 3] (sq (rg [(nw 10)]) (sq (rg [(rd 10), {}, (wr 10)]) (sq (.cut [(.normal, [(1, (.ptr 11 0)), (100011, KA2)]), (.ret, [(2, KA8), (3, KA3)])] (sq (rg [(rd 10), (rd 10)]) (cn (sq (rg [(rd 10), (rd 10), {}, (wr 10)]) (sq (rg [(rd 10), (rd 10)]) (cn (sq rz lf) lf))) lf))) (sq (sq (rg [(rd 11), (rd 11)]) (bk (sq rz (cn (sq (rg [(rd 11), (rd 11), (rd 11)]) lf) (sq rz (cn (sq (rg [(rd 11), (rd 11)]) lf) lf)))))) (sq (rg [(rd 11), (rd 11)]) lf))))) inst40 29 run40 Tryz.func40 (by kernel_rfl) Tryz.ntmps40 (by kernel_rfl) (by intro x y; kernel_rfl) Tryz.call40
def inst17 : Inst := mk1 [KA3] KA15
def run17 : inst17.F := fun x _ => chanceryref2_Fault x.1
def fx17 : Ctx := fx40.add 17 (inst17.sem run17)
theorem fx17_ok : CtxOK fx17 Tryz.prog := fn_put fx40_ok feMixed 17 Tryz.f17 [.cell 2 28] (sq (rg [(nw 10)]) (sq (rg [{}, {}, (wr 10)]) lf)) inst17 5 run17 Tryz.func17 (by kernel_rfl) Tryz.ntmps17 (by kernel_rfl) (by intro x y; kernel_rfl) Tryz.call17
def inst93 : Inst := mk1 [KA15] KA15
def run93 : inst93.F := fun x _ => chanceryref2_scalar x.1
def fx93 : Ctx := fx17.add 93 (inst93.sem run93)
theorem fx93_ok : CtxOK fx93 Tryz.prog := fn_put fx17_ok feMixed 93 Tryz.f93 [.cell 2 28] (sq (rg [(nw 10), (nw 11)]) (sq (sq (rg [(rd 10)]) (cn (sq (rg [{}, (wr 11)]) lf) lf)) (sq (sq (rg [(rd 10), (rd 10)]) (cn (sq (rg [(rd 10), (rd 10), {}, {}, (wr 11)]) lf) lf)) (sq (rg [(rd 10), (wr 11)]) lf)))) inst93 15 run93 Tryz.func93 (by kernel_rfl) Tryz.ntmps93 (by kernel_rfl) (by intro x y; kernel_rfl) Tryz.call93
def inst20 : Inst := mk1 [KA10] KA15
def run20 : inst20.F := fun x _ => chanceryref2_Text x.1
def fx20 : Ctx := fx93.add 20 (inst20.sem run20)
theorem fx20_ok : CtxOK fx20 Tryz.prog := fn_put fx93_ok feMixed 20 Tryz.f20 [.cell 2 28] (sq (rg [(nw 10)]) (sq (sq rz (cn (sq (rg [{}, (wr 10)]) lf) lf)) (sq (rg [{}, {}, (wr 10)]) lf))) inst20 9 run20 Tryz.func20 (by kernel_rfl) Tryz.ntmps20 (by kernel_rfl) (by intro x y; kernel_rfl) Tryz.call20
def inst54 : Inst := mk1 [KA10] KA10
def run54 : inst54.F := fun x _ => chanceryref2_Lower x.1
def fx54 : Ctx := fx20.add 54 (inst54.sem run54)
theorem fx54_ok : CtxOK fx54 Tryz.prog := fn_put fx20_ok feMixed 54 Tryz.f54 [.tmp 2] (sq rz (sq rz (sq (sq rz (bk (.loop [(3, KA10), (8, KA3)] [((.exit 0), [(3, KA10)])] (sq rz (sq (cn lf lf) (sq (bk (sq rz (sq rz (sq (.cut [(.normal, [(5, (.val YA17))])] (sq (.cut [(.normal, [(19, KA8)])] rz) (cn rz lf))) (rg [{}, {}, (nw 10), (rd 10)]))))) rz)))))) (sq rz lf)))) inst54 29 run54 Tryz.func54 (by kernel_rfl) Tryz.ntmps54 (by kernel_rfl) (by intro x y; kernel_rfl) Tryz.call54
def inst23 : Inst := mk1 [KA8] KA15
def run23 : inst23.F := fun x _ => chanceryref2_Bool x.1
def fx23 : Ctx := fx54.add 23 (inst23.sem run23)
theorem fx23_ok : CtxOK fx23 Tryz.prog := fn_put fx54_ok feMixed 23 Tryz.f23 [.cell 2 28] (sq (rg [(nw 10)]) (sq (rg [{}, {}, (wr 10)]) lf)) inst23 5 run23 Tryz.func23 (by kernel_rfl) Tryz.ntmps23 (by kernel_rfl) (by intro x y; kernel_rfl) Tryz.call23
def inst111 : Inst := mk1 [KA10, KA10] KA8
def run111 : inst111.F := fun x _ => chanceryref2_Has x.1 x.2.1
def fx111 : Ctx := fx23.add 111 (inst111.sem run111)
theorem fx111_ok : CtxOK fx111 Tryz.prog := fn_put fx23_ok feMixed 111 Tryz.f111 [.tmp 4] (sq rz (sq rz lf)) inst111 18 run111 Tryz.func111 (by kernel_rfl) Tryz.ntmps111 (by kernel_rfl) (by intro x y; kernel_rfl) Tryz.call111
def inst114 : Inst := mk1 [(.val YA17)] KA8
def run114 : inst114.F := fun x _ => chanceryref2_Digit x.1
def fx114 : Ctx := fx111.add 114 (inst114.sem run114)
theorem fx114_ok : CtxOK fx114 Tryz.prog := fn_put fx111_ok feMixed 114 Tryz.f114 [.tmp 2] (sq rz (sq rz lf)) inst114 9 run114 Tryz.func114 (by kernel_rfl) Tryz.ntmps114 (by kernel_rfl) (by intro x y; kernel_rfl) Tryz.call114
def inst113 : Inst := mk1 [(.val YA17)] KA8
def run113 : inst113.F := fun x _ => chanceryref2_enteredNumber_1 x.1
def fx113 : Ctx := fx114.add 113 (inst113.sem run113)
theorem fx113_ok : CtxOK fx113 Tryz.prog := fn_put fx114_ok feMixed 113 Tryz.f113 [.tmp 2] (sq rz (sq rz lf)) inst113 9 run113 Tryz.func113 (by kernel_rfl) Tryz.ntmps113 (by kernel_rfl) (by intro x y; kernel_rfl) Tryz.call113
def inst112 : Inst := mk1 [KA10, (.fn 113 .unit)] KA3
def run112 : inst112.F := fun x _ => chanceryref2_span_enteredNumber_1 x.1
def fx112 : Ctx := fx113.add 112 (inst112.sem run112)
theorem fx112_ok : CtxOK fx112 Tryz.prog := fn_put fx113_ok feMixed 112 Tryz.f112 [.tmp 4] (sq rz (sq (sq rz (bk (.loop [(1, (.fn 113 .unit)), (8, KA3)] [((.exit 0), []), (.ret, [(4, KA3)])] (sq rz (sq (cn lf lf) (sq (bk (sq rz (sq rz (cn (sq rz lf) lf)))) rz)))))) (sq rz lf))) inst112 21 run112 Tryz.func112 (by kernel_rfl) Tryz.ntmps112 (by kernel_rfl) (by intro x y; kernel_rfl) Tryz.call112
def inst115 : Inst := mk1 [KA10, (.val YA17)] (.val (.sl .str))
def run115 : inst115.F := fun x _ => chanceryref2_Split x.1 x.2.1
def fx115 : Ctx := fx112.add 115 (inst115.sem run115)
theorem fx115_ok : CtxOK fx115 Tryz.prog := fn_put fx112_ok feMixed 115 Tryz.f115 [.tmp 4] (sq rz (sq rz (sq rz (sq (sq rz (bk (.loop [(5, (.own 13)), (6, KA3), (10, KA3), (100013, (.vec none .str))] [((.exit 0), [(5, (.own 14)), (6, KA3), (100014, (.vec none .str))])] (sq rz (sq (cn lf lf) (sq (.cut [(.normal, [(5, (.own 12)), (6, KA3), (100012, (.vec none .str))])] (bk (sq rz (sq rz (cn (sq (rg [{}, {}, {}, {}, {}, (nw 10), { rd := [10], wr := [13], new := [11] }]) rz) lf))))) rz)))))) (sq (rg [{}, {}, {}, {}, (nw 15), { rd := [15], wr := [14], new := [16] }]) lf))))) inst115 34 run115 Tryz.func115 (by kernel_rfl) Tryz.ntmps115 (by kernel_rfl) (by intro x y; kernel_rfl) Tryz.call115
def inst161 : Inst := mk1 [KA10, (.fn 114 .unit)] KA8
def run161 : inst161.F := fun x _ => chanceryref2_All_Digit x.1
def fx161 : Ctx := fx115.add 161 (inst161.sem run161)
theorem fx161_ok : CtxOK fx161 Tryz.prog := fn_put fx115_ok feMixed 161 Tryz.f161 [.tmp 4] (sq rz (sq (sq rz (bk (.loop [(1, (.fn 114 .unit)), (8, KA3)] [((.exit 0), []), (.ret, [(4, KA8)])] (sq rz (sq (cn lf lf) (sq (bk (sq rz (sq rz (cn (sq rz lf) lf)))) rz)))))) (sq rz lf))) inst161 18 run161 Tryz.func161 (by kernel_rfl) Tryz.ntmps161 (by kernel_rfl) (by intro x y; kernel_rfl) Tryz.call161
def inst116 : Inst := mk1 [KA10] KA8
def run116 : inst116.F := fun x _ => chanceryref2_allDigits x.1
def fx116 : Ctx := fx161.add 116 (inst116.sem run116)
theorem fx116_ok : CtxOK fx116 Tryz.prog := fn_put fx161_ok feMixed 116 Tryz.f116 [.tmp 2] (sq rz (sq rz lf)) inst116 9 run116 Tryz.func116 (by kernel_rfl) Tryz.ntmps116 (by kernel_rfl) (by intro x y; kernel_rfl) Tryz.call116
def inst112x2 : Inst := mk1 [KA10, (.fn 114 .unit)] KA3
def run112x2 : inst112x2.F := fun x _ => chanceryref2_span_Digit x.1
def fx112x2 : Ctx := fx116.more 112 (inst112x2.sem run112x2)
theorem fx112x2_ok : CtxOK fx112x2 Tryz.prog := fn_put2 fx116_ok feMixed 112 Tryz.f112 [.tmp 4] (sq rz (sq (sq rz (bk (.loop [(1, (.fn 114 .unit)), (8, KA3)] [((.exit 0), []), (.ret, [(4, KA3)])] (sq rz (sq (cn lf lf) (sq (bk (sq rz (sq rz (cn (sq rz lf) lf)))) rz)))))) (sq rz lf))) inst112x2 21 run112x2 Tryz.func112 (by kernel_rfl) Tryz.ntmps112 (by kernel_rfl) (by intro x y; kernel_rfl) Tryz.call112
def inst121 : Inst := mk1 [KA10] KA3
def run121 : inst121.F := fun x _ => chanceryref2_small x.1
def fx121 : Ctx := fx112x2.add 121 (inst121.sem run121)
theorem fx121_ok : CtxOK fx121 Tryz.prog := fn_put fx112x2_ok feMixed 121 Tryz.f121 [.tmp 2] (sq rz (sq rz (sq (sq rz (bk (.loop [(3, KA3), (7, KA3)] [((.exit 0), [(3, KA3)])] (sq rz (sq (cn lf lf) (sq (bk (sq rz rz)) rz)))))) (sq rz lf)))) inst121 20 run121 Tryz.func121 (by kernel_rfl) Tryz.ntmps121 (by kernel_rfl) (by intro x y; kernel_rfl) Tryz.call121
def inst117 : Inst := mk2 [KA10] KA4 KA3
def run117 : inst117.F := fun x _ => chanceryref2_ReadDecimal x.1
def fx117 : Ctx := fx121.add 117 (inst117.sem run117)
theorem fx117_ok : CtxOK fx117 Tryz.prog := fn_put fx121_ok feMixed 117 Tryz.f117 [.cell 2 64, .tmp 3] (sq (rg [(nw 10)]) (sq (sq rz (cn (sq (rg [{}, (wr 10)]) lf) lf)) (sq rz (sq (.cut [(.normal, [(2, (.ptr 11 0)), (4, KA10), (5, KA8), (100011, KA1)])] (sq rz (cn rz lf))) (sq rz (sq rz (sq rz (sq (.cut [(.normal, [(2, (.ptr 12 0)), (4, KA10), (8, KA10), (100012, KA1)]), (.ret, [(2, (.ptr 13 0)), (3, KA3), (100013, KA1)])] (sq rz (cn (sq rz (sq rz (sq rz (sq rz (cn (sq (rg [{}, (wr 11)]) lf) lf))))) lf))) (sq rz (sq (.cut [(.normal, [(2, (.ptr 19 0)), (9, KA3), (100019, KA1)]), (.ret, [(2, (.ptr 20 0)), (3, KA3), (100020, KA1)])] (sq rz (cn (sq rz (sq (sq (.cut [(.normal, [(2, (.ptr 14 0)), (56, KA8), (100014, KA1)])] rz) (cn (sq (rg [{}, (wr 14)]) lf) lf)) (sq rz (sq (.cut [(.normal, [(2, (.ptr 17 0)), (4, KA10), (10, KA3), (100017, KA1)])] (sq (.cut [(.normal, [(2, (.ptr 15 0)), (65, KA8), (100015, KA1)])] rz) (cn (sq (.cut [(.normal, [(2, (.ptr 16 0)), (10, KA3), (100016, KA1)])] (sq rz (cn rz lf))) rz) lf))) (sq (sq (.cut [(.normal, [(2, (.ptr 18 0)), (78, KA8), (100018, KA1)])] rz) (cn (sq (rg [{}, (wr 18)]) lf) lf)) rz))))) lf))) (sq (sq rz (cn (sq (rg [{}, (wr 19)]) lf) lf)) (sq (rg [{}, {}, {}, {}, {}, (nw 21), (fz 92 21), {}, {}, {}, {}, {}, (nw 22), (wr 22)]) (sq (rg [(rd 22), {}, {}, {}, {}, (nw 23), (wr 23)]) (sq (rg [(rd 22), {}, (wr 19)]) lf)))))))))))))) inst117 106 run117 Tryz.func117 (by kernel_rfl) Tryz.ntmps117 (by kernel_rfl) (by intro x y; kernel_rfl) Tryz.call117
def inst55 : Inst := mk2 [KA10] KA4 KA8
def run55 : inst55.F := fun x _ => chanceryref2_enteredNumber x.1
def fx55 : Ctx := fx117.add 55 (inst55.sem run55)
theorem fx55_ok : CtxOK fx55 Tryz.prog := fn_put fx117_ok feMixed 55 Tryz.f55 [.cell 2 64, .tmp 3] (sq (rg [(nw 10)]) (sq rz (sq (.cut [(.normal, [(0, KA10), (2, (.ptr 13 0)), (4, KA10), (100013, KA1)])] (sq (.cut [(.normal, [(2, (.ptr 11 0)), (18, KA8), (100011, KA1)])] rz) (cn (sq (.cut [(.normal, [(2, (.ptr 12 0)), (4, KA10), (100012, KA1)])] (sq rz (cn rz lf))) rz) lf))) (sq (.cut [(.normal, [(2, (.ptr 14 0)), (5, KA8), (100014, KA1)])] rz) (sq (.cut [(.normal, [(0, KA10), (2, (.ptr 15 0)), (100015, KA1)])] (sq rz (cn rz lf))) (sq rz (sq rz (sq rz (sq (sq rz (bk (.loop [(2, (.ptr 16 0)), (8, KA10), (48, KA3), (100016, KA1)] [((.exit 0), [(2, (.ptr 18 0)), (8, KA10), (100018, KA1)]), (.ret, [(2, (.ptr 19 0)), (3, KA8), (100019, KA1)])] (sq rz (sq (cn lf lf) (sq (bk (sq rz (sq (sq (.cut [(.normal, [(2, (.ptr 17 0)), (78, KA8), (100017, KA1)])] rz) (cn (sq (rg [{}, (wr 17)]) lf) lf)) rz))) rz)))))) (sq (rg [{}, {}, {}, {}, {}, {}, {}, {}, {}, {}, {}, (nw 20), (wr 20)]) (sq (sq rz (cn (sq (rg [{}, (wr 18)]) lf) lf)) (sq (.cut [(.normal, [(2, (.ptr 21 0)), (11, (.ptr 22 0)), (100021, KA1), (100022, KA1)])] (sq rz (cn (rg [(rd 20), {}, (wr 20)]) lf))) (sq (rg [(rd 22)]) (sq (rg [(rd 22), {}, {}, (wr 21)]) lf)))))))))))))) inst55 109 run55 Tryz.func55 (by kernel_rfl) Tryz.ntmps55 (by kernel_rfl) (by intro x y; kernel_rfl) Tryz.call55
def inst60 : Inst := mk1 [KA4] KA15
def run60 : inst60.F := fun x _ => chanceryref2_Number x.1
def fx60 : Ctx := fx55.add 60 (inst60.sem run60)
theorem fx60_ok : CtxOK fx60 Tryz.prog := fn_put fx55_ok feMixed 60 Tryz.f60 [.cell 2 28] (sq (rg [(nw 10), (nw 11)]) (sq (rg [(rd 10), {}, {}, {}, {}, (nw 12), (wr 12)]) (sq (sq rz (cn (sq (rg [{}, (wr 11)]) lf) lf)) (sq (rg [(rd 12), {}, (wr 11)]) lf)))) inst60 15 run60 Tryz.func60 (by kernel_rfl) Tryz.ntmps60 (by kernel_rfl) (by intro x y; kernel_rfl) Tryz.call60
def inst56 : Inst := mk2 [KA10] KA4 KA8
def run56 : inst56.F := fun x _ => chanceryref2_enteredMixed x.1
def fx56 : Ctx := fx60.add 56 (inst56.sem run56)
theorem fx56_ok : CtxOK fx56 Tryz.prog := fn_put fx60_ok feMixed 56 Tryz.f56 [.cell 2 64, .tmp 3] (sq (rg [(nw 10)]) (sq rz (sq (.cut [(.normal, [(0, KA10), (2, (.ptr 11 0)), (100011, KA1)])] (sq rz (cn rz lf))) (sq rz (sq (sq rz (cn (sq (rg [{}, (wr 11)]) lf) lf)) (sq rz (sq (sq rz (cn (sq (rg [{}, (wr 11)]) lf) lf)) (sq (sq rz (bk (.loop [(2, (.ptr 12 0)), (40, KA3), (100012, KA1)] [((.exit 0), [(2, (.ptr 14 0)), (100014, KA1)]), (.ret, [(2, (.ptr 15 0)), (3, KA8), (100015, KA1)])] (sq rz (sq (cn lf lf) (sq (bk (sq rz (sq (.cut [(.normal, [(2, (.ptr 13 0)), (50, KA8), (100013, KA1)])] rz) (cn (sq (rg [{}, (wr 13)]) lf) lf)))) rz)))))) (sq rz (sq (sq rz (cn (sq (rg [{}, (wr 14)]) lf) lf)) (sq (rg [{}, {}, {}, {}, (nw 16), (fz 65 16), {}, {}, {}, {}, {}, {}, {}, (nw 17), (wr 17)]) (sq (rg [{}, (rd 17), (wr 17)]) (sq (rg [(rd 17), (wr 14)]) lf))))))))))))) inst56 77 run56 Tryz.func56 (by kernel_rfl) Tryz.ntmps56 (by kernel_rfl) (by intro x y; kernel_rfl) Tryz.call56
def inst74 : Inst := mk1 [KA3] KA8
def run74 : inst74.F := fun x _ => chanceryref2_Leap x.1
def fx74 : Ctx := fx56.add 74 (inst74.sem run74)
theorem fx74_ok : CtxOK fx74 Tryz.prog := fn_put fx56_ok feMixed 74 Tryz.f74 [.tmp 2] (sq rz (sq rz lf)) inst74 16 run74 Tryz.func74 (by kernel_rfl) Tryz.ntmps74 (by kernel_rfl) (by intro x y; kernel_rfl) Tryz.call74
def inst73 : Inst := mk1 [KA3, KA3] KA3
def run73 : inst73.F := fun x _ => chanceryref2_MonthDays x.1 x.2.1
def fx73 : Ctx := fx74.add 73 (inst73.sem run73)
theorem fx73_ok : CtxOK fx73 Tryz.prog := fn_put fx74_ok feMixed 73 Tryz.f73 [.tmp 4] (sq rz (sq (sq rz (cn (sq (sq rz (cn (sq rz lf) lf)) (sq rz lf)) lf)) (sq (sq (.cut [(.normal, [(22, KA8)])] rz) (cn (sq rz lf) lf)) (sq rz lf)))) inst73 23 run73 Tryz.func73 (by kernel_rfl) Tryz.ntmps73 (by kernel_rfl) (by intro x y; kernel_rfl) Tryz.call73
def inst29 : Inst := mk1 [KA3, KA3, KA3] KA3
def run29 : inst29.F := fun x _ => chanceryref2_Day x.1 x.2.1 x.2.2.1
def fx29 : Ctx := fx73.add 29 (inst29.sem run29)
theorem fx29_ok : CtxOK fx29 Tryz.prog := fn_put fx73_ok feMixed 29 Tryz.f29 [.tmp 6] (sq rz (sq (sq (.cut [(.normal, [(34, KA8)])] rz) (cn (sq rz lf) lf)) (sq rz (sq (sq rz (bk (.loop [(7, KA3), (8, KA3)] [((.exit 0), [(7, KA3)])] (sq (sq rz (cn lf lf)) (sq (.cut [(.normal, [(7, KA3)])] (bk (sq rz (sq rz (cn rz lf))))) rz))))) (sq (sq rz (bk (.loop [(7, KA3), (9, KA3)] [((.exit 2), [(7, KA3)])] (sq (sq rz (cn lf lf)) (sq (bk rz) rz))))) (sq rz lf)))))) inst29 58 run29 Tryz.func29 (by kernel_rfl) Tryz.ntmps29 (by kernel_rfl) (by intro x y; kernel_rfl) Tryz.call29
def inst130 : Inst := mk1 [KA3] KA10
def hint130 : HC := (sq rz (sq (sq rz (cn (sq (rg [{}, {}, {}, {}, {}, {}, {}, (nw 10), (rd 10)]) lf) lf)) (sq (sq rz (cn (sq (rg [{}, {}, {}, (nw 11), (rd 11)]) lf) lf)) (sq (sq rz (cn (sq (rg [{}, {}, {}, {}, {}, {}, {}, (nw 12), (rd 12)]) lf) lf)) (sq (rg [{}, {}, {}, (nw 13), (rd 13)]) lf)))))
def run130 (m : Nat) : Ks.den inst130.args -> Ks.den inst130.objs -> Option inst130.out.den := fun x _ => chanceryref2_Decimal_f m x.1
theorem ev130 : ∀ m x y, evFn (fx29.add 130 (inst130.sem (run130 m))) 40 (bodyOf Tryz.f130) [.tmp 2] hint130 inst130 x y = run130 (m + 1) x y := by intro m x y; kernel_rfl
theorem ok130 : ∀ m, FnOK Tryz.prog fx29.glob 130 (inst130.sem (run130 m)) :=
 fn_rec fx29_ok feMixed 130 Tryz.f130 [.tmp 2] hint130 inst130 40 run130 Tryz.func130 (by kernel_rfl) Tryz.ntmps130 (by kernel_rfl) (by kernel_rfl) Tryz.call130 (fun _ _ => rfl) ev130
def fx130 : Ctx := fx29.add 130 (inst130.sem (run130 rounds))
theorem fx130_ok : CtxOK fx130 Tryz.prog := add_ok fx29_ok (ok130 rounds) Tryz.call130
def inst129 : Inst := mk1 [KA3] KA10
def run129 : inst129.F := fun x _ => chanceryref2_unsigned x.1
def fx129 : Ctx := fx130.add 129 (inst129.sem run129)
theorem fx129_ok : CtxOK fx129 Tryz.prog := fn_put fx130_ok feMixed 129 Tryz.f129 [.tmp 2] (sq rz (sq rz lf)) inst129 6 run129 Tryz.func129 (by kernel_rfl) Tryz.ntmps129 (by kernel_rfl) (by intro x y; kernel_rfl) Tryz.call129
def inst70 : Inst := mk1 [KA3] KA4
def run70 : inst70.F := fun x _ => chanceryref2_Whole x.1
def fx70 : Ctx := fx129.add 70 (inst70.sem run70)
theorem fx70_ok : CtxOK fx70 Tryz.prog := fn_put fx129_ok feMixed 70 Tryz.f70 [.cell 2 64] (sq (rg [(nw 10)]) (sq (sq rz (cn (sq (rg [{}, {}, {}, (nw 11), (fz 8 11), (wr 10)]) lf) lf)) (sq (rg [{}, {}, {}, (nw 12), (fz 13 12), (wr 10)]) lf))) inst70 15 run70 Tryz.func70 (by kernel_rfl) Tryz.ntmps70 (by kernel_rfl) (by intro x y; kernel_rfl) Tryz.call70
def inst57 : Inst := mk2 [KA10] KA4 KA8
def run57 : inst57.F := fun x _ => chanceryref2_enteredDate x.1
def fx57 : Ctx := fx70.add 57 (inst57.sem run57)
theorem fx57_ok : CtxOK fx57 Tryz.prog := fn_put fx70_ok feMixed 57 Tryz.f57 [.cell 2 64, .tmp 3] (sq (rg [(nw 10)]) (sq rz (sq (sq (.cut [(.normal, [(2, (.ptr 11 0)), (52, KA8), (100011, KA1)])] rz) (cn (sq (rg [{}, (wr 11)]) lf) lf)) (sq rz (sq (rg [{}, {}, {}, {}, (wr 11)]) lf))))) inst57 71 run57 Tryz.func57 (by kernel_rfl) Tryz.ntmps57 (by kernel_rfl) (by intro x y; kernel_rfl) Tryz.call57
def inst123 : Inst := mk1 [KA4] KA4
def run123 : inst123.F := fun x _ => chanceryref2_Rat__Inverse x.1
def fx123 : Ctx := fx57.add 123 (inst123.sem run123)
theorem fx123_ok : CtxOK fx123 Tryz.prog := fn_put fx57_ok feMixed 123 Tryz.f123 [.cell 2 64] (sq (rg [(nw 10), (nw 11)]) (sq (rg [(rd 10), (rd 10), (rd 10), (rd 10), (rd 10), (rd 10), {}, (wr 11)]) lf)) inst123 10 run123 Tryz.func123 (by kernel_rfl) Tryz.ntmps123 (by kernel_rfl) (by intro x y; kernel_rfl) Tryz.call123
def inst122 : Inst := mk1 [KA4, KA4] KA4
def run122 : inst122.F := fun x _ => chanceryref2_Rat__Mul x.1 x.2.1
def fx122 : Ctx := fx123.add 122 (inst122.sem run122)
theorem fx122_ok : CtxOK fx122 Tryz.prog := fn_put fx123_ok feMixed 122 Tryz.f122 [.cell 4 64] (sq (rg [(nw 10), (nw 11), (nw 12)]) (sq (rg [(rd 10), (rd 10), (rd 11), (rd 11), {}, (rd 10), (rd 10), (rd 11), (rd 11), {}, (rd 10), (rd 10), (rd 11), (rd 11), {}, {}, (wr 12)]) lf)) inst122 21 run122 Tryz.func122 (by kernel_rfl) Tryz.ntmps122 (by kernel_rfl) (by intro x y; kernel_rfl) Tryz.call122
def inst58 : Inst := mk2 [KA10] KA4 KA8
def run58 : inst58.F := fun x _ => chanceryref2_enteredTime x.1
def fx58 : Ctx := fx122.add 58 (inst58.sem run58)
theorem fx58_ok : CtxOK fx58 Tryz.prog := fn_put fx122_ok feMixed 58 Tryz.f58 [.cell 2 64, .tmp 3] (sq (rg [(nw 10)]) (sq rz (sq (sq (.cut [(.normal, [(2, (.ptr 11 0)), (58, KA8), (100011, KA1)])] rz) (cn (sq (rg [{}, (wr 11)]) lf) lf)) (sq (rg [{}, {}, {}, {}, {}, {}, {}, {}, {}, {}, {}, {}, (nw 12), (wr 12)]) (sq (.cut [(.normal, [(2, (.ptr 16 0)), (5, (.ptr 17 0)), (100016, KA1), (100017, KA1)]), (.ret, [(2, (.ptr 18 0)), (3, KA8), (100018, KA1)])] (sq rz (cn (sq rz (sq (sq (.cut [(.normal, [(2, (.ptr 13 0)), (5, (.ptr 14 0)), (121, KA8), (100013, KA1), (100014, KA1)])] rz) (cn (sq (rg [{}, (wr 13)]) lf) lf)) (sq (rg [(rd 14), {}, {}, {}, {}, {}, {}, (wr 14)]) (sq rz (cn (rg [(rd 14), {}, {}, {}, {}, (nw 15), (fz 138 15), {}, {}, {}, {}, {}, {}, {}, (wr 14)]) lf))))) lf))) (sq (rg [(rd 17), {}, {}, {}, (wr 16)]) lf)))))) inst58 151 run58 Tryz.func58 (by kernel_rfl) Tryz.ntmps58 (by kernel_rfl) (by intro x y; kernel_rfl) Tryz.call58
def inst59 : Inst := mk2 [KA10] KA4 KA8
def run59 : inst59.F := fun x _ => chanceryref2_enteredMoment x.1
def fx59 : Ctx := fx58.add 59 (inst59.sem run59)
theorem fx59_ok : CtxOK fx59 Tryz.prog := fn_put fx58_ok feMixed 59 Tryz.f59 [.cell 2 64, .tmp 3] (sq (rg [(nw 10)]) (sq (sq rz (bk (.loop [(2, (.ptr 11 0)), (11, KA3), (100011, KA1)] [((.exit 0), [(2, (.ptr 17 0)), (100017, KA1)]), (.ret, [(2, (.ptr 18 0)), (3, KA8), (100018, KA1)])] (sq rz (sq (cn lf lf) (sq (bk (sq rz (sq rz (cn (sq (rg [{}, {}, {}, {}, {}, {}, {}, (nw 12), (wr 12)]) (sq (rg [{}, {}, {}, {}, {}, {}, {}, {}, (nw 13), (wr 13)]) (sq (sq (.cut [(.normal, [(2, (.ptr 14 0)), (5, (.ptr 15 0)), (7, (.ptr 16 0)), (38, KA8), (100014, KA1), (100015, KA1), (100016, KA1)])] rz) (cn (sq (rg [{}, (wr 14)]) lf) lf)) (sq (rg [(rd 15), (rd 16), {}, (wr 14)]) lf)))) lf)))) rz)))))) (sq (rg [{}, (wr 17)]) lf))) inst59 45 run59 Tryz.func59 (by kernel_rfl) Tryz.ntmps59 (by kernel_rfl) (by intro x y; kernel_rfl) Tryz.call59
def inst11 : Inst := mk1 [KA10] KA15
def run11 : inst11.F := fun x _ => chanceryref2_Enter x.1
def fx11 : Ctx := fx59.add 11 (inst11.sem run11)
theorem fx11_ok : CtxOK fx11 Tryz.prog := fn_put fx59_ok feMixed 11 Tryz.f11 [.cell 2 28] (sq (rg [(nw 10)]) (sq (bk (sq rz (cn (sq (rg [{}, (wr 10)]) lf) (sq rz (cn (sq (rg [{}, (wr 10)]) lf) (sq rz (cn (sq (rg [{}, {}, {}, (wr 10)]) lf) (sq (.cut [(.normal, [(2, (.ptr 11 0)), (24, KA8), (100011, KA2)])] rz) (cn (sq (rg [{}, {}, {}, {}, (wr 11)]) lf) lf))))))))) (sq (sq rz (bk (.loop [(2, (.ptr 12 0)), (3, KA3), (100012, KA2)] [((.exit 1), [(2, (.ptr 13 0)), (100013, KA2)]), (.ret, [(2, (.ptr 14 0)), (100014, KA2)])] (sq (sq rz (cn lf lf)) (sq (bk (sq rz (cn (sq (rg [{}, {}, (wr 12)]) lf) lf))) rz))))) (sq (sq rz (bk (.again (sq rz (sq (cn lf lf) (sq (bk (sq rz (sq (rg [{}, {}, {}, {}, {}, {}, (nw 15), (wr 15)]) (sq rz (cn (sq (rg [(rd 15), {}, (wr 13)]) lf) lf))))) rz))) (.again (sq rz (sq (cn lf lf) (sq (bk (sq rz (sq (rg [{}, {}, {}, {}, {}, {}, (nw 16), (wr 16)]) (sq rz (cn (sq (rg [(rd 16), {}, (wr 13)]) lf) lf))))) rz))) (.again (sq rz (sq (cn lf lf) (sq (bk (sq rz (sq (rg [{}, {}, {}, {}, {}, {}, (nw 17), (wr 17)]) (sq rz (cn (sq (rg [(rd 17), {}, (wr 13)]) lf) lf))))) rz))) (.again (sq rz (sq (cn lf lf) (sq (bk (sq rz (sq (rg [{}, {}, {}, {}, {}, {}, (nw 18), (wr 18)]) (sq rz (cn (sq (rg [(rd 18), {}, (wr 13)]) lf) lf))))) rz))) (.again (sq rz (sq (cn lf lf) (sq (bk (sq rz (sq (rg [{}, {}, {}, {}, {}, {}, (nw 19), (wr 19)]) (sq rz (cn (sq (rg [(rd 19), {}, (wr 13)]) lf) lf))))) rz))) (.again (sq rz (sq (cn lf lf) (sq (bk (sq rz (sq rz (sq rz (cn (sq rz lf) lf))))) rz))) lf)))))))) (sq (rg [{}, {}, (wr 13)]) lf))))) inst11 64 run11 Tryz.func11 (by kernel_rfl) Tryz.ntmps11 (by kernel_rfl) (by intro x y; kernel_rfl) Tryz.call11
def inst41 : Inst := mk2 [KA15] KA4 KA3
def run41 : inst41.F := fun x _ => chanceryref2_ToNumber x.1
def fx41 : Ctx := fx11.add 41 (inst41.sem run41)
theorem fx41_ok : CtxOK fx41 Tryz.prog := fn_put fx11_ok feMixed 41 Tryz.f41 [.cell 2 64, .tmp 3] (sq (rg [(nw 10), (nw 11)]) (sq (rg [(rd 10), {}, (wr 10)]) (sq (.cut [(.normal, [(1, (.ptr 12 0)), (2, (.ptr 13 0)), (100012, KA2), (100013, KA1)]), (.ret, [(2, (.ptr 14 0)), (3, KA3), (100014, KA1)])] (sq (rg [(rd 10), (rd 10)]) (cn (sq (rg [(rd 10), (rd 10), {}, (wr 10)]) (sq (rg [(rd 10), (rd 10)]) (cn (sq (rg [{}, (wr 11)]) lf) lf))) lf))) (sq (bk (sq (rg [(rd 12), (rd 12)]) (cn (sq (rg [{}, (rd 12), (rd 12), (wr 13)]) lf) (sq (rg [(rd 12), (rd 12)]) (cn (sq (rg [(rd 12), (rd 12), {}, (wr 13)]) lf) (sq (rg [(rd 12), (rd 12)]) (cn (sq (rg [{}, (wr 13)]) lf) lf))))))) (sq (rg [{}, (wr 13)]) lf))))) inst41 35 run41 Tryz.func41 (by kernel_rfl) Tryz.ntmps41 (by kernel_rfl) (by intro x y; kernel_rfl) Tryz.call41
def inst42 : Inst := mk2 [KA15] KA10 KA3
def run42 : inst42.F := fun x _ => chanceryref2_ToText x.1
def fx42 : Ctx := fx41.add 42 (inst42.sem run42)
theorem fx42_ok : CtxOK fx42 Tryz.prog := fn_put fx41_ok feMixed 42 Tryz.f42 [.tmp 2, .tmp 3] (sq (rg [(nw 10)]) (sq (rg [(rd 10), {}, (wr 10)]) (sq (sq (rg [(rd 10), (rd 10)]) (cn (sq (rg [(rd 10), (rd 10)]) lf) lf)) (sq (rg [(rd 10)]) lf)))) inst42 13 run42 Tryz.func42 (by kernel_rfl) Tryz.ntmps42 (by kernel_rfl) (by intro x y; kernel_rfl) Tryz.call42
def inst43 : Inst := mk2 [KA15] KA8 KA3
def run43 : inst43.F := fun x _ => chanceryref2_ToBool x.1
def fx43 : Ctx := fx42.add 43 (inst43.sem run43)
theorem fx43_ok : CtxOK fx43 Tryz.prog := fn_put fx42_ok feMixed 43 Tryz.f43 [.tmp 2, .tmp 3] (sq (rg [(nw 10)]) (sq (rg [(rd 10), {}, (wr 10)]) (sq (.cut [(.normal, [(1, (.ptr 11 0)), (100011, KA2)]), (.ret, [(2, KA8), (3, KA3)])] (sq (rg [(rd 10), (rd 10)]) (cn (sq (rg [(rd 10), (rd 10), {}, (wr 10)]) (sq (rg [(rd 10), (rd 10)]) (cn (sq rz lf) lf))) lf))) (sq (sq (rg [(rd 11), (rd 11)]) (cn (sq (rg [(rd 11), (rd 11)]) lf) lf)) (sq (rg [(rd 11), (rd 11), {}, (rd 11), (rd 11), {}, {}, (rd 11), (rd 11), (rd 11)]) lf))))) inst43 33 run43 Tryz.func43 (by kernel_rfl) Tryz.ntmps43 (by kernel_rfl) (by intro x y; kernel_rfl) Tryz.call43
def inst44 : Inst := mk1 [KA7, KA3, KA4] KA8
def hint44 : HC := (sq (rg [(nw 10), (nw 11)]) (sq (rg [(rd 11), {}, {}, {}, {}, (nw 12), (wr 12)]) (sq (rg [(rd 10), (rd 12)]) lf)))
def run44 : inst44.F := fun x _ => chancerylaw2_frac x.1 x.2.1 x.2.2.1
theorem ok44 : FnOK Tryz.prog fx43.glob 44 (inst44.sem run44) :=
 fn_add fx43_ok feMixed 44 Tryz.f44 [.tmp 6] hint44 inst44 22 run44 Tryz.func44 (by kernel_rfl) Tryz.ntmps44 (by kernel_rfl) (by kernel_rfl) (by intro x y; kernel_rfl)
def fx44 : Ctx := fx43.add 44 (inst44.sem run44)
theorem fx44_ok : CtxOK fx44 Tryz.prog := add_ok fx43_ok ok44 Tryz.call44
def inst7 : Inst := mk1 [KA15] KA8
def hint7 : HC := (sq (rg [(nw 10)]) (sq (sq rz (cn (sq rz lf) lf)) (sq (rg [(rd 10)]) (sq (sq (rg [(rd 10)]) (sq (.cut [(.normal, [(1, (.ptr 11 0)), (47, KA8), (100011, KA2)])] (rg [{}, {}, {}, {}, {}, {}, {}, {}, {}, {}, {}, {}, {}, {}, {}, {}, (rd 10)])) (cn (sq rz lf) lf))) (sq (rg [(rd 11), {}, {}, {}, {}, (nw 12), (wr 12)]) (sq (rg [(rd 11)]) (sq (rg [(rd 11)]) (sq (rg [(rd 11), {}, {}, {}, {}, (nw 13), (wr 13)]) (sq (rg [(rd 11)]) (sq (rg [(rd 11)]) (sq (sq (.cut [(.normal, [(94, KA8)])] (rg [{}, {}, {}, (rd 12), (rd 13), {}, {}, {}, {}, {}, {}, {}, (rd 12)])) (cn (sq rz lf) lf)) (sq rz lf))))))))))))
def run7 : inst7.F := fun x _ => chancerylaw2_ValueConversionsMatch x.1
theorem ok7 : FnOK Tryz.prog fx44.glob 7 (inst7.sem run7) :=
 fn_add fx44_ok feMixed 7 Tryz.f7 [.tmp 2] hint7 inst7 118 run7 Tryz.func7 (by kernel_rfl) Tryz.ntmps7 (by kernel_rfl) (by kernel_rfl) (by intro x y; kernel_rfl)
def fx7 : Ctx := fx44.add 7 (inst7.sem run7)
theorem fx7_ok : CtxOK fx7 Tryz.prog := add_ok fx44_ok ok7 Tryz.call7
end
end Go.Proofs.YtmbejoibeninmaaGreatDoor
