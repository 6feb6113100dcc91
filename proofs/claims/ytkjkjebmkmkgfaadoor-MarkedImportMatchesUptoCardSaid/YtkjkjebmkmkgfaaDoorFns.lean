/- The contracts that say what the program's functions come to. Printed by a program (fegen.py). -/
import Derived.Test.YtkjkjebmkmkgfaaDoorFun
import Derived.Test.YtkjkjebmkmkgfaaDoorShelf
import Derived.WalkKit
import Derived.Lib.Builder
import Derived.BigRegion
import Derived.Test.YtkjkjebmkmkgfaaDoorProg
namespace Go.Proofs
open Go Go.RowKit
set_option maxRecDepth 100000
theorem Tryd.bldUsed (b : Nat) (w : World) (h0 : w.cell? ⟨b, 0, none⟩ = some (.pointer (some ⟨b, 0, none⟩))) :
    Calls Tryd.prog 58 #[.pointer (some ⟨b, 0, none⟩)] w fun e w' => e = .returned (.tuple #[]) ∧ w' = w := by
  obtain ⟨j, hj, _⟩ := Option.map_eq_some_iff.1 (show (Tryd.prog.info? 87).map (·.size) = some 2 by kernel_rfl)
  go_enter Tryd.func58, Tryd.ntmps58
  go_wp2
  rw [Lib.run_neq_ptr_same w _ Tryd.underlying85 hj]
  go_wp2
  go_end0
  exact ⟨rfl, rfl⟩

theorem Tryd.bldFresh (b : Nat) (w : World) (h0 : w.cell? ⟨b, 0, none⟩ = some (.pointer none)) (hsh : w.shape? b = some (87, 2)) (hfz : w.frozen? ⟨b, 0, none⟩ = false) :
    Calls Tryd.prog 58 #[.pointer (some ⟨b, 0, none⟩)] w fun e w' => e = .returned (.tuple #[]) ∧ w' = w.setCell ⟨b, 0, none⟩ (.pointer (some ⟨b, 0, none⟩)) := by
  obtain ⟨j, hj, hjs⟩ := Option.map_eq_some_iff.1 (show (Tryd.prog.info? 87).map (·.size) = some 2 by kernel_rfl)
  have hlies : liesAt Tryd.prog Tryd.prog.depth 87 (2 / Tryd.prog.cellsOf 87) 0 87 1 = true := by kernel_rfl
  go_enter Tryd.func58, Tryd.ntmps58
  go_wp2
  rw [Lib.run_to_unsafe w ⟨b, 0, none⟩ Tryd.underlying85 Tryd.underlying109 hj (by rw [hjs]; decide) hsh (Nat.zero_lt_succ 1)]
  simp only [Result.andThen]
  rw [Oper.upon_value]
  go_wp2
  rw [run_callFunc_extern Tryd.func67 (by kernel_rfl) (by kernel_rfl) (by kernel_rfl) (e := Extern.AbiNoEscape.same) (by kernel_rfl)]
  rw [Lib.run_noEscape]
  simp only [Result.andThen]
  rw [Oper.upon_value]
  go_wp2
  rw [Lib.run_from_unsafe w ⟨b, 0, none⟩ Tryd.underlying109 Tryd.underlying85 hj hsh hlies]
  simp only [Result.andThen]
  rw [Oper.upon_value]
  go_wp2
  go_end0
  exact ⟨rfl, rfl⟩

set_option maxHeartbeats 2000000 in
theorem Tryd.bldStr (b : Nat) (v pv : Value) (a : Option Addr) (n cap : Nat) (s : ByteArray) (w w2 : World) (hv : v = .slice a n cap) (hc : w.cell? ⟨b, 1, none⟩ = some v)
    (h1 : (Builtin.unsafeSliceData_ #[62] 99 #[v]).run Tryd.prog w.drew = .ok pv w.drew) (h2 : (Builtin.unsafeString_ #[99, 3] 9 #[pv, .int .i64 n]).run Tryd.prog w.drew = .ok (.string s) w2) :
    Calls Tryd.prog 45 #[.pointer (some ⟨b, 0, none⟩)] w fun e w' => e = .returned (.string s) ∧ w' = w2 := by
  subst hv
  have hc : w.drew.cell? ⟨b, 1, none⟩ = some (.slice a n cap) := hc
  have mixed : Tryd.prog.follows .mixedOrders = true := by kernel_rfl
  go_enter Tryd.func45, Tryd.ntmps45
  go_wp2
  go_region
  all_goals (go_wp2; go_ret; exact ⟨rfl, rfl⟩)

end Go.Proofs
namespace Go.Proofs.YtkjkjebmkmkgfaaDoor
open Go Go.Fe

abbrev YA0 : Ty := (.pair (.int .i64) (.pair (.int .i64) (.pair (.int .i64) (.pair (.int .i64) (.pair .str .unit)))))
abbrev KA2 : K := (.val (.int .i64))
abbrev YA3 : Ty := (.pair .str (.pair .str .unit))
abbrev YA1 : Ty := (.pair (.int .i64) (.pair (.int .i64) (.pair (.sl YA3) .unit)))
abbrev KA4 : K := (.val .str)
abbrev YA5 : Ty := (.pair (.int .i64) (.pair (.int .i64) (.pair .bool (.pair .bool .unit))))
abbrev KA7 : K := (.val .bool)
abbrev KA8 : K := (.val (.arr 4 .bool))
abbrev KA6 : K := (.rcd (.cons (.own 1) (.cons (.own 2) (.cons KA8 (.cons KA4 .unit)))))
abbrev KA9 : K := (.rcd (.cons KA2 (.cons KA2 (.cons KA7 (.cons KA7 .unit)))))
abbrev KA10 : K := (.rcd (.cons (.own 15) (.cons (.own 16) (.cons KA8 (.cons KA4 .unit)))))
abbrev YA11 : Ty := (.int .u8)
abbrev rd (n : Nat) : OH := { rd := [n] }
abbrev wr (n : Nat) : OH := { wr := [n] }
abbrev nw (n : Nat) : OH := { new := [n] }
abbrev fz (k n : Nat) : OH := { fz := [(k, n)] }
abbrev rz : HC := .region []
abbrev rg := HC.region
abbrev sq := HC.seq
abbrev cn := HC.cond
abbrev bk := HC.block
abbrev lf := HC.leaf
def feTab : List (TypeId × Ty) := [(3, (.int .i64)), (4, .bool), (5, YA11), (9, .str), (21, (.int .i32)), (22, (.sl YA1)), (23, (.sl YA0)), (28, (.sl YA3)), (30, YA1), (32, YA3), (38, YA0), (41, (.arr 4 .bool)), (43, (.pair (.sl YA1) (.pair (.sl YA0) (.pair (.arr 4 .bool) (.pair .str .unit))))), (44, (.sl .str)), (62, (.sl YA11)), (63, (.sl YA5)), (66, YA5), (69, (.arr 4 .str)), (74, (.arr 256 .bool)), (83, YA3), (84, (.arr 4 YA3)), (100, (.int .u64)), (111, (.int .u32)), (125, (.int .u64))]
noncomputable def fe0 : Ctx := (Ctx.withBld (Ctx.base feTab (globOf [(0, ⟨(.arr 4 YA3), some [([42, 42], [98, 111, 108, 100], ()), ([42], [105, 116, 97, 108, 105, 99], ()), ([126, 126], [115, 116, 114, 105, 107, 101], ()), ([96], [102, 105, 120, 101, 100], ())]⟩), (1, ⟨(.int .i64), none⟩), (2, ⟨(.arr 256 YA11), some runeFirst⟩), (3, ⟨(.arr 16 (.pair YA11 (.pair YA11 .unit))), some runeAccept⟩)])) [87]).eqs [(32, YA3), (38, YA0)]
theorem fe0_ok : CtxOK fe0 Tryd.prog := eqs_ok (bld_ok (base_ok (by kernel_rfl)) (by kernel_rfl)) (by kernel_rfl)
theorem feMixed : Tryd.prog.follows .mixedOrders = true := by kernel_rfl
noncomputable def fx10 : Ctx := fe0.add 10 (shelfSem [.str, .str] [.str] sTrimSuffix)
theorem fx10_ok : CtxOK fx10 Tryd.prog := add_ok fe0_ok (okTrimSuffix Tryd.strings_TrimSuffix) Tryd.call10
noncomputable def fx23 : Ctx := fx10.add 23 (shelfSem [.str, .str] [.bool] sHasPrefix)
theorem fx23_ok : CtxOK fx23 Tryd.prog := add_ok fx10_ok (okHasPrefix Tryd.strings_HasPrefix) Tryd.call23
noncomputable def fx24 : Ctx := fx23.add 24 (shelfSem [.str, .str] [.str, .bool] sCutPrefix)
theorem fx24_ok : CtxOK fx24 Tryd.prog := add_ok fx23_ok (okCutPrefix Tryd.strings_CutPrefix) Tryd.call24
noncomputable def fx31 : Ctx := fx24.add 31 (shelfSem [.str, (.int .i64)] [(.sl .str)] (sNever [Ty.str, (Ty.int .i64)] [(Ty.sl .str)]))
theorem fx31_ok : CtxOK fx31 Tryd.prog := add_ok fx24_ok (okNever (l := [.str, (.int .i64)]) (r := [(.sl .str)])) Tryd.call31
noncomputable def fx32 : Ctx := fx31.add 32 (shelfSem [.str, .str] [(.int .i64)] sCount)
theorem fx32_ok : CtxOK fx32 Tryd.prog := add_ok fx31_ok (okCount Tryd.strings_Count_one) Tryd.call32
noncomputable def fx38 : Ctx := fx32.add 38 (shelfSem [.str, .str] [.str] (sNever [Ty.str, Ty.str] [Ty.str]))
theorem fx38_ok : CtxOK fx38 Tryd.prog := add_ok fx32_ok (okNever (l := [.str, .str]) (r := [.str])) Tryd.call38
noncomputable def fx41 : Ctx := fx38.add 41 (shelfSem [.str] [(.int .i32), (.int .i64)] sRune)
theorem fx41_ok : CtxOK fx41 Tryd.prog := add_ok fx38_ok (okRune (g3 := 2) (g4 := 3) rfl rfl Tryd.utf8_DecodeRuneInString) Tryd.call41
noncomputable def fx45 : Ctx := fx41.add 45 bldStr
theorem fx45_ok : CtxOK fx45 Tryd.prog := add_ok fx41_ok (bld_str (i := 45) (Ts := 62) (Tp := 99) (Ti := 3) (Tz := 9) Tryd.underlying99 (by kernel_rfl) Tryd.bldStr) Tryd.call45
noncomputable def fx51 : Ctx := fx45.add 51 (shelfSem [.str, .str] [(.int .i64)] sIndex)
theorem fx51_ok : CtxOK fx51 Tryd.prog := add_ok fx45_ok (okIndex Tryd.stringslite_Index_one) Tryd.call51
noncomputable def fx57 : Ctx := fx51.add 57 (shelfSem [.str, .str] [(.int .i64)] sCompare)
theorem fx57_ok : CtxOK fx57 Tryd.prog := add_ok fx51_ok (okCompare Tryd.strings_Compare) Tryd.call57
noncomputable def fx58 : Ctx := fx57.add 58 (bldCopy 87)
theorem fx58_ok : CtxOK fx58 Tryd.prog := add_ok fx57_ok (bld_copy Tryd.bldUsed Tryd.bldFresh) Tryd.call58
noncomputable def fx70 : Ctx := fx58.add 70 (shelfSem [.str, YA11] [(.int .i64)] sIndexByte)
theorem fx70_ok : CtxOK fx70 Tryd.prog := add_ok fx58_ok (okIndexByte Tryd.strings_IndexByte) Tryd.call70
def inst33 : Inst := mk1 [KA4, KA4] KA2
noncomputable def run33 : inst33.F := fun x _ => strings_Index x.1 x.2.1
noncomputable def fx33 : Ctx := fx70.add 33 (inst33.sem run33)
theorem fx33_ok : CtxOK fx33 Tryd.prog := fn_put fx70_ok feMixed 33 Tryd.f33 [.tmp 4] (sq rz (sq rz lf)) inst33 8 run33 Tryd.func33 (by kernel_rfl) Tryd.ntmps33 (by kernel_rfl) (by intro x y; kernel_rfl) Tryd.call33
def inst20 : Inst := { args := [KA4, KA4, KA2, KA2], objs := [], nres := 1, out := [(90000, (.own 0)), (100000, (.vec none .str))], news := 1 }
noncomputable def run20 : inst20.F := fun x _ => strings_genSplit x.1 x.2.1 x.2.2.1 x.2.2.2.1
noncomputable def fx20 : Ctx := fx33.add 20 (inst20.sem run20)
theorem fx20_ok : CtxOK fx20 Tryd.prog := fn_put fx33_ok feMixed 20 Tryd.f20 [.tmp 8] (sq rz (sq (sq rz (cn lf lf)) (sq (sq rz (cn lf lf)) (sq (.cut [(.normal, [(3, KA2)])] (sq rz (cn rz lf))) (sq rz (sq (rg [{}, (nw 10)]) (sq rz (sq rz (sq (bk (.loop [(0, KA4), (9, (.own 10)), (10, KA2), (100010, (.vec none .str))] [((.exit 0), [(0, KA4), (9, (.own 10)), (10, KA2), (100010, (.vec none .str))])] (sq (sq rz (cn lf lf)) (bk (sq rz (sq (sq rz (cn lf lf)) (sq (rg [{}, {}, {}, {}, {}, {}, {}, (rd 10), (wr 10)]) (sq rz rz)))))))) (sq (rg [{}, {}, {}, (rd 10), (wr 10)]) (sq (rg [{}, {}, {}, { wr := [10], new := [11] }]) lf))))))))))) inst20 66 run20 Tryd.func20 (by kernel_rfl) Tryd.ntmps20 (by kernel_rfl) (by intro x y; kernel_rfl) Tryd.call20
def inst9 : Inst := { args := [KA4, KA4], objs := [], nres := 1, out := [(90000, (.own 0)), (100000, (.vec none .str))], news := 1 }
noncomputable def run9 : inst9.F := fun x _ => strings_Split x.1 x.2.1
noncomputable def fx9 : Ctx := fx20.add 9 (inst9.sem run9)
theorem fx9_ok : CtxOK fx9 Tryd.prog := fn_put fx20_ok feMixed 9 Tryd.f9 [.tmp 4] (sq rz (sq (rg [{}, {}, (nw 10)]) lf)) inst9 8 run9 Tryd.func9 (by kernel_rfl) Tryd.ntmps9 (by kernel_rfl) (by intro x y; kernel_rfl) Tryd.call9
def inst35 : Inst := mk1 [KA4, (.val YA11)] KA4
noncomputable def run35 : inst35.F := fun x _ => strings_trimLeftByte x.1 x.2.1
noncomputable def fx35 : Ctx := fx9.add 35 (inst35.sem run35)
theorem fx35_ok : CtxOK fx35 Tryd.prog := fn_put fx9_ok feMixed 35 Tryd.f35 [.tmp 4] (sq rz (sq (bk (.loop [(0, KA4)] [((.exit 0), [(0, KA4)])] (sq (sq (.cut [(.normal, [(13, KA7)])] rz) (cn lf lf)) (bk rz)))) (sq rz lf))) inst35 17 run35 Tryd.func35 (by kernel_rfl) Tryd.ntmps35 (by kernel_rfl) (by intro x y; kernel_rfl) Tryd.call35
def inst36 : Inst := mk2 [KA4] (.val (.arr 256 .bool)) KA7
noncomputable def run36 : inst36.F := fun x _ => strings_makeASCIISet x.1
noncomputable def fx36 : Ctx := fx35.add 36 (inst36.sem run36)
theorem fx36_ok : CtxOK fx36 Tryd.prog := fn_put fx35_ok feMixed 36 Tryd.f36 [.cell 2 74, .tmp 3] (sq (rg [(nw 10)]) (sq (sq rz (bk (.loop [(2, (.ptr 10 0)), (4, KA2), (100010, (.vec (some 256) .bool))] [((.exit 0), [(2, (.ptr 10 0)), (100010, (.vec (some 256) .bool))]), (.ret, [(2, (.ptr 10 0)), (3, KA7), (100010, (.vec (some 256) .bool))])] (sq (sq rz (cn lf lf)) (sq (bk (sq rz (sq (sq rz (cn (sq (rg [(rd 10), (wr 10)]) lf) lf)) (rg [{}, (rd 10), (wr 10)])))) rz))))) (sq (rg [(rd 10), (wr 10)]) lf))) inst36 21 run36 Tryd.func36 (by kernel_rfl) Tryd.ntmps36 (by kernel_rfl) (by intro x y; kernel_rfl) Tryd.call36
def inst52 : Inst := { args := [(.ptr 0 0), (.val YA11)], objs := [(.vec (some 256) .bool)], nres := 1, out := [(90000, KA7), (0, (.ptr 0 0)), (100000, (.vec (some 256) .bool))], news := 0 }
noncomputable def run52 : inst52.F := fun x y => _strings_asciiSet__contains x.2.1 y.1
noncomputable def fx52 : Ctx := fx36.add 52 (inst52.sem run52)
theorem fx52_ok : CtxOK fx52 Tryd.prog := fn_put fx36_ok feMixed 52 Tryd.f52 [.tmp 4] (sq rz (sq (rg [{}, {}, (rd 0), (rd 0), (rd 0)]) lf)) inst52 10 run52 Tryd.func52 (by kernel_rfl) Tryd.ntmps52 (by kernel_rfl) (by intro x y; kernel_rfl) Tryd.call52
def inst37 : Inst := { args := [KA4, (.ptr 0 0)], objs := [(.vec (some 256) .bool)], nres := 1, out := [(90000, KA4), (1, (.ptr 0 0)), (100000, (.vec (some 256) .bool))], news := 0 }
noncomputable def run37 : inst37.F := fun x y => strings_trimLeftASCII x.1 y.1
noncomputable def fx37 : Ctx := fx52.add 37 (inst37.sem run37)
theorem fx37_ok : CtxOK fx37 Tryd.prog := fn_put fx52_ok feMixed 37 Tryd.f37 [.tmp 4] (sq rz (sq (bk (.loop [(0, KA4), (1, (.ptr 0 0)), (100000, (.vec (some 256) .bool))] [((.exit 0), [(0, KA4), (1, (.ptr 0 0)), (100000, (.vec (some 256) .bool))])] (sq (sq rz (cn lf lf)) (bk (sq (sq (rg [{}, {}, {}, (wr 0)]) (cn lf lf)) rz))))) (sq rz lf))) inst37 16 run37 Tryd.func37 (by kernel_rfl) Tryd.ntmps37 (by kernel_rfl) (by intro x y; kernel_rfl) Tryd.call37
def inst22 : Inst := mk1 [KA4, KA4] KA4
noncomputable def run22 : inst22.F := fun x _ => strings_TrimLeft x.1 x.2.1
noncomputable def fx22 : Ctx := fx37.add 22 (inst22.sem run22)
theorem fx22_ok : CtxOK fx22 Tryd.prog := fn_put fx37_ok feMixed 22 Tryd.f22 [.tmp 4] (sq rz (sq (sq (.cut [(.normal, [(12, KA7)])] rz) (cn (sq rz lf) lf)) (sq (sq (.cut [(.normal, [(21, KA7)])] rz) (cn (sq rz lf) lf)) (sq (sq (rg [{}, {}, {}, {}, {}, (nw 10), (wr 10)]) (sq rz (cn (sq (rg [{}, (wr 10)]) lf) lf))) (sq rz lf))))) inst22 37 run22 Tryd.func22 (by kernel_rfl) Tryd.ntmps22 (by kernel_rfl) (by intro x y; kernel_rfl) Tryd.call22
def inst11 : Inst := mk2 [KA4] KA4 (.val (.sl YA3))
noncomputable def run11 : inst11.F := fun x _ => marked_marks x.1
noncomputable def fx11 : Ctx := fx22.add 11 (inst11.sem run11)
theorem fx11_ok : CtxOK fx11 Tryd.prog := fn_put fx22_ok feMixed 11 Tryd.f11 [.tmp 2, .tmp 3] (sq rz (sq rz (sq (sq (.cut [(.normal, [(27, KA7)])] rz) (cn (sq (rg [{}, {}, {}, {}, {}, {}, {}, {}, {}, (nw 10)]) lf) lf)) (sq rz (sq (sq (.cut [(.normal, [(50, KA7)])] rz) (cn (sq rz lf) lf)) (sq rz (sq (.cut [(.normal, [(5, (.own 12)), (100012, (.vec none YA3))])] (sq rz (cn (rg [{}, {}, {}, {}, {}, {}, (nw 11)]) lf))) (sq (sq rz (sq rz (cn (sq (rg [{}, {}, {}, (nw 13), { rd := [13], wr := [12], new := [14] }]) lf) lf))) (sq (sq rz (sq rz (cn (sq (rg [{}, {}, {}, (nw 15), { rd := [15], wr := [12], new := [16] }]) lf) lf))) (sq rz lf)))))))))) inst11 88 run11 Tryd.func11 (by kernel_rfl) Tryd.ntmps11 (by kernel_rfl) (by intro x y; kernel_rfl) Tryd.call11
def inst42 : Inst := mk1 [KA2] KA7
noncomputable def run42 : inst42.F := fun x _ => flow_Char x.1
noncomputable def fx42 : Ctx := fx11.add 42 (inst42.sem run42)
theorem fx42_ok : CtxOK fx42 Tryd.prog := fn_put fx11_ok feMixed 42 Tryd.f42 [.tmp 2] (sq rz (sq rz lf)) inst42 33 run42 Tryd.func42 (by kernel_rfl) Tryd.ntmps42 (by kernel_rfl) (by intro x y; kernel_rfl) Tryd.call42
def inst80 : Inst := mk1 [(.val (.int .u32))] KA2
noncomputable def run80 : inst80.F := fun x _ => bits_Len32 x.1
noncomputable def fx80 : Ctx := fx42.add 80 (inst80.sem run80)
theorem fx80_ok : CtxOK fx80 Tryd.prog := fn_put fx42_ok feMixed 80 Tryd.f80 [.tmp 2] (sq rz (sq (.cut [(.normal, [(0, (.val (.int .u32))), (2, KA2)])] (sq rz (cn (sq rz rz) lf))) (sq (.cut [(.normal, [(0, (.val (.int .u32))), (2, KA2)])] (sq rz (cn (sq rz rz) lf))) (sq rz lf)))) inst80 19 run80 Tryd.func80 (by kernel_rfl) Tryd.ntmps80 (by kernel_rfl) (by intro x y; kernel_rfl) Tryd.call80
def inst81 : Inst := mk1 [(.val (.int .u64))] KA2
noncomputable def run81 : inst81.F := fun x _ => bits_Len64 x.1
noncomputable def fx81 : Ctx := fx80.add 81 (inst81.sem run81)
theorem fx81_ok : CtxOK fx81 Tryd.prog := fn_put fx80_ok feMixed 81 Tryd.f81 [.tmp 2] (sq rz (sq (.cut [(.normal, [(0, (.val (.int .u64))), (2, KA2)])] (sq rz (cn (sq rz rz) lf))) (sq (.cut [(.normal, [(0, (.val (.int .u64))), (2, KA2)])] (sq rz (cn (sq rz rz) lf))) (sq (.cut [(.normal, [(0, (.val (.int .u64))), (2, KA2)])] (sq rz (cn (sq rz rz) lf))) (sq rz lf))))) inst81 25 run81 Tryd.func81 (by kernel_rfl) Tryd.ntmps81 (by kernel_rfl) (by intro x y; kernel_rfl) Tryd.call81
def inst65 : Inst := mk1 [(.val (.int .u64))] KA2
noncomputable def run65 : inst65.F := fun x _ => bits_Len x.1
noncomputable def fx65 : Ctx := fx81.add 65 (inst65.sem run65)
theorem fx65_ok : CtxOK fx65 Tryd.prog := fn_put fx81_ok feMixed 65 Tryd.f65 [.tmp 2] (sq rz (sq (cn (sq rz lf) lf) (sq rz lf))) inst65 8 run65 Tryd.func65 (by kernel_rfl) Tryd.ntmps65 (by kernel_rfl) (by intro x y; kernel_rfl) Tryd.call65
def inst56 : Inst := mk1 [(.val YA3), (.val YA3)] KA2
noncomputable def run56 : inst56.F := fun x _ => marked_reader__attrs_1 x.1 x.2.1
noncomputable def fx56 : Ctx := fx65.add 56 (inst56.sem run56)
theorem fx56_ok : CtxOK fx56 Tryd.prog := fn_put fx65_ok feMixed 56 Tryd.f56 [.tmp 4] (sq (rg [(nw 10), (nw 11)]) (sq (rg [(rd 10), (rd 10), (rd 11), (rd 11)]) lf)) inst56 10 run56 Tryd.func56 (by kernel_rfl) Tryd.ntmps56 (by kernel_rfl) (by intro x y; kernel_rfl) Tryd.call56
def inst72 : Inst := { args := [(.own 0), KA2, KA2, (.fn 56 .unit)], objs := [(.vec none YA3)], nres := 0, out := [(0, (.own 0)), (100000, (.vec none YA3))], news := 0 }
noncomputable def run72 : inst72.F := fun x y => api_Attr__attrs_1xx x.2.1 x.2.2.1 y.1
noncomputable def fx72 : Ctx := fx56.add 72 (inst72.sem run72)
theorem fx72_ok : CtxOK fx72 Tryd.prog := fn_put fx56_ok feMixed 72 Tryd.f72 [] (sq rz (bk (.loop [(0, (.own 0)), (3, (.fn 56 .unit)), (8, KA2), (100000, (.vec none YA3))] [((.exit 0), [(0, (.own 0)), (100000, (.vec none YA3))])] (sq (sq rz (cn lf lf)) (sq (bk (sq rz (bk (.loop [(0, (.own 0)), (3, (.fn 56 .unit)), (9, KA2), (100000, (.vec none YA3))] [((.exit 2), [(0, (.own 0)), (3, (.fn 56 .unit)), (100000, (.vec none YA3))])] (sq (sq (.cut [(.normal, [(0, (.own 0)), (3, (.fn 56 .unit)), (34, KA7), (100000, (.vec none YA3))])] (rg [{}, {}, {}, {}, {}, {}, {}, (rd 0), (rd 0), {}, {}, {}, (rd 0), (rd 0)])) (cn lf lf)) (sq (bk (rg [{}, {}, {}, {}, {}, {}, {}, {}, (rd 0), (rd 0), {}, {}, (rd 0), (rd 0), (rd 0), (wr 0), (rd 0), (wr 0)])) rz)))))) rz))))) inst72 53 run72 Tryd.func72 (by kernel_rfl) Tryd.ntmps72 (by kernel_rfl) (by intro x y; kernel_rfl) Tryd.call72
def inst64 : Inst := { args := [(.own 0), KA2, KA2, KA2, (.fn 56 .unit)], objs := [(.vec none YA3)], nres := 0, out := [(0, (.own 0)), (100000, (.vec none YA3))], news := 0 }
noncomputable def run64 : inst64.F := fun x y => api_Attr__attrs_1x x.2.1 x.2.2.1 x.2.2.2.1 y.1
noncomputable def fx64 : Ctx := fx72.add 64 (inst64.sem run64)
theorem fx64_ok : CtxOK fx64 Tryd.prog := fn_put fx72_ok feMixed 64 Tryd.f64 [] (sq rz (sq rz (bk (.loop [(0, (.own 0)), (1, KA2), (2, KA2), (4, (.fn 56 .unit)), (100000, (.vec none YA3))] [(.ret, [(0, (.own 0)), (100000, (.vec none YA3))])] (bk (sq rz (sq (sq rz (cn (sq (rg [{}, {}, {}, {}, (wr 0)]) lf) lf)) lf))))))) inst64 148 run64 Tryd.func64 (by kernel_rfl) Tryd.ntmps64 (by kernel_rfl) (by intro x y; kernel_rfl) Tryd.call64
def inst55 : Inst := { args := [(.own 0), (.fn 56 .unit)], objs := [(.vec none YA3)], nres := 0, out := [(0, (.own 0)), (100000, (.vec none YA3))], news := 0 }
noncomputable def run55 : inst55.F := fun _ y => api_Attr__attrs_1 y.1
noncomputable def fx55 : Ctx := fx64.add 55 (inst55.sem run55)
theorem fx55_ok : CtxOK fx55 Tryd.prog := fn_put fx64_ok feMixed 55 Tryd.f55 [] (sq (rg [{}, (rd 0)]) (rg [{}, {}, {}, {}, {}, {}, (wr 0)])) inst55 14 run55 Tryd.func55 (by kernel_rfl) Tryd.ntmps55 (by kernel_rfl) (by intro x y; kernel_rfl) Tryd.call55
def inst43 : Inst := { args := [(.fptr (.pair (.sl YA1) (.pair (.sl YA0) (.pair (.arr 4 .bool) (.pair .str .unit)))))], objs := [], nres := 1, out := [(90000, (.own 0)), (100000, (.vec none YA3))], news := 1 }
noncomputable def run43 : inst43.F := fun x _ => marked_reader__attrs x.1
noncomputable def fx43 : Ctx := fx55.add 43 (inst43.sem run43)
theorem fx43_ok : CtxOK fx43 Tryd.prog := fn_put fx55_ok feMixed 43 Tryd.f43 [.tmp 2] (sq rz (sq rz (sq (sq rz (bk (.loop [(3, (.own 14)), (7, KA2), (100014, (.vec none YA3))] [((.exit 0), [(3, (.own 14)), (100014, (.vec none YA3))])] (sq rz (sq (cn lf lf) (sq (.cut [(.normal, [(3, (.own 13)), (100013, (.vec none YA3))])] (bk (sq (rg [{}, {}, (nw 10), {}, (wr 10)]) (sq rz (cn (rg [{}, (rd 10), (rd 10), {}, (nw 11), { rd := [11], wr := [14], new := [12] }]) lf))))) rz)))))) (sq (.cut [(.normal, [(3, (.own 17)), (100017, (.vec none YA3))])] (sq rz (cn (rg [{}, {}, {}, {}, {}, {}, (nw 15), { rd := [15], wr := [14], new := [16] }]) lf))) (sq (rg [{}, (wr 17)]) (sq rz lf)))))) inst43 40 run43 Tryd.func43 (by kernel_rfl) Tryd.ntmps43 (by kernel_rfl) (by intro x y; kernel_rfl) Tryd.call43
def inst25 : Inst := { args := [(.ptr 0 0), KA4], objs := [(.rcd (.cons .nil (.cons .nil (.cons KA8 (.cons KA4 .unit)))))], nres := 1, out := [(90000, KA2), (0, (.ptr 0 0)), (100000, KA6), (100001, (.vec none YA1)), (100002, (.vec none YA0))], news := 2 }
noncomputable def run25 : inst25.F := fun x y => marked_reader__character x.2.1 y.1.2.2.1 y.1.2.2.2.1
noncomputable def fx25 : Ctx := fx43.add 25 (inst25.sem run25)
theorem fx25_ok : CtxOK fx25 Tryd.prog := fn_put fx43_ok feMixed 25 Tryd.f25 [.tmp 4] (sq rz (sq rz (sq (.cut [(.normal, [(0, (.ptr 0 0)), (5, (.val (.int .i32))), (100000, (.rcd (.cons .nil (.cons (.own 13) (.cons KA8 (.cons KA4 .unit)))))), (100013, (.vec none YA0))])] (sq (.cut [(.normal, [(0, (.ptr 0 0)), (23, KA7), (100000, (.rcd (.cons .nil (.cons .nil (.cons KA8 (.cons KA4 .unit))))))])] rz) (cn (sq (rg [{}, {}, (rd 0), (rd 0), (rd 0), {}, (rd 0), (rd 0), (rd 0), {}, {}, (nw 11), { rd := [11], new := [12] }, (rd 0), (rd 0), { rd := [12], wr := [0] }]) rz) lf))) (sq (rg [{}, {}, (rd 0), (rd 0), (rd 0), {}, {}, {}, { rd := [0, 13], new := [14], lend := [(0, 43)] }, (fz 47 14), (nw 15), { rd := [15], new := [16] }, (rd 0), (rd 0), { rd := [16], wr := [0] }]) (sq rz lf))))) inst25 54 run25 Tryd.func25 (by kernel_rfl) Tryd.ntmps25 (by kernel_rfl) (by intro x y; kernel_rfl) Tryd.call25
def inst26 : Inst := { args := [(.ptr 0 0), KA4], objs := [(.rcd (.cons .nil (.cons .nil (.cons KA8 (.cons KA4 .unit)))))], nres := 1, out := [(90000, KA2), (0, (.ptr 0 0)), (100000, (.rcd (.cons .nil (.cons .nil (.cons KA8 (.cons KA4 .unit))))))], news := 0 }
noncomputable def run26 : inst26.F := fun x y => marked_reader__toggle x.2.1 y.1.2.2.1 y.1.2.2.2.1
noncomputable def fx26 : Ctx := fx25.add 26 (inst26.sem run26)
theorem fx26_ok : CtxOK fx26 Tryd.prog := fn_put fx25_ok feMixed 26 Tryd.f26 [.tmp 4] (sq rz (sq (sq rz (bk (.loop [(0, (.ptr 0 0)), (8, KA2), (100000, (.rcd (.cons .nil (.cons .nil (.cons KA8 (.cons KA4 .unit))))))] [((.exit 0), [(0, (.ptr 0 0)), (100000, (.rcd (.cons .nil (.cons .nil (.cons KA8 (.cons KA4 .unit))))))]), (.ret, [(0, (.ptr 0 0)), (4, KA2), (100000, (.rcd (.cons .nil (.cons .nil (.cons KA8 (.cons KA4 .unit))))))])] (sq rz (sq (cn lf lf) (sq (bk (sq (rg [{}, {}, (nw 11), {}, (wr 11)]) (sq (rg [{}, (rd 11), (rd 11)]) (cn (sq (rg [{}, {}, {}, {}, (rd 0), (rd 0), (rd 0), (rd 0), {}, (rd 0), (rd 0), (rd 0), (wr 0)]) (sq (rg [(rd 11), (rd 11)]) lf)) lf)))) rz)))))) (sq rz lf))) inst26 32 run26 Tryd.func26 (by kernel_rfl) Tryd.ntmps26 (by kernel_rfl) (by intro x y; kernel_rfl) Tryd.call26
def inst44 : Inst := { args := [(.ptr 0 0)], objs := [(.rcd (.cons (.adr 0 87) (.cons (.brow 1) .unit))), (.vec none YA11)], nres := 1, out := [(90000, KA2), (0, (.ptr 0 0)), (100000, (.rcd (.cons (.adr 0 87) (.cons (.brow 2) .unit)))), (100002, (.vec none YA11))], news := 1 }
noncomputable def run44 : inst44.F := fun _ y => _strings_Builder__Len y.2.1
noncomputable def fx44 : Ctx := fx26.add 44 (inst44.sem run44)
theorem fx44_ok : CtxOK fx44 Tryd.prog := fn_put fx26_ok feMixed 44 Tryd.f44 [.tmp 2] (sq rz (sq (rg [{}, (rd 0), (rd 0), (rd 0), (rd 1)]) lf)) inst44 8 run44 Tryd.func44 (by kernel_rfl) Tryd.ntmps44 (by kernel_rfl) (by intro x y; kernel_rfl) Tryd.call44
def inst44x2 : Inst := { args := [(.ptr 0 0)], objs := [(.rcd (.cons (.adr 0 87) (.cons (.val (.sl YA11)) .unit)))], nres := 1, out := [(90000, KA2), (0, (.ptr 0 0)), (100000, (.rcd (.cons (.adr 0 87) (.cons (.val (.sl YA11)) .unit))))], news := 0 }
noncomputable def run44x2 : inst44x2.F := fun _ y => _strings_Builder__Lenx y.1.2.1
noncomputable def fx44x2 : Ctx := fx44.more 44 (inst44x2.sem run44x2)
theorem fx44x2_ok : CtxOK fx44x2 Tryd.prog := fn_put2 fx44_ok feMixed 44 Tryd.f44 [.tmp 2] (sq rz (sq (rg [{}, (rd 0), (rd 0), (rd 0)]) lf)) inst44x2 8 run44x2 Tryd.func44 (by kernel_rfl) Tryd.ntmps44 (by kernel_rfl) (by intro x y; kernel_rfl) Tryd.call44
def inst46 : Inst := { args := [(.ptr 0 0), (.val YA11)], objs := [(.rcd (.cons (.adr 0 87) (.cons (.brow 1) .unit))), (.vec none YA11)], nres := 1, out := [(90000, (.val .err)), (0, (.ptr 0 0)), (100000, (.rcd (.cons (.adr 0 87) (.cons (.brow 2) .unit)))), (100002, (.vec none YA11))], news := 1 }
noncomputable def run46 : inst46.F := fun x y => _strings_Builder__WriteByte x.2.1 y.2.1
noncomputable def fx46 : Ctx := fx44x2.add 46 (inst46.sem run46)
theorem fx46_ok : CtxOK fx46 Tryd.prog := fn_put fx44x2_ok feMixed 46 Tryd.f46 [.tmp 4] (sq rz (sq (rg [{}, { wr := [0, 1] }]) (sq (rg [{}, {}, (rd 0), (rd 0), (rd 0), {}, (nw 12), { rd := [12], wr := [1], new := [13] }, (rd 0), (rd 0), { rd := [13], wr := [0] }]) (sq rz lf)))) inst46 17 run46 Tryd.func46 (by kernel_rfl) Tryd.ntmps46 (by kernel_rfl) (by intro x y; kernel_rfl) Tryd.call46
def inst27 : Inst := { args := [KA4], objs := [], nres := 4, out := [(90000, KA4), (90001, KA2), (90002, KA2), (90003, KA7)], news := 0 }
noncomputable def run27 : inst27.F := fun x _ => marked_target x.1
noncomputable def fx27 : Ctx := fx46.add 27 (inst27.sem run27)
theorem fx27_ok : CtxOK fx27 Tryd.prog := fn_put fx46_ok feMixed 27 Tryd.f27 [.tmp 2, .tmp 3, .tmp 4, .tmp 5] (sq rz (sq rz (sq (bk (.loop [(6, KA2)] [((.exit 0), [(6, KA2)]), (.ret, [(2, KA4), (3, KA2), (4, KA2), (5, KA7)])] (sq (.cut [(.normal, [(6, KA2)]), ((.exit 0), [(6, KA2)]), (.ret, [(2, KA4), (3, KA2), (4, KA2), (5, KA7)])] (bk (sq (bk (sq (.cut [(.normal, [(12, KA7)])] rz) (cn (sq rz lf) (sq rz (cn (sq rz lf) lf))))) (sq rz (cn lf lf))))) rz))) (sq (rg [{ new := [10, 11] }]) (sq (sq rz (bk (.loop [(7, (.ptr 10 0)), (8, KA2), (100010, (.rcd (.cons (.adr 10 87) (.cons (.brow 15) .unit)))), (100015, (.vec none YA11))] [((.exit 3), []), (.ret, [(2, KA4), (3, KA2), (4, KA2), (5, KA7)])] (sq (sq (.cut [(.normal, [(7, (.ptr 10 0)), (43, KA7), (100010, (.rcd (.cons (.adr 10 87) (.cons (.brow 13) .unit)))), (100013, (.vec none YA11))])] (rg [{}, {}, {}, {}, {}, { wr := [10, 15], new := [12] }])) (cn lf lf)) (sq (bk (sq rz (sq (sq rz (cn (sq (rg [{ wr := [10, 13] }, {}, {}, {}, (wr 10)]) lf) lf)) (sq (.cut [(.normal, [(7, (.ptr 10 0)), (8, KA2), (9, (.val YA11)), (100010, (.rcd (.cons (.adr 10 87) (.cons (.brow 13) .unit)))), (100013, (.vec none YA11))]), ((.exit 3), [])] (sq (.cut [(.normal, [(7, (.ptr 10 0)), (65, KA7), (100010, (.rcd (.cons (.adr 10 87) (.cons (.brow 13) .unit)))), (100013, (.vec none YA11))])] rz) (cn (sq rz rz) (sq rz (cn lf lf))))) (sq (sq (.cut [(.normal, [(7, (.ptr 10 0)), (78, KA7), (100010, (.rcd (.cons (.adr 10 87) (.cons (.brow 13) .unit)))), (100013, (.vec none YA11))])] rz) (cn lf lf)) (rg [{}, { wr := [10, 13], new := [14] }])))))) rz))))) (sq rz lf)))))) inst27 81 run27 Tryd.func27 (by kernel_rfl) Tryd.ntmps27 (by kernel_rfl) (by intro x y; kernel_rfl) Tryd.call27
def inst25x2 : Inst := { args := [(.ptr 0 0), KA4], objs := [KA6, (.vec none YA1), (.vec none YA0)], nres := 1, out := [(90000, KA2), (0, (.ptr 0 0)), (100000, (.rcd (.cons (.own 3) (.cons (.own 4) (.cons KA8 (.cons KA4 .unit)))))), (100003, (.vec none YA1)), (100004, (.vec none YA0))], news := 2 }
noncomputable def run25x2 : inst25x2.F := fun x y => marked_reader__characterx x.2.1 y.1.2.2.1 y.1.2.2.2.1 y.2.1 y.2.2.1
noncomputable def fx25x2 : Ctx := fx27.more 25 (inst25x2.sem run25x2)
theorem fx25x2_ok : CtxOK fx25x2 Tryd.prog := fn_put2 fx27_ok feMixed 25 Tryd.f25 [.tmp 4] (sq rz (sq rz (sq (.cut [(.normal, [(0, (.ptr 0 0)), (5, (.val (.int .i32))), (100000, (.rcd (.cons (.own 1) (.cons (.own 15) (.cons KA8 (.cons KA4 .unit)))))), (100001, (.vec none YA1)), (100015, (.vec none YA0))])] (sq (.cut [(.normal, [(0, (.ptr 0 0)), (23, KA7), (100000, KA6), (100001, (.vec none YA1)), (100002, (.vec none YA0))])] rz) (cn (sq (rg [{}, {}, (rd 0), (rd 0), (rd 0), {}, (rd 0), (rd 0), (rd 0), (rd 1), {}, (nw 13), { rd := [13], wr := [2], new := [14] }, (rd 0), (rd 0), { rd := [14], wr := [0] }]) rz) lf))) (sq (rg [{}, {}, (rd 0), (rd 0), (rd 0), {}, {}, {}, { rd := [0, 1, 15], new := [16], lend := [(0, 43)] }, (fz 47 16), (nw 17), { rd := [17], wr := [1], new := [18] }, (rd 0), (rd 0), { rd := [18], wr := [0] }]) (sq rz lf))))) inst25x2 54 run25x2 Tryd.func25 (by kernel_rfl) Tryd.ntmps25 (by kernel_rfl) (by intro x y; kernel_rfl) Tryd.call25
def inst26x2 : Inst := { args := [(.ptr 0 0), KA4], objs := [KA6, (.vec none YA1), (.vec none YA0)], nres := 1, out := [(90000, KA2), (0, (.ptr 0 0)), (100000, (.rcd (.cons (.own 3) (.cons (.own 4) (.cons KA8 (.cons KA4 .unit)))))), (100003, (.vec none YA1)), (100004, (.vec none YA0))], news := 2 }
noncomputable def run26x2 : inst26x2.F := fun x y => marked_reader__togglex x.2.1 y.1.2.2.1 y.1.2.2.2.1 y.2.1 y.2.2.1
noncomputable def fx26x2 : Ctx := fx25x2.more 26 (inst26x2.sem run26x2)
theorem fx26x2_ok : CtxOK fx26x2 Tryd.prog := fn_put2 fx25x2_ok feMixed 26 Tryd.f26 [.tmp 4] (sq rz (sq (sq rz (bk (.loop [(0, (.ptr 0 0)), (8, KA2), (100000, KA6), (100001, (.vec none YA1)), (100002, (.vec none YA0))] [((.exit 0), [(0, (.ptr 0 0)), (100000, KA6), (100001, (.vec none YA1)), (100002, (.vec none YA0))]), (.ret, [(0, (.ptr 0 0)), (4, KA2), (100000, KA6), (100001, (.vec none YA1)), (100002, (.vec none YA0))])] (sq rz (sq (cn lf lf) (sq (bk (sq (rg [{}, {}, (nw 13), {}, (wr 13)]) (sq (rg [{}, (rd 13), (rd 13)]) (cn (sq (rg [{}, {}, {}, {}, (rd 0), (rd 0), (rd 0), (rd 0), {}, (rd 0), (rd 0), (rd 0), (wr 0)]) (sq (rg [(rd 13), (rd 13)]) lf)) lf)))) rz)))))) (sq rz lf))) inst26x2 32 run26x2 Tryd.func26 (by kernel_rfl) Tryd.ntmps26 (by kernel_rfl) (by intro x y; kernel_rfl) Tryd.call26
def inst12 : Inst := { args := [(.ptr 0 0), KA4], objs := [(.rcd (.cons .nil (.cons .nil (.cons KA8 (.cons KA4 .unit)))))], nres := 0, out := [(0, (.ptr 0 0)), (100000, KA6), (100001, (.vec none YA1)), (100002, (.vec none YA0))], news := 2 }
noncomputable def run12 : inst12.F := fun x y => marked_reader__line x.2.1 y.1.2.2.1 y.1.2.2.2.1
noncomputable def fx12 : Ctx := fx26x2.add 12 (inst12.sem run12)
theorem fx12_ok : CtxOK fx12 Tryd.prog := fn_put fx26x2_ok feMixed 12 Tryd.f12 [] (sq (rg [{}, {}, {}, (rd 0), (rd 0), (wr 0), (rd 0), (rd 0), (wr 0)]) (sq rz (sq rz (bk (.loop [(0, (.ptr 0 0)), (1, KA4), (4, KA2), (5, KA4), (100000, KA10), (100015, (.vec none YA1)), (100016, (.vec none YA0))] [((.exit 0), [(0, (.ptr 0 0)), (100000, KA10), (100015, (.vec none YA1)), (100016, (.vec none YA0))])] (sq (sq rz (cn lf lf)) (bk (sq (sq rz (cn (sq (rg [{}, {}, {}, (rd 0), (rd 0), (wr 0)]) lf) lf)) (sq (sq (.cut [(.normal, [(0, (.ptr 0 0)), (35, KA7), (100000, KA10), (100015, (.vec none YA1)), (100016, (.vec none YA0))])] rz) (cn (sq rz (sq (rg [{}, {}, {}, { wr := [0, 15, 16], new := [11, 12] }]) lf)) lf)) (sq (sq (rg [{}, {}, { wr := [0, 15, 16], new := [17, 18] }]) (sq rz (cn (sq rz lf) lf))) (sq (.cut [(.normal, [(0, (.ptr 0 0)), (1, KA4), (4, KA2), (5, KA4), (100000, (.rcd (.cons (.own 17) (.cons (.own 18) (.cons KA8 (.cons KA4 .unit)))))), (100017, (.vec none YA1)), (100018, (.vec none YA0))]), ((.exit 1), [(0, (.ptr 0 0)), (1, KA4), (4, KA2), (5, KA4), (100000, (.rcd (.cons (.own 17) (.cons (.own 18) (.cons KA8 (.cons KA4 .unit)))))), (100017, (.vec none YA1)), (100018, (.vec none YA0))])] (sq (.cut [(.normal, [(0, (.ptr 0 0)), (60, KA7), (100000, (.rcd (.cons (.own 17) (.cons (.own 18) (.cons KA8 (.cons KA4 .unit)))))), (100017, (.vec none YA1)), (100018, (.vec none YA0))])] (rg [{}, {}, {}, {}, {}, (rd 0), (rd 0), (rd 0)])) (cn (sq rz (sq rz (cn (sq (rg [{}, {}, {}, {}, {}, {}, (rd 0), (rd 0), (wr 0)]) (sq rz (sq rz lf))) lf))) lf))) (rg [{}, {}, {}, { wr := [0, 17, 18], new := [13, 14] }])))))))))))) inst12 90 run12 Tryd.func12 (by kernel_rfl) Tryd.ntmps12 (by kernel_rfl) (by intro x y; kernel_rfl) Tryd.call12
def inst12x2 : Inst := { args := [(.ptr 0 0), KA4], objs := [KA6, (.vec none YA1), (.vec none YA0)], nres := 0, out := [(0, (.ptr 0 0)), (100000, (.rcd (.cons (.own 3) (.cons (.own 4) (.cons KA8 (.cons KA4 .unit)))))), (100003, (.vec none YA1)), (100004, (.vec none YA0))], news := 2 }
noncomputable def run12x2 : inst12x2.F := fun x y => marked_reader__linex x.2.1 y.1.2.2.1 y.1.2.2.2.1 y.2.1 y.2.2.1
noncomputable def fx12x2 : Ctx := fx12.more 12 (inst12x2.sem run12x2)
theorem fx12x2_ok : CtxOK fx12x2 Tryd.prog := fn_put2 fx12_ok feMixed 12 Tryd.f12 [] (sq (rg [{}, {}, {}, (rd 0), (rd 0), (wr 0), (rd 0), (rd 0), (wr 0)]) (sq rz (sq rz (bk (.loop [(0, (.ptr 0 0)), (1, KA4), (4, KA2), (5, KA4), (100000, (.rcd (.cons (.own 19) (.cons (.own 20) (.cons KA8 (.cons KA4 .unit)))))), (100019, (.vec none YA1)), (100020, (.vec none YA0))] [((.exit 0), [(0, (.ptr 0 0)), (100000, (.rcd (.cons (.own 19) (.cons (.own 20) (.cons KA8 (.cons KA4 .unit)))))), (100019, (.vec none YA1)), (100020, (.vec none YA0))])] (sq (sq rz (cn lf lf)) (bk (sq (sq rz (cn (sq (rg [{}, {}, {}, (rd 0), (rd 0), (wr 0)]) lf) lf)) (sq (sq (.cut [(.normal, [(0, (.ptr 0 0)), (35, KA7), (100000, (.rcd (.cons (.own 19) (.cons (.own 20) (.cons KA8 (.cons KA4 .unit)))))), (100019, (.vec none YA1)), (100020, (.vec none YA0))])] rz) (cn (sq rz (sq (rg [{}, {}, {}, { wr := [0, 19, 20], new := [13, 14] }]) lf)) lf)) (sq (sq (rg [{}, {}, { wr := [0, 19, 20], new := [15, 16] }]) (sq rz (cn (sq rz lf) lf))) (sq (.cut [(.normal, [(0, (.ptr 0 0)), (1, KA4), (4, KA2), (5, KA4), (100000, KA10), (100015, (.vec none YA1)), (100016, (.vec none YA0))]), ((.exit 1), [(0, (.ptr 0 0)), (1, KA4), (4, KA2), (5, KA4), (100000, KA10), (100015, (.vec none YA1)), (100016, (.vec none YA0))])] (sq (.cut [(.normal, [(0, (.ptr 0 0)), (60, KA7), (100000, KA10), (100015, (.vec none YA1)), (100016, (.vec none YA0))])] (rg [{}, {}, {}, {}, {}, (rd 0), (rd 0), (rd 0)])) (cn (sq rz (sq rz (cn (sq (rg [{}, {}, {}, {}, {}, {}, (rd 0), (rd 0), (wr 0)]) (sq rz (sq rz lf))) lf))) lf))) (rg [{}, {}, {}, { wr := [0, 15, 16], new := [17, 18] }])))))))))))) inst12x2 90 run12x2 Tryd.func12 (by kernel_rfl) Tryd.ntmps12 (by kernel_rfl) (by intro x y; kernel_rfl) Tryd.call12
def inst4 : Inst := mk3 [KA4] (.val (.sl YA1)) (.val (.sl YA0)) KA2
noncomputable def run4 : inst4.F := fun x _ => marked_Import x.1
noncomputable def fx4 : Ctx := fx12x2.add 4 (inst4.sem run4)
theorem fx4_ok : CtxOK fx4 Tryd.prog := fn_put fx12x2_ok feMixed 4 Tryd.f4 [.tmp 2, .tmp 3, .tmp 4] (sq rz (sq (sq rz (cn (sq rz lf) lf)) (sq (rg [{ agg := true }, (nw 10)]) (sq (rg [{}, (nw 11)]) (sq (sq (rg [{}, (rd 11)]) (bk (.loop [(5, (.ptr 10 0)), (6, (.own 11)), (23, KA2), (100010, (.rcd (.cons .nil (.cons .nil (.cons KA8 (.cons KA4 .unit)))))), (100011, (.vec none .str))] [((.exit 0), [(5, (.ptr 10 0)), (6, (.own 11)), (100010, (.rcd (.cons .nil (.cons .nil (.cons KA8 (.cons KA4 .unit)))))), (100011, (.vec none .str))])] (sq rz (sq (cn lf lf) (sq (bk (sq rz (rg [{}, {}, {}, {}, (rd 11), (rd 11), {}, (rd 11), (wr 11)]))) rz)))))) (sq (.cut [(.normal, [(5, (.ptr 10 0)), (6, (.own 13)), (100010, (.rcd (.cons .nil (.cons .nil (.cons KA8 (.cons KA4 .unit)))))), (100013, (.vec none .str))])] (sq (rg [{}, (rd 11)]) (sq (.cut [(.normal, [(5, (.ptr 10 0)), (6, (.own 11)), (46, KA7), (100010, (.rcd (.cons .nil (.cons .nil (.cons KA8 (.cons KA4 .unit)))))), (100011, (.vec none .str))])] (rg [{}, {}, {}, {}, {}, {}, (rd 11), (rd 11)])) (cn (rg [{}, {}, {}, { wr := [11], new := [12] }]) lf)))) (sq (sq (rg [{}, (rd 13)]) (bk (.loop [(5, (.ptr 10 0)), (51, (.own 13)), (53, KA2), (100010, (.rcd (.cons (.own 18) (.cons (.own 19) (.cons KA8 (.cons KA4 .unit)))))), (100013, (.vec none .str)), (100018, (.vec none YA1)), (100019, (.vec none YA0))] [((.exit 2), [(5, (.ptr 10 0)), (100010, (.rcd (.cons (.own 18) (.cons (.own 19) (.cons KA8 (.cons KA4 .unit)))))), (100018, (.vec none YA1)), (100019, (.vec none YA0))])] (sq rz (sq (cn lf lf) (sq (bk (sq (rg [(rd 13), (rd 13)]) (sq rz (sq (rg [{}, {}, { wr := [10, 18, 19], new := [14, 15] }]) (rg [{}, {}, (rd 10), (rd 10), (rd 10), {}, {}, (nw 16), { rd := [16], wr := [14], new := [17] }, (rd 10), (rd 10), { rd := [17], wr := [10] }]))))) rz)))))) (sq (rg [{}, (rd 10), (rd 10), (rd 10), {}, (rd 10), (rd 10), (rd 10)]) lf)))))))) inst4 85 run4 Tryd.func4 (by kernel_rfl) Tryd.ntmps4 (by kernel_rfl) (by intro x y; kernel_rfl) Tryd.call4
def inst5 : Inst := mk1 [(.val (.sl YA3)), (.val (.sl YA3))] KA7
noncomputable def run5 : inst5.F := fun x _ => chanceryref2_SameAttrs x.1 x.2.1
noncomputable def fx5 : Ctx := fx4.add 5 (inst5.sem run5)
theorem fx5_ok : CtxOK fx5 Tryd.prog := fn_put fx4_ok feMixed 5 Tryd.f5 [.tmp 4] (sq rz (sq (sq rz (cn (sq rz lf) lf)) (sq (sq rz (bk (.loop [(13, KA2)] [((.exit 0), []), (.ret, [(4, KA7)])] (sq rz (sq (cn lf lf) (sq (bk (sq rz (sq rz (cn (sq rz lf) lf)))) rz)))))) (sq rz lf)))) inst5 26 run5 Tryd.func5 (by kernel_rfl) Tryd.ntmps5 (by kernel_rfl) (by intro x y; kernel_rfl) Tryd.call5
def inst13 : Inst := mk1 [KA4, (.val YA11)] (.val (.sl .str))
noncomputable def run13 : inst13.F := fun x _ => chanceryref2_Split x.1 x.2.1
noncomputable def fx13 : Ctx := fx5.add 13 (inst13.sem run13)
theorem fx13_ok : CtxOK fx13 Tryd.prog := fn_put fx5_ok feMixed 13 Tryd.f13 [.tmp 4] (sq rz (sq rz (sq rz (sq (sq rz (bk (.loop [(5, (.own 13)), (6, KA2), (10, KA2), (100013, (.vec none .str))] [((.exit 0), [(5, (.own 13)), (6, KA2), (100013, (.vec none .str))])] (sq rz (sq (cn lf lf) (sq (.cut [(.normal, [(5, (.own 12)), (6, KA2), (100012, (.vec none .str))])] (bk (sq rz (sq rz (cn (sq (rg [{}, {}, {}, {}, {}, (nw 10), { rd := [10], wr := [13], new := [11] }]) rz) lf))))) rz)))))) (sq (rg [{}, {}, {}, {}, (nw 14), { rd := [14], wr := [13], new := [15] }]) lf))))) inst13 34 run13 Tryd.func13 (by kernel_rfl) Tryd.ntmps13 (by kernel_rfl) (by intro x y; kernel_rfl) Tryd.call13
def inst15 : Inst := mk1 [(.val YA11)] KA7
noncomputable def run15 : inst15.F := fun x _ => chanceryref2_Marked_1 x.1
noncomputable def fx15 : Ctx := fx13.add 15 (inst15.sem run15)
theorem fx15_ok : CtxOK fx15 Tryd.prog := fn_put fx13_ok feMixed 15 Tryd.f15 [.tmp 2] (sq rz (sq rz lf)) inst15 5 run15 Tryd.func15 (by kernel_rfl) Tryd.ntmps15 (by kernel_rfl) (by intro x y; kernel_rfl) Tryd.call15
def inst14 : Inst := mk1 [KA4, (.fn 15 .unit)] KA2
noncomputable def run14 : inst14.F := fun x _ => chanceryref2_span_Marked_1 x.1
noncomputable def fx14 : Ctx := fx15.add 14 (inst14.sem run14)
theorem fx14_ok : CtxOK fx14 Tryd.prog := fn_put fx15_ok feMixed 14 Tryd.f14 [.tmp 4] (sq rz (sq (sq rz (bk (.loop [(1, (.fn 15 .unit)), (8, KA2)] [((.exit 0), []), (.ret, [(4, KA2)])] (sq rz (sq (cn lf lf) (sq (bk (sq rz (sq rz (cn (sq rz lf) lf)))) rz)))))) (sq rz lf))) inst14 21 run14 Tryd.func14 (by kernel_rfl) Tryd.ntmps14 (by kernel_rfl) (by intro x y; kernel_rfl) Tryd.call14
def inst16 : Inst := mk1 [(.val YA11)] KA7
noncomputable def run16 : inst16.F := fun x _ => chanceryref2_Marked_2 x.1
noncomputable def fx16 : Ctx := fx14.add 16 (inst16.sem run16)
theorem fx16_ok : CtxOK fx16 Tryd.prog := fn_put fx14_ok feMixed 16 Tryd.f16 [.tmp 2] (sq rz (sq rz lf)) inst16 5 run16 Tryd.func16 (by kernel_rfl) Tryd.ntmps16 (by kernel_rfl) (by intro x y; kernel_rfl) Tryd.call16
def inst14x2 : Inst := mk1 [KA4, (.fn 16 .unit)] KA2
noncomputable def run14x2 : inst14x2.F := fun x _ => chanceryref2_span_Marked_2 x.1
noncomputable def fx14x2 : Ctx := fx16.more 14 (inst14x2.sem run14x2)
theorem fx14x2_ok : CtxOK fx14x2 Tryd.prog := fn_put2 fx16_ok feMixed 14 Tryd.f14 [.tmp 4] (sq rz (sq (sq rz (bk (.loop [(1, (.fn 16 .unit)), (8, KA2)] [((.exit 0), []), (.ret, [(4, KA2)])] (sq rz (sq (cn lf lf) (sq (bk (sq rz (sq rz (cn (sq rz lf) lf)))) rz)))))) (sq rz lf))) inst14x2 21 run14x2 Tryd.func14 (by kernel_rfl) Tryd.ntmps14 (by kernel_rfl) (by intro x y; kernel_rfl) Tryd.call14
def inst17 : Inst := mk1 [KA4, KA4] KA7
noncomputable def run17 : inst17.F := fun x _ => chanceryref2_Has x.1 x.2.1
noncomputable def fx17 : Ctx := fx14x2.add 17 (inst17.sem run17)
theorem fx17_ok : CtxOK fx17 Tryd.prog := fn_put fx14x2_ok feMixed 17 Tryd.f17 [.tmp 4] (sq rz (sq rz lf)) inst17 18 run17 Tryd.func17 (by kernel_rfl) Tryd.ntmps17 (by kernel_rfl) (by intro x y; kernel_rfl) Tryd.call17
def inst18 : Inst := mk1 [KA2] KA4
def hint18 : HC := (sq rz (sq (sq rz (cn (sq (rg [{}, {}, {}, {}, {}, {}, {}, (nw 10), (rd 10)]) lf) lf)) (sq (sq rz (cn (sq (rg [{}, {}, {}, (nw 11), (rd 11)]) lf) lf)) (sq (sq rz (cn (sq (rg [{}, {}, {}, {}, {}, {}, {}, (nw 12), (rd 12)]) lf) lf)) (sq (rg [{}, {}, {}, (nw 13), (rd 13)]) lf)))))
noncomputable def run18 (m : Nat) : Ks.den inst18.args → Ks.den inst18.objs → Option inst18.out.den := fun x _ => chanceryref2_Decimal_f m x.1
theorem ev18 : ∀ m x y, evFn (fx17.add 18 (inst18.sem (run18 m))) 40 (bodyOf Tryd.f18) [.tmp 2] hint18 inst18 x y = run18 (m + 1) x y := by intro m x y; kernel_rfl
theorem ok18 : ∀ m, FnOK Tryd.prog fx17.glob 18 (inst18.sem (run18 m)) :=
  fn_rec fx17_ok feMixed 18 Tryd.f18 [.tmp 2] hint18 inst18 40 run18 Tryd.func18 (by kernel_rfl) Tryd.ntmps18 (by kernel_rfl) (by kernel_rfl) Tryd.call18 (fun _ _ => rfl) ev18
noncomputable def fx18 : Ctx := fx17.add 18 (inst18.sem (run18 rounds))
theorem fx18_ok : CtxOK fx18 Tryd.prog := add_ok fx17_ok (ok18 rounds) Tryd.call18
def inst47 : Inst := mk2 [KA4] KA2 KA2
noncomputable def run47 : inst47.F := fun x _ => chanceryref2_Rune x.1
noncomputable def fx47 : Ctx := fx18.add 47 (inst47.sem run47)
theorem fx47_ok : CtxOK fx47 Tryd.prog := fn_put fx18_ok feMixed 47 Tryd.f47 [.tmp 2, .tmp 3] (sq rz (sq rz (sq rz (sq (.cut [(.normal, [(4, KA2), (5, KA2), (6, KA2)]), (.ret, [(2, KA2), (3, KA2)])] (bk (sq rz (cn (sq rz lf) (sq (.cut [(.normal, [(15, KA7)])] rz) (cn rz (sq (.cut [(.normal, [(24, KA7)])] rz) (cn rz (sq (.cut [(.normal, [(33, KA7)])] rz) (cn rz (sq rz lf))))))))))) (sq (sq rz (cn (sq rz lf) lf)) (sq (sq rz (bk (.loop [(4, KA2), (7, KA2)] [((.exit 1), [(4, KA2)]), (.ret, [(2, KA2), (3, KA2)])] (sq (sq rz (cn lf lf)) (sq (bk (sq (sq rz (cn (sq rz lf) lf)) rz)) rz))))) (sq (sq (.cut [(.normal, [(78, KA7)])] rz) (cn (sq rz lf) lf)) (sq rz lf)))))))) inst47 81 run47 Tryd.func47 (by kernel_rfl) Tryd.ntmps47 (by kernel_rfl) (by intro x y; kernel_rfl) Tryd.call47
def inst48 : Inst := mk1 [KA2] KA7
noncomputable def run48 : inst48.F := fun x _ => chanceryref2_Char x.1
noncomputable def fx48 : Ctx := fx47.add 48 (inst48.sem run48)
theorem fx48_ok : CtxOK fx48 Tryd.prog := fn_put fx47_ok feMixed 48 Tryd.f48 [.tmp 2] (sq rz (sq rz lf)) inst48 33 run48 Tryd.func48 (by kernel_rfl) Tryd.ntmps48 (by kernel_rfl) (by intro x y; kernel_rfl) Tryd.call48
def inst28 : Inst := mk1 [KA4] (.val (.sl YA5))
noncomputable def run28 : inst28.F := fun x _ => chanceryref2_tokens x.1
noncomputable def fx28 : Ctx := fx48.add 28 (inst28.sem run28)
theorem fx28_ok : CtxOK fx28 Tryd.prog := fn_put fx48_ok feMixed 28 Tryd.f28 [.tmp 2] (sq rz (sq rz (sq (sq rz (bk (.loop [(3, (.own 13)), (4, KA2), (100013, (.vec none YA5))] [((.exit 0), [(3, (.own 13)), (100013, (.vec none YA5))])] (sq (sq rz (cn lf lf)) (bk (sq (rg [{}, (nw 10), (wr 10)]) (sq (.cut [(.normal, [(3, (.own 13)), (4, KA2), (5, (.ptr 10 0)), (100013, (.vec none YA5)), (100010, KA9)])] (sq (.cut [(.normal, [(3, (.own 13)), (5, (.ptr 10 0)), (23, KA7), (100013, (.vec none YA5)), (100010, KA9)])] rz) (cn (sq (rg [(rd 10), (wr 10)]) (sq rz (rg [(rd 10), (wr 10)]))) lf))) (sq rz (sq (.cut [(.normal, [(3, (.own 13)), (5, (.ptr 10 0)), (6, KA2), (7, KA2), (100013, (.vec none YA5)), (100010, KA9)])] (sq (.cut [(.normal, [(3, (.own 13)), (5, (.ptr 10 0)), (41, KA7), (100013, (.vec none YA5)), (100010, KA9)])] rz) (cn (sq (rg [(rd 10), (wr 10)]) (sq rz rz)) lf))) (sq (rg [{}, (rd 10), (rd 10), {}, {}, (rd 10), (wr 10), (rd 10), (wr 10)]) (sq (rg [{}, (rd 10), (nw 11), { rd := [11], wr := [13], new := [12] }]) rz))))))))))) (sq rz lf)))) inst28 60 run28 Tryd.func28 (by kernel_rfl) Tryd.ntmps28 (by kernel_rfl) (by intro x y; kernel_rfl) Tryd.call28
def inst29 : Inst := mk1 [(.val YA5), (.val YA11)] KA7
noncomputable def run29 : inst29.F := fun x _ => chanceryref2_token__is x.1 x.2.1
noncomputable def fx29 : Ctx := fx28.add 29 (inst29.sem run29)
theorem fx29_ok : CtxOK fx29 Tryd.prog := fn_put fx28_ok feMixed 29 Tryd.f29 [.tmp 4] (sq (rg [(nw 10)]) (sq (rg [(rd 10), (rd 10), {}, {}, (rd 10), (rd 10), {}, {}, {}, (rd 10), (rd 10)]) lf)) inst29 20 run29 Tryd.func29 (by kernel_rfl) Tryd.ntmps29 (by kernel_rfl) (by intro x y; kernel_rfl) Tryd.call29
def inst30 : Inst := mk3 [(.val (.sl YA5)), KA2] KA4 KA2 KA2
noncomputable def run30 : inst30.F := fun x _ => chanceryref2_linkAt x.1 x.2.1
noncomputable def fx30 : Ctx := fx29.add 30 (inst30.sem run30)
theorem fx30_ok : CtxOK fx30 Tryd.prog := fn_put fx29_ok feMixed 30 Tryd.f30 [.tmp 4, .tmp 5, .tmp 6] (sq rz (sq (sq rz (bk (.loop [(7, KA2)] [((.exit 0), []), (.ret, [(4, KA4), (5, KA2), (6, KA2)])] (sq (sq (.cut [(.normal, [(23, KA7)])] rz) (cn lf lf)) (sq (bk (sq (sq (.cut [(.normal, [(47, KA7)])] rz) (cn lf lf)) (sq rz (sq (sq rz (bk (.loop [(8, KA4), (9, KA2)] [((.exit 2), []), (.ret, [(4, KA4), (5, KA2), (6, KA2)])] (sq (sq rz (cn lf lf)) (sq (bk (sq (sq rz (cn (sq (sq (.cut [(.normal, [(67, KA7)])] rz) (cn (sq rz lf) lf)) (sq rz lf)) lf)) (sq (sq (.cut [(.normal, [(99, KA7)])] rz) (cn (sq rz lf) lf)) (rg [{}, {}, {}, {}, {}, {}, {}, (nw 10), (rd 10)])))) rz))))) (sq rz lf))))) rz))))) (sq rz lf))) inst30 110 run30 Tryd.func30 (by kernel_rfl) Tryd.ntmps30 (by kernel_rfl) (by intro x y; kernel_rfl) Tryd.call30
def inst19 : Inst := mk2 [KA4, KA2] (.val (.sl YA1)) (.val (.sl YA0))
noncomputable def run19 : inst19.F := fun x _ => chanceryref2_MarkedLine x.1 x.2.1
noncomputable def fx19 : Ctx := fx30.add 19 (inst19.sem run19)
theorem fx19_ok : CtxOK fx19 Tryd.prog := fn_put fx30_ok feMixed 19 Tryd.f19 [.tmp 4, .tmp 5] (sq rz (sq rz (sq rz (sq (rg [(nw 10)]) (sq rz (sq rz (sq (sq rz (bk (.loop [(6, (.own 27)), (7, (.own 28)), (8, (.ptr 10 0)), (9, KA4), (10, KA2), (11, KA2), (13, KA2), (100027, (.vec none YA1)), (100028, (.vec none YA0)), (100010, (.vec (some 4) .bool))] [((.exit 0), [(6, (.own 27)), (7, (.own 28)), (100027, (.vec none YA1)), (100028, (.vec none YA0))])] (sq (sq rz (cn lf lf)) (sq (.cut [(.normal, [(6, (.own 25)), (7, (.own 26)), (8, (.ptr 10 0)), (9, KA4), (10, KA2), (11, KA2), (13, KA2), (100025, (.vec none YA1)), (100026, (.vec none YA0)), (100010, (.vec (some 4) .bool))])] (bk (sq (sq rz (cn (sq rz lf) lf)) (sq (rg [{}, {}, {}, {}, (nw 11), (wr 11)]) (sq (.cut [(.normal, [(6, (.own 27)), (7, (.own 28)), (8, (.ptr 10 0)), (9, KA4), (10, KA2), (11, KA2), (13, KA2), (14, (.ptr 11 0)), (100027, (.vec none YA1)), (100028, (.vec none YA0)), (100010, (.vec (some 4) .bool)), (100011, KA9)]), ((.exit 1), [(6, (.own 27)), (7, (.own 28)), (8, (.ptr 10 0)), (9, KA4), (10, KA2), (11, KA2), (13, KA2), (100027, (.vec none YA1)), (100028, (.vec none YA0)), (100010, (.vec (some 4) .bool))])] (bk (sq (.cut [(.normal, [(6, (.own 27)), (7, (.own 28)), (8, (.ptr 10 0)), (14, (.ptr 11 0)), (38, KA7), (100027, (.vec none YA1)), (100028, (.vec none YA0)), (100010, (.vec (some 4) .bool)), (100011, KA9)])] (rg [(rd 11)])) (cn (sq (rg [(rd 10), (rd 10), {}, (rd 10), (wr 10)]) (sq rz lf)) (sq (rg [(rd 11)]) (cn (sq (rg [(rd 10), (rd 10), {}, (rd 10), (wr 10)]) lf) (sq (.cut [(.normal, [(6, (.own 27)), (7, (.own 28)), (8, (.ptr 10 0)), (14, (.ptr 11 0)), (69, KA7), (100027, (.vec none YA1)), (100028, (.vec none YA0)), (100010, (.vec (some 4) .bool)), (100011, KA9)])] (rg [(rd 11)])) (cn (sq (rg [(rd 10), (rd 10), {}, (rd 10), (wr 10)]) (sq rz lf)) (sq (rg [(rd 11)]) (cn (sq (rg [(rd 10), (rd 10), {}, (rd 10), (wr 10)]) lf) (sq (.cut [(.normal, [(6, (.own 27)), (7, (.own 28)), (8, (.ptr 10 0)), (14, (.ptr 11 0)), (100, KA7), (100027, (.vec none YA1)), (100028, (.vec none YA0)), (100010, (.vec (some 4) .bool)), (100011, KA9)])] (rg [(rd 11)])) (cn (sq rz (sq rz (cn (sq rz lf) lf))) lf)))))))))))) (sq (.cut [(.normal, [(6, (.own 27)), (7, (.own 29)), (8, (.ptr 10 0)), (14, (.ptr 11 0)), (100027, (.vec none YA1)), (100029, (.vec none YA0)), (100010, (.vec (some 4) .bool)), (100011, KA9)])] (sq (rg [(rd 11), (rd 11)]) (cn (rg [{}, {}, {}, (rd 27), {}, {}, (nw 12), { rd := [12], wr := [28], new := [13] }]) lf))) (sq (rg [(rd 11), (rd 11), { agg := true }, (nw 15), (wr 15)]) (sq (sq rz (bk (.loop [(6, (.own 27)), (7, (.own 29)), (8, (.ptr 10 0)), (18, (.ptr 15 0)), (133, KA2), (100027, (.vec none YA1)), (100029, (.vec none YA0)), (100010, (.vec (some 4) .bool)), (100015, (.rcd (.cons KA2 (.cons KA2 (.cons (.own 32) .unit))))), (100032, (.vec none YA3))] [((.exit 3), [(6, (.own 27)), (7, (.own 29)), (8, (.ptr 10 0)), (18, (.ptr 15 0)), (100027, (.vec none YA1)), (100029, (.vec none YA0)), (100010, (.vec (some 4) .bool)), (100015, (.rcd (.cons KA2 (.cons KA2 (.cons (.own 32) .unit))))), (100032, (.vec none YA3))])] (sq rz (sq (cn lf lf) (sq (.cut [(.normal, [(6, (.own 27)), (7, (.own 29)), (8, (.ptr 10 0)), (18, (.ptr 15 0)), (100027, (.vec none YA1)), (100029, (.vec none YA0)), (100010, (.vec (some 4) .bool)), (100015, (.rcd (.cons KA2 (.cons KA2 (.cons (.own 31) .unit))))), (100031, (.vec none YA3))])] (bk (sq rz (sq (.cut [(.normal, [(6, (.own 27)), (7, (.own 29)), (8, (.ptr 10 0)), (18, (.ptr 15 0)), (100027, (.vec none YA1)), (100029, (.vec none YA0)), (100010, (.vec (some 4) .bool)), (100015, (.rcd (.cons KA2 (.cons KA2 (.cons (.own 30) .unit))))), (100030, (.vec none YA3))])] (sq (.cut [(.normal, [(6, (.own 27)), (7, (.own 29)), (8, (.ptr 10 0)), (18, (.ptr 15 0)), (142, KA7), (100027, (.vec none YA1)), (100029, (.vec none YA0)), (100010, (.vec (some 4) .bool)), (100015, (.rcd (.cons KA2 (.cons KA2 (.cons (.own 32) .unit))))), (100032, (.vec none YA3))])] rz) (cn (rg [(rd 15), (rd 15), {}, {}, (nw 16), { rd := [16], wr := [32], new := [17] }, (rd 15), { rd := [17], wr := [15] }]) lf))) (sq (rg [{}, (rd 10), (rd 10)]) (cn (rg [(rd 15), (rd 15), {}, {}, (nw 19), { rd := [19], wr := [30], new := [20] }, (rd 15), { rd := [20], wr := [15] }]) lf)))))) rz)))))) (rg [{}, { rd := [15], fz := [(100015, 32)] }, (nw 23), { rd := [23], wr := [27], new := [24] }]))))))))) rz))))) (sq rz lf)))))))) inst19 167 run19 Tryd.func19 (by kernel_rfl) Tryd.ntmps19 (by kernel_rfl) (by intro x y; kernel_rfl) Tryd.call19
def inst6 : Inst := mk2 [KA4] (.val (.sl YA1)) (.val (.sl YA0))
noncomputable def run6 : inst6.F := fun x _ => chanceryref2_Marked x.1
noncomputable def fx6 : Ctx := fx19.add 6 (inst6.sem run6)
theorem fx6_ok : CtxOK fx6 Tryd.prog := fn_put fx19_ok feMixed 6 Tryd.f6 [.tmp 2, .tmp 3] (sq rz (sq rz (sq rz (sq rz (sq (sq rz (bk (.loop [(4, (.own 23)), (5, (.own 24)), (19, KA2), (100023, (.vec none YA1)), (100024, (.vec none YA0))] [((.exit 0), [(4, (.own 23)), (5, (.own 24)), (100023, (.vec none YA1)), (100024, (.vec none YA0))])] (sq rz (sq (cn lf lf) (sq (bk (sq rz (sq (.cut [(.normal, [(4, (.own 23)), (5, (.own 24)), (8, KA4), (100023, (.vec none YA1)), (100024, (.vec none YA0))]), ((.exit 0), [(4, (.own 23)), (5, (.own 24)), (100023, (.vec none YA1)), (100024, (.vec none YA0))])] (sq rz (cn (sq (.cut [(.normal, [(4, (.own 23)), (5, (.own 24)), (34, KA7), (100023, (.vec none YA1)), (100024, (.vec none YA0))])] rz) (cn lf lf)) (sq (.cut [(.normal, [(4, (.own 23)), (5, (.own 24)), (44, KA7), (100023, (.vec none YA1)), (100024, (.vec none YA0))])] rz) (cn rz lf))))) (sq rz (sq rz (sq rz (sq rz (sq (.cut [(.normal, [(4, (.own 23)), (5, (.own 24)), (8, KA4), (9, (.own 26)), (100023, (.vec none YA1)), (100024, (.vec none YA0)), (100026, (.vec none YA3))])] (bk (sq (.cut [(.normal, [(4, (.own 23)), (5, (.own 24)), (9, .nil), (57, KA7), (100023, (.vec none YA1)), (100024, (.vec none YA0))])] rz) (cn (sq (rg [{}, {}, {}, (nw 10)]) rz) (sq (.cut [(.normal, [(4, (.own 23)), (5, (.own 24)), (9, .nil), (78, KA7), (100023, (.vec none YA1)), (100024, (.vec none YA0))])] rz) (cn (sq (.cut [(.normal, [(4, (.own 23)), (5, (.own 24)), (9, (.own 25)), (100023, (.vec none YA1)), (100024, (.vec none YA0)), (100025, (.vec none YA3))])] (sq rz (cn (rg [{}, {}, {}, {}, {}, (nw 11), { rd := [11], new := [12] }]) lf))) (sq rz (cn (rg [{}, {}, (nw 14), { rd := [14], wr := [25], new := [15] }]) (rg [{}, {}, (nw 16), { rd := [16], wr := [25], new := [17] }])))) lf)))))) (sq (rg [{}, {}, (rd 23)]) (sq (rg [{}, {}, { wr := [23], new := [19] }, {}, (fz 128 26), (nw 20), { rd := [20], wr := [19], new := [21] }]) (rg [{}, {}, { wr := [24], new := [22] }]))))))))))) rz)))))) (sq rz lf)))))) inst6 138 run6 Tryd.func6 (by kernel_rfl) Tryd.ntmps6 (by kernel_rfl) (by intro x y; kernel_rfl) Tryd.call6
def inst7 : Inst := mk1 [(.val (.sl YA1)), (.val (.sl YA1))] KA7
noncomputable def run7 : inst7.F := fun x _ => chanceryref2_SameFlow x.1 x.2.1
noncomputable def fx7 : Ctx := fx6.add 7 (inst7.sem run7)
theorem fx7_ok : CtxOK fx7 Tryd.prog := fn_put fx6_ok feMixed 7 Tryd.f7 [.tmp 4] (sq rz (sq (sq rz (cn (sq rz lf) lf)) (sq (sq rz (bk (.loop [(13, KA2)] [((.exit 0), []), (.ret, [(4, KA7)])] (sq rz (sq (cn lf lf) (sq (bk (sq rz (sq (.cut [(.normal, [(53, KA7)])] rz) (cn (sq rz lf) lf)))) rz)))))) (sq rz lf)))) inst7 55 run7 Tryd.func7 (by kernel_rfl) Tryd.ntmps7 (by kernel_rfl) (by intro x y; kernel_rfl) Tryd.call7
def inst8 : Inst := mk1 [(.val (.sl YA0)), (.val (.sl YA0))] KA7
noncomputable def run8 : inst8.F := fun x _ => api_Loss_ x.1 x.2.1
noncomputable def fx8 : Ctx := fx7.add 8 (inst8.sem run8)
theorem fx8_ok : CtxOK fx8 Tryd.prog := fn_put fx7_ok feMixed 8 Tryd.f8 [.tmp 4] (sq rz (sq (sq rz (cn (sq rz lf) lf)) (sq (sq rz (bk (.loop [(13, KA2)] [((.exit 0), []), (.ret, [(4, KA7)])] (sq rz (sq (cn lf lf) (sq (bk (sq rz (sq rz (cn (sq rz lf) lf)))) rz)))))) (sq rz lf)))) inst8 26 run8 Tryd.func8 (by kernel_rfl) Tryd.ntmps8 (by kernel_rfl) (by intro x y; kernel_rfl) Tryd.call8
def inst3 : Inst := mk1 [KA4] KA7
def hint3 : HC := (sq rz (sq (sq rz (sq (.cut [(.normal, [(32, KA7)])] (rg [{}, {}, {}, {}, {}, {}, {}, {}, {}, {}, {}, {}, {}, (nw 10), (fz 29 10)])) (cn (sq rz lf) lf))) (sq rz (sq rz (sq rz (sq rz lf))))))
noncomputable def run3 : inst3.F := fun x _ => chancerylaw2_MarkedImportMatches x.1
theorem ok3 : FnOK Tryd.prog fx8.glob 3 (inst3.sem run3) :=
  fn_add fx8_ok feMixed 3 Tryd.f3 [.tmp 2] hint3 inst3 61 run3 Tryd.func3 (by kernel_rfl) Tryd.ntmps3 (by kernel_rfl) (by kernel_rfl) (by intro x y; kernel_rfl)
noncomputable def fx3 : Ctx := fx8.add 3 (inst3.sem run3)
theorem fx3_ok : CtxOK fx3 Tryd.prog := add_ok fx8_ok ok3 Tryd.call3
end Go.Proofs.YtkjkjebmkmkgfaaDoor
