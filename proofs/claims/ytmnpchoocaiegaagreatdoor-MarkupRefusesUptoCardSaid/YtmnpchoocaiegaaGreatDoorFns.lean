/- The contracts that say what the program's functions come to. Printed by a program (fegen.py). -/
import Derived.Test.YtmnpchoocaiegaaGreatDoorFun
import Derived.Test.YtmnpchoocaiegaaGreatDoorShelf
import Derived.Test.YtmnpchoocaiegaaGreatDoorFeDoor
import Derived.WalkSmall
import Derived.WalkKit
import Derived.Lib.Builder
import Derived.BigRegion
import Derived.Test.YtmnpchoocaiegaaGreatDoorProg
namespace Go.Proofs
open Go Go.RowKit
set_option maxRecDepth 100000
theorem Tryz.bldUsed (b : Nat) (w : World) (h0 : w.cell? ⟨b, 0, none⟩ = some (.pointer (some ⟨b, 0, none⟩))) :
    Calls Tryz.prog 122 #[.pointer (some ⟨b, 0, none⟩)] w fun e w' => e = .returned (.tuple #[]) ∧ w' = w := by
  obtain ⟨j, hj, _⟩ := Option.map_eq_some_iff.1 (show (Tryz.prog.info? 97).map (·.size) = some 2 by kernel_rfl)
  go_enter Tryz.func122, Tryz.ntmps122
  go_wp2
  rw [Lib.run_neq_ptr_same w _ Tryz.underlying95 hj]
  go_wp2
  go_end0
  exact ⟨rfl, rfl⟩

theorem Tryz.bldFresh (b : Nat) (w : World) (h0 : w.cell? ⟨b, 0, none⟩ = some (.pointer none)) (hsh : w.shape? b = some (97, 2)) (hfz : w.frozen? ⟨b, 0, none⟩ = false) :
    Calls Tryz.prog 122 #[.pointer (some ⟨b, 0, none⟩)] w fun e w' => e = .returned (.tuple #[]) ∧ w' = w.setCell ⟨b, 0, none⟩ (.pointer (some ⟨b, 0, none⟩)) := by
  obtain ⟨j, hj, hjs⟩ := Option.map_eq_some_iff.1 (show (Tryz.prog.info? 97).map (·.size) = some 2 by kernel_rfl)
  have hlies : liesAt Tryz.prog Tryz.prog.depth 97 (2 / Tryz.prog.cellsOf 97) 0 97 1 = true := by kernel_rfl
  go_enter Tryz.func122, Tryz.ntmps122
  go_wp2
  rw [Lib.run_to_unsafe w ⟨b, 0, none⟩ Tryz.underlying95 Tryz.underlying240 hj (by rw [hjs]; decide) hsh (Nat.zero_lt_succ 1)]
  simp only [Result.andThen]
  rw [Oper.upon_value]
  go_wp2
  rw [run_callFunc_extern Tryz.func190 (by kernel_rfl) (by kernel_rfl) (by kernel_rfl) (e := Extern.AbiNoEscape.same) (by kernel_rfl)]
  rw [Lib.run_noEscape]
  simp only [Result.andThen]
  rw [Oper.upon_value]
  go_wp2
  rw [Lib.run_from_unsafe w ⟨b, 0, none⟩ Tryz.underlying240 Tryz.underlying95 hj hsh hlies]
  simp only [Result.andThen]
  rw [Oper.upon_value]
  go_wp2
  go_end0
  exact ⟨rfl, rfl⟩

theorem Tryz.bldFresh99 (b : Nat) (w : World) (h0 : w.cell? ⟨b, 0, none⟩ = some (.pointer none)) (hsh : w.shape? b = some (99, 2)) (hfz : w.frozen? ⟨b, 0, none⟩ = false) :
    Calls Tryz.prog 122 #[.pointer (some ⟨b, 0, none⟩)] w fun e w' => e = .returned (.tuple #[]) ∧ w' = w.setCell ⟨b, 0, none⟩ (.pointer (some ⟨b, 0, none⟩)) := by
  obtain ⟨j, hj, hjs⟩ := Option.map_eq_some_iff.1 (show (Tryz.prog.info? 97).map (·.size) = some 2 by kernel_rfl)
  have hlies : liesAt Tryz.prog Tryz.prog.depth 99 (2 / Tryz.prog.cellsOf 99) 0 97 1 = true := by kernel_rfl
  go_enter Tryz.func122, Tryz.ntmps122
  go_wp2
  rw [Lib.run_to_unsafe w ⟨b, 0, none⟩ Tryz.underlying95 Tryz.underlying240 hj (by rw [hjs]; decide) hsh (Nat.zero_lt_succ 1)]
  simp only [Result.andThen]
  rw [Oper.upon_value]
  go_wp2
  rw [run_callFunc_extern Tryz.func190 (by kernel_rfl) (by kernel_rfl) (by kernel_rfl) (e := Extern.AbiNoEscape.same) (by kernel_rfl)]
  rw [Lib.run_noEscape]
  simp only [Result.andThen]
  rw [Oper.upon_value]
  go_wp2
  rw [Lib.run_from_unsafe w ⟨b, 0, none⟩ Tryz.underlying240 Tryz.underlying95 hj hsh hlies]
  simp only [Result.andThen]
  rw [Oper.upon_value]
  go_wp2
  go_end0
  exact ⟨rfl, rfl⟩

set_option maxHeartbeats 2000000 in
theorem Tryz.bldStr (b : Nat) (v pv : Value) (a : Option Addr) (n cap : Nat) (s : ByteArray) (w w2 : World) (hv : v = .slice a n cap) (hc : w.cell? ⟨b, 1, none⟩ = some v)
    (h1 : (Builtin.unsafeSliceData_ #[67] 172 #[v]).run Tryz.prog w.drew = .ok pv w.drew) (h2 : (Builtin.unsafeString_ #[172, 3] 9 #[pv, .int .i64 n]).run Tryz.prog w.drew = .ok (.string s) w2) :
    Calls Tryz.prog 52 #[.pointer (some ⟨b, 0, none⟩)] w fun e w' => e = .returned (.string s) ∧ w' = w2 := by
  subst hv
  have hc : w.drew.cell? ⟨b, 1, none⟩ = some (.slice a n cap) := hc
  have mixed : Tryz.prog.follows .mixedOrders = true := by kernel_rfl
  go_enter Tryz.func52, Tryz.ntmps52
  go_wp2
  go_region
  all_goals (go_wp2; go_ret; exact ⟨rfl, rfl⟩)
theorem Tryz.fails43 (a : Addr) (w : World) : Calls Tryz.prog 43 #[.pointer (some a)] w fun e w' => ∃ v, Go.Fe.RepV (fun _ => none) .unit () v ∧ e = Go.Fe.fallen 158 v ∧ w' = w := by
  go_enter Tryz.func43, Tryz.ntmps43
  go_wp2
  exact ⟨rfl, .agg #[], ⟨[], by simp [Go.Fe.RepT], rfl⟩, rfl, rfl⟩

end Go.Proofs
namespace Go.Proofs.YtmnpchoocaiegaaGreatDoor
open Go Go.Fe

abbrev YA0 : Ty := (.int .i64)
abbrev KA9 : K := (.val YA0)
abbrev YA10 : Ty := (.pair YA0 (.pair YA0 (.pair YA0 (.pair YA0 .unit))))
abbrev KA12 : K := (.val .bool)
abbrev KA15 : K := (.rcd (.cons KA9 (.cons KA9 (.cons KA9 (.cons KA9 .unit)))))
abbrev YA16 : Ty := (.pair .str (.pair (.sl .str) (.pair (.sl .str) (.pair .bool .unit))))
abbrev YA17 : Ty := (.int .u8)
abbrev KA21 : K := (.val .unit)
abbrev KA22 : K := (.val .str)
abbrev KA3 : K := (.rcd (.cons KA22 (.cons KA9 .unit)))
abbrev KA4 : K := (.rcd (.cons KA22 (.cons (.val (.sl .str)) (.cons (.val (.sl .str)) (.cons KA12 .unit)))))
abbrev KA11 : K := (.rcd (.cons KA9 (.cons KA9 (.cons KA9 (.cons KA9 (.cons KA9 (.cons KA22 (.cons KA22 (.cons KA22 .unit)))))))))
abbrev KA20 : K := (.rcd (.cons KA22 (.cons (.own 17) (.cons (.own 18) (.cons KA12 .unit)))))
abbrev YA23 : Ty := (.pair .str (.pair .str .unit))
abbrev YA2 : Ty := (.pair YA0 (.pair (.sl YA23) .unit))
abbrev YA5 : Ty := (.pair YA0 (.pair YA0 (.pair YA0 (.pair YA0 (.pair YA0 (.pair .str YA23))))))
abbrev YA13 : Ty := (.pair YA0 (.pair YA0 (.pair .str YA2)))
abbrev KA7 : K := (.rcd (.cons KA9 (.cons KA9 (.cons (.val (.sl YA13)) (.cons (.val (.sl YA10)) .unit)))))
abbrev KA14 : K := (.val (.sl YA23))
abbrev KA18 : K := (.rcd (.cons KA9 (.cons KA9 (.cons KA22 (.cons KA9 (.cons KA14 .unit))))))
abbrev YA19 : Ty := (.pair YA0 (.pair YA0 (.pair (.sl YA13) (.pair (.sl YA10) .unit))))
abbrev YA1 : Ty := (.pair YA19 (.pair (.sl YA5) .unit))
abbrev YA26 : Ty := (.pair YA0 YA2)
abbrev KA6 : K := (.rcd (.cons KA9 (.cons KA9 (.cons KA14 (.cons (.val (.sl YA26)) (.cons KA9 (.cons KA9 (.cons (.val (.sl YA13)) (.cons (.val (.sl YA10)) (.cons (.val (.sl YA5)) .unit))))))))))
abbrev YA8 : Ty := (.pair YA0 (.pair YA0 (.pair (.sl YA23) (.pair (.sl YA26) YA1))))
abbrev KA24 : K := (.rcd (.cons (.val (.sl YA8)) .unit))
abbrev KA25 : K := (.val (.pair (.sl YA8) .unit))
abbrev rd (n : Nat) : OH := { rd := [n] }
abbrev wr (n : Nat) : OH := { wr := [n] }
abbrev nw (n : Nat) : OH := { new := [n] }
abbrev fz (k n : Nat) : OH := { fz := [(k, n)] }
abbrev rz : HC := .region []
abbrev rg := HC.region
abbrev sq := HC.seq
abbrev cn := HC.cond
abbrev bk := HC.block
abbrev lf := HC.leaf
def feTab : List (TypeId × Ty) := [(3, YA0), (4, .bool), (5, YA17), (9, .str), (21, (.int .i32)), (23, (.sl YA8)), (25, (.pair (.sl YA8) .unit)), (26, YA0), (29, (.arr 2 .str)), (30, (.sl (.arr 2 .str))), (37, (.sl YA23)), (38, (.sl YA26)), (39, (.sl YA13)), (40, (.sl YA10)), (42, YA19), (43, (.sl YA5)), (45, YA8), (53, (.sl YA0)), (56, (.sl .str)), (67, (.sl YA17)), (76, YA26), (78, YA13), (88, YA16), (104, .err), (120, YA10), (122, YA5), (154, (.int .u64)), (156, (.pair .str (.pair YA0 .unit))), (158, .unit), (190, YA23), (193, (.int .u32))]
noncomputable def fe0 : Ctx := (Ctx.withBw (Ctx.withBld (Ctx.base feTab (globOf [(1, ⟨(.arr 256 YA17), some runeFirst⟩), (2, ⟨(.arr 16 (.pair YA17 (.pair YA17 .unit))), some runeAccept⟩), (3, ⟨(.arr 20 (.int .u64)), some Lib.pow10Tab⟩), (4, ⟨YA0, none⟩), (5, ⟨.err, some true⟩), (6, ⟨.err, some true⟩)])) [97]) [99]).eqs [(120, YA10), (190, YA23)]
theorem fe0_ok : CtxOK fe0 Tryz.prog := eqs_ok (bw_ok (bld_ok (base_ok (by kernel_rfl)) (by kernel_rfl)) (by kernel_rfl)) (by kernel_rfl)
theorem feMixed : Tryz.prog.follows .mixedOrders = true := by kernel_rfl
noncomputable def fx43 : Ctx := fe0.add 43 (failSem 158 .unit ())
theorem fx43_ok : CtxOK fx43 Tryz.prog := add_ok fe0_ok (fail_ok Tryz.fails43) Tryz.call43
noncomputable def fx52 : Ctx := fx43.add 52 bldStr
theorem fx52_ok : CtxOK fx52 Tryz.prog := add_ok fx43_ok (bld_str (i := 52) (Ts := 67) (Tp := 172) (Ti := 3) (Tz := 9) Tryz.underlying172 (by kernel_rfl) Tryz.bldStr) Tryz.call52
noncomputable def fx83 : Ctx := fx52.add 83 (shelfSem [YA0] [.str] sItoa)
theorem fx83_ok : CtxOK fx83 Tryz.prog := add_ok fx52_ok (okItoa (g := 3) rfl (by kernel_rfl) Tryz.strconv_Itoa) Tryz.call83
noncomputable def fx91 : Ctx := fx83.add 91 (shelfSem [.str, .str] [.bool] sHasPrefix)
theorem fx91_ok : CtxOK fx91 Tryz.prog := add_ok fx83_ok (okHasPrefix Tryz.strings_HasPrefix) Tryz.call91
noncomputable def fx122 : Ctx := fx91.add 122 (bldCopy 97)
theorem fx122_ok : CtxOK fx122 Tryz.prog := add_ok fx91_ok (bld_copy Tryz.bldUsed Tryz.bldFresh) Tryz.call122
noncomputable def fx122m0 : Ctx := fx122.more 122 (bldCopy 99)
theorem fx122m0_ok : CtxOK fx122m0 Tryz.prog := more_ok fx122_ok (bld_copy Tryz.bldUsed Tryz.bldFresh99) Tryz.call122
noncomputable def fx154 : Ctx := fx122m0.add 154 (shelfSem [.str, .str] [.bool] sHasSuffix)
theorem fx154_ok : CtxOK fx154 Tryz.prog := add_ok fx122m0_ok (okHasSuffix Tryz.strings_HasSuffix) Tryz.call154
noncomputable def fx157 : Ctx := fx154.add 157 (shelfSem [.str, .str] [.str] sTrimSuffix)
theorem fx157_ok : CtxOK fx157 Tryz.prog := add_ok fx154_ok (okTrimSuffix Tryz.strings_TrimSuffix) Tryz.call157
noncomputable def fx160 : Ctx := fx157.add 160 (shelfSem [.str, .str] [.str, .bool] sCutPrefix)
theorem fx160_ok : CtxOK fx160 Tryz.prog := add_ok fx157_ok (okCutPrefix Tryz.strings_CutPrefix) Tryz.call160
noncomputable def fx178 : Ctx := fx160.add 178 (shelfSem [.str, YA17] [YA0] sIndexByte)
theorem fx178_ok : CtxOK fx178 Tryz.prog := add_ok fx160_ok (okIndexByte Tryz.strings_IndexByte) Tryz.call178
noncomputable def fx179 : Ctx := fx178.add 179 (shelfSem [.str] [(.int .i32), YA0] sRune)
theorem fx179_ok : CtxOK fx179 Tryz.prog := add_ok fx178_ok (okRune (g3 := 1) (g4 := 2) rfl rfl Tryz.utf8_DecodeRuneInString) Tryz.call179
noncomputable def fx182 : Ctx := fx179.add 182 (shelfSem [.str, .str] [.str] sTrimPrefix)
theorem fx182_ok : CtxOK fx182 Tryz.prog := add_ok fx179_ok (okTrimPrefix Tryz.strings_TrimPrefix) Tryz.call182
noncomputable def fx183 : Ctx := fx182.add 183 (shelfSem [.str] [YA0, .err] sAtoi)
theorem fx183_ok : CtxOK fx183 Tryz.prog := add_ok fx182_ok (okAtoi (g1 := 5) (g2 := 6) rfl rfl Tryz.strconv_Atoi_ok Tryz.strconv_Atoi_syntax Tryz.strconv_Atoi_range) Tryz.call183
noncomputable def fx253 : Ctx := fx183.add 253 (shelfSem [.str, YA0] [(.sl .str)] (sNever [Ty.str, (Ty.int .i64)] [(Ty.sl .str)]))
theorem fx253_ok : CtxOK fx253 Tryz.prog := add_ok fx183_ok (okNever (l := [.str, YA0]) (r := [(.sl .str)])) Tryz.call253
noncomputable def fx254 : Ctx := fx253.add 254 (shelfSem [.str, .str] [YA0] sCount)
theorem fx254_ok : CtxOK fx254 Tryz.prog := add_ok fx253_ok (okCount Tryz.strings_Count_one) Tryz.call254
noncomputable def fx279 : Ctx := fx254.add 279 (shelfSem [.str, .str] [.str] (sNever [Ty.str, Ty.str] [Ty.str]))
theorem fx279_ok : CtxOK fx279 Tryz.prog := add_ok fx254_ok (okNever (l := [.str, .str]) (r := [.str])) Tryz.call279
noncomputable def fx280 : Ctx := fx279.add 280 (shelfSem [.str, .str] [.str] (sNever [Ty.str, Ty.str] [Ty.str]))
theorem fx280_ok : CtxOK fx280 Tryz.prog := add_ok fx279_ok (okNever (l := [.str, .str]) (r := [.str])) Tryz.call280
noncomputable def fx283 : Ctx := fx280.add 283 (shelfSem [.str, .str] [YA0] sIndex)
theorem fx283_ok : CtxOK fx283 Tryz.prog := add_ok fx280_ok (okIndex Tryz.stringslite_Index_one) Tryz.call283
def inst39 : Inst := mk1 [] KA25
noncomputable def run39 : inst39.F := fun _ _ => doc_First
noncomputable def fx39 : Ctx := fx283.add 39 (inst39.sem run39)
theorem fx39_ok : CtxOK fx39 Tryz.prog := fn_put fx283_ok feMixed 39 Tryz.f39 [.cell 0 25] (sq (rg [(nw 10)]) (sq (rg [{}, (nw 11), (fz 2 11), {}, (nw 12), (fz 5 12), (nw 13), (fz 7 13), (wr 10)]) lf)) inst39 9 run39 Tryz.func39 (by kernel_rfl) Tryz.ntmps39 (by kernel_rfl) (by intro x y; kernel_rfl) Tryz.call39
def inst193 : Inst := mk1 [KA22] KA12
noncomputable def run193 : inst193.F := fun x _ => attr_Name x.1
noncomputable def fx193 : Ctx := fx39.add 193 (inst193.sem run193)
theorem fx193_ok : CtxOK fx193 Tryz.prog := fn_put fx39_ok feMixed 193 Tryz.f193 [.tmp 2] (sq rz (sq (sq (.cut [(.normal, [(21, KA12)])] rz) (cn (sq rz lf) lf)) (sq (sq rz (bk (.loop [(24, KA9)] [((.exit 0), []), (.ret, [(2, KA12)])] (sq rz (sq (cn lf lf) (sq (bk (sq rz (sq rz (sq (.cut [(.normal, [(51, KA12)])] rz) (cn (sq rz lf) lf))))) rz)))))) (sq rz lf)))) inst193 53 run193 Tryz.func193 (by kernel_rfl) Tryz.ntmps193 (by kernel_rfl) (by intro x y; kernel_rfl) Tryz.call193
def inst194 : Inst := mk1 [KA22] KA12
noncomputable def run194 : inst194.F := fun x _ => attr_Value x.1
noncomputable def fx194 : Ctx := fx193.add 194 (inst194.sem run194)
theorem fx194_ok : CtxOK fx194 Tryz.prog := fn_put fx193_ok feMixed 194 Tryz.f194 [.tmp 2] (sq rz (sq (sq (.cut [(.normal, [(10, KA12)])] rz) (cn (sq rz lf) lf)) (sq (sq rz (bk (.loop [(13, KA9)] [((.exit 0), []), (.ret, [(2, KA12)])] (sq rz (sq (cn lf lf) (sq (bk (sq rz (sq (.cut [(.normal, [(25, KA12)])] rz) (cn (sq rz lf) lf)))) rz)))))) (sq rz lf)))) inst194 27 run194 Tryz.func194 (by kernel_rfl) Tryz.ntmps194 (by kernel_rfl) (by intro x y; kernel_rfl) Tryz.call194
def inst126 : Inst := mk1 [KA14, KA12] KA9
noncomputable def run126 : inst126.F := fun x _ => attr_check x.1 x.2.1
noncomputable def fx126 : Ctx := fx194.add 126 (inst126.sem run126)
theorem fx126_ok : CtxOK fx126 Tryz.prog := fn_put fx194_ok feMixed 126 Tryz.f126 [.tmp 4] (sq rz (sq (sq rz (bk (.loop [(9, KA9)] [((.exit 0), []), (.ret, [(4, KA9)])] (sq rz (sq (cn lf lf) (sq (bk (sq (rg [{}, {}, {}, (nw 10), {}, (wr 10)]) (bk (sq (rg [(rd 10), (rd 10)]) (cn (sq rz lf) (sq (.cut [(.normal, [(6, (.ptr 10 0)), (19, KA12), (100010, (.rcd (.cons KA22 (.cons KA22 .unit))))])] (rg [(rd 10), (rd 10), {}, {}, {}, {}, {}, (rd 10), (rd 10)])) (cn (sq rz lf) (sq (.cut [(.normal, [(33, KA12)])] (rg [{}, {}, {}, (rd 10), (rd 10)])) (cn (sq rz lf) lf))))))))) rz)))))) (sq rz lf))) inst126 48 run126 Tryz.func126 (by kernel_rfl) Tryz.ntmps126 (by kernel_rfl) (by intro x y; kernel_rfl) Tryz.call126
def inst55 : Inst := mk1 [KA14] KA9
noncomputable def run55 : inst55.F := fun x _ => attr_Check x.1
noncomputable def fx55 : Ctx := fx126.add 55 (inst55.sem run55)
theorem fx55_ok : CtxOK fx55 Tryz.prog := fn_put fx126_ok feMixed 55 Tryz.f55 [.tmp 2] (sq rz (sq rz lf)) inst55 5 run55 Tryz.func55 (by kernel_rfl) Tryz.ntmps55 (by kernel_rfl) (by intro x y; kernel_rfl) Tryz.call55
def inst56 : Inst := mk1 [KA9] KA12
noncomputable def run56 : inst56.F := fun x _ => doc_Texts x.1
noncomputable def fx56 : Ctx := fx55.add 56 (inst56.sem run56)
theorem fx56_ok : CtxOK fx56 Tryz.prog := fn_put fx55_ok feMixed 56 Tryz.f56 [.tmp 2] (sq rz (sq rz lf)) inst56 17 run56 Tryz.func56 (by kernel_rfl) Tryz.ntmps56 (by kernel_rfl) (by intro x y; kernel_rfl) Tryz.call56
def inst58 : Inst := mk1 [KA9] KA12
noncomputable def run58 : inst58.F := fun x _ => doc_Grids x.1
noncomputable def fx58 : Ctx := fx56.add 58 (inst58.sem run58)
theorem fx58_ok : CtxOK fx58 Tryz.prog := fn_put fx56_ok feMixed 58 Tryz.f58 [.tmp 2] (sq rz (sq rz lf)) inst58 9 run58 Tryz.func58 (by kernel_rfl) Tryz.ntmps58 (by kernel_rfl) (by intro x y; kernel_rfl) Tryz.call58
def inst57 : Inst := mk1 [KA9] KA12
noncomputable def run57 : inst57.F := fun x _ => doc_Lists x.1
noncomputable def fx57 : Ctx := fx58.add 57 (inst57.sem run57)
theorem fx57_ok : CtxOK fx57 Tryz.prog := fn_put fx58_ok feMixed 57 Tryz.f57 [.tmp 2] (sq rz (sq rz lf)) inst57 9 run57 Tryz.func57 (by kernel_rfl) Tryz.ntmps57 (by kernel_rfl) (by intro x y; kernel_rfl) Tryz.call57
def inst127 : Inst := mk1 [(.val (.sl YA10)), (.val (.sl YA10))] KA12
noncomputable def run127 : inst127.F := fun x _ => api_Rect_ x.1 x.2.1
noncomputable def fx127 : Ctx := fx57.add 127 (inst127.sem run127)
theorem fx127_ok : CtxOK fx127 Tryz.prog := fn_put fx57_ok feMixed 127 Tryz.f127 [.tmp 4] (sq rz (sq (sq rz (cn (sq rz lf) lf)) (sq (sq rz (bk (.loop [(13, KA9)] [((.exit 0), []), (.ret, [(4, KA12)])] (sq rz (sq (cn lf lf) (sq (bk (sq rz (sq rz (cn (sq rz lf) lf)))) rz)))))) (sq rz lf)))) inst127 26 run127 Tryz.func127 (by kernel_rfl) Tryz.ntmps127 (by kernel_rfl) (by intro x y; kernel_rfl) Tryz.call127
def inst139 : Inst := mk1 [KA14, KA14] KA12
noncomputable def run139 : inst139.F := fun x _ => attr_Same x.1 x.2.1
noncomputable def fx139 : Ctx := fx127.add 139 (inst139.sem run139)
theorem fx139_ok : CtxOK fx139 Tryz.prog := fn_put fx127_ok feMixed 139 Tryz.f139 [.tmp 4] (sq rz (sq (sq rz (cn (sq rz lf) lf)) (sq (sq rz (bk (.loop [(13, KA9)] [((.exit 0), []), (.ret, [(4, KA12)])] (sq rz (sq (cn lf lf) (sq (bk (sq rz (sq rz (cn (sq rz lf) lf)))) rz)))))) (sq rz lf)))) inst139 26 run139 Tryz.func139 (by kernel_rfl) Tryz.ntmps139 (by kernel_rfl) (by intro x y; kernel_rfl) Tryz.call139
def inst129 : Inst := mk1 [(.val YA13), (.val YA13)] KA12
noncomputable def run129 : inst129.F := fun x _ => grid_SameCell x.1 x.2.1
noncomputable def fx129 : Ctx := fx139.add 129 (inst129.sem run129)
theorem fx129_ok : CtxOK fx129 Tryz.prog := fn_put fx139_ok feMixed 129 Tryz.f129 [.tmp 4] (sq (rg [(nw 10), (nw 11)]) (sq (rg [(rd 10), (rd 10), (rd 11), (rd 11), {}, {}, (rd 10), (rd 10), (rd 11), (rd 11), {}, {}, {}, (rd 10), (rd 10), (rd 11), (rd 11), {}, {}, {}, (rd 10), (rd 10), (rd 11), (rd 11), {}, {}, {}, (rd 10), (rd 10), (rd 11), (rd 11)]) lf)) inst129 38 run129 Tryz.func129 (by kernel_rfl) Tryz.ntmps129 (by kernel_rfl) (by intro x y; kernel_rfl) Tryz.call129
def inst128 : Inst := mk1 [(.val (.sl YA13)), (.val (.sl YA13)), (.fn 129 .unit)] KA12
noncomputable def run128 : inst128.F := fun x _ => api_Cell__SameCell x.1 x.2.1
noncomputable def fx128 : Ctx := fx129.add 128 (inst128.sem run128)
theorem fx128_ok : CtxOK fx128 Tryz.prog := fn_put fx129_ok feMixed 128 Tryz.f128 [.tmp 6] (sq rz (sq (sq rz (cn (sq rz lf) lf)) (sq (sq rz (bk (.loop [(2, (.fn 129 .unit)), (17, KA9)] [((.exit 0), []), (.ret, [(6, KA12)])] (sq rz (sq (cn lf lf) (sq (bk (sq (rg [{}, {}, {}, (nw 10), {}, (wr 10)]) (sq (rg [{}, {}, {}, {}, (nw 11), (wr 11)]) (sq (rg [{}, (rd 10), (rd 11)]) (cn (sq rz lf) lf))))) rz)))))) (sq rz lf)))) inst128 32 run128 Tryz.func128 (by kernel_rfl) Tryz.ntmps128 (by kernel_rfl) (by intro x y; kernel_rfl) Tryz.call128
def inst59 : Inst := mk1 [(.val YA19), (.val YA19)] KA12
noncomputable def run59 : inst59.F := fun x _ => grid_Same x.1 x.2.1
noncomputable def fx59 : Ctx := fx128.add 59 (inst59.sem run59)
theorem fx59_ok : CtxOK fx59 Tryz.prog := fn_put fx128_ok feMixed 59 Tryz.f59 [.tmp 4] (sq (rg [(nw 10), (nw 11)]) (sq (rg [(rd 10), (rd 10), (rd 11), (rd 11), {}, {}, (rd 10), (rd 10), (rd 11), (rd 11), {}, {}, {}, (rd 10), (rd 10), (rd 11), (rd 11), {}, {}, {}, (rd 10), (rd 10), (rd 11), (rd 11)]) lf)) inst59 31 run59 Tryz.func59 (by kernel_rfl) Tryz.ntmps59 (by kernel_rfl) (by intro x y; kernel_rfl) Tryz.call59
def inst60 : Inst := mk1 [KA9] KA12
noncomputable def run60 : inst60.F := fun x _ => doc_Draws x.1
noncomputable def fx60 : Ctx := fx59.add 60 (inst60.sem run60)
theorem fx60_ok : CtxOK fx60 Tryz.prog := fn_put fx59_ok feMixed 60 Tryz.f60 [.tmp 2] (sq rz (sq rz lf)) inst60 13 run60 Tryz.func60 (by kernel_rfl) Tryz.ntmps60 (by kernel_rfl) (by intro x y; kernel_rfl) Tryz.call60
def inst195 : Inst := mk1 [KA9] KA12
noncomputable def run195 : inst195.F := fun x _ => flow_Char x.1
noncomputable def fx195 : Ctx := fx60.add 195 (inst195.sem run195)
theorem fx195_ok : CtxOK fx195 Tryz.prog := fn_put fx60_ok feMixed 195 Tryz.f195 [.tmp 2] (sq rz (sq rz lf)) inst195 33 run195 Tryz.func195 (by kernel_rfl) Tryz.ntmps195 (by kernel_rfl) (by intro x y; kernel_rfl) Tryz.call195
def inst130 : Inst := mk1 [(.val YA26)] KA9
noncomputable def run130 : inst130.F := fun x _ => flow_elem x.1
noncomputable def fx130 : Ctx := fx195.add 130 (inst130.sem run130)
theorem fx130_ok : CtxOK fx130 Tryz.prog := fn_put fx195_ok feMixed 130 Tryz.f130 [.tmp 2] (sq (rg [(nw 10)]) (sq (bk (sq (rg [(rd 10), (rd 10), {}, (rd 10), (rd 10)]) (cn (sq rz lf) (sq (.cut [(.normal, [(1, (.ptr 10 0)), (11, KA12), (100010, (.rcd (.cons KA9 (.cons KA9 (.cons KA14 .unit)))))])] (sq (.cut [(.normal, [(1, (.ptr 10 0)), (11, KA12), (100010, (.rcd (.cons KA9 (.cons KA9 (.cons KA14 .unit)))))])] (rg [(rd 10), (rd 10), {}, {}, (rd 10), (rd 10)])) (cn lf (rg [(rd 10), (rd 10), {}, {}, (rd 10), (rd 10), {}, {}, (rd 10), (rd 10)])))) (cn (sq rz lf) lf))))) (sq (rg [(rd 10), (rd 10)]) lf))) inst130 37 run130 Tryz.func130 (by kernel_rfl) Tryz.ntmps130 (by kernel_rfl) (by intro x y; kernel_rfl) Tryz.call130
def inst61 : Inst := mk1 [(.val (.sl YA26)), KA12] KA9
noncomputable def run61 : inst61.F := fun x _ => flow_Check x.1 x.2.1
noncomputable def fx61 : Ctx := fx130.add 61 (inst61.sem run61)
theorem fx61_ok : CtxOK fx61 Tryz.prog := fn_put fx130_ok feMixed 61 Tryz.f61 [.tmp 4] (sq rz (sq (sq rz (bk (.loop [(10, KA9)] [((.exit 0), []), (.ret, [(4, KA9)])] (sq rz (sq (cn lf lf) (sq (bk (sq (rg [{}, {}, (nw 10), (wr 10)]) (sq (sq (rg [(rd 10)]) (sq rz (cn (sq rz lf) lf))) (sq (.cut [(.normal, [(25, KA12)])] (rg [{}, {}, {}, (rd 10), (rd 10)])) (cn (sq rz lf) lf))))) rz)))))) (sq (sq (.cut [(.normal, [(42, KA12)])] rz) (cn (sq rz lf) lf)) (sq rz lf)))) inst61 43 run61 Tryz.func61 (by kernel_rfl) Tryz.ntmps61 (by kernel_rfl) (by intro x y; kernel_rfl) Tryz.call61
def inst196 : Inst := mk1 [KA22] KA12
noncomputable def run196 : inst196.F := fun x _ => grid_Text x.1
noncomputable def fx196 : Ctx := fx61.add 196 (inst196.sem run196)
theorem fx196_ok : CtxOK fx196 Tryz.prog := fn_put fx61_ok feMixed 196 Tryz.f196 [.tmp 2] (sq rz (sq (bk (.loop [(0, KA22)] [((.exit 0), []), (.ret, [(2, KA12)])] (sq (sq rz (cn lf lf)) (bk (sq rz (sq (sq (.cut [(.normal, [(27, KA12)])] rz) (cn (sq rz lf) lf)) rz)))))) (sq rz lf))) inst196 31 run196 Tryz.func196 (by kernel_rfl) Tryz.ntmps196 (by kernel_rfl) (by intro x y; kernel_rfl) Tryz.call196
def inst197 : Inst := mk1 [(.val YA13)] KA12
noncomputable def run197 : inst197.F := fun x _ => grid_empty x.1
noncomputable def fx197 : Ctx := fx196.add 197 (inst197.sem run197)
theorem fx197_ok : CtxOK fx197 Tryz.prog := fn_put fx196_ok feMixed 197 Tryz.f197 [.tmp 2] (sq (rg [(nw 10)]) (sq (rg [(rd 10), (rd 10), {}, {}, (rd 10), (rd 10), {}, {}, {}, (rd 10), (rd 10)]) lf)) inst197 17 run197 Tryz.func197 (by kernel_rfl) Tryz.ntmps197 (by kernel_rfl) (by intro x y; kernel_rfl) Tryz.call197
def inst234 : Inst := mk1 [KA9] KA12
noncomputable def run234 : inst234.F := fun x _ => cmp_isNaN_int_ x.1
noncomputable def fx234 : Ctx := fx197.add 234 (inst234.sem run234)
theorem fx234_ok : CtxOK fx234 Tryz.prog := fn_put fx197_ok feMixed 234 Tryz.f234 [.tmp 2] (sq rz (sq rz lf)) inst234 6 run234 Tryz.func234 (by kernel_rfl) Tryz.ntmps234 (by kernel_rfl) (by intro x y; kernel_rfl) Tryz.call234
def inst202 : Inst := mk1 [KA9, KA9] KA9
noncomputable def run202 : inst202.F := fun x _ => cmp_Compare_int_ x.1 x.2.1
noncomputable def fx202 : Ctx := fx234.add 202 (inst202.sem run202)
theorem fx202_ok : CtxOK fx202 Tryz.prog := fn_put fx234_ok feMixed 202 Tryz.f202 [.tmp 4] (sq rz (sq rz (sq rz (sq (sq rz (cn (sq (sq rz (cn (sq rz lf) lf)) (sq rz lf)) lf)) (sq (sq rz (cn (sq rz lf) lf)) (sq (sq rz (cn (sq rz lf) lf)) (sq (sq rz (cn (sq rz lf) lf)) (sq rz lf)))))))) inst202 20 run202 Tryz.func202 (by kernel_rfl) Tryz.ntmps202 (by kernel_rfl) (by intro x y; kernel_rfl) Tryz.call202
def inst201 : Inst := mk1 [(.val (.sl YA0))] KA9
noncomputable def run201 : inst201.F := fun x _ => cmp_Or_int_ x.1
noncomputable def fx201 : Ctx := fx202.add 201 (inst201.sem run201)
theorem fx201_ok : CtxOK fx201 Tryz.prog := fn_put fx202_ok feMixed 201 Tryz.f201 [.tmp 2] (sq rz (sq rz (sq (sq rz (bk (.loop [(8, KA9)] [((.exit 0), []), (.ret, [(2, KA9)])] (sq rz (sq (cn lf lf) (sq (bk (sq rz (sq rz (cn (sq rz lf) lf)))) rz)))))) (sq rz lf)))) inst201 18 run201 Tryz.func201 (by kernel_rfl) Tryz.ntmps201 (by kernel_rfl) (by intro x y; kernel_rfl) Tryz.call201
def inst198 : Inst := mk1 [(.val YA13), (.val YA13)] KA9
noncomputable def run198 : inst198.F := fun x _ => grid_order x.1 x.2.1
noncomputable def fx198 : Ctx := fx201.add 198 (inst198.sem run198)
theorem fx198_ok : CtxOK fx198 Tryz.prog := fn_put fx201_ok feMixed 198 Tryz.f198 [.tmp 4] (sq (rg [(nw 10), (nw 11)]) (sq (rg [(rd 10), (rd 10), (rd 11), (rd 11), {}, (rd 10), (rd 10), (rd 11), (rd 11), {}, (nw 12), (fz 15 12)]) lf)) inst198 17 run198 Tryz.func198 (by kernel_rfl) Tryz.ntmps198 (by kernel_rfl) (by intro x y; kernel_rfl) Tryz.call198
def inst131 : Inst := mk1 [(.val (.sl YA13)), KA9, KA9, KA12] KA9
noncomputable def run131 : inst131.F := fun x _ => grid_cells x.1 x.2.1 x.2.2.1 x.2.2.2.1
noncomputable def fx131 : Ctx := fx198.add 131 (inst131.sem run131)
theorem fx131_ok : CtxOK fx131 Tryz.prog := fn_put fx198_ok feMixed 131 Tryz.f131 [.tmp 8] (sq rz (sq (sq rz (bk (.loop [(14, KA9)] [((.exit 0), []), (.ret, [(8, KA9)])] (sq rz (sq (cn lf lf) (sq (bk (sq (rg [{}, {}, {}, (nw 10), {}, (wr 10)]) (sq (bk (sq (.cut [(.normal, [(10, (.ptr 10 0)), (19, KA12), (100010, KA18)])] (rg [(rd 10), (rd 10), {}, {}, (rd 10), (rd 10), {}, {}, {}, {}, (rd 10), (rd 10), {}, {}, {}, (rd 10), (rd 10)])) (cn (sq rz lf) (sq (.cut [(.normal, [(10, (.ptr 10 0)), (40, KA12), (100010, KA18)])] (rg [(rd 10), (rd 10), {}, {}, (rd 10), (rd 10)])) (cn (sq rz lf) (sq (rg [(rd 10), (rd 10)]) (cn (sq rz lf) lf))))))) (sq (sq (rg [(rd 10), (rd 10)]) (sq rz (cn (sq rz lf) lf))) (sq (sq (.cut [(.normal, [(10, (.ptr 10 0)), (65, KA12), (100010, KA18)])] (rg [(rd 10)])) (cn (sq rz lf) lf)) (sq (.cut [(.normal, [(77, KA12)])] (rg [{}, {}, {}, {}, {}, {}, {}, {}, (rd 10)])) (cn (sq rz lf) lf))))))) rz)))))) (sq rz lf))) inst131 79 run131 Tryz.func131 (by kernel_rfl) Tryz.ntmps131 (by kernel_rfl) (by intro x y; kernel_rfl) Tryz.call131
def inst132 : Inst := mk1 [(.val YA10), KA9, KA9] KA12
noncomputable def run132 : inst132.F := fun x _ => grid_inside x.1 x.2.1 x.2.2.1
noncomputable def fx132 : Ctx := fx131.add 132 (inst132.sem run132)
theorem fx132_ok : CtxOK fx132 Tryz.prog := fn_put fx131_ok feMixed 132 Tryz.f132 [.tmp 6] (sq (rg [(nw 10)]) (sq (rg [(rd 10), (rd 10), {}, {}, (rd 10), (rd 10), {}, {}, {}, (rd 10), (rd 10), {}, {}, {}, (rd 10), (rd 10), {}, {}, {}, (rd 10), (rd 10), {}, {}, {}, {}, (rd 10), (rd 10), {}, {}, {}, {}, (rd 10), (rd 10), {}, (rd 10), (rd 10), {}, {}, {}, {}, (rd 10), (rd 10), {}, (rd 10), (rd 10)]) lf)) inst132 55 run132 Tryz.func132 (by kernel_rfl) Tryz.ntmps132 (by kernel_rfl) (by intro x y; kernel_rfl) Tryz.call132
def inst133 : Inst := mk1 [(.val YA10), (.val YA10)] KA12
noncomputable def run133 : inst133.F := fun x _ => grid_before x.1 x.2.1
noncomputable def fx133 : Ctx := fx132.add 133 (inst133.sem run133)
theorem fx133_ok : CtxOK fx133 Tryz.prog := fn_put fx132_ok feMixed 133 Tryz.f133 [.tmp 4] (sq (rg [(nw 10), (nw 11)]) (sq (rg [(rd 10), (rd 10), (rd 11), (rd 11), {}, {}, (rd 10), (rd 10), (rd 11), (rd 11), {}, {}, (rd 10), (rd 10), (rd 11), (rd 11)]) lf)) inst133 24 run133 Tryz.func133 (by kernel_rfl) Tryz.ntmps133 (by kernel_rfl) (by intro x y; kernel_rfl) Tryz.call133
def inst136 : Inst := mk1 [(.val YA10), (.val YA10)] KA12
noncomputable def run136 : inst136.F := fun x _ => grid_meets x.1 x.2.1
noncomputable def fx136 : Ctx := fx133.add 136 (inst136.sem run136)
theorem fx136_ok : CtxOK fx136 Tryz.prog := fn_put fx133_ok feMixed 136 Tryz.f136 [.tmp 4] (sq (rg [(nw 10), (nw 11)]) (sq (rg [(rd 10), (rd 10), (rd 11), (rd 11), (rd 11), (rd 11), {}, {}, {}, (rd 11), (rd 11), (rd 10), (rd 10), (rd 10), (rd 10), {}, {}, {}, {}, (rd 10), (rd 10), (rd 11), (rd 11), (rd 11), (rd 11), {}, {}, {}, {}, (rd 11), (rd 11), (rd 10), (rd 10), (rd 10), (rd 10)]) lf)) inst136 43 run136 Tryz.func136 (by kernel_rfl) Tryz.ntmps136 (by kernel_rfl) (by intro x y; kernel_rfl) Tryz.call136
def inst135 : Inst := { args := [(.val YA10), (.ptr 0 0)], objs := [KA15], nres := 1, out := [(90000, KA12), (1, (.ptr 0 0)), (100000, KA15)], news := 0 }
noncomputable def run135 : inst135.F := fun x y => grid_Check_1 x.1 y.1.1 y.1.2.1 y.1.2.2.1 y.1.2.2.2.1
noncomputable def fx135 : Ctx := fx136.add 135 (inst135.sem run135)
theorem fx135_ok : CtxOK fx135 Tryz.prog := fn_put fx136_ok feMixed 135 Tryz.f135 [.tmp 3] (sq (rg [(nw 11)]) (sq (rg [(rd 11), (rd 0)]) lf)) inst135 7 run135 Tryz.func135 (by kernel_rfl) Tryz.ntmps135 (by kernel_rfl) (by intro x y; kernel_rfl) Tryz.call135
def inst199 : Inst := { args := [(.val (.sl YA10)), (.fn 135 (.cons (.ptr 0 0) .unit))], objs := [KA15], nres := 1, out := [(90000, KA9), (1, (.fn 135 (.cons (.ptr 0 0) .unit))), (100000, KA15)], news := 0 }
noncomputable def run199 : inst199.F := fun x y => api_Rect__Check_1x x.1 y.1.1 y.1.2.1 y.1.2.2.1 y.1.2.2.2.1
noncomputable def fx199 : Ctx := fx135.add 199 (inst199.sem run199)
theorem fx199_ok : CtxOK fx199 Tryz.prog := fn_put fx135_ok feMixed 199 Tryz.f199 [.tmp 4] (sq rz (sq (sq rz (bk (.loop [(1, (.fn 135 (.cons (.ptr 0 0) .unit))), (8, KA9), (100000, KA15)] [((.exit 0), [(1, (.fn 135 (.cons (.ptr 0 0) .unit))), (100000, KA15)]), (.ret, [(1, (.fn 135 (.cons (.ptr 0 0) .unit))), (4, KA9), (100000, KA15)])] (sq rz (sq (cn lf lf) (sq (bk (sq rz (sq (rg [{}, {}, {}, {}, {}, (wr 0)]) (cn (sq rz lf) lf)))) rz)))))) (sq rz lf))) inst199 19 run199 Tryz.func199 (by kernel_rfl) Tryz.ntmps199 (by kernel_rfl) (by intro x y; kernel_rfl) Tryz.call199
def inst134 : Inst := { args := [(.val (.sl YA10)), (.fn 135 (.cons (.ptr 0 0) .unit))], objs := [KA15], nres := 1, out := [(90000, KA12), (1, (.fn 135 (.cons (.ptr 0 0) .unit))), (100000, KA15)], news := 0 }
noncomputable def run134 : inst134.F := fun x y => api_Rect__Check_1 x.1 y.1.1 y.1.2.1 y.1.2.2.1 y.1.2.2.2.1
noncomputable def fx134 : Ctx := fx199.add 134 (inst134.sem run134)
theorem fx134_ok : CtxOK fx134 Tryz.prog := fn_put fx199_ok feMixed 134 Tryz.f134 [.tmp 4] (sq rz (sq (rg [{}, {}, (wr 0)]) lf)) inst134 9 run134 Tryz.func134 (by kernel_rfl) Tryz.ntmps134 (by kernel_rfl) (by intro x y; kernel_rfl) Tryz.call134
def inst62 : Inst := mk1 [(.val YA19)] KA9
noncomputable def run62 : inst62.F := fun x _ => grid_Check x.1
noncomputable def fx62 : Ctx := fx134.add 62 (inst62.sem run62)
theorem fx62_ok : CtxOK fx62 Tryz.prog := fn_put fx134_ok feMixed 62 Tryz.f62 [.tmp 2] (sq (rg [(nw 10)]) (sq (sq (.cut [(.normal, [(1, (.ptr 10 0)), (23, KA12), (100010, KA7)])] (rg [(rd 10), (rd 10), {}, {}, (rd 10), (rd 10), {}, {}, {}, (rd 10), (rd 10), {}, {}, {}, (rd 10), (rd 10)])) (cn (sq rz lf) lf)) (sq (sq (rg [(rd 10), (rd 10), (rd 10), (rd 10), (rd 10), (rd 10)]) (sq rz (cn (sq rz lf) lf))) (sq (sq (rg [(rd 10), (rd 10)]) (bk (.loop [(1, (.ptr 10 0)), (37, KA9), (100010, KA7)] [((.exit 0), []), (.ret, [(2, KA9)])] (sq rz (sq (cn lf lf) (sq (bk (sq (rg [{}, {}, {}, (nw 11), {}, (wr 11)]) (bk (sq (rg [(rd 11), (rd 10), (rd 10), (rd 10), (rd 10)]) (cn (sq rz lf) (sq (.cut [(.normal, [(1, (.ptr 10 0)), (5, (.ptr 11 0)), (50, KA12), (100010, KA7), (100011, KA15)])] (rg [(rd 11), (rd 11), {}, {}, (rd 11), (rd 11)])) (cn (sq rz lf) (sq (.cut [(.normal, [(1, (.ptr 10 0)), (5, (.ptr 11 0)), (59, KA12), (100010, KA7), (100011, KA15)])] (rg [{}, {}, {}, (rd 10), (rd 10), {}, {}, {}, {}, (rd 11)])) (cn (sq rz lf) (sq (rg [(rd 10), (rd 10), {}, {}, {}, (wr 11)]) (cn (sq rz lf) lf))))))))))) rz)))))) (sq rz lf))))) inst62 81 run62 Tryz.func62 (by kernel_rfl) Tryz.ntmps62 (by kernel_rfl) (by intro x y; kernel_rfl) Tryz.call62
def inst63 : Inst := mk1 [KA9, (.val (.sl YA13))] KA9
noncomputable def run63 : inst63.F := fun x _ => doc_CheckCells x.1 x.2.1
noncomputable def fx63 : Ctx := fx62.add 63 (inst63.sem run63)
theorem fx63_ok : CtxOK fx63 Tryz.prog := fn_put fx62_ok feMixed 63 Tryz.f63 [.tmp 4] (sq rz (sq (sq rz (bk (.loop [(9, KA9)] [((.exit 0), []), (.ret, [(4, KA9)])] (sq rz (sq (cn lf lf) (sq (bk (sq (rg [{}, {}, (nw 10), (wr 10)]) (sq (.cut [(.normal, [(34, KA12)])] (rg [{}, {}, {}, (rd 10), (rd 10), {}, {}, (rd 10), (rd 10), {}, {}, {}, {}, {}, {}, {}, {}, (rd 10), (rd 10)])) (cn (sq rz lf) lf)))) rz)))))) (sq rz lf))) inst63 36 run63 Tryz.func63 (by kernel_rfl) Tryz.ntmps63 (by kernel_rfl) (by intro x y; kernel_rfl) Tryz.call63
def inst200 : Inst := mk1 [KA22] KA12
noncomputable def run200 : inst200.F := fun x _ => replica_Place x.1
noncomputable def fx200 : Ctx := fx63.add 200 (inst200.sem run200)
theorem fx200_ok : CtxOK fx200 Tryz.prog := fn_put fx63_ok feMixed 200 Tryz.f200 [.tmp 2] (sq rz (sq (sq (.cut [(.normal, [(18, KA12)])] rz) (cn (sq rz lf) lf)) (sq (sq rz (bk (.loop [(21, KA9)] [((.exit 0), []), (.ret, [(2, KA12)])] (sq rz (sq (cn lf lf) (sq (bk (sq rz (sq (.cut [(.normal, [(33, KA12)])] rz) (cn (sq rz lf) lf)))) rz)))))) (sq rz lf)))) inst200 35 run200 Tryz.func200 (by kernel_rfl) Tryz.ntmps200 (by kernel_rfl) (by intro x y; kernel_rfl) Tryz.call200
def inst137 : Inst := mk1 [(.val YA5)] KA9
noncomputable def run137 : inst137.F := fun x _ => replica_op x.1
noncomputable def fx137 : Ctx := fx200.add 137 (inst137.sem run137)
theorem fx137_ok : CtxOK fx137 Tryz.prog := fn_put fx200_ok feMixed 137 Tryz.f137 [.tmp 2] (sq (rg [(nw 10)]) (sq (bk (sq (.cut [(.normal, [(1, (.ptr 10 0)), (3, KA12), (100010, KA11)])] (rg [(rd 10), (rd 10), {}, {}, (rd 10), (rd 10)])) (cn (sq rz lf) (sq (.cut [(.normal, [(1, (.ptr 10 0)), (12, KA12), (100010, KA11)])] (rg [(rd 10), (rd 10), {}, {}, (rd 10), (rd 10), {}, {}, {}, (rd 10), (rd 10), {}, {}, {}, (rd 10), (rd 10), {}, {}, {}, (rd 10), (rd 10), {}, {}, {}, (rd 10), (rd 10)])) (cn (sq rz lf) (sq (.cut [(.normal, [(1, (.ptr 10 0)), (41, KA12), (100010, KA11)])] (sq (.cut [(.normal, [(1, (.ptr 10 0)), (41, KA12), (100010, KA11)])] (rg [(rd 10), (rd 10), {}, {}, (rd 10), (rd 10), {}, {}, (rd 10), (rd 10)])) (cn lf (rg [(rd 10), (rd 10), {}, {}, (rd 10), (rd 10), {}, {}, (rd 10), (rd 10)])))) (cn (sq rz lf) (sq (.cut [(.normal, [(1, (.ptr 10 0)), (68, KA12), (100010, KA11)])] (rg [(rd 10), (rd 10), {}, {}, (rd 10), (rd 10), {}, {}, (rd 10), (rd 10)])) (cn (sq rz lf) (sq (.cut [(.normal, [(1, (.ptr 10 0)), (82, KA12), (100010, KA11)])] (sq (.cut [(.normal, [(1, (.ptr 10 0)), (82, KA12), (100010, KA11)])] (rg [(rd 10), (rd 10), {}, {}, (rd 10), (rd 10)])) (cn lf (rg [(rd 10), (rd 10), {}, {}, (rd 10), (rd 10)])))) (cn (sq rz lf) (sq (.cut [(.normal, [(101, KA12)])] (rg [(rd 10), (rd 10), {}, {}, (rd 10), (rd 10), {}, {}, {}, (rd 10), (rd 10)])) (cn (sq rz lf) lf))))))))))))) (sq rz lf))) inst137 116 run137 Tryz.func137 (by kernel_rfl) Tryz.ntmps137 (by kernel_rfl) (by intro x y; kernel_rfl) Tryz.call137
def inst138 : Inst := mk1 [(.val YA5), (.val YA5)] KA9
noncomputable def run138 : inst138.F := fun x _ => replica_stamps x.1 x.2.1
noncomputable def fx138 : Ctx := fx137.add 138 (inst138.sem run138)
theorem fx138_ok : CtxOK fx138 Tryz.prog := fn_put fx137_ok feMixed 138 Tryz.f138 [.tmp 4] (sq (rg [(nw 10), (nw 11)]) (sq (rg [(rd 10), (rd 10), (rd 11), (rd 11), {}, (rd 10), (rd 10), (rd 11), (rd 11), {}, (nw 12), (fz 15 12)]) lf)) inst138 17 run138 Tryz.func138 (by kernel_rfl) Tryz.ntmps138 (by kernel_rfl) (by intro x y; kernel_rfl) Tryz.call138
def inst64 : Inst := mk1 [(.val (.sl YA5))] KA9
noncomputable def run64 : inst64.F := fun x _ => replica_Check x.1
noncomputable def fx64 : Ctx := fx138.add 64 (inst64.sem run64)
theorem fx64_ok : CtxOK fx64 Tryz.prog := fn_put fx138_ok feMixed 64 Tryz.f64 [.tmp 2] (sq rz (sq (sq rz (bk (.loop [(8, KA9)] [((.exit 0), []), (.ret, [(2, KA9)])] (sq rz (sq (cn lf lf) (sq (bk (sq (rg [{}, {}, {}, (nw 10), {}, (wr 10)]) (sq (sq (rg [(rd 10)]) (sq rz (cn (sq rz lf) lf))) (sq (.cut [(.normal, [(29, KA12)])] (rg [{}, {}, {}, {}, {}, {}, {}, {}, (rd 10)])) (cn (sq rz lf) lf))))) rz)))))) (sq rz lf))) inst64 31 run64 Tryz.func64 (by kernel_rfl) Tryz.ntmps64 (by kernel_rfl) (by intro x y; kernel_rfl) Tryz.call64
def inst15 : Inst := mk1 [(.val YA8)] KA9
noncomputable def run15 : inst15.F := fun x _ => doc_CheckNode x.1
noncomputable def fx15 : Ctx := fx64.add 15 (inst15.sem run15)
theorem fx15_ok : CtxOK fx15 Tryz.prog := fn_put fx64_ok feMixed 15 Tryz.f15 [.tmp 2] (sq (rg [(nw 10)]) (sq (bk (sq (.cut [(.normal, [(1, (.ptr 10 0)), (7, KA12), (100010, KA6)])] (rg [(rd 10), (rd 10), {}, {}, (rd 10), (rd 10)])) (cn (sq rz lf) (sq (.cut [(.normal, [(1, (.ptr 10 0)), (16, KA12), (100010, KA6)])] (rg [(rd 10), (rd 10), {}, {}, (rd 10), (rd 10), {}, {}, {}, (rd 10), (rd 10), {}, (rd 10), (rd 10)])) (cn (sq rz lf) lf))))) (sq (sq (rg [(rd 10), (rd 10)]) (sq rz (cn (sq rz lf) lf))) (sq (.cut [(.normal, [(1, (.ptr 10 0)), (4, KA12), (5, KA12), (100010, KA6)])] (rg [(rd 10), (rd 10), {}, {}, (rd 10), (rd 10), {}, {}, (rd 10), (rd 10)])) (sq (sq (.cut [(.normal, [(1, (.ptr 10 0)), (81, KA12), (100010, KA6)])] (rg [{}, {}, {}, (rd 10), (rd 10), {}, {}, {}, {}, {}, {}, {}, (rd 10), (rd 10), {}, {}, {}, {}, {}, {}, (rd 10), (rd 10), {}, {}, {}, (rd 10), (rd 10)])) (cn (sq rz lf) lf)) (sq (bk (sq rz (cn (sq (rg [(rd 10), (rd 10), (rd 10), (rd 10)]) lf) (sq rz (cn (sq (sq (rg [(rd 10), (rd 10)]) (sq rz (cn (sq rz lf) lf))) (sq (rg [(rd 10), (rd 10), (rd 10), (rd 10), (rd 10)]) lf)) lf))))) (sq (rg [(rd 10), (rd 10)]) lf))))))) inst15 107 run15 Tryz.func15 (by kernel_rfl) Tryz.ntmps15 (by kernel_rfl) (by intro x y; kernel_rfl) Tryz.call15
def inst125 : Inst := { args := [(.val (.sl YA26))], objs := [], nres := 1, out := [(90000, (.own 0)), (100000, (.vec none YA0))], news := 1 }
noncomputable def run125 : inst125.F := fun x _ => flow_Refs x.1
noncomputable def fx125 : Ctx := fx15.add 125 (inst125.sem run125)
theorem fx125_ok : CtxOK fx125 Tryz.prog := fn_put fx15_ok feMixed 125 Tryz.f125 [.tmp 2] (sq rz (sq rz (sq (sq rz (bk (.loop [(3, (.own 14)), (8, KA9), (100014, (.vec none YA0))] [((.exit 0), [(3, (.own 14)), (100014, (.vec none YA0))])] (sq rz (sq (cn lf lf) (sq (.cut [(.normal, [(3, (.own 13)), (100013, (.vec none YA0))])] (bk (sq (rg [{}, {}, (nw 10), (wr 10)]) (sq (rg [(rd 10), (rd 10)]) (cn (rg [{}, (rd 10), (rd 10), (nw 11), { rd := [11], wr := [14], new := [12] }]) lf))))) rz)))))) (sq rz lf)))) inst125 22 run125 Tryz.func125 (by kernel_rfl) Tryz.ntmps125 (by kernel_rfl) (by intro x y; kernel_rfl) Tryz.call125
def inst54 : Inst := mk1 [(.val YA8)] (.val (.sl YA0))
noncomputable def run54 : inst54.F := fun x _ => doc_Refs x.1
noncomputable def fx54 : Ctx := fx125.add 54 (inst54.sem run54)
theorem fx54_ok : CtxOK fx54 Tryz.prog := fn_put fx125_ok feMixed 54 Tryz.f54 [.tmp 2] (sq (rg [(nw 10)]) (sq (rg [(rd 10), (rd 10), (nw 11)]) (sq (sq (rg [(rd 10), (rd 10), (rd 10)]) (bk (.loop [(3, (.own 16)), (13, KA9), (100016, (.vec none YA0))] [((.exit 0), [(3, (.own 16)), (100016, (.vec none YA0))])] (sq rz (sq (cn lf lf) (sq (.cut [(.normal, [(3, (.own 15)), (100015, (.vec none YA0))])] (bk (sq (rg [{}, {}, (nw 12), (wr 12)]) (sq (rg [(rd 12), (rd 12)]) (cn (rg [{}, (rd 12), (rd 12), (nw 13), { rd := [13], wr := [16], new := [14] }]) lf))))) rz)))))) (sq rz lf)))) inst54 27 run54 Tryz.func54 (by kernel_rfl) Tryz.ntmps54 (by kernel_rfl) (by intro x y; kernel_rfl) Tryz.call54
def inst192 : Inst := mk1 [(.val YA8), KA9] KA9
noncomputable def run192 : inst192.F := fun x _ => doc_find_1 x.1 x.2.1
noncomputable def fx192 : Ctx := fx54.add 192 (inst192.sem run192)
theorem fx192_ok : CtxOK fx192 Tryz.prog := fn_put fx54_ok feMixed 192 Tryz.f192 [.tmp 4] (sq (rg [(nw 10)]) (sq (bk (sq (rg [(rd 10), (rd 10)]) (cn (sq rz lf) (sq (rg [(rd 10), (rd 10)]) (cn (sq rz lf) lf))))) (sq rz lf))) inst192 15 run192 Tryz.func192 (by kernel_rfl) Tryz.ntmps192 (by kernel_rfl) (by intro x y; kernel_rfl) Tryz.call192
def inst191 : Inst := mk2 [(.val (.sl YA8)), KA9, (.fn 192 .unit)] KA9 KA12
noncomputable def run191 : inst191.F := fun x _ => api_Node_int__find_1 x.1 x.2.1
noncomputable def fx191 : Ctx := fx192.add 191 (inst191.sem run191)
theorem fx191_ok : CtxOK fx191 Tryz.prog := fn_put fx192_ok feMixed 191 Tryz.f191 [.tmp 6, .tmp 7] (sq rz (sq rz (sq rz (sq (bk (.loop [(2, (.fn 192 .unit)), (9, KA9), (10, KA9)] [((.exit 0), [(2, (.fn 192 .unit)), (9, KA9)])] (sq (sq rz (cn lf lf)) (bk (sq rz (sq rz (cn rz rz))))))) (sq rz lf))))) inst191 49 run191 Tryz.func191 (by kernel_rfl) Tryz.ntmps191 (by kernel_rfl) (by intro x y; kernel_rfl) Tryz.call191
def inst123 : Inst := mk2 [KA25, KA9] KA9 KA12
noncomputable def run123 : inst123.F := fun x _ => doc_find x.1 x.2.1
noncomputable def fx123 : Ctx := fx191.add 123 (inst123.sem run123)
theorem fx123_ok : CtxOK fx123 Tryz.prog := fn_put fx191_ok feMixed 123 Tryz.f123 [.tmp 4, .tmp 5] (sq (rg [(nw 10)]) (sq (rg [(rd 10), (rd 10)]) lf)) inst123 12 run123 Tryz.func123 (by kernel_rfl) Tryz.ntmps123 (by kernel_rfl) (by intro x y; kernel_rfl) Tryz.call123
def inst101 : Inst := mk1 [(.val (.sl YA0)), KA9] KA9
noncomputable def run101 : inst101.F := fun x _ => slices_Index_int_int_ x.1 x.2.1
noncomputable def fx101 : Ctx := fx123.add 101 (inst101.sem run101)
theorem fx101_ok : CtxOK fx101 Tryz.prog := fn_put fx123_ok feMixed 101 Tryz.f101 [.tmp 4] (sq rz (sq (sq rz (bk (.loop [(8, KA9)] [((.exit 0), []), (.ret, [(4, KA9)])] (sq rz (sq (cn lf lf) (sq (bk (sq rz (sq rz (cn (sq rz lf) lf)))) rz)))))) (sq rz lf))) inst101 19 run101 Tryz.func101 (by kernel_rfl) Tryz.ntmps101 (by kernel_rfl) (by intro x y; kernel_rfl) Tryz.call101
def inst35 : Inst := mk1 [(.val (.sl YA0)), KA9] KA12
noncomputable def run35 : inst35.F := fun x _ => slices_Contains_int_int_ x.1 x.2.1
noncomputable def fx35 : Ctx := fx101.add 35 (inst35.sem run35)
theorem fx35_ok : CtxOK fx35 Tryz.prog := fn_put fx101_ok feMixed 35 Tryz.f35 [.tmp 4] (sq rz (sq rz lf)) inst35 9 run35 Tryz.func35 (by kernel_rfl) Tryz.ntmps35 (by kernel_rfl) (by intro x y; kernel_rfl) Tryz.call35
def inst124 : Inst := mk1 [KA9, KA9] KA12
noncomputable def run124 : inst124.F := fun x _ => doc_Permitted x.1 x.2.1
noncomputable def fx124 : Ctx := fx35.add 124 (inst124.sem run124)
theorem fx124_ok : CtxOK fx124 Tryz.prog := fn_put fx35_ok feMixed 124 Tryz.f124 [.tmp 4] (sq rz (sq rz (sq (.cut [(.normal, [(5, (.own 16)), (100016, (.vec none YA0))])] (sq rz (bk (sq rz (cn (rg [(nw 10)]) (sq rz (cn (rg [(nw 11)]) (sq rz (cn (rg [(nw 12)]) (sq (.cut [(.normal, [(5, .nil), (16, KA12)])] (sq rz (cn lf rz))) (cn (rg [(nw 13)]) (sq rz (cn (rg [(nw 14)]) (sq rz (cn (rg [(nw 15)]) lf))))))))))))))) (sq (rg [{}, {}, (fz 26 16)]) lf)))) inst124 29 run124 Tryz.func124 (by kernel_rfl) Tryz.ntmps124 (by kernel_rfl) (by intro x y; kernel_rfl) Tryz.call124
def inst53 : Inst := mk1 [KA25, KA9, (.val (.sl YA0))] KA9
noncomputable def run53 : inst53.F := fun x _ => doc_CheckRefs x.1 x.2.1 x.2.2.1
noncomputable def fx53 : Ctx := fx124.add 53 (inst53.sem run53)
theorem fx53_ok : CtxOK fx53 Tryz.prog := fn_put fx124_ok feMixed 53 Tryz.f53 [.tmp 6] (sq (rg [(nw 10)]) (sq (sq rz (bk (.loop [(3, (.ptr 10 0)), (13, KA9), (100010, KA24)] [((.exit 0), []), (.ret, [(6, KA9)])] (sq rz (sq (cn lf lf) (sq (bk (sq rz (sq (rg [(rd 10)]) (sq (sq rz (cn (sq rz lf) lf)) (sq (rg [{}, (rd 10), (rd 10)]) (cn (sq rz lf) lf)))))) rz)))))) (sq rz lf))) inst53 35 run53 Tryz.func53 (by kernel_rfl) Tryz.ntmps53 (by kernel_rfl) (by intro x y; kernel_rfl) Tryz.call53
def inst13 : Inst := mk1 [KA25] KA9
noncomputable def run13 : inst13.F := fun x _ => doc_Check x.1
noncomputable def fx13 : Ctx := fx53.add 13 (inst13.sem run13)
theorem fx13_ok : CtxOK fx13 Tryz.prog := fn_put fx53_ok feMixed 13 Tryz.f13 [.tmp 2] (sq (rg [(nw 10)]) (sq (sq (rg [(rd 10), (rd 10)]) (cn (sq rz lf) lf)) (sq (sq (rg [(rd 10), (rd 10)]) (bk (.loop [(1, (.ptr 10 0)), (16, KA9), (100010, KA24)] [((.exit 0), [(1, (.ptr 10 0)), (100010, KA24)]), (.ret, [(2, KA9)])] (sq rz (sq (cn lf lf) (sq (bk (sq (rg [{}, {}, {}, (nw 11), {}, (wr 11)]) (sq (sq (rg [(rd 11)]) (sq rz (cn (sq rz lf) lf))) (sq (.cut [(.normal, [(1, (.ptr 10 0)), (48, KA12), (100010, KA24)])] (rg [{}, {}, {}, (rd 11), (rd 11), {}, {}, {}, {}, {}, {}, (rd 11), (rd 11), (rd 10), (rd 10)])) (cn (sq rz lf) lf))))) rz)))))) (sq (sq (rg [(rd 10), (rd 10)]) (bk (.loop [(1, (.ptr 10 0)), (53, KA9), (100010, KA24)] [((.exit 2), []), (.ret, [(2, KA9)])] (sq rz (sq (cn lf lf) (sq (bk (sq (rg [{}, {}, (nw 12), (wr 12)]) (sq (rg [(rd 10), (rd 12), (rd 12), (rd 12)]) (sq rz (cn (sq rz lf) lf))))) rz)))))) (sq rz lf))))) inst13 67 run13 Tryz.func13 (by kernel_rfl) Tryz.ntmps13 (by kernel_rfl) (by intro x y; kernel_rfl) Tryz.call13
def inst77 : Inst := { args := [(.ptr 0 0), KA22], objs := [(.rcd (.cons (.adr 0 99) (.cons (.brow 1) .unit))), (.vec none YA17)], nres := 2, out := [(90000, KA9), (90001, (.val .err)), (0, (.ptr 0 0)), (100000, (.rcd (.cons (.adr 0 99) (.cons (.brow 2) .unit)))), (100002, (.vec none YA17))], news := 1 }
noncomputable def run77 : inst77.F := fun x y => _strings_Builder__WriteString x.2.1 y.2.1
noncomputable def fx77 : Ctx := fx13.add 77 (inst77.sem run77)
theorem fx77_ok : CtxOK fx77 Tryz.prog := fn_put fx13_ok feMixed 77 Tryz.f77 [.tmp 4, .tmp 5] (sq rz (sq (rg [{}, { wr := [0, 1] }]) (sq (rg [{}, {}, (rd 0), (rd 0), (rd 0), {}, { wr := [1], new := [12] }, (rd 0), (rd 0), { rd := [12], wr := [0] }]) (sq rz lf)))) inst77 19 run77 Tryz.func77 (by kernel_rfl) Tryz.ntmps77 (by kernel_rfl) (by intro x y; kernel_rfl) Tryz.call77
def inst51 : Inst := { args := [(.ptr 0 0), (.val YA17)], objs := [(.rcd (.cons (.adr 0 99) (.cons (.brow 1) .unit))), (.vec none YA17)], nres := 1, out := [(90000, (.val .err)), (0, (.ptr 0 0)), (100000, (.rcd (.cons (.adr 0 99) (.cons (.brow 2) .unit)))), (100002, (.vec none YA17))], news := 1 }
noncomputable def run51 : inst51.F := fun x y => _strings_Builder__WriteByte x.2.1 y.2.1
noncomputable def fx51 : Ctx := fx77.add 51 (inst51.sem run51)
theorem fx51_ok : CtxOK fx51 Tryz.prog := fn_put fx77_ok feMixed 51 Tryz.f51 [.tmp 4] (sq rz (sq (rg [{}, { wr := [0, 1] }]) (sq (rg [{}, {}, (rd 0), (rd 0), (rd 0), {}, (nw 12), { rd := [12], wr := [1], new := [13] }, (rd 0), (rd 0), { rd := [13], wr := [0] }]) (sq rz lf)))) inst51 17 run51 Tryz.func51 (by kernel_rfl) Tryz.ntmps51 (by kernel_rfl) (by intro x y; kernel_rfl) Tryz.call51
def inst117 : Inst := { args := [(.ptr 0 0), KA22], objs := [(.rcd (.cons (.adr 0 99) (.cons (.brow 1) .unit))), (.vec none YA17)], nres := 0, out := [(0, (.ptr 0 0)), (100000, (.rcd (.cons (.adr 0 99) (.cons (.brow 2) .unit)))), (100002, (.vec none YA17))], news := 1 }
noncomputable def run117 : inst117.F := fun x y => markup_writer__escape x.2.1 y.2.1
noncomputable def fx117 : Ctx := fx51.add 117 (inst117.sem run117)
theorem fx117_ok : CtxOK fx117 Tryz.prog := fn_put fx51_ok feMixed 117 Tryz.f117 [] (sq rz (bk (.loop [(0, (.ptr 0 0)), (8, KA9), (100000, (.rcd (.cons (.adr 0 99) (.cons (.brow 19) .unit)))), (100019, (.vec none YA17))] [((.exit 0), [(0, (.ptr 0 0)), (100000, (.rcd (.cons (.adr 0 99) (.cons (.brow 19) .unit)))), (100019, (.vec none YA17))])] (sq rz (sq (cn lf lf) (sq (.cut [(.normal, [(0, (.ptr 0 0)), (100000, (.rcd (.cons (.adr 0 99) (.cons (.brow 18) .unit)))), (100018, (.vec none YA17))])] (bk (sq rz (sq rz (bk (sq rz (cn (rg [{}, (rd 0), (rd 0), { wr := [0, 19], new := [12] }]) (sq rz (cn (rg [{}, (rd 0), (rd 0), { wr := [0, 19], new := [13] }]) (sq rz (cn (rg [{}, (rd 0), (rd 0), { wr := [0, 19], new := [14] }]) (sq rz (cn (rg [{}, (rd 0), (rd 0), { wr := [0, 19], new := [15] }]) (sq rz (cn (rg [{}, (rd 0), (rd 0), {}, {}, {}, {}, {}, { wr := [0, 19], new := [16] }]) (rg [{}, (rd 0), (rd 0), {}, { wr := [0, 19], new := [17] }])))))))))))))))) rz)))))) inst117 60 run117 Tryz.func117 (by kernel_rfl) Tryz.ntmps117 (by kernel_rfl) (by intro x y; kernel_rfl) Tryz.call117
def inst48 : Inst := { args := [(.ptr 0 0), KA22, (.val (.sl .str))], objs := [(.rcd (.cons (.adr 0 99) (.cons (.brow 1) .unit))), (.vec none YA17)], nres := 0, out := [(0, (.ptr 0 0)), (100000, (.rcd (.cons (.adr 0 99) (.cons (.brow 2) .unit)))), (100002, (.vec none YA17))], news := 1 }
noncomputable def run48 : inst48.F := fun x y => markup_writer__open x.2.1 x.2.2.1 y.2.1
noncomputable def fx48 : Ctx := fx117.add 48 (inst48.sem run48)
theorem fx48_ok : CtxOK fx48 Tryz.prog := fn_put fx117_ok feMixed 48 Tryz.f48 [] (sq (rg [{}, (rd 0), (rd 0), {}, {}, { wr := [0, 1], new := [12] }]) (sq (sq rz (bk (.loop [(0, (.ptr 0 0)), (6, KA9), (100000, (.rcd (.cons (.adr 0 99) (.cons (.brow 16) .unit)))), (100016, (.vec none YA17))] [((.exit 0), [(0, (.ptr 0 0)), (100000, (.rcd (.cons (.adr 0 99) (.cons (.brow 16) .unit)))), (100016, (.vec none YA17))])] (sq (sq rz (cn lf lf)) (sq (bk (sq (rg [{}, (rd 0), (rd 0), {}, {}, {}, {}, {}, {}, { wr := [0, 16], new := [13] }]) (sq (rg [{}, {}, {}, {}, {}, {}, { wr := [0, 13], new := [14] }]) (rg [{}, (rd 0), (rd 0), { wr := [0, 14], new := [15] }])))) rz))))) (rg [{}, (rd 0), (rd 0), { wr := [0, 16], new := [17] }]))) inst48 44 run48 Tryz.func48 (by kernel_rfl) Tryz.ntmps48 (by kernel_rfl) (by intro x y; kernel_rfl) Tryz.call48
def inst112 : Inst := mk1 [] (.val (.sl .str))
noncomputable def run112 : inst112.F := fun _ _ => markup_kinds
noncomputable def fx112 : Ctx := fx48.add 112 (inst112.sem run112)
theorem fx112_ok : CtxOK fx112 Tryz.prog := fn_put fx48_ok feMixed 112 Tryz.f112 [.tmp 0] (sq rz (sq (rg [(nw 10)]) lf)) inst112 2 run112 Tryz.func112 (by kernel_rfl) Tryz.ntmps112 (by kernel_rfl) (by intro x y; kernel_rfl) Tryz.call112
def inst50 : Inst := { args := [(.ptr 0 0), KA22], objs := [(.rcd (.cons (.adr 0 99) (.cons (.brow 1) .unit))), (.vec none YA17)], nres := 0, out := [(0, (.ptr 0 0)), (100000, (.rcd (.cons (.adr 0 99) (.cons (.brow 2) .unit)))), (100002, (.vec none YA17))], news := 1 }
noncomputable def run50 : inst50.F := fun x y => markup_writer__shut x.2.1 y.2.1
noncomputable def fx50 : Ctx := fx112.add 50 (inst50.sem run50)
theorem fx50_ok : CtxOK fx50 Tryz.prog := fn_put fx112_ok feMixed 50 Tryz.f50 [] (rg [{}, (rd 0), (rd 0), {}, {}, {}, { wr := [0, 1], new := [12] }]) inst50 11 run50 Tryz.func50 (by kernel_rfl) Tryz.ntmps50 (by kernel_rfl) (by intro x y; kernel_rfl) Tryz.call50
def inst118 : Inst := { args := [(.ptr 0 0), KA14], objs := [(.rcd (.cons (.adr 0 99) (.cons (.brow 1) .unit))), (.vec none YA17)], nres := 0, out := [(0, (.ptr 0 0)), (100000, (.rcd (.cons (.adr 0 99) (.cons (.brow 2) .unit)))), (100002, (.vec none YA17))], news := 1 }
noncomputable def run118 : inst118.F := fun x y => markup_writer__attrs x.2.1 y.2.1
noncomputable def fx118 : Ctx := fx50.add 118 (inst118.sem run118)
theorem fx118_ok : CtxOK fx118 Tryz.prog := fn_put fx50_ok feMixed 118 Tryz.f118 [] (sq rz (bk (.loop [(0, (.ptr 0 0)), (8, KA9), (100000, (.rcd (.cons (.adr 0 99) (.cons (.brow 17) .unit)))), (100017, (.vec none YA17))] [((.exit 0), [(0, (.ptr 0 0)), (100000, (.rcd (.cons (.adr 0 99) (.cons (.brow 17) .unit)))), (100017, (.vec none YA17))])] (sq rz (sq (cn lf lf) (sq (bk (sq (rg [{}, {}, (nw 12), (wr 12)]) (sq (rg [{}, (rd 12), (rd 12), (nw 13), { wr := [0, 17], new := [14], fz := [(15, 13)] }]) (sq (rg [{}, (rd 12), (rd 12), { wr := [0, 14], new := [15] }]) (rg [{}, { wr := [0, 15], new := [16] }]))))) rz)))))) inst118 24 run118 Tryz.func118 (by kernel_rfl) Tryz.ntmps118 (by kernel_rfl) (by intro x y; kernel_rfl) Tryz.call118
def inst261 : Inst := { args := [(.brow 0), (.val (.int .i32))], objs := [(.vec none YA17)], nres := 1, out := [(90000, (.brow 1)), (100001, (.vec none YA17))], news := 1 }
noncomputable def run261 : inst261.F := fun x y => utf8_appendRuneNonASCII x.2.1 y.1
noncomputable def fx261 : Ctx := fx118.add 261 (inst261.sem run261)
theorem fx261_ok : CtxOK fx261 Tryz.prog := fn_put fx118_ok feMixed 261 Tryz.f261 [.tmp 4] (sq rz (sq rz (bk (sq rz (cn (sq (rg [{}, {}, {}, {}, {}, {}, {}, {}, {}, (nw 11), { rd := [11], wr := [0], new := [12] }]) lf) (sq (.cut [(.normal, [(0, (.brow 0)), (25, KA12), (100000, (.vec none YA17))])] (sq rz (cn lf rz))) (cn (sq (rg [{}, {}, {}, {}, {}, {}, {}, {}, {}, {}, {}, {}, {}, {}, (nw 13), { rd := [13], wr := [0], new := [14] }]) lf) (sq (.cut [(.normal, [(0, (.brow 0)), (50, KA12), (100000, (.vec none YA17))])] rz) (cn (sq (rg [{}, {}, {}, {}, {}, {}, {}, {}, {}, {}, {}, {}, {}, {}, {}, {}, {}, {}, {}, (nw 15), { rd := [15], wr := [0], new := [16] }]) lf) (sq (rg [{}, (nw 17), { rd := [17], wr := [0], new := [18] }]) lf)))))))))) inst261 78 run261 Tryz.func261 (by kernel_rfl) Tryz.ntmps261 (by kernel_rfl) (by intro x y; kernel_rfl) Tryz.call261
def inst237 : Inst := { args := [(.brow 0), (.val (.int .i32))], objs := [(.vec none YA17)], nres := 1, out := [(90000, (.brow 1)), (100001, (.vec none YA17))], news := 1 }
noncomputable def run237 : inst237.F := fun x y => utf8_AppendRune x.2.1 y.1
noncomputable def fx237 : Ctx := fx261.add 237 (inst237.sem run237)
theorem fx237_ok : CtxOK fx237 Tryz.prog := fn_put fx261_ok feMixed 237 Tryz.f237 [.tmp 4] (sq rz (sq (sq rz (cn (sq (rg [{}, {}, {}, (nw 11), { rd := [11], wr := [0], new := [12] }]) lf) lf)) (sq (rg [{}, {}, { wr := [0], new := [13] }]) lf))) inst237 16 run237 Tryz.func237 (by kernel_rfl) Tryz.ntmps237 (by kernel_rfl) (by intro x y; kernel_rfl) Tryz.call237
def inst180 : Inst := { args := [(.ptr 0 0), (.val (.int .i32))], objs := [(.rcd (.cons (.adr 0 97) (.cons (.brow 1) .unit))), (.vec none YA17)], nres := 2, out := [(90000, KA9), (90001, (.val .err)), (0, (.ptr 0 0)), (100000, (.rcd (.cons (.adr 0 97) (.cons (.brow 2) .unit)))), (100002, (.vec none YA17))], news := 1 }
noncomputable def run180 : inst180.F := fun x y => _strings_Builder__WriteRune x.2.1 y.2.1
noncomputable def fx180 : Ctx := fx237.add 180 (inst180.sem run180)
theorem fx180_ok : CtxOK fx180 Tryz.prog := fn_put fx237_ok feMixed 180 Tryz.f180 [.tmp 4, .tmp 5] (sq rz (sq (rg [{}, { wr := [0, 1] }]) (sq (rg [{}, (rd 0), (rd 0), (rd 0), (rd 1)]) (sq (rg [{}, {}, (rd 0), (rd 0), (rd 0), {}, { wr := [1], new := [12] }, (rd 0), (rd 0), { rd := [12], wr := [0] }]) (sq (rg [{}, (rd 0), (rd 0), (rd 0), (rd 12)]) lf))))) inst180 30 run180 Tryz.func180 (by kernel_rfl) Tryz.ntmps180 (by kernel_rfl) (by intro x y; kernel_rfl) Tryz.call180
def inst189 : Inst := { args := [(.ptr 0 0), KA22], objs := [(.rcd (.cons (.adr 0 99) (.cons (.brow 1) .unit))), (.vec none YA17)], nres := 0, out := [(0, (.ptr 0 0)), (100000, (.rcd (.cons (.adr 0 99) (.cons (.brow 2) .unit)))), (100002, (.vec none YA17))], news := 1 }
noncomputable def run189 : inst189.F := fun x y => markup_writer__text x.2.1 y.2.1
noncomputable def fx189 : Ctx := fx180.add 189 (inst189.sem run189)
theorem fx189_ok : CtxOK fx189 Tryz.prog := fn_put fx180_ok feMixed 189 Tryz.f189 [] (sq (rg [{}, { wr := [0, 1], new := [12] }]) (sq (rg [{}, {}, { wr := [0, 12], new := [13] }]) (rg [{}, { wr := [0, 13], new := [14] }]))) inst189 11 run189 Tryz.func189 (by kernel_rfl) Tryz.ntmps189 (by kernel_rfl) (by intro x y; kernel_rfl) Tryz.call189
def inst119 : Inst := { args := [(.ptr 0 0), (.val (.sl YA26))], objs := [(.rcd (.cons (.adr 0 99) (.cons (.brow 1) .unit))), (.vec none YA17)], nres := 0, out := [(0, (.ptr 0 0)), (100000, (.rcd (.cons (.adr 0 99) (.cons (.brow 2) .unit)))), (100002, (.vec none YA17))], news := 1 }
noncomputable def run119 : inst119.F := fun x y => markup_writer__flow x.2.1 y.2.1
noncomputable def fx119 : Ctx := fx189.add 119 (inst119.sem run119)
theorem fx119_ok : CtxOK fx119 Tryz.prog := fn_put fx189_ok feMixed 119 Tryz.f119 [] (sq (rg [{}, { wr := [0, 1], new := [12] }]) (sq (sq rz (bk (.loop [(0, (.ptr 0 0)), (4, KA9), (100000, (.rcd (.cons (.adr 0 99) (.cons (.brow 25) .unit)))), (100025, (.vec none YA17))] [((.exit 0), [(0, (.ptr 0 0)), (100000, (.rcd (.cons (.adr 0 99) (.cons (.brow 25) .unit)))), (100025, (.vec none YA17))])] (sq (sq rz (cn lf lf)) (bk (sq (sq rz (cn (sq (rg [{}, {}, {}, {}, {}, {}, {}, (nw 13), { wr := [0, 25], new := [14], fz := [(26, 13)] }]) (sq (rg [{}, {}, {}, {}, {}, {}, { wr := [0, 14], new := [15] }]) (sq (rg [{}, { wr := [0, 15], new := [16] }]) (sq rz lf)))) lf)) (sq (rg [{}, { wr := [0, 25], new := [17] }]) (sq (rg [{}, {}, {}, {}, {}, {}, { wr := [0, 17], new := [18] }]) (sq (rg [{ new := [19, 20] }]) (sq rz (sq (bk (.loop [(0, (.ptr 0 0)), (5, (.ptr 19 0)), (6, KA9), (100000, (.rcd (.cons (.adr 0 99) (.cons (.brow 18) .unit)))), (100019, (.rcd (.cons (.adr 19 97) (.cons (.brow 22) .unit)))), (100018, (.vec none YA17)), (100022, (.vec none YA17))] [((.exit 2), [(0, (.ptr 0 0)), (5, (.ptr 19 0)), (6, KA9), (100000, (.rcd (.cons (.adr 0 99) (.cons (.brow 18) .unit)))), (100019, (.rcd (.cons (.adr 19 97) (.cons (.brow 22) .unit)))), (100018, (.vec none YA17)), (100022, (.vec none YA17))])] (sq (sq (.cut [(.normal, [(0, (.ptr 0 0)), (5, (.ptr 19 0)), (73, KA12), (100000, (.rcd (.cons (.adr 0 99) (.cons (.brow 18) .unit)))), (100019, (.rcd (.cons (.adr 19 97) (.cons (.brow 22) .unit)))), (100018, (.vec none YA17)), (100022, (.vec none YA17))])] rz) (cn lf lf)) (sq (bk (rg [{}, {}, {}, {}, {}, {}, { wr := [19, 22], new := [21] }])) rz)))) (sq (rg [{}, { wr := [19, 22] }, { wr := [0, 18], new := [23] }]) (sq (rg [{}, { wr := [0, 23], new := [24] }]) rz))))))))))))) (rg [{}, { wr := [0, 25], new := [26] }]))) inst119 91 run119 Tryz.func119 (by kernel_rfl) Tryz.ntmps119 (by kernel_rfl) (by intro x y; kernel_rfl) Tryz.call119
def inst120 : Inst := { args := [(.ptr 0 0), (.val YA19)], objs := [(.rcd (.cons (.adr 0 99) (.cons (.brow 1) .unit))), (.vec none YA17)], nres := 0, out := [(0, (.ptr 0 0)), (100000, (.rcd (.cons (.adr 0 99) (.cons (.brow 2) .unit)))), (100002, (.vec none YA17))], news := 1 }
noncomputable def run120 : inst120.F := fun x y => markup_writer__grid x.2.1 y.2.1
noncomputable def fx120 : Ctx := fx119.add 120 (inst120.sem run120)
theorem fx120_ok : CtxOK fx120 Tryz.prog := fn_put fx119_ok feMixed 120 Tryz.f120 [] (sq (rg [(nw 12)]) (sq (rg [{}, (rd 12), (rd 12), {}, (rd 12), (rd 12), {}, (nw 13), { wr := [0, 1], new := [14], fz := [(15, 13)] }]) (sq (sq (rg [(rd 12), (rd 12)]) (bk (.loop [(0, (.ptr 0 0)), (3, (.ptr 12 0)), (20, KA9), (100000, (.rcd (.cons (.adr 0 99) (.cons (.brow 26) .unit)))), (100012, KA7), (100026, (.vec none YA17))] [((.exit 0), [(0, (.ptr 0 0)), (3, (.ptr 12 0)), (100000, (.rcd (.cons (.adr 0 99) (.cons (.brow 26) .unit)))), (100012, KA7), (100026, (.vec none YA17))])] (sq rz (sq (cn lf lf) (sq (bk (sq (rg [{}, {}, (nw 15), (wr 15)]) (sq (rg [{}, (rd 15), (rd 15), {}, (rd 15), (rd 15), {}, (nw 16), { wr := [0, 26], new := [17], fz := [(31, 16)] }]) (sq (rg [{}, (rd 15), (rd 15), { wr := [0, 17], new := [18] }]) (sq (.cut [(.normal, [(0, (.ptr 0 0)), (3, (.ptr 12 0)), (5, (.ptr 15 0)), (100000, (.rcd (.cons (.adr 0 99) (.cons (.brow 20) .unit)))), (100012, KA7), (100015, KA18), (100020, (.vec none YA17))])] (sq (rg [(rd 15), (rd 15)]) (cn (rg [{}, (rd 15), (rd 15), { wr := [0, 18], new := [19] }]) lf))) (sq (.cut [(.normal, [(0, (.ptr 0 0)), (3, (.ptr 12 0)), (100000, (.rcd (.cons (.adr 0 99) (.cons (.brow 24) .unit)))), (100012, KA7), (100024, (.vec none YA17))])] (sq (rg [(rd 15), (rd 15)]) (cn (sq (rg [{}, (rd 15), (rd 15), {}, (nw 21), { wr := [0, 20], new := [22], fz := [(51, 21)] }]) (rg [{}, { wr := [0, 22], new := [23] }])) lf))) (rg [{}, { wr := [0, 24], new := [25] }]))))))) rz)))))) (sq (sq (rg [(rd 12), (rd 12)]) (bk (.loop [(0, (.ptr 0 0)), (61, KA9), (100000, (.rcd (.cons (.adr 0 99) (.cons (.brow 31) .unit)))), (100031, (.vec none YA17))] [((.exit 2), [(0, (.ptr 0 0)), (100000, (.rcd (.cons (.adr 0 99) (.cons (.brow 31) .unit)))), (100031, (.vec none YA17))])] (sq rz (sq (cn lf lf) (sq (bk (sq (rg [{}, {}, (nw 27), (wr 27)]) (sq (rg [{}, (rd 27), (rd 27), {}, (rd 27), (rd 27), {}, (rd 27), (rd 27), {}, (rd 27), (rd 27), {}, (nw 28), { wr := [0, 31], new := [29], fz := [(78, 28)] }]) (rg [{}, { wr := [0, 29], new := [30] }])))) rz)))))) (rg [{}, { wr := [0, 31], new := [32] }]))))) inst120 85 run120 Tryz.func120 (by kernel_rfl) Tryz.ntmps120 (by kernel_rfl) (by intro x y; kernel_rfl) Tryz.call120
def inst121 : Inst := { args := [(.ptr 0 0), (.val (.sl YA5))], objs := [(.rcd (.cons (.adr 0 99) (.cons (.brow 1) .unit))), (.vec none YA17)], nres := 0, out := [(0, (.ptr 0 0)), (100000, (.rcd (.cons (.adr 0 99) (.cons (.brow 2) .unit)))), (100002, (.vec none YA17))], news := 1 }
noncomputable def run121 : inst121.F := fun x y => markup_writer__draw x.2.1 y.2.1
noncomputable def fx121 : Ctx := fx120.add 121 (inst121.sem run121)
theorem fx121_ok : CtxOK fx121 Tryz.prog := fn_put fx120_ok feMixed 121 Tryz.f121 [] (sq (rg [{}, { wr := [0, 1], new := [12] }]) (sq (sq rz (bk (.loop [(0, (.ptr 0 0)), (11, KA9), (100000, (.rcd (.cons (.adr 0 99) (.cons (.brow 25) .unit)))), (100025, (.vec none YA17))] [((.exit 0), [(0, (.ptr 0 0)), (100000, (.rcd (.cons (.adr 0 99) (.cons (.brow 25) .unit)))), (100025, (.vec none YA17))])] (sq rz (sq (cn lf lf) (sq (.cut [(.normal, [(0, (.ptr 0 0)), (100000, (.rcd (.cons (.adr 0 99) (.cons (.brow 24) .unit)))), (100024, (.vec none YA17))])] (bk (sq (rg [{}, {}, (nw 13), (wr 13)]) (sq (rg [(rd 13), (rd 13), {}, (rd 13), (rd 13), {}, (rd 13), (rd 13), {}, (nw 14)]) (sq (sq (rg [(rd 13), (rd 13)]) (cn (sq (rg [{}, {}, (rd 13), (rd 13), {}, (rd 13), (rd 13), (nw 15), { rd := [15], wr := [14], new := [16] }, { wr := [0, 25], new := [17], fz := [(36, 16)] }]) (sq (rg [{}, { wr := [0, 17], new := [18] }]) lf)) lf)) (sq (rg [{}, {}, (rd 13), (rd 13), (nw 19), { rd := [19], wr := [14], new := [20] }, { wr := [0, 25], new := [21], fz := [(45, 20)] }]) (sq (rg [{}, (rd 13), (rd 13), { wr := [0, 21], new := [22] }]) (rg [{}, { wr := [0, 22], new := [23] }])))))))) rz)))))) (rg [{}, { wr := [0, 25], new := [26] }]))) inst121 56 run121 Tryz.func121 (by kernel_rfl) Tryz.ntmps121 (by kernel_rfl) (by intro x y; kernel_rfl) Tryz.call121
def inst49 : Inst := { args := [(.ptr 0 0), (.val YA8)], objs := [(.rcd (.cons (.adr 0 99) (.cons (.brow 1) .unit))), (.vec none YA17)], nres := 0, out := [(0, (.ptr 0 0)), (100000, (.rcd (.cons (.adr 0 99) (.cons (.brow 2) .unit)))), (100002, (.vec none YA17))], news := 1 }
noncomputable def run49 : inst49.F := fun x y => markup_writer__node x.2.1 y.2.1
noncomputable def fx49 : Ctx := fx121.add 49 (inst49.sem run49)
theorem fx49_ok : CtxOK fx49 Tryz.prog := fn_put fx121_ok feMixed 49 Tryz.f49 [] (sq (rg [(nw 12)]) (sq (rg [{}, (rd 12), (rd 12), {}, {}, (rd 12), (rd 12), {}, {}, (nw 13), { wr := [0, 1], new := [14], fz := [(13, 13)] }]) (sq (rg [{}, (rd 12), (rd 12), { wr := [0, 14], new := [15] }]) (sq (.cut [(.normal, [(0, (.ptr 0 0)), (100000, (.rcd (.cons (.adr 0 99) (.cons (.brow 19) .unit)))), (100019, (.vec none YA17))])] (bk (sq (.cut [(.normal, [(0, (.ptr 0 0)), (3, (.ptr 12 0)), (19, KA12), (100000, (.rcd (.cons (.adr 0 99) (.cons (.brow 15) .unit)))), (100012, KA6), (100015, (.vec none YA17))])] (rg [(rd 12), (rd 12), {}, {}, (rd 12), (rd 12)])) (cn (rg [{}, (rd 12), (rd 12), { wr := [0, 15], new := [16] }]) (sq (rg [(rd 12), (rd 12)]) (cn (rg [{}, (rd 12), (rd 12), { wr := [0, 15], new := [17] }]) (sq (rg [(rd 12), (rd 12)]) (cn (rg [{}, (rd 12), (rd 12), { wr := [0, 15], new := [18] }]) lf)))))))) (rg [{}, { wr := [0, 19], new := [20] }]))))) inst49 50 run49 Tryz.func49 (by kernel_rfl) Tryz.ntmps49 (by kernel_rfl) (by intro x y; kernel_rfl) Tryz.call49
def inst12 : Inst := mk2 [KA25] KA22 KA9
noncomputable def run12 : inst12.F := fun x _ => markup_Print x.1
noncomputable def fx12 : Ctx := fx49.add 12 (inst12.sem run12)
theorem fx12_ok : CtxOK fx12 Tryz.prog := fn_put fx49_ok feMixed 12 Tryz.f12 [.tmp 2, .tmp 3] (sq (rg [(nw 10)]) (sq (sq (rg [(rd 10)]) (sq rz (cn (sq rz lf) lf))) (sq (rg [{}, { new := [11, 12] }]) (sq (rg [{}, { wr := [11, 12], new := [13] }]) (sq (sq (rg [(rd 10), (rd 10)]) (bk (.loop [(5, (.ptr 11 0)), (20, KA9), (100011, (.rcd (.cons (.adr 11 99) (.cons (.brow 16) .unit)))), (100016, (.vec none YA17))] [((.exit 0), [(5, (.ptr 11 0)), (100011, (.rcd (.cons (.adr 11 99) (.cons (.brow 16) .unit)))), (100016, (.vec none YA17))])] (sq rz (sq (cn lf lf) (sq (bk (sq (rg [{}, {}, (nw 14), (wr 14)]) (rg [{}, (rd 14), { wr := [11, 16], new := [15] }]))) rz)))))) (sq (rg [{}, { wr := [11, 16], new := [17] }]) (sq (rg [{}, (rd 11), (rd 11), { wr := [11, 17], new := [18] }]) (sq (rg [{}, (rd 11), (rd 11), { wr := [11, 18] }]) lf)))))))) inst12 38 run12 Tryz.func12 (by kernel_rfl) Tryz.ntmps12 (by kernel_rfl) (by intro x y; kernel_rfl) Tryz.call12
def inst11 : Inst := mk1 [KA22, KA22] KA12
noncomputable def run11 : inst11.F := fun x _ => chanceryref2_Has x.1 x.2.1
noncomputable def fx11 : Ctx := fx12.add 11 (inst11.sem run11)
theorem fx11_ok : CtxOK fx11 Tryz.prog := fn_put fx12_ok feMixed 11 Tryz.f11 [.tmp 4] (sq rz (sq rz lf)) inst11 18 run11 Tryz.func11 (by kernel_rfl) Tryz.ntmps11 (by kernel_rfl) (by intro x y; kernel_rfl) Tryz.call11
def inst8 : Inst := mk1 [] KA12
def hint8 : HC := (sq rz (sq rz (sq rz lf)))
noncomputable def run8 : inst8.F := fun _ _ => chancerylaw2_flats
theorem ok8 : FnOK Tryz.prog fx11.glob 8 (inst8.sem run8) :=
  fn_add fx11_ok feMixed 8 Tryz.f8 [.tmp 0] hint8 inst8 14 run8 Tryz.func8 (by kernel_rfl) Tryz.ntmps8 (by kernel_rfl) (by kernel_rfl) (by intro x y; kernel_rfl)
noncomputable def fx8 : Ctx := fx11.add 8 (inst8.sem run8)
theorem fx8_ok : CtxOK fx8 Tryz.prog := add_ok fx11_ok ok8 Tryz.call8
def inst105 : Inst := { args := [(.ptr 0 0)], objs := [KA3], nres := 0, out := [(0, (.ptr 0 0)), (100000, KA3)], news := 0 }
noncomputable def run105 : inst105.F := fun _ y => markup_reader__space y.1.1 y.1.2.1
noncomputable def fx105 : Ctx := fx8.add 105 (inst105.sem run105)
theorem fx105_ok : CtxOK fx105 Tryz.prog := fn_put fx8_ok feMixed 105 Tryz.f105 [] (bk (.loop [(0, (.ptr 0 0)), (100000, KA3)] [((.exit 0), [(0, (.ptr 0 0)), (100000, KA3)])] (sq (sq (.cut [(.normal, [(0, (.ptr 0 0)), (24, KA12), (100000, KA3)])] (rg [{}, (rd 0), (rd 0), (rd 0), {}, (rd 0), (rd 0), (rd 0), {}, {}, {}, {}, (rd 0), (rd 0), (rd 0), {}, (rd 0), (rd 0), (rd 0)])) (cn lf lf)) (bk (rg [{}, (rd 0), (rd 0), (rd 0), {}, (rd 0), (rd 0), (wr 0)]))))) inst105 32 run105 Tryz.func105 (by kernel_rfl) Tryz.ntmps105 (by kernel_rfl) (by intro x y; kernel_rfl) Tryz.call105
def inst106 : Inst := mk1 [(.val YA17)] KA12
noncomputable def run106 : inst106.F := fun x _ => markup_letter x.1
noncomputable def fx106 : Ctx := fx105.add 106 (inst106.sem run106)
theorem fx106_ok : CtxOK fx106 Tryz.prog := fn_put fx105_ok feMixed 106 Tryz.f106 [.tmp 2] (sq rz (sq rz lf)) inst106 9 run106 Tryz.func106 (by kernel_rfl) Tryz.ntmps106 (by kernel_rfl) (by intro x y; kernel_rfl) Tryz.call106
def inst42 : Inst := { args := [(.ptr 0 0)], objs := [KA3], nres := 1, out := [(90000, KA22), (0, (.ptr 0 0)), (100000, KA3)], news := 0 }
noncomputable def run42 : inst42.FP .unit := fun _ y => markup_reader__next y.1.1 y.1.2.1
noncomputable def fx42 : Ctx := fx106.add 42 (inst42.semP 158 .unit run42)
theorem fx42_ok : CtxOK fx42 Tryz.prog := fn_putP fx106_ok feMixed 42 Tryz.f42 [.tmp 2] (sq rz (sq (rg [{}, (wr 0)]) (sq (.cut [(.normal, [(0, (.ptr 0 0)), (100000, KA3)]), ((.pan 158), [(99999, KA21)])] (sq (rg [{}, (rd 0), (rd 0), (rd 0), {}, (rd 0), (rd 0), (rd 0)]) (cn (rg [{}, { wr := [0], pan := true }]) lf))) (sq (sq (.cut [(.normal, [(0, (.ptr 0 0)), (39, KA12), (100000, KA3)])] (rg [{}, (rd 0), (rd 0), (rd 0), {}, (rd 0), (rd 0), (rd 0), {}, {}, {}, {}, (rd 0), (rd 0), (rd 0), {}, (rd 0), (rd 0), (rd 0)])) (cn (sq rz lf) lf)) (sq (rg [{}, (rd 0), (rd 0), (rd 0)]) (sq (bk (.loop [(0, (.ptr 0 0)), (3, KA9), (100000, KA3)] [((.exit 0), [(0, (.ptr 0 0)), (3, KA9), (100000, KA3)])] (sq (sq (.cut [(.normal, [(0, (.ptr 0 0)), (60, KA12), (100000, KA3)])] (rg [{}, {}, (rd 0), (rd 0), (rd 0), {}, {}, {}, {}, (rd 0), (rd 0), (rd 0)])) (cn lf lf)) (bk rz)))) (sq (rg [{}, (rd 0), (rd 0), (rd 0), {}, (rd 0), (rd 0), (rd 0)]) lf))))))) inst42 158 .unit 74 run42 Tryz.func42 (by kernel_rfl) Tryz.ntmps42 (by kernel_rfl) (by intro x y; kernel_rfl) Tryz.call42
def inst107 : Inst := { args := [(.ptr 0 0), KA22], objs := [KA3], nres := 0, out := [(0, (.ptr 0 0)), (100000, KA3)], news := 0 }
noncomputable def run107 : inst107.FP .unit := fun x y => markup_reader__want x.2.1 y.1.1 y.1.2.1
noncomputable def fx107 : Ctx := fx42.add 107 (inst107.semP 158 .unit run107)
theorem fx107_ok : CtxOK fx107 Tryz.prog := fn_putP fx42_ok feMixed 107 Tryz.f107 [] (sq rz (bk (.loop [(0, (.ptr 0 0)), (7, KA9), (100000, KA3)] [((.exit 0), [(0, (.ptr 0 0)), (100000, KA3)]), ((.pan 158), [(99999, KA21)])] (sq rz (sq (cn lf lf) (sq (bk (sq rz (sq (.cut [(.normal, [(0, (.ptr 0 0)), (100000, KA3)]), ((.pan 158), [(99999, KA21)])] (sq (.cut [(.normal, [(0, (.ptr 0 0)), (34, KA12), (100000, KA3)])] (rg [{}, (rd 0), (rd 0), (rd 0), {}, (rd 0), (rd 0), (rd 0), {}, {}, {}, {}, (rd 0), (rd 0), (rd 0), {}, (rd 0), (rd 0), (rd 0)])) (cn (rg [{}, { wr := [0], pan := true }]) lf))) (rg [{}, (rd 0), (rd 0), (rd 0), {}, (rd 0), (rd 0), (wr 0)])))) rz)))))) inst107 158 .unit 45 run107 Tryz.func107 (by kernel_rfl) Tryz.ntmps107 (by kernel_rfl) (by intro x y; kernel_rfl) Tryz.call107
def inst108 : Inst := { args := [(.ptr 0 0)], objs := [KA3], nres := 1, out := [(90000, KA22), (0, (.ptr 0 0)), (100000, KA3)], news := 0 }
noncomputable def run108 : inst108.FP .unit := fun _ y => markup_reader__word y.1.1 y.1.2.1
noncomputable def fx108 : Ctx := fx107.add 108 (inst108.semP 158 .unit run108)
theorem fx108_ok : CtxOK fx108 Tryz.prog := fn_putP fx107_ok feMixed 108 Tryz.f108 [.tmp 2] (sq rz (sq (rg [{}, (rd 0), (rd 0), (rd 0)]) (sq (bk (.loop [(0, (.ptr 0 0)), (100000, KA3)] [((.exit 0), [(0, (.ptr 0 0)), (100000, KA3)])] (sq (sq (.cut [(.normal, [(0, (.ptr 0 0)), (29, KA12), (100000, KA3)])] (rg [{}, (rd 0), (rd 0), (rd 0), {}, (rd 0), (rd 0), (rd 0), {}, {}, {}, {}, (rd 0), (rd 0), (rd 0), {}, (rd 0), (rd 0), (rd 0)])) (cn lf lf)) (bk (rg [{}, (rd 0), (rd 0), (rd 0), {}, (rd 0), (rd 0), (wr 0)]))))) (sq (.cut [(.normal, [(0, (.ptr 0 0)), (100000, KA3)]), ((.pan 158), [(99999, KA21)])] (sq (rg [{}, (rd 0), (rd 0), (rd 0)]) (cn (rg [{}, { wr := [0], pan := true }]) lf))) (sq (rg [{}, (rd 0), (rd 0), (rd 0), {}, {}, (rd 0), (rd 0), (rd 0)]) lf))))) inst108 158 .unit 55 run108 Tryz.func108 (by kernel_rfl) Tryz.ntmps108 (by kernel_rfl) (by intro x y; kernel_rfl) Tryz.call108
def inst262 : Inst := mk3 [KA22, KA22] KA22 KA22 KA12
noncomputable def run262 : inst262.F := fun x _ => stringslite_Cut x.1 x.2.1
noncomputable def fx262 : Ctx := fx108.add 262 (inst262.sem run262)
theorem fx262_ok : CtxOK fx262 Tryz.prog := fn_put fx108_ok feMixed 262 Tryz.f262 [.tmp 4, .tmp 5, .tmp 6] (sq rz (sq (sq rz (sq rz (cn (sq rz lf) lf))) (sq rz lf))) inst262 23 run262 Tryz.func262 (by kernel_rfl) Tryz.ntmps262 (by kernel_rfl) (by intro x y; kernel_rfl) Tryz.call262
def inst238 : Inst := mk3 [KA22, KA22] KA22 KA22 KA12
noncomputable def run238 : inst238.F := fun x _ => strings_Cut x.1 x.2.1
noncomputable def fx238 : Ctx := fx262.add 238 (inst238.sem run238)
theorem fx238_ok : CtxOK fx238 Tryz.prog := fn_put fx262_ok feMixed 238 Tryz.f238 [.tmp 4, .tmp 5, .tmp 6] (sq rz (sq rz lf)) inst238 13 run238 Tryz.func238 (by kernel_rfl) Tryz.ntmps238 (by kernel_rfl) (by intro x y; kernel_rfl) Tryz.call238
def inst110 : Inst := mk1 [(.val (.sl .str)), KA22] KA9
noncomputable def run110 : inst110.F := fun x _ => slices_Index_string_string_ x.1 x.2.1
noncomputable def fx110 : Ctx := fx238.add 110 (inst110.sem run110)
theorem fx110_ok : CtxOK fx110 Tryz.prog := fn_put fx238_ok feMixed 110 Tryz.f110 [.tmp 4] (sq rz (sq (sq rz (bk (.loop [(8, KA9)] [((.exit 0), []), (.ret, [(4, KA9)])] (sq rz (sq (cn lf lf) (sq (bk (sq rz (sq rz (cn (sq rz lf) lf)))) rz)))))) (sq rz lf))) inst110 19 run110 Tryz.func110 (by kernel_rfl) Tryz.ntmps110 (by kernel_rfl) (by intro x y; kernel_rfl) Tryz.call110
def inst239 : Inst := mk1 [(.val (.int .i32))] KA12
noncomputable def run239 : inst239.F := fun x _ => utf8_ValidRune x.1
noncomputable def fx239 : Ctx := fx110.add 239 (inst239.sem run239)
theorem fx239_ok : CtxOK fx239 Tryz.prog := fn_put fx110_ok feMixed 239 Tryz.f239 [.tmp 2] (sq rz (sq (bk (sq (.cut [(.normal, [(3, KA12)])] rz) (cn (sq rz lf) (sq (.cut [(.normal, [(10, KA12)])] rz) (cn (sq rz lf) lf))))) (sq rz lf))) inst239 17 run239 Tryz.func239 (by kernel_rfl) Tryz.ntmps239 (by kernel_rfl) (by intro x y; kernel_rfl) Tryz.call239
def inst181 : Inst := { args := [(.ptr 0 0)], objs := [KA3], nres := 1, out := [(90000, (.val (.int .i32))), (0, (.ptr 0 0)), (100000, KA3)], news := 0 }
noncomputable def run181 : inst181.FP .unit := fun _ y => markup_reader__reference y.1.1 y.1.2.1
noncomputable def fx181 : Ctx := fx239.add 181 (inst181.semP 158 .unit run181)
theorem fx181_ok : CtxOK fx181 Tryz.prog := fn_putP fx239_ok feMixed 181 Tryz.f181 [.tmp 2] (sq rz (sq (rg [{}, (rd 0), (rd 0), (rd 0), {}, (rd 0), (rd 0), (rd 0)]) (sq (sq (rg [(nw 11), {}, (fz 26 11)]) (sq (.cut [(.normal, [(0, (.ptr 0 0)), (33, KA12), (100000, KA3)])] rz) (cn (sq (rg [{}, (rd 0), (rd 0), (rd 0), {}, {}, {}, {}, (rd 0), (rd 0), (wr 0)]) (sq rz lf)) lf))) (sq rz (sq rz (sq (.cut [(.normal, [(0, (.ptr 0 0)), (100000, KA3)]), ((.pan 158), [(99999, KA21)])] (sq (.cut [(.normal, [(0, (.ptr 0 0)), (87, KA12), (100000, KA3)])] rz) (cn (rg [{}, { wr := [0], pan := true }]) lf))) (sq (rg [{}, (rd 0), (rd 0), (rd 0), {}, {}, {}, {}, (rd 0), (rd 0), (wr 0)]) (sq rz lf)))))))) inst181 158 .unit 102 run181 Tryz.func181 (by kernel_rfl) Tryz.ntmps181 (by kernel_rfl) (by intro x y; kernel_rfl) Tryz.call181
def inst77x2 : Inst := { args := [(.ptr 0 0), KA22], objs := [(.rcd (.cons (.adr 0 97) (.cons (.brow 1) .unit))), (.vec none YA17)], nres := 2, out := [(90000, KA9), (90001, (.val .err)), (0, (.ptr 0 0)), (100000, (.rcd (.cons (.adr 0 97) (.cons (.brow 2) .unit)))), (100002, (.vec none YA17))], news := 1 }
noncomputable def run77x2 : inst77x2.F := fun x y => _strings_Builder__WriteStringx x.2.1 y.2.1
noncomputable def fx77x2 : Ctx := fx181.more 77 (inst77x2.sem run77x2)
theorem fx77x2_ok : CtxOK fx77x2 Tryz.prog := fn_put2 fx181_ok feMixed 77 Tryz.f77 [.tmp 4, .tmp 5] (sq rz (sq (rg [{}, { wr := [0, 1] }]) (sq (rg [{}, {}, (rd 0), (rd 0), (rd 0), {}, { wr := [1], new := [12] }, (rd 0), (rd 0), { rd := [12], wr := [0] }]) (sq rz lf)))) inst77x2 19 run77x2 Tryz.func77 (by kernel_rfl) Tryz.ntmps77 (by kernel_rfl) (by intro x y; kernel_rfl) Tryz.call77
def inst109 : Inst := { args := [(.ptr 0 0), (.val YA17)], objs := [KA3], nres := 1, out := [(90000, KA22), (0, (.ptr 0 0)), (100000, KA3)], news := 0 }
noncomputable def run109 : inst109.FP .unit := fun x y => markup_reader__text x.2.1 y.1.1 y.1.2.1
noncomputable def fx109 : Ctx := fx77x2.add 109 (inst109.semP 158 .unit run109)
theorem fx109_ok : CtxOK fx109 Tryz.prog := fn_putP fx77x2_ok feMixed 109 Tryz.f109 [.tmp 4] (sq rz (sq (rg [{ new := [11, 12] }]) (bk (.loop [(0, (.ptr 0 0)), (5, (.ptr 11 0)), (100000, KA3), (100011, (.rcd (.cons (.adr 11 97) (.cons (.brow 15) .unit)))), (100015, (.vec none YA17))] [((.pan 158), [(99999, KA21)]), (.ret, [(0, (.ptr 0 0)), (4, KA22), (100000, KA3)])] (bk (sq (.cut [(.normal, [(0, (.ptr 0 0)), (5, (.ptr 11 0)), (100000, KA3), (100011, (.rcd (.cons (.adr 11 97) (.cons (.brow 15) .unit)))), (100015, (.vec none YA17))]), ((.pan 158), [(99999, KA21)])] (sq (rg [{}, (rd 0), (rd 0), (rd 0), {}, (rd 0), (rd 0), (rd 0)]) (cn (rg [{}, { wr := [0], pan := true }]) lf))) (sq (rg [{}, (rd 0), (rd 0), (rd 0), {}, (rd 0), (rd 0), (rd 0)]) (sq (.cut [(.normal, [(0, (.ptr 0 0)), (5, (.ptr 11 0)), (100000, KA3), (100011, (.rcd (.cons (.adr 11 97) (.cons (.brow 15) .unit)))), (100015, (.vec none YA17))]), ((.exit 1), [(0, (.ptr 0 0)), (5, (.ptr 11 0)), (100000, KA3), (100011, (.rcd (.cons (.adr 11 97) (.cons (.brow 13) .unit)))), (100013, (.vec none YA17))]), ((.pan 158), [(99999, KA21)]), (.ret, [(0, (.ptr 0 0)), (4, KA22), (100000, KA3)])] (bk (sq (rg [{}, (rd 0), (rd 0), (rd 0), {}, (rd 0), (rd 0), (rd 0)]) (cn (sq (rg [{ wr := [11, 15] }]) lf) (sq (rg [{}, (rd 0), (rd 0), (rd 0), {}, (rd 0), (rd 0), (rd 0)]) (cn (sq (rg [{}, { wr := [0], pan := true }, { wr := [11, 15], new := [13] }]) lf) (sq (.cut [(.normal, [(0, (.ptr 0 0)), (5, (.ptr 11 0)), (60, KA12), (100000, KA3), (100011, (.rcd (.cons (.adr 11 97) (.cons (.brow 15) .unit)))), (100015, (.vec none YA17))])] rz) (cn (rg [{}, { wr := [0], pan := true }]) lf)))))))) (sq (rg [{}, (rd 0), (rd 0), (rd 0), {}, (rd 0), (rd 0), (rd 0), {}, (rd 0), (rd 0), (rd 0), {}, {}, {}, { wr := [11, 15], new := [14] }]) (rg [{}, (rd 0), (rd 0), (rd 0), {}, {}, (rd 0), (rd 0), (wr 0)])))))))))) inst109 158 .unit 109 run109 Tryz.func109 (by kernel_rfl) Tryz.ntmps109 (by kernel_rfl) (by intro x y; kernel_rfl) Tryz.call109
def inst44 : Inst := { args := [(.ptr 0 0)], objs := [KA3], nres := 1, out := [(90000, (.val YA16)), (0, (.ptr 0 0)), (100000, KA3)], news := 0 }
noncomputable def run44 : inst44.FP .unit := fun _ y => markup_reader__open y.1.1 y.1.2.1
noncomputable def fx44 : Ctx := fx109.add 44 (inst44.semP 158 .unit run44)
theorem fx44_ok : CtxOK fx44 Tryz.prog := fn_putP fx109_ok feMixed 44 Tryz.f44 [.cell 2 88] (sq (rg [(nw 11)]) (sq (rg [{}, { wr := [0], pan := true }]) (sq (rg [{}, { wr := [0], pan := true }, { agg := true }, (nw 12), (wr 12)]) (sq (bk (.loop [(0, (.ptr 0 0)), (2, (.ptr 11 0)), (3, (.ptr 12 0)), (100000, KA3), (100011, KA4), (100012, KA20), (100017, (.vec none .str)), (100018, (.vec none .str))] [((.exit 0), [(0, (.ptr 0 0)), (2, (.ptr 11 0)), (3, (.ptr 12 0)), (100000, KA3), (100011, KA4), (100012, KA20), (100017, (.vec none .str)), (100018, (.vec none .str))]), ((.pan 158), [(99999, KA21)])] (bk (sq (rg [{}, (rd 0), (rd 0), (rd 0)]) (sq (rg [{}, (wr 0)]) (sq (sq (.cut [(.normal, [(0, (.ptr 0 0)), (2, (.ptr 11 0)), (3, (.ptr 12 0)), (49, KA12), (100000, KA3), (100011, KA4), (100012, KA20), (100017, (.vec none .str)), (100018, (.vec none .str))])] (rg [{}, (rd 0), (rd 0), (rd 0), {}, (rd 0), (rd 0), (rd 0), {}, {}, {}, {}, (rd 0), (rd 0), (rd 0), {}, (rd 0), (rd 0), (rd 0), {}, {}, {}, {}, (rd 0), (rd 0), (rd 0), {}, (rd 0), (rd 0), (rd 0)])) (cn lf lf)) (sq (.cut [(.normal, [(0, (.ptr 0 0)), (2, (.ptr 11 0)), (3, (.ptr 12 0)), (100000, KA3), (100011, KA4), (100012, KA20), (100017, (.vec none .str)), (100018, (.vec none .str))]), ((.pan 158), [(99999, KA21)])] (sq (rg [{}, (rd 0), (rd 0), (rd 0)]) (cn (rg [{}, { wr := [0], pan := true }]) lf))) (sq (rg [(rd 12), (rd 12), {}, { wr := [0], pan := true }, (nw 13), { rd := [13], wr := [17], new := [14] }, (rd 12), { rd := [14], wr := [12] }]) (sq (rg [{}, { wr := [0], pan := true }]) (sq (rg [(rd 12), (rd 12), {}, { wr := [0], pan := true }, (nw 15), { rd := [15], wr := [18], new := [16] }, (rd 12), { rd := [16], wr := [12] }]) (rg [{}, (rd 0), (rd 0), (rd 0), {}, (rd 0), (rd 0), (wr 0)]))))))))))) (sq (.cut [(.normal, [(0, (.ptr 0 0)), (2, (.ptr 11 0)), (3, (.ptr 12 0)), (100000, KA3), (100011, KA4), (100012, KA20), (100017, (.vec none .str)), (100018, (.vec none .str))])] (sq (rg [{}, (rd 0), (rd 0), (rd 0), {}, (rd 0), (rd 0), (rd 0)]) (cn (sq (rg [{}, (rd 0), (rd 0), (rd 0), {}, (rd 0), (rd 0), (wr 0)]) (rg [(rd 12), (wr 12)])) lf))) (sq (rg [{}, { wr := [0], pan := true }]) (sq (rg [{ rd := [12], fz := [(100012, 17), (100012, 18)] }, (wr 11)]) lf))))))) inst44 158 .unit 102 run44 Tryz.func44 (by kernel_rfl) Tryz.ntmps44 (by kernel_rfl) (by intro x y; kernel_rfl) Tryz.call44
def inst45 : Inst := { args := [(.ptr 0 0), (.val YA16), (.val (.sl .str))], objs := [KA3], nres := 1, out := [(90000, (.val (.sl .str))), (0, (.ptr 0 0)), (100000, KA3)], news := 0 }
noncomputable def run45 : inst45.FP .unit := fun x y => markup_reader__wants x.2.1 x.2.2.1 y.1.1 y.1.2.1
noncomputable def fx45 : Ctx := fx44.add 45 (inst45.semP 158 .unit run45)
theorem fx45_ok : CtxOK fx45 Tryz.prog := fn_putP fx44_ok feMixed 45 Tryz.f45 [.tmp 6] (sq (rg [(nw 11)]) (sq (rg [{}, {}, (nw 12)]) (sq (.cut [(.normal, [(0, (.ptr 0 0)), (4, (.ptr 11 0)), (7, (.own 12)), (100000, KA3), (100011, KA4), (100012, (.vec none .str))]), ((.pan 158), [(99999, KA21)])] (sq (rg [(rd 11), (rd 11)]) (cn (rg [{}, { wr := [0], pan := true }]) lf))) (sq (sq rz (bk (.loop [(0, (.ptr 0 0)), (4, (.ptr 11 0)), (7, (.own 12)), (24, KA9), (100000, KA3), (100011, KA4), (100012, (.vec none .str))] [((.exit 0), [(0, (.ptr 0 0)), (7, (.own 12)), (100000, KA3), (100012, (.vec none .str))]), ((.pan 158), [(99999, KA21)])] (sq rz (sq (cn lf lf) (sq (bk (sq rz (sq (rg [(rd 11), (rd 11)]) (sq (.cut [(.normal, [(0, (.ptr 0 0)), (4, (.ptr 11 0)), (7, (.own 12)), (100000, KA3), (100011, KA4), (100012, (.vec none .str))]), ((.pan 158), [(99999, KA21)])] (sq rz (cn (rg [{}, { wr := [0], pan := true }]) lf))) (rg [{}, {}, (rd 11), (rd 11), {}, {}, {}, (rd 12), (wr 12)]))))) rz)))))) (sq rz lf))))) inst45 158 .unit 47 run45 Tryz.func45 (by kernel_rfl) Tryz.ntmps45 (by kernel_rfl) (by intro x y; kernel_rfl) Tryz.call45
def inst111 : Inst := { args := [(.ptr 0 0), KA22, KA12], objs := [KA3], nres := 1, out := [(90000, KA9), (0, (.ptr 0 0)), (100000, KA3)], news := 0 }
noncomputable def run111 : inst111.FP .unit := fun x y => markup_reader__number x.2.1 x.2.2.1 y.1.1 y.1.2.1
noncomputable def fx111 : Ctx := fx45.add 111 (inst111.semP 158 .unit run111)
theorem fx111_ok : CtxOK fx111 Tryz.prog := fn_putP fx45_ok feMixed 111 Tryz.f111 [.tmp 6] (sq rz (sq rz (sq (.cut [(.normal, [(0, (.ptr 0 0)), (7, KA22), (100000, KA3)])] (sq rz (cn rz lf))) (sq rz (sq (.cut [(.normal, [(0, (.ptr 0 0)), (100000, KA3)]), ((.pan 158), [(99999, KA21)])] (sq (.cut [(.normal, [(0, (.ptr 0 0)), (45, KA12), (100000, KA3)])] rz) (cn (rg [{}, { wr := [0], pan := true }]) lf))) (sq rz lf)))))) inst111 158 .unit 49 run111 Tryz.func111 (by kernel_rfl) Tryz.ntmps111 (by kernel_rfl) (by intro x y; kernel_rfl) Tryz.call111
def inst184 : Inst := { args := [(.ptr 0 0), (.val YA16)], objs := [KA3], nres := 1, out := [(90000, KA22), (0, (.ptr 0 0)), (100000, KA3)], news := 0 }
noncomputable def run184 : inst184.FP .unit := fun x y => markup_reader__inside x.2.1 y.1.1 y.1.2.1
noncomputable def fx184 : Ctx := fx111.add 184 (inst184.semP 158 .unit run184)
theorem fx184_ok : CtxOK fx184 Tryz.prog := fn_putP fx111_ok feMixed 184 Tryz.f184 [.tmp 4] (sq (rg [(nw 11)]) (sq (sq (rg [(rd 11), (rd 11)]) (cn (sq rz lf) lf)) (sq (rg [{}, { wr := [0], pan := true }]) (sq (rg [{}, (rd 11), (rd 11), {}, {}, { wr := [0], pan := true }]) (sq rz lf))))) inst184 158 .unit 17 run184 Tryz.func184 (by kernel_rfl) Tryz.ntmps184 (by kernel_rfl) (by intro x y; kernel_rfl) Tryz.call184
def inst113 : Inst := { args := [(.ptr 0 0), (.val YA16)], objs := [KA3], nres := 1, out := [(90000, KA14), (0, (.ptr 0 0)), (100000, KA3)], news := 0 }
noncomputable def run113 : inst113.FP .unit := fun x y => markup_reader__attrs x.2.1 y.1.1 y.1.2.1
noncomputable def fx113 : Ctx := fx184.add 113 (inst113.semP 158 .unit run113)
theorem fx113_ok : CtxOK fx113 Tryz.prog := fn_putP fx184_ok feMixed 113 Tryz.f113 [.tmp 4] (sq (rg [(nw 11)]) (sq rz (sq (bk (.loop [(0, (.ptr 0 0)), (3, (.ptr 11 0)), (5, (.own 16)), (100000, KA3), (100011, KA4), (100016, (.vec none YA23))] [((.exit 0), [(0, (.ptr 0 0)), (5, (.own 16)), (100000, KA3), (100016, (.vec none YA23))]), ((.pan 158), [(99999, KA21)])] (sq (sq (.cut [(.normal, [(0, (.ptr 0 0)), (3, (.ptr 11 0)), (5, (.own 16)), (15, KA12), (100000, KA3), (100011, KA4), (100016, (.vec none YA23))]), ((.pan 158), [(99999, KA21)])] (rg [(rd 11), (rd 11), {}, {}, {}, { wr := [0], pan := true }])) (cn lf lf)) (bk (sq (rg [{}, { wr := [0], pan := true }, (nw 12), (wr 12)]) (sq (rg [{}, (rd 12), (nw 13), { wr := [0], pan := true, fz := [(20, 13)] }]) (rg [{}, {}, {}, (rd 12), { wr := [0], pan := true }, {}, (nw 14), { rd := [14], wr := [16], new := [15] }]))))))) (sq rz lf)))) inst113 158 .unit 33 run113 Tryz.func113 (by kernel_rfl) Tryz.ntmps113 (by kernel_rfl) (by intro x y; kernel_rfl) Tryz.call113
def inst185 : Inst := { args := [(.ptr 0 0), (.val YA16)], objs := [KA3], nres := 1, out := [(90000, KA22), (0, (.ptr 0 0)), (100000, KA3)], news := 0 }
noncomputable def run185 : inst185.FP .unit := fun x y => markup_reader__string x.2.1 y.1.1 y.1.2.1
noncomputable def fx185 : Ctx := fx113.add 185 (inst185.semP 158 .unit run185)
theorem fx185_ok : CtxOK fx185 Tryz.prog := fn_putP fx113_ok feMixed 185 Tryz.f185 [.tmp 4] (sq (rg [(nw 11)]) (sq (sq (.cut [(.normal, [(0, (.ptr 0 0)), (12, KA12), (100000, KA3)]), ((.pan 158), [(99999, KA21)])] (rg [(rd 11), (rd 11), {}, {}, { wr := [0], pan := true }])) (cn (sq rz lf) lf)) (sq (rg [{}, { wr := [0], pan := true }, (nw 12), (wr 12)]) (sq (rg [{}, (rd 12), { wr := [0], pan := true }]) (sq (rg [{}, (rd 12), { wr := [0], pan := true }]) lf))))) inst185 158 .unit 21 run185 Tryz.func185 (by kernel_rfl) Tryz.ntmps185 (by kernel_rfl) (by intro x y; kernel_rfl) Tryz.call185
def inst186 : Inst := mk1 [KA14] KA14
noncomputable def run186 : inst186.F := fun x _ => api_Attr_ x.1
noncomputable def fx186 : Ctx := fx185.add 186 (inst186.sem run186)
theorem fx186_ok : CtxOK fx186 Tryz.prog := fn_put fx185_ok feMixed 186 Tryz.f186 [.tmp 2] (sq rz (sq (sq rz (cn (sq rz lf) lf)) (sq (rg [(nw 10), {}, { wr := [10], new := [11] }]) lf))) inst186 8 run186 Tryz.func186 (by kernel_rfl) Tryz.ntmps186 (by kernel_rfl) (by intro x y; rw [show run186 x y = api_Attr__raw x.1 from (congrFun api_Attr__raw_eq _).symm]; kernel_rfl) Tryz.call186
def inst47 : Inst := { args := [(.ptr 0 0), (.val YA16)], objs := [KA3], nres := 0, out := [(0, (.ptr 0 0)), (100000, KA3)], news := 0 }
noncomputable def run47 : inst47.FP .unit := fun x y => markup_reader__shut x.2.1 y.1.1 y.1.2.1
noncomputable def fx47 : Ctx := fx186.add 47 (inst47.semP 158 .unit run47)
theorem fx47_ok : CtxOK fx47 Tryz.prog := fn_putP fx186_ok feMixed 47 Tryz.f47 [] (sq (rg [(nw 11)]) (sq (sq (rg [(rd 11), (rd 11)]) (cn lf lf)) (sq (rg [{}, (wr 0)]) (rg [{}, (rd 11), (rd 11), {}, {}, { wr := [0], pan := true }])))) inst47 158 .unit 14 run47 Tryz.func47 (by kernel_rfl) Tryz.ntmps47 (by kernel_rfl) (by intro x y; kernel_rfl) Tryz.call47
def inst187 : Inst := { args := [(.ptr 0 0), (.val YA16)], objs := [KA3], nres := 1, out := [(90000, KA9), (0, (.ptr 0 0)), (100000, KA3)], news := 0 }
noncomputable def run187 : inst187.FP .unit := fun x y => markup_reader__object x.2.1 y.1.1 y.1.2.1
noncomputable def fx187 : Ctx := fx47.add 187 (inst187.semP 158 .unit run187)
theorem fx187_ok : CtxOK fx187 Tryz.prog := fn_putP fx47_ok feMixed 187 Tryz.f187 [.tmp 4] (sq (rg [(nw 11)]) (sq (rg [{}, {}, (rd 11), (nw 12), { wr := [0], pan := true, fz := [(8, 12)] }, {}, {}, { wr := [0], pan := true }]) lf)) inst187 158 .unit 13 run187 Tryz.func187 (by kernel_rfl) Tryz.ntmps187 (by kernel_rfl) (by intro x y; kernel_rfl) Tryz.call187
def inst114 : Inst := { args := [(.ptr 0 0)], objs := [KA3], nres := 1, out := [(90000, (.val (.sl YA26))), (0, (.ptr 0 0)), (100000, KA3)], news := 0 }
noncomputable def run114 : inst114.FP .unit := fun _ y => markup_reader__flow y.1.1 y.1.2.1
noncomputable def fx114 : Ctx := fx187.add 114 (inst114.semP 158 .unit run114)
theorem fx114_ok : CtxOK fx114 Tryz.prog := fn_putP fx187_ok feMixed 114 Tryz.f114 [.tmp 2] (sq rz (sq (rg [{}, { wr := [0], pan := true }, (nw 11), (wr 11)]) (sq (rg [{}, (rd 11), { wr := [0], pan := true }]) (sq rz (sq (bk (.loop [(0, (.ptr 0 0)), (3, (.ptr 11 0)), (4, (.own 20)), (100000, KA3), (100011, KA4), (100020, (.vec none YA26))] [((.exit 0), [(0, (.ptr 0 0)), (3, (.ptr 11 0)), (4, (.own 20)), (100000, KA3), (100011, KA4), (100020, (.vec none YA26))]), ((.pan 158), [(99999, KA21)])] (sq (sq (rg [(rd 11), (rd 11)]) (cn lf lf)) (bk (sq (sq (rg [{}, { wr := [0], pan := true }]) (bk (sq rz (cn (sq (rg [{}, { wr := [0], pan := true }, (nw 12), (wr 12)]) (sq (rg [{}, (rd 12), { wr := [0], pan := true }]) (sq (rg [{}, (rd 12), { wr := [0], pan := true }]) (sq (sq (rg [{}, (rd 12), { wr := [0], pan := true }, (nw 13)]) (bk (.loop [(0, (.ptr 0 0)), (3, (.ptr 11 0)), (4, (.own 16)), (5, (.ptr 12 0)), (34, (.ptr 13 0)), (100000, KA3), (100011, KA4), (100016, (.vec none YA26)), (100012, KA4), (100013, .iter)] [((.exit 3), [(0, (.ptr 0 0)), (3, (.ptr 11 0)), (4, (.own 16)), (5, (.ptr 12 0)), (100000, KA3), (100011, KA4), (100016, (.vec none YA26)), (100012, KA4)])] (sq (rg [(wr 13)]) (sq (cn lf lf) (bk (sq rz (rg [{}, {}, {}, {}, {}, {}, (nw 14), { rd := [14], wr := [16], new := [15] }])))))))) (sq (rg [{}, (rd 12), { wr := [0], pan := true }]) lf))))) (sq rz (cn (sq (rg [{}, { wr := [0], pan := true }, (nw 17), (wr 17)]) (sq (rg [{}, (rd 17), { wr := [0], pan := true }]) (sq (rg [{}, {}, {}, (rd 17), { wr := [0], pan := true }, {}, (nw 18), { rd := [18], wr := [20], new := [19] }]) (sq (rg [{}, (rd 17), { wr := [0], pan := true }]) lf)))) lf)))))) lf))))) (sq (rg [{}, (rd 11), { wr := [0], pan := true }]) (sq rz lf))))))) inst114 158 .unit 71 run114 Tryz.func114 (by kernel_rfl) Tryz.ntmps114 (by kernel_rfl) (by intro x y; kernel_rfl) Tryz.call114
def inst188 : Inst := { args := [(.ptr 0 0), (.val YA16), (.val (.sl .str))], objs := [KA3], nres := 1, out := [(90000, (.val (.sl YA0))), (0, (.ptr 0 0)), (100000, KA3)], news := 0 }
noncomputable def run188 : inst188.FP .unit := fun x y => markup_reader__numbers x.2.1 x.2.2.1 y.1.1 y.1.2.1
noncomputable def fx188 : Ctx := fx114.add 188 (inst188.semP 158 .unit run188)
theorem fx188_ok : CtxOK fx188 Tryz.prog := fn_putP fx114_ok feMixed 188 Tryz.f188 [.tmp 6] (sq (rg [(nw 11)]) (sq rz (sq (sq (rg [{}, (rd 11), {}, { wr := [0], pan := true }]) (bk (.loop [(0, (.ptr 0 0)), (7, (.own 14)), (15, KA9), (100000, KA3), (100014, (.vec none YA0))] [((.exit 0), [(0, (.ptr 0 0)), (7, (.own 14)), (100000, KA3), (100014, (.vec none YA0))]), ((.pan 158), [(99999, KA21)])] (sq rz (sq (cn lf lf) (sq (bk (sq rz (rg [{}, {}, {}, { wr := [0], pan := true }, (nw 12), { rd := [12], wr := [14], new := [13] }]))) rz)))))) (sq rz lf)))) inst188 158 .unit 27 run188 Tryz.func188 (by kernel_rfl) Tryz.ntmps188 (by kernel_rfl) (by intro x y; kernel_rfl) Tryz.call188
def inst115 : Inst := { args := [(.ptr 0 0)], objs := [KA3], nres := 1, out := [(90000, (.val YA19)), (0, (.ptr 0 0)), (100000, KA3)], news := 0 }
noncomputable def run115 : inst115.FP .unit := fun _ y => markup_reader__grid y.1.1 y.1.2.1
noncomputable def fx115 : Ctx := fx188.add 115 (inst115.semP 158 .unit run115)
theorem fx115_ok : CtxOK fx115 Tryz.prog := fn_putP fx188_ok feMixed 115 Tryz.f115 [.cell 2 42] (sq (rg [(nw 11)]) (sq (rg [{}, { wr := [0], pan := true }, (nw 12), (wr 12)]) (sq (rg [{}, (rd 12), (nw 13), { wr := [0], pan := true, fz := [(16, 13)] }]) (sq (rg [{}, {}, {}, {}, {}, {}, { agg := true }, (nw 14), (wr 14)]) (sq (bk (.loop [(0, (.ptr 0 0)), (2, (.ptr 11 0)), (3, (.ptr 12 0)), (5, (.ptr 14 0)), (100000, KA3), (100011, KA7), (100012, KA4), (100014, (.rcd (.cons KA9 (.cons KA9 (.cons (.own 21) (.cons .nil .unit)))))), (100021, (.vec none YA13))] [((.exit 0), [(0, (.ptr 0 0)), (2, (.ptr 11 0)), (3, (.ptr 12 0)), (5, (.ptr 14 0)), (100000, KA3), (100011, KA7), (100012, KA4), (100014, (.rcd (.cons KA9 (.cons KA9 (.cons (.own 21) (.cons .nil .unit)))))), (100021, (.vec none YA13))]), ((.pan 158), [(99999, KA21)])] (sq (sq (.cut [(.normal, [(0, (.ptr 0 0)), (2, (.ptr 11 0)), (3, (.ptr 12 0)), (5, (.ptr 14 0)), (32, KA12), (100000, KA3), (100011, KA7), (100012, KA4), (100014, (.rcd (.cons KA9 (.cons KA9 (.cons (.own 21) (.cons .nil .unit)))))), (100021, (.vec none YA13))]), ((.pan 158), [(99999, KA21)])] (rg [(rd 12), (rd 12), {}, {}, {}, { wr := [0], pan := true }])) (cn lf lf)) (bk (sq (rg [{}, { wr := [0], pan := true }, (nw 15), (wr 15)]) (sq (rg [{}, (rd 15), (nw 16), { wr := [0], pan := true, fz := [(37, 16)] }]) (sq (rg [{}, {}, {}, {}, {}, {}, {}, (rd 15), { wr := [0], pan := true }, {}, (nw 17), (wr 17)]) (sq (rg [{}, (rd 15), { wr := [0], pan := true }, (rd 17), (wr 17)]) (sq (.cut [(.normal, [(0, (.ptr 0 0)), (2, (.ptr 11 0)), (3, (.ptr 12 0)), (5, (.ptr 14 0)), (6, (.ptr 15 0)), (8, (.ptr 17 0)), (100000, KA3), (100011, KA7), (100012, KA4), (100014, (.rcd (.cons KA9 (.cons KA9 (.cons (.own 21) (.cons .nil .unit)))))), (100015, KA4), (100017, KA18), (100021, (.vec none YA13))]), ((.pan 158), [(99999, KA21)])] (sq (.cut [(.normal, [(0, (.ptr 0 0)), (2, (.ptr 11 0)), (3, (.ptr 12 0)), (5, (.ptr 14 0)), (6, (.ptr 15 0)), (8, (.ptr 17 0)), (60, KA12), (100000, KA3), (100011, KA7), (100012, KA4), (100014, (.rcd (.cons KA9 (.cons KA9 (.cons (.own 21) (.cons .nil .unit)))))), (100015, KA4), (100017, KA18), (100021, (.vec none YA13))]), ((.pan 158), [(99999, KA21)])] (rg [(rd 15), (rd 15), {}, {}, {}, { wr := [0], pan := true }])) (cn (sq (rg [{}, { wr := [0], pan := true }, (nw 18), (wr 18)]) (sq (rg [{}, (rd 18), { wr := [0], pan := true }, (rd 17), (wr 17)]) (rg [{}, (rd 18), { wr := [0], pan := true }]))) lf))) (sq (rg [{}, (rd 15), { wr := [0], pan := true }]) (rg [(rd 14), (rd 14), (rd 17), (nw 19), { rd := [19], wr := [21], new := [20] }, (rd 14), { rd := [20], wr := [14] }]))))))))))) (sq (bk (.loop [(0, (.ptr 0 0)), (2, (.ptr 11 0)), (3, (.ptr 12 0)), (5, (.ptr 14 0)), (100000, KA3), (100011, KA7), (100012, KA4), (100014, (.rcd (.cons KA9 (.cons KA9 (.cons (.own 21) (.cons (.own 26) .unit)))))), (100021, (.vec none YA13)), (100026, (.vec none YA10))] [((.exit 2), [(0, (.ptr 0 0)), (2, (.ptr 11 0)), (3, (.ptr 12 0)), (5, (.ptr 14 0)), (100000, KA3), (100011, KA7), (100012, KA4), (100014, (.rcd (.cons KA9 (.cons KA9 (.cons (.own 21) (.cons (.own 26) .unit)))))), (100021, (.vec none YA13)), (100026, (.vec none YA10))]), ((.pan 158), [(99999, KA21)])] (sq (sq (.cut [(.normal, [(0, (.ptr 0 0)), (2, (.ptr 11 0)), (3, (.ptr 12 0)), (5, (.ptr 14 0)), (86, KA12), (100000, KA3), (100011, KA7), (100012, KA4), (100014, (.rcd (.cons KA9 (.cons KA9 (.cons (.own 21) (.cons (.own 26) .unit)))))), (100021, (.vec none YA13)), (100026, (.vec none YA10))]), ((.pan 158), [(99999, KA21)])] (rg [(rd 12), (rd 12), {}, {}, {}, { wr := [0], pan := true }])) (cn lf lf)) (bk (sq (rg [{}, { wr := [0], pan := true }, (nw 22), (wr 22)]) (sq (rg [{}, (rd 22), (nw 23), { wr := [0], pan := true, fz := [(91, 23)] }]) (sq (rg [(rd 14), (rd 14), {}, {}, {}, {}, {}, {}, {}, {}, {}, {}, {}, {}, {}, (nw 24), { rd := [24], wr := [26], new := [25] }, (rd 14), { rd := [25], wr := [14] }]) (rg [{}, (rd 22), { wr := [0], pan := true }])))))))) (sq (rg [{}, (rd 12), { wr := [0], pan := true }]) (sq (rg [{ rd := [14], fz := [(100014, 21), (100014, 26)] }, (wr 11)]) lf)))))))) inst115 158 .unit 118 run115 Tryz.func115 (by kernel_rfl) Tryz.ntmps115 (by kernel_rfl) (by intro x y; kernel_rfl) Tryz.call115
def inst116 : Inst := { args := [(.ptr 0 0)], objs := [KA3], nres := 1, out := [(90000, (.val (.sl YA5))), (0, (.ptr 0 0)), (100000, KA3)], news := 0 }
noncomputable def run116 : inst116.FP .unit := fun _ y => markup_reader__draw y.1.1 y.1.2.1
noncomputable def fx116 : Ctx := fx115.add 116 (inst116.semP 158 .unit run116)
theorem fx116_ok : CtxOK fx116 Tryz.prog := fn_putP fx115_ok feMixed 116 Tryz.f116 [.tmp 2] (sq rz (sq (rg [{}, { wr := [0], pan := true }, (nw 11), (wr 11)]) (sq (rg [{}, (rd 11), { wr := [0], pan := true }]) (sq rz (sq (bk (.loop [(0, (.ptr 0 0)), (3, (.ptr 11 0)), (4, (.own 18)), (100000, KA3), (100011, KA4), (100018, (.vec none YA5))] [((.exit 0), [(0, (.ptr 0 0)), (3, (.ptr 11 0)), (4, (.own 18)), (100000, KA3), (100011, KA4), (100018, (.vec none YA5))]), ((.pan 158), [(99999, KA21)])] (sq (sq (rg [(rd 11), (rd 11)]) (cn lf lf)) (bk (sq (rg [{}, { wr := [0], pan := true }]) (sq (sq (.cut [(.normal, [(0, (.ptr 0 0)), (3, (.ptr 11 0)), (4, (.own 18)), (24, KA12), (100000, KA3), (100011, KA4), (100018, (.vec none YA5))])] rz) (cn lf lf)) (sq (rg [{}, { wr := [0], pan := true }, (nw 12), (wr 12)]) (sq (rg [{}, (nw 13), (wr 13)]) (sq rz (sq (.cut [(.normal, [(0, (.ptr 0 0)), (3, (.ptr 11 0)), (4, (.own 18)), (6, (.ptr 12 0)), (7, (.ptr 13 0)), (8, (.val (.sl .str))), (100000, KA3), (100011, KA4), (100018, (.vec none YA5)), (100012, KA4), (100013, KA11)]), ((.pan 158), [(99999, KA21)])] (sq rz (cn (sq (rg [{}, (rd 12), (nw 14), { wr := [0], pan := true, fz := [(32, 14)] }]) (sq (rg [{}, {}, {}, {}, { wr := [0], pan := true }, {}, {}, {}, (rd 13), (wr 13), (rd 13), (wr 13), (rd 13), (wr 13)]) (rg [{}, (rd 12), { wr := [0], pan := true }]))) (sq (rg [{}, (rd 12), (nw 15), { wr := [0], pan := true, fz := [(50, 15)] }]) (rg [{}, {}, {}, (rd 13), (wr 13)]))))) (sq (rg [{}, {}, {}, {}, { wr := [0], pan := true }, {}, {}, {}, {}, { wr := [0], pan := true }, {}, {}, {}, {}, { wr := [0], pan := true }, (rd 13), (wr 13), (rd 13), (wr 13), (rd 13), (wr 13)]) (sq (.cut [(.normal, [(0, (.ptr 0 0)), (3, (.ptr 11 0)), (4, (.own 18)), (7, (.ptr 13 0)), (100000, KA3), (100011, KA4), (100018, (.vec none YA5)), (100013, KA11)]), ((.pan 158), [(99999, KA21)])] (sq rz (cn (rg [{}, (rd 12), { wr := [0], pan := true }, (rd 13), (wr 13)]) lf))) (rg [{}, (rd 13), (nw 16), { rd := [16], wr := [18], new := [17] }]))))))))))))) (sq (rg [{}, (rd 11), { wr := [0], pan := true }]) (sq rz lf))))))) inst116 158 .unit 88 run116 Tryz.func116 (by kernel_rfl) Tryz.ntmps116 (by kernel_rfl) (by intro x y; kernel_rfl) Tryz.call116
def inst46 : Inst := { args := [(.ptr 0 0)], objs := [KA3], nres := 1, out := [(90000, (.val YA8)), (0, (.ptr 0 0)), (100000, KA3)], news := 0 }
noncomputable def run46 : inst46.FP .unit := fun _ y => markup_reader__node y.1.1 y.1.2.1
noncomputable def fx46 : Ctx := fx116.add 46 (inst46.semP 158 .unit run46)
theorem fx46_ok : CtxOK fx46 Tryz.prog := fn_putP fx116_ok feMixed 46 Tryz.f46 [.cell 2 45] (sq (rg [(nw 11)]) (sq (.cut [(.normal, [(0, (.ptr 0 0)), (2, (.ptr 11 0)), (100000, KA3), (100011, KA6)]), ((.pan 158), [(99999, KA21)])] (sq (rg [{}, { wr := [0], pan := true }]) (cn (rg [{}, { wr := [0], pan := true }]) lf))) (sq (rg [{}, { wr := [0], pan := true }, (nw 12), (wr 12)]) (sq (rg [{}, (rd 12), (nw 13), { wr := [0], pan := true, fz := [(16, 13)] }]) (sq (rg [{}, {}, {}, {}, { wr := [0], pan := true }, {}, {}, {}, {}, {}, {}, (nw 14), (wr 14)]) (sq (.cut [(.normal, [(0, (.ptr 0 0)), (2, (.ptr 11 0)), (3, (.ptr 12 0)), (5, (.ptr 14 0)), (100000, KA3), (100011, KA6), (100012, KA4), (100014, KA6)]), ((.pan 158), [(99999, KA21)])] (sq (rg [(rd 14), (rd 14)]) (cn (rg [{}, { wr := [0], pan := true }]) lf))) (sq (rg [{}, (rd 12), { wr := [0], pan := true }, (rd 14), (wr 14)]) (sq (rg [(rd 14), (rd 14)]) (sq (.cut [(.normal, [(0, (.ptr 0 0)), (2, (.ptr 11 0)), (3, (.ptr 12 0)), (5, (.ptr 14 0)), (100000, KA3), (100011, KA6), (100012, KA4), (100014, KA6)]), ((.pan 158), [(99999, KA21)])] (bk (sq (.cut [(.normal, [(0, (.ptr 0 0)), (2, (.ptr 11 0)), (3, (.ptr 12 0)), (5, (.ptr 14 0)), (41, KA12), (100000, KA3), (100011, KA6), (100012, KA4), (100014, KA6)])] (rg [(rd 12), (rd 12)])) (cn (rg [{}, { wr := [0], pan := true }]) (sq (rg [(rd 12), (rd 12)]) (cn lf (sq (.cut [(.normal, [(0, (.ptr 0 0)), (2, (.ptr 11 0)), (3, (.ptr 12 0)), (5, (.ptr 14 0)), (52, KA12), (100000, KA3), (100011, KA6), (100012, KA4), (100014, KA6)]), ((.pan 158), [(99999, KA21)])] (rg [(rd 14), (rd 14), {}, {}, (rd 14), (rd 14), {}, {}, {}, {}, { wr := [0], pan := true }])) (cn (rg [{}, { wr := [0], pan := true }, (rd 14), (wr 14)]) (sq rz (cn (sq (.cut [(.normal, [(0, (.ptr 0 0)), (2, (.ptr 11 0)), (3, (.ptr 12 0)), (5, (.ptr 14 0)), (100000, KA3), (100011, KA6), (100012, KA4), (100014, KA6)]), ((.pan 158), [(99999, KA21)])] (sq (rg [{}, { wr := [0], pan := true }]) (cn (rg [{}, { wr := [0], pan := true }]) lf))) (rg [{}, { wr := [0], pan := true }, (rd 14), (wr 14)])) (sq (.cut [(.normal, [(0, (.ptr 0 0)), (2, (.ptr 11 0)), (3, (.ptr 12 0)), (5, (.ptr 14 0)), (79, KA12), (100000, KA3), (100011, KA6), (100012, KA4), (100014, KA6)]), ((.pan 158), [(99999, KA21)])] (rg [(rd 14), (rd 14), {}, {}, {}, { wr := [0], pan := true }])) (cn (rg [{}, { wr := [0], pan := true }, (rd 14), (wr 14)]) lf)))))))))))) (sq (rg [{}, (rd 12), { wr := [0], pan := true }]) (sq (rg [(rd 14), (wr 11)]) lf))))))))))) inst46 158 .unit 95 run46 Tryz.func46 (by kernel_rfl) Tryz.ntmps46 (by kernel_rfl) (by intro x y; kernel_rfl) Tryz.call46
def inst41 : Inst := { args := [(.ptr 0 0), (.ptr 1 0)], objs := [KA3, (.rcd (.cons .nil .unit))], nres := 0, out := [(0, (.ptr 0 0)), (1, (.ptr 1 0)), (100000, KA3), (100001, (.rcd (.cons (.own 2) .unit))), (100002, (.vec none YA8))], news := 1 }
noncomputable def run41 : inst41.FP .unit := fun _ y => markup_Parse_1 y.1.1 y.1.2.1
noncomputable def fx41 : Ctx := fx46.add 41 (inst41.semP 158 .unit run41)
theorem fx41_ok : CtxOK fx41 Tryz.prog := fn_putP fx46_ok feMixed 41 Tryz.f41 [] (sq (.cut [(.normal, [(0, (.ptr 0 0)), (1, (.ptr 1 0)), (100000, KA3), (100001, (.rcd (.cons .nil .unit)))]), ((.pan 158), [(99999, KA21)])] (sq (rg [{}, { wr := [0], pan := true }]) (cn (rg [{}, { wr := [0], pan := true }]) lf))) (sq (rg [{}, { wr := [0], pan := true }, (nw 12), (wr 12)]) (sq (rg [{}, (rd 12), { wr := [0], pan := true }]) (sq (bk (.loop [(0, (.ptr 0 0)), (1, (.ptr 1 0)), (3, (.ptr 12 0)), (100000, KA3), (100001, (.rcd (.cons (.own 15) .unit))), (100012, KA4), (100015, (.vec none YA8))] [((.exit 0), [(0, (.ptr 0 0)), (1, (.ptr 1 0)), (3, (.ptr 12 0)), (100000, KA3), (100001, (.rcd (.cons (.own 15) .unit))), (100012, KA4), (100015, (.vec none YA8))]), ((.pan 158), [(99999, KA21)])] (sq (sq (.cut [(.normal, [(0, (.ptr 0 0)), (1, (.ptr 1 0)), (3, (.ptr 12 0)), (21, KA12), (100000, KA3), (100001, (.rcd (.cons (.own 15) .unit))), (100012, KA4), (100015, (.vec none YA8))]), ((.pan 158), [(99999, KA21)])] (rg [(rd 12), (rd 12), {}, {}, {}, { wr := [0], pan := true }])) (cn lf lf)) (bk (rg [(rd 1), (rd 1), {}, { wr := [0], pan := true }, (nw 13), { rd := [13], wr := [15], new := [14] }, (rd 1), { rd := [14], wr := [1] }]))))) (rg [{}, (rd 12), { wr := [0], pan := true }]))))) inst41 158 .unit 32 run41 Tryz.func41 (by kernel_rfl) Tryz.ntmps41 (by kernel_rfl) (by intro x y; kernel_rfl) Tryz.call41
def inst40 : Inst := { args := [KA22, (.fn 41 (.cons (.ptr 0 0) .unit))], objs := [(.rcd (.cons .nil .unit))], nres := 1, out := [(90000, KA9), (1, (.fn 41 (.cons (.ptr 0 0) .unit))), (100000, (.rcd (.cons (.own 1) .unit))), (100001, (.vec none YA8))], news := 1 }
noncomputable def clo40 : Clo := { n := 9, T := 158, t := .unit, hs := [{}, {}, {}, {}, {}, { new := [11] }, { wr := [11] }], h := (.seq (.region []) (.cond (.region [{ wr := [0] }]) .leaf)), I := { args := [(.ptr 0 0)], objs := [(.rcd (.cons KA9 .unit))], nres := 0, out := [(0, (.ptr 0 0)), (100000, (.rcd (.cons KA9 .unit)))], news := 0 }, c := bodyOf Tryz.f104, wr := [11] }
theorem clo40_is : CloIs fx41 Tryz.prog 104 clo40 := cloIs_of Tryz.f104 Tryz.func104 (by kernel_rfl) rfl Tryz.ntmps104 (by kernel_rfl) (by kernel_rfl) (by kernel_rfl) (by kernel_rfl) Tryz.call104
def hd40 : HD := (.seq (.region [{ new := [11] }]) (.seq (.region [{}, {}, { new := [12] }]) (.here [] (.seq (.region [{}, {}, { wr := [12, 0], new := [13], pan := true }]) (.seq (.cut [(.normal, [(1, (.fn 41 (.cons (.ptr 0 0) .unit))), (4, (.ptr 11 0)), (100000, (.rcd (.cons (.own 13) .unit))), (100011, (.rcd (.cons KA9 .unit))), (100013, (.vec none YA8))]), ((.pan 158), [(4, (.ptr 11 0)), (99999, KA21), (100011, (.rcd (.cons KA9 .unit)))])] (.seq (.region [{}, { wr := [12] }]) (.seq (.region [{}, { rd := [12] }, { rd := [12] }, { rd := [12] }]) (.cond (.region [{}, { wr := [12], pan := true }]) .leaf)))) (.seq (.region [{ wr := [11] }]) .leaf))) [4])))
noncomputable def run40 : inst40.FS [(90000, KA9)] := fun x _ => markup_read_Parse_1 x.1
noncomputable def fx40 : Ctx := fx41.add 40 (inst40.semS [(90000, KA9)] run40)
theorem fx40_ok : CtxOK fx40 Tryz.prog := door_put fx41_ok feMixed 40 Tryz.f40 [.cell 4 26] hd40 inst40 [(90000, KA9)] 24 run40 clo40 Tryz.func40 (by kernel_rfl) Tryz.ntmps40 (by kernel_rfl) clo40_is (by intro x y; kernel_rfl) Tryz.call40
def inst9 : Inst := mk2 [KA22] KA25 KA9
noncomputable def run9 : inst9.F := fun x _ => markup_Parse x.1
noncomputable def fx9 : Ctx := fx40.add 9 (inst9.sem run9)
theorem fx9_ok : CtxOK fx9 Tryz.prog := fn_put fx40_ok feMixed 9 Tryz.f9 [.cell 2 25, .tmp 3] (sq (rg [{ new := [10], agg := true }]) (sq (rg [{ new := [11], agg := true }]) (sq (rg [{}, {}, { wr := [11], new := [12], pan := true }]) (sq (sq rz (cn (rg [{ rd := [11], fz := [(100011, 12)] }]) lf)) (sq (sq rz (cn (sq (rg [{}, {}, (wr 10)]) lf) lf)) (sq (rg [(rd 11), (wr 10)]) lf)))))) inst9 18 run9 Tryz.func9 (by kernel_rfl) Tryz.ntmps9 (by kernel_rfl) (by intro x y; kernel_rfl) Tryz.call9
def inst10 : Inst := mk1 [KA9, KA9] KA9
def hint10 : HC := (sq rz (sq rz lf))
noncomputable def run10 : inst10.F := fun x _ => chancerylaw2_mod x.1 x.2.1
theorem ok10 : FnOK Tryz.prog fx9.glob 10 (inst10.sem run10) :=
  fn_add fx9_ok feMixed 10 Tryz.f10 [.tmp 4] hint10 inst10 12 run10 Tryz.func10 (by kernel_rfl) Tryz.ntmps10 (by kernel_rfl) (by kernel_rfl) (by intro x y; kernel_rfl)
noncomputable def fx10 : Ctx := fx9.add 10 (inst10.sem run10)
theorem fx10_ok : CtxOK fx10 Tryz.prog := add_ok fx9_ok ok10 Tryz.call10
def inst3 : Inst := mk1 [KA9] KA12
def hint3 : HC := (sq rz (sq (sq rz (cn (sq rz lf) lf)) (sq rz (sq (sq (rg [{}, {}, {}, {}, {}, (nw 10), (wr 10)]) (sq rz (cn (sq rz lf) lf))) (sq (rg [{}, {}, {}, {}, {}, {}, {}, {}, {}, {}, {}, {}, {}, {}, {}, {}, {}, {}, {}, {}, {}, {}, {}, (nw 11)]) (sq (rg [{}, {}, {}, (rd 11), {}, (rd 11), (rd 11), (nw 12), (wr 12)]) (sq rz (sq (bk (.loop [(7, (.ptr 12 0)), (8, KA9), (100012, (.vec (some 2) .str))] [((.exit 0), [(7, (.ptr 12 0)), (8, KA9), (100012, (.vec (some 2) .str))])] (sq (sq (rg [{}, {}, {}, (rd 12), (rd 12)]) (cn lf lf)) (bk rz)))) (sq (rg [{}, {}, {}, (rd 12), (rd 12), {}, {}, {}, (rd 12), (rd 12), {}, {}, {}, {}, {}, {}, {}, {}, (nw 13), (wr 13)]) (sq rz lf))))))))))
noncomputable def run3 : inst3.F := fun x _ => chancerylaw2_MarkupRefuses x.1
theorem ok3 : FnOK Tryz.prog fx10.glob 3 (inst3.sem run3) :=
  fn_add fx10_ok feMixed 3 Tryz.f3 [.tmp 2] hint3 inst3 80 run3 Tryz.func3 (by kernel_rfl) Tryz.ntmps3 (by kernel_rfl) (by kernel_rfl) (by intro x y; kernel_rfl)
noncomputable def fx3 : Ctx := fx10.add 3 (inst3.sem run3)
theorem fx3_ok : CtxOK fx3 Tryz.prog := add_ok fx10_ok ok3 Tryz.call3
end Go.Proofs.YtmnpchoocaiegaaGreatDoor
