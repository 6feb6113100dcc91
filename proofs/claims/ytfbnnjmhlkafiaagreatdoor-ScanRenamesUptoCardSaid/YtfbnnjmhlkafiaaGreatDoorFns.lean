/- The contracts that say what the program's functions come to. Printed by a program (fegen.py). -/
import Derived.Test.YtfbnnjmhlkafiaaGreatDoorFun
import Derived.Test.YtfbnnjmhlkafiaaGreatDoorShelf
import Derived.WalkKit
import Derived.Lib.Builder
import Derived.BigRegion
import Derived.Test.YtfbnnjmhlkafiaaGreatDoorProg
namespace Go.Proofs
open Go Go.RowKit
set_option maxRecDepth 100000
theorem Tryz.bldUsed (b : Nat) (w : World) (h0 : w.cell? ⟨b, 0, none⟩ = some (.pointer (some ⟨b, 0, none⟩))) :
    Calls Tryz.prog 113 #[.pointer (some ⟨b, 0, none⟩)] w fun e w' => e = .returned (.tuple #[]) ∧ w' = w := by
  obtain ⟨j, hj, _⟩ := Option.map_eq_some_iff.1 (show (Tryz.prog.info? 85).map (·.size) = some 2 by kernel_rfl)
  go_enter Tryz.func113, Tryz.ntmps113
  go_wp2
  rw [Lib.run_neq_ptr_same w _ Tryz.underlying82 hj]
  go_wp2
  go_end0
  exact ⟨rfl, rfl⟩

theorem Tryz.bldFresh (b : Nat) (w : World) (h0 : w.cell? ⟨b, 0, none⟩ = some (.pointer none)) (hsh : w.shape? b = some (85, 2)) (hfz : w.frozen? ⟨b, 0, none⟩ = false) :
    Calls Tryz.prog 113 #[.pointer (some ⟨b, 0, none⟩)] w fun e w' => e = .returned (.tuple #[]) ∧ w' = w.setCell ⟨b, 0, none⟩ (.pointer (some ⟨b, 0, none⟩)) := by
  obtain ⟨j, hj, hjs⟩ := Option.map_eq_some_iff.1 (show (Tryz.prog.info? 85).map (·.size) = some 2 by kernel_rfl)
  have hlies : liesAt Tryz.prog Tryz.prog.depth 85 (2 / Tryz.prog.cellsOf 85) 0 85 1 = true := by kernel_rfl
  go_enter Tryz.func113, Tryz.ntmps113
  go_wp2
  rw [Lib.run_to_unsafe w ⟨b, 0, none⟩ Tryz.underlying82 Tryz.underlying132 hj (by rw [hjs]; decide) hsh (Nat.zero_lt_succ 1)]
  simp only [Result.andThen]
  rw [Oper.upon_value]
  go_wp2
  rw [run_callFunc_extern Tryz.func136 (by kernel_rfl) (by kernel_rfl) (by kernel_rfl) (e := Extern.AbiNoEscape.same) (by kernel_rfl)]
  rw [Lib.run_noEscape]
  simp only [Result.andThen]
  rw [Oper.upon_value]
  go_wp2
  rw [Lib.run_from_unsafe w ⟨b, 0, none⟩ Tryz.underlying132 Tryz.underlying82 hj hsh hlies]
  simp only [Result.andThen]
  rw [Oper.upon_value]
  go_wp2
  go_end0
  exact ⟨rfl, rfl⟩

set_option maxHeartbeats 2000000 in
theorem Tryz.bldStr (b : Nat) (v pv : Value) (a : Option Addr) (n cap : Nat) (s : ByteArray) (w w2 : World) (hv : v = .slice a n cap) (hc : w.cell? ⟨b, 1, none⟩ = some v)
    (h1 : (Builtin.unsafeSliceData_ #[83] 119 #[v]).run Tryz.prog w.drew = .ok pv w.drew) (h2 : (Builtin.unsafeString_ #[119, 3] 9 #[pv, .int .i64 n]).run Tryz.prog w.drew = .ok (.string s) w2) :
    Calls Tryz.prog 66 #[.pointer (some ⟨b, 0, none⟩)] w fun e w' => e = .returned (.string s) ∧ w' = w2 := by
  subst hv
  have hc : w.drew.cell? ⟨b, 1, none⟩ = some (.slice a n cap) := hc
  have mixed : Tryz.prog.follows .mixedOrders = true := by kernel_rfl
  go_enter Tryz.func66, Tryz.ntmps66
  go_wp2
  go_region
  all_goals (go_wp2; go_ret; exact ⟨rfl, rfl⟩)

end Go.Proofs
namespace Go.Proofs.YtfbnnjmhlkafiaaGreatDoor
open Go Go.Fe

def feTab : List (TypeId × Ty) := [(3, (.int .i64)), (4, .bool), (5, (.int .u8)), (9, .str), (24, (.sl (.pair (.int .i64) (.pair .str .unit)))), (30, (.sl (.pair .str (.pair (.int .i64) (.pair (.int .i64) (.pair (.int .i64) (.pair (.int .i64) (.pair (.int .i64) (.pair .bool (.pair .bool (.pair .bool (.pair .bool .unit)))))))))))), (33, (.pair (.int .i64) (.pair .str .unit))), (35, (.pair .str (.pair (.int .i64) (.pair (.int .i64) (.pair (.int .i64) (.pair (.int .i64) (.pair (.int .i64) (.pair .bool (.pair .bool (.pair .bool (.pair .bool .unit))))))))))), (61, (.arr 2 .str)), (68, (.pair (.int .i64) (.pair (.int .i64) (.pair .bool (.pair .bool .unit))))), (83, (.sl (.int .u8))), (93, (.arr 7 .str)), (96, (.arr 9 .str)), (101, (.pair .str (.pair .str (.pair .bool (.pair .bool .unit))))), (120, (.arr 6 .str))]
noncomputable def fe0 : Ctx := (Ctx.withBld (Ctx.base feTab (globOf [(0, ⟨(.arr 9 .str), some [[], [35, 68, 73, 86, 47, 48, 33], [35, 86, 65, 76, 85, 69, 33], [35, 82, 69, 70, 33], [35, 78, 65, 77, 69, 63], [35, 78, 85, 77, 33], [35, 78, 47, 65], [35, 83, 80, 73, 76, 76, 33], [35, 67, 89, 67, 76, 69, 33]]⟩), (4, ⟨(.int .i64), none⟩), (7, ⟨.err, some true⟩), (8, ⟨.err, some true⟩), (9, ⟨(.arr 20 (.int .u64)), some Lib.pow10Tab⟩)])) [85]).eqs [(33, (.pair (.int .i64) (.pair .str .unit))), (35, (.pair .str (.pair (.int .i64) (.pair (.int .i64) (.pair (.int .i64) (.pair (.int .i64) (.pair (.int .i64) (.pair .bool (.pair .bool (.pair .bool (.pair .bool .unit)))))))))))]
theorem fe0_ok : CtxOK fe0 Tryz.prog := eqs_ok (bld_ok (base_ok (by kernel_rfl)) (by kernel_rfl)) (by kernel_rfl)
theorem feMixed : Tryz.prog.follows .mixedOrders = true := by kernel_rfl
noncomputable def fx35 : Ctx := fe0.add 35 (shelfSem [.str, .str] [.bool] sHasPrefix)
theorem fx35_ok : CtxOK fx35 Tryz.prog := add_ok fe0_ok (okHasPrefix Tryz.strings_HasPrefix) Tryz.call35
noncomputable def fx63 : Ctx := fx35.add 63 (shelfSem [.str, (.int .u8)] [(.int .i64)] sIndexByte)
theorem fx63_ok : CtxOK fx63 Tryz.prog := add_ok fx35_ok (okIndexByte Tryz.strings_IndexByte) Tryz.call63
noncomputable def fx64 : Ctx := fx63.add 64 (shelfSem [.str, .str] [.bool] sEqualFold)
theorem fx64_ok : CtxOK fx64 Tryz.prog := add_ok fx63_ok (okEqualFold Tryz.strings_EqualFold) Tryz.call64
noncomputable def fx66 : Ctx := fx64.add 66 bldStr
theorem fx66_ok : CtxOK fx66 Tryz.prog := add_ok fx64_ok (bld_str (i := 66) (Ts := 83) (Tp := 119) (Ti := 3) (Tz := 9) Tryz.underlying119 (by kernel_rfl) Tryz.bldStr) Tryz.call66
noncomputable def fx113 : Ctx := fx66.add 113 (bldCopy 85)
theorem fx113_ok : CtxOK fx113 Tryz.prog := add_ok fx66_ok (bld_copy Tryz.bldUsed Tryz.bldFresh) Tryz.call113
noncomputable def fx122 : Ctx := fx113.add 122 (shelfSem [.str, .str] [.str, .bool] sCutPrefix)
theorem fx122_ok : CtxOK fx122 Tryz.prog := add_ok fx113_ok (okCutPrefix Tryz.strings_CutPrefix) Tryz.call122
noncomputable def fx127 : Ctx := fx122.add 127 (shelfSem [.str] [(.int .i64), .err] sAtoi)
theorem fx127_ok : CtxOK fx127 Tryz.prog := add_ok fx122_ok (okAtoi (g1 := 7) (g2 := 8) rfl rfl Tryz.strconv_Atoi_ok Tryz.strconv_Atoi_syntax Tryz.strconv_Atoi_range) Tryz.call127
noncomputable def fx130 : Ctx := fx127.add 130 (shelfSem [.str, .str, .str] [.str] sReplaceAll)
theorem fx130_ok : CtxOK fx130 Tryz.prog := add_ok fx127_ok (okReplaceAll (g := 4) rfl Tryz.strings_ReplaceAll) Tryz.call130
noncomputable def fx142 : Ctx := fx130.add 142 (shelfSem [.str, .str] [(.int .i64)] sIndex)
theorem fx142_ok : CtxOK fx142 Tryz.prog := add_ok fx130_ok (okIndex Tryz.stringslite_Index_one) Tryz.call142
noncomputable def fx148 : Ctx := fx142.add 148 (shelfSem [(.int .i64)] [.str] sItoa)
theorem fx148_ok : CtxOK fx148 Tryz.prog := add_ok fx142_ok (okItoa (g := 9) rfl (by kernel_rfl) Tryz.strconv_Itoa) Tryz.call148
def inst72 : Inst := { args := [(.val (.int .u8))], objs := [], nres := 1, out := [(90000, (.val .bool))], news := 0 }
def hint72 : HC := (.seq (.region []) (.seq (.region []) .leaf))
noncomputable def run72 : Ks.den inst72.args → Ks.den inst72.objs → Option inst72.out.den := fun x _ => fscan_next_1 x.1
theorem ev72 : ∀ x y, evFn fx148 9 (bodyOf Tryz.f72) [.tmp 2] hint72 inst72 x y = run72 x y := by intro x y; kernel_rfl
theorem ok72 : FnOK Tryz.prog fx148.glob 72 (inst72.sem run72) :=
  fn_add fx148_ok feMixed 72 Tryz.f72 [.tmp 2] hint72 inst72 9 run72 Tryz.func72 (by kernel_rfl) Tryz.ntmps72 (by kernel_rfl) (by kernel_rfl) ev72
noncomputable def fx72 : Ctx := fx148.add 72 (inst72.sem run72)
theorem fx72_ok : CtxOK fx72 Tryz.prog := add_ok fx148_ok ok72 Tryz.call72
def inst71 : Inst := { args := [(.val .str), (.fn 72 .unit)], objs := [], nres := 1, out := [(90000, (.val (.int .i64)))], news := 0 }
def hint71 : HC := (.seq (.region []) (.seq (.region []) (.seq (.block (.loop [(1, (.fn 72 .unit)), (5, (.val (.int .i64)))] [((.exit 0), [(5, (.val (.int .i64)))])] (.seq (.seq (.cut [(.normal, [(1, (.fn 72 .unit)), (16, (.val .bool))])] (.region [])) (.cond .leaf .leaf)) (.block (.region []))))) (.seq (.region []) .leaf))))
noncomputable def run71 : Ks.den inst71.args → Ks.den inst71.objs → Option inst71.out.den := fun x _ => fscan_run_next_1 x.1
theorem ev71 : ∀ x y, evFn fx72 20 (bodyOf Tryz.f71) [.tmp 4] hint71 inst71 x y = run71 x y := by intro x y; kernel_rfl
theorem ok71 : FnOK Tryz.prog fx72.glob 71 (inst71.sem run71) :=
  fn_add fx72_ok feMixed 71 Tryz.f71 [.tmp 4] hint71 inst71 20 run71 Tryz.func71 (by kernel_rfl) Tryz.ntmps71 (by kernel_rfl) (by kernel_rfl) ev71
noncomputable def fx71 : Ctx := fx72.add 71 (inst71.sem run71)
theorem fx71_ok : CtxOK fx71 Tryz.prog := add_ok fx72_ok ok71 Tryz.call71
def inst73 : Inst := { args := [(.val .str), (.val (.int .u8))], objs := [], nres := 1, out := [(90000, (.val (.int .i64)))], news := 0 }
def hint73 : HC := (.seq (.region []) (.seq (.seq (.region []) (.block (.loop [(5, (.val (.int .i64)))] [((.exit 0), []), (.ret, [(4, (.val (.int .i64)))])] (.seq (.seq (.region []) (.cond .leaf .leaf)) (.seq (.cut [(.normal, [(5, (.val (.int .i64)))]), (.ret, [(4, (.val (.int .i64)))])] (.block (.seq (.seq (.region []) (.cond .leaf .leaf)) (.seq (.seq (.cut [(.normal, [(29, (.val .bool))])] (.region [])) (.cond (.seq (.region []) .leaf) .leaf)) (.seq (.region []) .leaf))))) (.region [])))))) (.seq (.region []) .leaf)))
noncomputable def run73 : Ks.den inst73.args → Ks.den inst73.objs → Option inst73.out.den := fun x _ => fscan_quoted x.1 x.2.1
theorem ev73 : ∀ x y, evFn fx71 34 (bodyOf Tryz.f73) [.tmp 4] hint73 inst73 x y = run73 x y := by intro x y; kernel_rfl
theorem ok73 : FnOK Tryz.prog fx71.glob 73 (inst73.sem run73) :=
  fn_add fx71_ok feMixed 73 Tryz.f73 [.tmp 4] hint73 inst73 34 run73 Tryz.func73 (by kernel_rfl) Tryz.ntmps73 (by kernel_rfl) (by kernel_rfl) ev73
noncomputable def fx73 : Ctx := fx71.add 73 (inst73.sem run73)
theorem fx73_ok : CtxOK fx73 Tryz.prog := add_ok fx71_ok ok73 Tryz.call73
def inst78 : Inst := { args := [(.val (.int .u8))], objs := [], nres := 1, out := [(90000, (.val .bool))], news := 0 }
def hint78 : HC := (.seq (.region []) (.seq (.region []) .leaf))
noncomputable def run78 : Ks.den inst78.args → Ks.den inst78.objs → Option inst78.out.den := fun x _ => fscan_letter x.1
theorem ev78 : ∀ x y, evFn fx73 17 (bodyOf Tryz.f78) [.tmp 2] hint78 inst78 x y = run78 x y := by intro x y; kernel_rfl
theorem ok78 : FnOK Tryz.prog fx73.glob 78 (inst78.sem run78) :=
  fn_add fx73_ok feMixed 78 Tryz.f78 [.tmp 2] hint78 inst78 17 run78 Tryz.func78 (by kernel_rfl) Tryz.ntmps78 (by kernel_rfl) (by kernel_rfl) ev78
noncomputable def fx78 : Ctx := fx73.add 78 (inst78.sem run78)
theorem fx78_ok : CtxOK fx78 Tryz.prog := add_ok fx73_ok ok78 Tryz.call78
def inst75 : Inst := { args := [(.val (.int .u8))], objs := [], nres := 1, out := [(90000, (.val .bool))], news := 0 }
def hint75 : HC := (.seq (.region []) (.seq (.region []) .leaf))
noncomputable def run75 : Ks.den inst75.args → Ks.den inst75.objs → Option inst75.out.den := fun x _ => fscan_digit x.1
theorem ev75 : ∀ x y, evFn fx78 9 (bodyOf Tryz.f75) [.tmp 2] hint75 inst75 x y = run75 x y := by intro x y; kernel_rfl
theorem ok75 : FnOK Tryz.prog fx78.glob 75 (inst75.sem run75) :=
  fn_add fx78_ok feMixed 75 Tryz.f75 [.tmp 2] hint75 inst75 9 run75 Tryz.func75 (by kernel_rfl) Tryz.ntmps75 (by kernel_rfl) (by kernel_rfl) ev75
noncomputable def fx75 : Ctx := fx78.add 75 (inst75.sem run75)
theorem fx75_ok : CtxOK fx75 Tryz.prog := add_ok fx78_ok ok75 Tryz.call75
def inst118 : Inst := { args := [(.val (.int .u8))], objs := [], nres := 1, out := [(90000, (.val .bool))], news := 0 }
def hint118 : HC := (.seq (.region []) (.seq (.region []) .leaf))
noncomputable def run118 : Ks.den inst118.args → Ks.den inst118.objs → Option inst118.out.den := fun x _ => fscan_corner x.1
theorem ev118 : ∀ x y, evFn fx75 13 (bodyOf Tryz.f118) [.tmp 2] hint118 inst118 x y = run118 x y := by intro x y; kernel_rfl
theorem ok118 : FnOK Tryz.prog fx75.glob 118 (inst118.sem run118) :=
  fn_add fx75_ok feMixed 118 Tryz.f118 [.tmp 2] hint118 inst118 13 run118 Tryz.func118 (by kernel_rfl) Tryz.ntmps118 (by kernel_rfl) (by kernel_rfl) ev118
noncomputable def fx118 : Ctx := fx75.add 118 (inst118.sem run118)
theorem fx118_ok : CtxOK fx118 Tryz.prog := add_ok fx75_ok ok118 Tryz.call118
def inst71x2 : Inst := { args := [(.val .str), (.fn 118 .unit)], objs := [], nres := 1, out := [(90000, (.val (.int .i64)))], news := 0 }
def hint71x2 : HC := (.seq (.region []) (.seq (.region []) (.seq (.block (.loop [(1, (.fn 118 .unit)), (5, (.val (.int .i64)))] [((.exit 0), [(5, (.val (.int .i64)))])] (.seq (.seq (.cut [(.normal, [(1, (.fn 118 .unit)), (16, (.val .bool))])] (.region [])) (.cond .leaf .leaf)) (.block (.region []))))) (.seq (.region []) .leaf))))
noncomputable def run71x2 : Ks.den inst71x2.args → Ks.den inst71x2.objs → Option inst71x2.out.den := fun x _ => fscan_run_corner x.1
theorem ev71x2 : ∀ x y, evFn fx118 20 (bodyOf Tryz.f71) [.tmp 4] hint71x2 inst71x2 x y = run71x2 x y := by intro x y; kernel_rfl
theorem ok71x2 : FnOK Tryz.prog fx118.glob 71 (inst71x2.sem run71x2) :=
  fn_add fx118_ok feMixed 71 Tryz.f71 [.tmp 4] hint71x2 inst71x2 20 run71x2 Tryz.func71 (by kernel_rfl) Tryz.ntmps71 (by kernel_rfl) (by kernel_rfl) ev71x2
noncomputable def fx71x2 : Ctx := fx118.more 71 (inst71x2.sem run71x2)
theorem fx71x2_ok : CtxOK fx71x2 Tryz.prog := more_ok fx118_ok ok71x2 Tryz.call71
def inst124 : Inst := { args := [(.val .str), (.val .str)], objs := [], nres := 3, out := [(90000, (.val .str)), (90001, (.val .str)), (90002, (.val .bool))], news := 0 }
def hint124 : HC := (.seq (.region []) (.seq (.seq (.region []) (.seq (.region []) (.cond (.seq (.region []) .leaf) .leaf))) (.seq (.region []) .leaf)))
noncomputable def run124 : Ks.den inst124.args → Ks.den inst124.objs → Option inst124.out.den := fun x _ => stringslite_Cut x.1 x.2.1
theorem ev124 : ∀ x y, evFn fx71x2 23 (bodyOf Tryz.f124) [.tmp 4, .tmp 5, .tmp 6] hint124 inst124 x y = run124 x y := by intro x y; kernel_rfl
theorem ok124 : FnOK Tryz.prog fx71x2.glob 124 (inst124.sem run124) :=
  fn_add fx71x2_ok feMixed 124 Tryz.f124 [.tmp 4, .tmp 5, .tmp 6] hint124 inst124 23 run124 Tryz.func124 (by kernel_rfl) Tryz.ntmps124 (by kernel_rfl) (by kernel_rfl) ev124
noncomputable def fx124 : Ctx := fx71x2.add 124 (inst124.sem run124)
theorem fx124_ok : CtxOK fx124 Tryz.prog := add_ok fx71x2_ok ok124 Tryz.call124
def inst89 : Inst := { args := [(.val .str), (.val .str)], objs := [], nres := 3, out := [(90000, (.val .str)), (90001, (.val .str)), (90002, (.val .bool))], news := 0 }
def hint89 : HC := (.seq (.region []) (.seq (.region []) .leaf))
noncomputable def run89 : Ks.den inst89.args → Ks.den inst89.objs → Option inst89.out.den := fun x _ => strings_Cut x.1 x.2.1
theorem ev89 : ∀ x y, evFn fx124 13 (bodyOf Tryz.f89) [.tmp 4, .tmp 5, .tmp 6] hint89 inst89 x y = run89 x y := by intro x y; kernel_rfl
theorem ok89 : FnOK Tryz.prog fx124.glob 89 (inst89.sem run89) :=
  fn_add fx124_ok feMixed 89 Tryz.f89 [.tmp 4, .tmp 5, .tmp 6] hint89 inst89 13 run89 Tryz.func89 (by kernel_rfl) Tryz.ntmps89 (by kernel_rfl) (by kernel_rfl) ev89
noncomputable def fx89 : Ctx := fx124.add 89 (inst89.sem run89)
theorem fx89_ok : CtxOK fx89 Tryz.prog := add_ok fx124_ok ok89 Tryz.call89
def inst125 : Inst := { args := [(.val (.int .u8))], objs := [], nres := 1, out := [(90000, (.val .bool))], news := 0 }
def hint125 : HC := (.seq (.region []) (.seq (.region []) .leaf))
noncomputable def run125 : Ks.den inst125.args → Ks.den inst125.objs → Option inst125.out.den := fun x _ => cellref_letter x.1
theorem ev125 : ∀ x y, evFn fx89 17 (bodyOf Tryz.f125) [.tmp 2] hint125 inst125 x y = run125 x y := by intro x y; kernel_rfl
theorem ok125 : FnOK Tryz.prog fx89.glob 125 (inst125.sem run125) :=
  fn_add fx89_ok feMixed 125 Tryz.f125 [.tmp 2] hint125 inst125 17 run125 Tryz.func125 (by kernel_rfl) Tryz.ntmps125 (by kernel_rfl) (by kernel_rfl) ev125
noncomputable def fx125 : Ctx := fx89.add 125 (inst125.sem run125)
theorem fx125_ok : CtxOK fx125 Tryz.prog := add_ok fx89_ok ok125 Tryz.call125
def inst126 : Inst := { args := [(.val (.int .u8))], objs := [], nres := 1, out := [(90000, (.val .bool))], news := 0 }
def hint126 : HC := (.seq (.region []) (.seq (.region []) .leaf))
noncomputable def run126 : Ks.den inst126.args → Ks.den inst126.objs → Option inst126.out.den := fun x _ => cellref_digit x.1
theorem ev126 : ∀ x y, evFn fx125 9 (bodyOf Tryz.f126) [.tmp 2] hint126 inst126 x y = run126 x y := by intro x y; kernel_rfl
theorem ok126 : FnOK Tryz.prog fx125.glob 126 (inst126.sem run126) :=
  fn_add fx125_ok feMixed 126 Tryz.f126 [.tmp 2] hint126 inst126 9 run126 Tryz.func126 (by kernel_rfl) Tryz.ntmps126 (by kernel_rfl) (by kernel_rfl) ev126
noncomputable def fx126 : Ctx := fx125.add 126 (inst126.sem run126)
theorem fx126_ok : CtxOK fx126 Tryz.prog := add_ok fx125_ok ok126 Tryz.call126
def inst119 : Inst := { args := [(.val .str)], objs := [], nres := 1, out := [(90000, (.val .bool))], news := 0 }
def hint119 : HC := (.seq (.region []) (.seq (.seq (.region []) (.block (.loop [(7, (.val (.int .i64)))] [((.exit 0), []), (.ret, [(2, (.val .bool))])] (.seq (.region []) (.seq (.cond .leaf .leaf) (.seq (.block (.seq (.region []) (.seq (.region []) (.seq (.cut [(.normal, [(28, (.val .bool))])] (.region [])) (.cond (.seq (.region []) .leaf) .leaf))))) (.region []))))))) (.seq (.region []) .leaf)))
noncomputable def run119 : Ks.den inst119.args → Ks.den inst119.objs → Option inst119.out.den := fun x _ => cellref_Plain x.1
theorem ev119 : ∀ x y, evFn fx126 32 (bodyOf Tryz.f119) [.tmp 2] hint119 inst119 x y = run119 x y := by intro x y; kernel_rfl
theorem ok119 : FnOK Tryz.prog fx126.glob 119 (inst119.sem run119) :=
  fn_add fx126_ok feMixed 119 Tryz.f119 [.tmp 2] hint119 inst119 32 run119 Tryz.func119 (by kernel_rfl) Tryz.ntmps119 (by kernel_rfl) (by kernel_rfl) ev119
noncomputable def fx119 : Ctx := fx126.add 119 (inst119.sem run119)
theorem fx119_ok : CtxOK fx119 Tryz.prog := add_ok fx126_ok ok119 Tryz.call119
def inst62 : Inst := { args := [(.ptr 0 0), (.val (.int .u8))], objs := [(.rcd (.cons (.adr 0 85) (.cons (.brow 1) .unit))), (.vec none (.int .u8))], nres := 1, out := [(90000, (.val .err)), (0, (.ptr 0 0)), (100000, (.rcd (.cons (.adr 0 85) (.cons (.brow 2) .unit)))), (100002, (.vec none (.int .u8)))], news := 1 }
def hint62 : HC := (.seq (.region []) (.seq (.region [{}, { wr := [0, 1] }]) (.seq (.region [{}, {}, { rd := [0] }, { rd := [0] }, { rd := [0] }, {}, { new := [12] }, { rd := [12], wr := [1], new := [13] }, { rd := [0] }, { rd := [0] }, { rd := [13], wr := [0] }]) (.seq (.region []) .leaf))))
noncomputable def run62 : Ks.den inst62.args → Ks.den inst62.objs → Option inst62.out.den := fun x y => _strings_Builder__WriteByte x.2.1 y.2.1
theorem ev62 : ∀ x y, evFn fx119 17 (bodyOf Tryz.f62) [.tmp 4] hint62 inst62 x y = run62 x y := by intro x y; kernel_rfl
theorem ok62 : FnOK Tryz.prog fx119.glob 62 (inst62.sem run62) :=
  fn_add fx119_ok feMixed 62 Tryz.f62 [.tmp 4] hint62 inst62 17 run62 Tryz.func62 (by kernel_rfl) Tryz.ntmps62 (by kernel_rfl) (by kernel_rfl) ev62
noncomputable def fx62 : Ctx := fx119.add 62 (inst62.sem run62)
theorem fx62_ok : CtxOK fx62 Tryz.prog := add_ok fx119_ok ok62 Tryz.call62
def inst123 : Inst := { args := [(.ptr 0 0)], objs := [(.rcd (.cons (.adr 0 85) (.cons (.val (.sl (.int .u8))) .unit)))], nres := 1, out := [(90000, (.val (.int .i64))), (0, (.ptr 0 0)), (100000, (.rcd (.cons (.adr 0 85) (.cons (.val (.sl (.int .u8))) .unit))))], news := 0 }
def hint123 : HC := (.seq (.region []) (.seq (.region [{}, { rd := [0] }, { rd := [0] }, { rd := [0] }]) .leaf))
noncomputable def run123 : Ks.den inst123.args → Ks.den inst123.objs → Option inst123.out.den := fun _ y => _strings_Builder__Len y.1.2.1
theorem ev123 : ∀ x y, evFn fx62 8 (bodyOf Tryz.f123) [.tmp 2] hint123 inst123 x y = run123 x y := by intro x y; kernel_rfl
theorem ok123 : FnOK Tryz.prog fx62.glob 123 (inst123.sem run123) :=
  fn_add fx62_ok feMixed 123 Tryz.f123 [.tmp 2] hint123 inst123 8 run123 Tryz.func123 (by kernel_rfl) Tryz.ntmps123 (by kernel_rfl) (by kernel_rfl) ev123
noncomputable def fx123 : Ctx := fx62.add 123 (inst123.sem run123)
theorem fx123_ok : CtxOK fx123 Tryz.prog := add_ok fx62_ok ok123 Tryz.call123
def inst88 : Inst := { args := [(.val .str)], objs := [], nres := 3, out := [(90000, (.val .str)), (90001, (.val .str)), (90002, (.val .bool))], news := 0 }
def hint88 : HC := (.seq (.region []) (.seq (.seq (.region []) (.cond (.seq (.region []) (.seq (.seq (.cut [(.normal, [(26, (.val .bool))])] (.region [])) (.cond (.seq (.region []) .leaf) .leaf)) (.seq (.region []) .leaf))) .leaf)) (.seq (.region [{ new := [10, 11] }]) (.seq (.seq (.region []) (.block (.loop [(8, (.ptr 12 0)), (9, (.val (.int .i64))), (100012, (.rcd (.cons (.adr 12 85) (.cons (.brow 13) .unit)))), (100013, (.vec none (.int .u8)))] [((.exit 0), []), (.ret, [(2, (.val .str)), (3, (.val .str)), (4, (.val .bool))])] (.seq (.seq (.region []) (.cond .leaf .leaf)) (.seq (.cut [(.normal, [(8, (.ptr 18 0)), (9, (.val (.int .i64))), (100018, (.rcd (.cons (.adr 18 85) (.cons (.brow 19) .unit)))), (100019, (.vec none (.int .u8)))]), (.ret, [(2, (.val .str)), (3, (.val .str)), (4, (.val .bool))])] (.block (.seq (.seq (.region []) (.cond (.seq (.region [{}, {}, {}, { wr := [12, 13], new := [14] }]) .leaf) .leaf)) (.seq (.seq (.cut [(.normal, [(8, (.ptr 15 0)), (57, (.val .bool)), (100015, (.rcd (.cons (.adr 15 85) (.cons (.brow 16) .unit)))), (100016, (.vec none (.int .u8)))])] (.region [])) (.cond (.seq (.region [{ wr := [15, 16], new := [17] }]) (.seq (.region []) .leaf)) .leaf)) (.seq (.region []) (.seq (.region [{ wr := [15, 16] }, {}, {}, {}, { wr := [15] }]) .leaf)))))) (.region [])))))) (.seq (.region []) .leaf)))))
noncomputable def run88 : Ks.den inst88.args → Ks.den inst88.objs → Option inst88.out.den := fun x _ => cellref_sheet x.1
theorem ev88 : ∀ x y, evFn fx123 76 (bodyOf Tryz.f88) [.tmp 2, .tmp 3, .tmp 4] hint88 inst88 x y = run88 x y := by intro x y; kernel_rfl
theorem ok88 : FnOK Tryz.prog fx123.glob 88 (inst88.sem run88) :=
  fn_add fx123_ok feMixed 88 Tryz.f88 [.tmp 2, .tmp 3, .tmp 4] hint88 inst88 76 run88 Tryz.func88 (by kernel_rfl) Tryz.ntmps88 (by kernel_rfl) (by kernel_rfl) ev88
noncomputable def fx88 : Ctx := fx123.add 88 (inst88.sem run88)
theorem fx88_ok : CtxOK fx88 Tryz.prog := add_ok fx123_ok ok88 Tryz.call88
def inst90 : Inst := { args := [(.val .str)], objs := [], nres := 2, out := [(90000, (.val (.pair .str (.pair .str (.pair .bool (.pair .bool .unit)))))), (90001, (.val .bool))], news := 0 }
def hint90 : HC := (.seq (.region [{ new := [10] }]) (.seq (.region [{ new := [11] }]) (.seq (.region [{}, {}, {}, {}, {}, {}, { rd := [11] }, { wr := [11] }]) (.seq (.block (.loop [(0, (.val .str)), (2, (.ptr 12 0)), (4, (.ptr 13 0)), (100012, (.rcd (.cons (.val .str) (.cons (.val .str) (.cons (.val .bool) (.cons (.val .bool) .unit)))))), (100013, (.rcd (.cons (.val .str) (.cons (.val .str) (.cons (.val .bool) (.cons (.val .bool) .unit))))))] [((.exit 0), [(0, (.val .str)), (2, (.ptr 16 0)), (4, (.ptr 17 0)), (100016, (.rcd (.cons (.val .str) (.cons (.val .str) (.cons (.val .bool) (.cons (.val .bool) .unit)))))), (100017, (.rcd (.cons (.val .str) (.cons (.val .str) (.cons (.val .bool) (.cons (.val .bool) .unit))))))])] (.seq (.seq (.cut [(.normal, [(2, (.ptr 14 0)), (4, (.ptr 15 0)), (18, (.val .bool)), (100014, (.rcd (.cons (.val .str) (.cons (.val .str) (.cons (.val .bool) (.cons (.val .bool) .unit)))))), (100015, (.rcd (.cons (.val .str) (.cons (.val .str) (.cons (.val .bool) (.cons (.val .bool) .unit))))))])] (.region [])) (.cond .leaf .leaf)) (.block (.region [{ rd := [15] }, { rd := [15] }, {}, {}, {}, {}, {}, { rd := [15] }, { wr := [15] }]))))) (.seq (.cut [(.normal, [(0, (.val .str)), (2, (.ptr 18 0)), (4, (.ptr 19 0)), (100018, (.rcd (.cons (.val .str) (.cons (.val .str) (.cons (.val .bool) (.cons (.val .bool) .unit)))))), (100019, (.rcd (.cons (.val .str) (.cons (.val .str) (.cons (.val .bool) (.cons (.val .bool) .unit))))))])] (.seq (.region [{ rd := [17] }, { rd := [17] }]) (.cond (.region [{ rd := [17] }, { rd := [17] }, { rd := [17] }, { wr := [17] }, { rd := [17] }, { wr := [17] }]) (.seq (.region []) (.cond (.region [{}, {}, {}, {}, {}, {}, { rd := [17] }, { wr := [17] }]) .leaf))))) (.seq (.block (.loop [(0, (.val .str)), (2, (.ptr 20 0)), (4, (.ptr 21 0)), (100020, (.rcd (.cons (.val .str) (.cons (.val .str) (.cons (.val .bool) (.cons (.val .bool) .unit)))))), (100021, (.rcd (.cons (.val .str) (.cons (.val .str) (.cons (.val .bool) (.cons (.val .bool) .unit))))))] [((.exit 2), [(0, (.val .str)), (2, (.ptr 24 0)), (4, (.ptr 25 0)), (100024, (.rcd (.cons (.val .str) (.cons (.val .str) (.cons (.val .bool) (.cons (.val .bool) .unit)))))), (100025, (.rcd (.cons (.val .str) (.cons (.val .str) (.cons (.val .bool) (.cons (.val .bool) .unit))))))])] (.seq (.seq (.cut [(.normal, [(2, (.ptr 22 0)), (4, (.ptr 23 0)), (48, (.val .bool)), (100022, (.rcd (.cons (.val .str) (.cons (.val .str) (.cons (.val .bool) (.cons (.val .bool) .unit)))))), (100023, (.rcd (.cons (.val .str) (.cons (.val .str) (.cons (.val .bool) (.cons (.val .bool) .unit))))))])] (.region [])) (.cond .leaf .leaf)) (.block (.region [{ rd := [23] }, { rd := [23] }, {}, {}, {}, {}, {}, { rd := [23] }, { wr := [23] }]))))) (.seq (.cut [(.normal, [(2, (.ptr 26 0)), (4, (.ptr 27 0)), (5, (.val .bool)), (100026, (.rcd (.cons (.val .str) (.cons (.val .str) (.cons (.val .bool) (.cons (.val .bool) .unit)))))), (100027, (.rcd (.cons (.val .str) (.cons (.val .str) (.cons (.val .bool) (.cons (.val .bool) .unit))))))])] (.region [{ rd := [25] }, { rd := [25] }, {}, {}, {}, { rd := [25] }, { rd := [25] }, {}, {}, {}, {}, { rd := [25] }, { rd := [25] }, {}, {}, {}, {}, { rd := [25] }, { rd := [25] }, {}, {}, { rd := [25] }, { rd := [25] }, {}, {}, { rd := [25] }, { rd := [25] }])) (.seq (.region [{ rd := [27] }, {}, {}, {}, {}, {}, { wr := [26] }]) .leaf))))))))
noncomputable def run90 : Ks.den inst90.args → Ks.den inst90.objs → Option inst90.out.den := fun x _ => cellref_place x.1
theorem ev90 : ∀ x y, evFn fx88 94 (bodyOf Tryz.f90) [.cell 2 101, .tmp 3] hint90 inst90 x y = run90 x y := by intro x y; kernel_rfl
theorem ok90 : FnOK Tryz.prog fx88.glob 90 (inst90.sem run90) :=
  fn_add fx88_ok feMixed 90 Tryz.f90 [.cell 2 101, .tmp 3] hint90 inst90 94 run90 Tryz.func90 (by kernel_rfl) Tryz.ntmps90 (by kernel_rfl) (by kernel_rfl) ev90
noncomputable def fx90 : Ctx := fx88.add 90 (inst90.sem run90)
theorem fx90_ok : CtxOK fx90 Tryz.prog := add_ok fx88_ok ok90 Tryz.call90
def inst128 : Inst := { args := [(.val .str)], objs := [], nres := 2, out := [(90000, (.val (.int .i64))), (90001, (.val (.int .i64)))], news := 0 }
def hint128 : HC := (.seq (.region []) (.seq (.seq (.cut [(.normal, [(12, (.val .bool))])] (.region [])) (.cond (.seq (.region []) .leaf) .leaf)) (.seq (.region []) (.seq (.seq (.region []) (.block (.loop [(4, (.val (.int .i64))), (15, (.val (.int .i64)))] [((.exit 0), [(4, (.val (.int .i64)))]), (.ret, [(2, (.val (.int .i64))), (3, (.val (.int .i64)))])] (.seq (.region []) (.seq (.cond .leaf .leaf) (.seq (.block (.seq (.region []) (.seq (.seq (.region []) (.cond (.seq (.region []) .leaf) .leaf)) (.region [])))) (.region []))))))) (.seq (.seq (.region []) (.cond (.seq (.region []) .leaf) .leaf)) (.seq (.region []) .leaf))))))
noncomputable def run128 : Ks.den inst128.args → Ks.den inst128.objs → Option inst128.out.den := fun x _ => cellref_Column x.1
theorem ev128 : ∀ x y, evFn fx90 36 (bodyOf Tryz.f128) [.tmp 2, .tmp 3] hint128 inst128 x y = run128 x y := by intro x y; kernel_rfl
theorem ok128 : FnOK Tryz.prog fx90.glob 128 (inst128.sem run128) :=
  fn_add fx90_ok feMixed 128 Tryz.f128 [.tmp 2, .tmp 3] hint128 inst128 36 run128 Tryz.func128 (by kernel_rfl) Tryz.ntmps128 (by kernel_rfl) (by kernel_rfl) ev128
noncomputable def fx128 : Ctx := fx90.add 128 (inst128.sem run128)
theorem fx128_ok : CtxOK fx128 Tryz.prog := add_ok fx90_ok ok128 Tryz.call128
def inst91 : Inst := { args := [(.val (.pair .str (.pair .str (.pair .bool (.pair .bool .unit)))))], objs := [], nres := 3, out := [(90000, (.val (.int .i64))), (90001, (.val (.int .i64))), (90002, (.val (.int .i64)))], news := 0 }
def hint91 : HC := (.seq (.region [{ new := [10] }]) (.seq (.region []) (.seq (.cut [(.normal, [(1, (.ptr 11 0)), (5, (.val (.int .i64))), (100011, (.rcd (.cons (.val .str) (.cons (.val .str) (.cons (.val .bool) (.cons (.val .bool) .unit))))))])] (.seq (.region [{ rd := [10] }, { rd := [10] }]) (.cond (.seq (.region [{ rd := [10] }, { rd := [10] }]) (.region [])) .leaf))) (.seq (.region []) (.seq (.cut [(.normal, [(6, (.val (.int .i64))), (7, (.val (.int .i64)))])] (.seq (.region [{ rd := [11] }, { rd := [11] }]) (.cond (.region [{ rd := [11] }, { rd := [11] }]) .leaf))) (.seq (.seq (.cut [(.normal, [(33, (.val .bool))])] (.region [])) (.cond (.seq (.region []) .leaf) .leaf)) (.seq (.region []) .leaf)))))))
noncomputable def run91 : Ks.den inst91.args → Ks.den inst91.objs → Option inst91.out.den := fun x _ => cellref_corner__values x.1
theorem ev91 : ∀ x y, evFn fx128 36 (bodyOf Tryz.f91) [.tmp 2, .tmp 3, .tmp 4] hint91 inst91 x y = run91 x y := by intro x y; kernel_rfl
theorem ok91 : FnOK Tryz.prog fx128.glob 91 (inst91.sem run91) :=
  fn_add fx128_ok feMixed 91 Tryz.f91 [.tmp 2, .tmp 3, .tmp 4] hint91 inst91 36 run91 Tryz.func91 (by kernel_rfl) Tryz.ntmps91 (by kernel_rfl) (by kernel_rfl) ev91
noncomputable def fx91 : Ctx := fx128.add 91 (inst91.sem run91)
theorem fx91_ok : CtxOK fx91 Tryz.prog := add_ok fx128_ok ok91 Tryz.call91
def inst92 : Inst := { args := [(.val (.pair .str (.pair (.int .i64) (.pair (.int .i64) (.pair (.int .i64) (.pair (.int .i64) (.pair (.int .i64) (.pair .bool (.pair .bool (.pair .bool (.pair .bool .unit)))))))))))], objs := [], nres := 1, out := [(90000, (.val (.pair .str (.pair (.int .i64) (.pair (.int .i64) (.pair (.int .i64) (.pair (.int .i64) (.pair (.int .i64) (.pair .bool (.pair .bool (.pair .bool (.pair .bool .unit))))))))))))], news := 0 }
def hint92 : HC := (.seq (.region [{ new := [10] }, { new := [11] }]) (.seq (.seq (.region [{ rd := [10] }, { rd := [10] }]) (.cond (.seq (.region [{ rd := [10] }, { wr := [11] }]) .leaf) .leaf)) (.seq (.cut [(.normal, [(1, (.ptr 12 0)), (2, (.ptr 13 0)), (100012, (.rcd (.cons (.val .str) (.cons (.val (.int .i64)) (.cons (.val (.int .i64)) (.cons (.val (.int .i64)) (.cons (.val (.int .i64)) (.cons (.val (.int .i64)) (.cons (.val .bool) (.cons (.val .bool) (.cons (.val .bool) (.cons (.val .bool) .unit)))))))))))), (100013, (.rcd (.cons (.val .str) (.cons (.val (.int .i64)) (.cons (.val (.int .i64)) (.cons (.val (.int .i64)) (.cons (.val (.int .i64)) (.cons (.val (.int .i64)) (.cons (.val .bool) (.cons (.val .bool) (.cons (.val .bool) (.cons (.val .bool) .unit))))))))))))])] (.seq (.region [{ rd := [10] }, { rd := [10] }, { rd := [10] }, { rd := [10] }]) (.cond (.region [{ rd := [10] }, { rd := [10] }, { rd := [10] }, { rd := [10] }, { rd := [10] }, { rd := [10] }, { rd := [10] }, { rd := [10] }, { rd := [10] }, { wr := [10] }, { rd := [10] }, { wr := [10] }, { rd := [10] }, { wr := [10] }, { rd := [10] }, { wr := [10] }]) .leaf))) (.seq (.cut [(.normal, [(1, (.ptr 14 0)), (2, (.ptr 15 0)), (100014, (.rcd (.cons (.val .str) (.cons (.val (.int .i64)) (.cons (.val (.int .i64)) (.cons (.val (.int .i64)) (.cons (.val (.int .i64)) (.cons (.val (.int .i64)) (.cons (.val .bool) (.cons (.val .bool) (.cons (.val .bool) (.cons (.val .bool) .unit)))))))))))), (100015, (.rcd (.cons (.val .str) (.cons (.val (.int .i64)) (.cons (.val (.int .i64)) (.cons (.val (.int .i64)) (.cons (.val (.int .i64)) (.cons (.val (.int .i64)) (.cons (.val .bool) (.cons (.val .bool) (.cons (.val .bool) (.cons (.val .bool) .unit))))))))))))])] (.seq (.region [{ rd := [12] }, { rd := [12] }, { rd := [12] }, { rd := [12] }]) (.cond (.region [{ rd := [12] }, { rd := [12] }, { rd := [12] }, { rd := [12] }, { rd := [12] }, { rd := [12] }, { rd := [12] }, { rd := [12] }, { rd := [12] }, { wr := [12] }, { rd := [12] }, { wr := [12] }, { rd := [12] }, { wr := [12] }, { rd := [12] }, { wr := [12] }]) .leaf))) (.seq (.region [{ rd := [14] }, { wr := [15] }]) .leaf)))))
noncomputable def run92 : Ks.den inst92.args → Ks.den inst92.objs → Option inst92.out.den := fun x _ => cellref_ordered x.1
theorem ev92 : ∀ x y, evFn fx91 42 (bodyOf Tryz.f92) [.cell 2 35] hint92 inst92 x y = run92 x y := by intro x y; kernel_rfl
theorem ok92 : FnOK Tryz.prog fx91.glob 92 (inst92.sem run92) :=
  fn_add fx91_ok feMixed 92 Tryz.f92 [.cell 2 35] hint92 inst92 42 run92 Tryz.func92 (by kernel_rfl) Tryz.ntmps92 (by kernel_rfl) (by kernel_rfl) ev92
noncomputable def fx92 : Ctx := fx91.add 92 (inst92.sem run92)
theorem fx92_ok : CtxOK fx92 Tryz.prog := add_ok fx91_ok ok92 Tryz.call92
def inst109 : Inst := { args := [(.val .str)], objs := [], nres := 1, out := [(90000, (.val (.int .i64)))], news := 0 }
def hint109 : HC := (.seq (.region []) (.seq (.seq (.region []) (.cond (.seq (.region []) .leaf) .leaf)) (.seq (.seq (.region []) (.block (.loop [(9, (.val (.int .i64)))] [((.exit 0), []), (.ret, [(2, (.val (.int .i64)))])] (.seq (.region []) (.seq (.cond .leaf .leaf) (.seq (.block (.seq (.region []) (.seq (.cut [(.normal, [(21, (.val .bool))])] (.region [])) (.cond (.seq (.region []) .leaf) .leaf)))) (.region []))))))) (.seq (.region []) .leaf))))
noncomputable def run109 : Ks.den inst109.args → Ks.den inst109.objs → Option inst109.out.den := fun x _ => cellref_name x.1
theorem ev109 : ∀ x y, evFn fx92 23 (bodyOf Tryz.f109) [.tmp 2] hint109 inst109 x y = run109 x y := by intro x y; kernel_rfl
theorem ok109 : FnOK Tryz.prog fx92.glob 109 (inst109.sem run109) :=
  fn_add fx92_ok feMixed 109 Tryz.f109 [.tmp 2] hint109 inst109 23 run109 Tryz.func109 (by kernel_rfl) Tryz.ntmps109 (by kernel_rfl) (by kernel_rfl) ev109
noncomputable def fx109 : Ctx := fx92.add 109 (inst109.sem run109)
theorem fx109_ok : CtxOK fx109 Tryz.prog := add_ok fx92_ok ok109 Tryz.call109
def inst100 : Inst := { args := [(.val (.pair .str (.pair (.int .i64) (.pair (.int .i64) (.pair (.int .i64) (.pair (.int .i64) (.pair (.int .i64) (.pair .bool (.pair .bool (.pair .bool (.pair .bool .unit)))))))))))], objs := [], nres := 1, out := [(90000, (.val (.pair .str (.pair (.int .i64) (.pair (.int .i64) (.pair (.int .i64) (.pair (.int .i64) (.pair (.int .i64) (.pair .bool (.pair .bool (.pair .bool (.pair .bool .unit))))))))))))], news := 0 }
def hint100 : HC := (.seq (.region [{ new := [10] }, { new := [11] }]) (.seq (.cut [(.normal, [(1, (.ptr 12 0)), (2, (.ptr 13 0)), (100012, (.rcd (.cons (.val .str) (.cons (.val (.int .i64)) (.cons (.val (.int .i64)) (.cons (.val (.int .i64)) (.cons (.val (.int .i64)) (.cons (.val (.int .i64)) (.cons (.val .bool) (.cons (.val .bool) (.cons (.val .bool) (.cons (.val .bool) .unit)))))))))))), (100013, (.rcd (.cons (.val .str) (.cons (.val (.int .i64)) (.cons (.val (.int .i64)) (.cons (.val (.int .i64)) (.cons (.val (.int .i64)) (.cons (.val (.int .i64)) (.cons (.val .bool) (.cons (.val .bool) (.cons (.val .bool) (.cons (.val .bool) .unit))))))))))))])] (.seq (.region [{ rd := [10] }, { rd := [10] }]) (.block (.seq (.region []) (.cond (.region [{ rd := [10] }, { wr := [10] }, { rd := [10] }, { wr := [10] }, { rd := [10] }, { wr := [10] }, { rd := [10] }, { wr := [10] }]) (.seq (.region []) (.cond (.region [{ rd := [10] }, { wr := [10] }, { rd := [10] }, { wr := [10] }, { rd := [10] }, { wr := [10] }, { rd := [10] }, { wr := [10] }]) (.seq (.region []) (.cond (.region [{ rd := [10] }, { wr := [10] }, { rd := [10] }, { wr := [10] }, { rd := [10] }, { wr := [10] }, { rd := [10] }, { wr := [10] }]) (.seq (.region []) (.cond (.region [{}, { wr := [10] }]) .leaf))))))))))) (.seq (.region [{ rd := [12] }, { wr := [13] }]) .leaf)))
noncomputable def run100 : Ks.den inst100.args → Ks.den inst100.objs → Option inst100.out.den := fun x _ => cellref_meaning x.1
theorem ev100 : ∀ x y, evFn fx109 27 (bodyOf Tryz.f100) [.cell 2 35] hint100 inst100 x y = run100 x y := by intro x y; kernel_rfl
theorem ok100 : FnOK Tryz.prog fx109.glob 100 (inst100.sem run100) :=
  fn_add fx109_ok feMixed 100 Tryz.f100 [.cell 2 35] hint100 inst100 27 run100 Tryz.func100 (by kernel_rfl) Tryz.ntmps100 (by kernel_rfl) (by kernel_rfl) ev100
noncomputable def fx100 : Ctx := fx109.add 100 (inst100.sem run100)
theorem fx100_ok : CtxOK fx100 Tryz.prog := add_ok fx109_ok ok100 Tryz.call100
def inst102 : Inst := { args := [(.val (.int .i64))], objs := [], nres := 1, out := [(90000, (.val .bool))], news := 0 }
def hint102 : HC := (.seq (.region []) (.seq (.region []) .leaf))
noncomputable def run102 : Ks.den inst102.args → Ks.den inst102.objs → Option inst102.out.den := fun x _ => cellref_permitted x.1
theorem ev102 : ∀ x y, evFn fx100 9 (bodyOf Tryz.f102) [.tmp 2] hint102 inst102 x y = run102 x y := by intro x y; kernel_rfl
theorem ok102 : FnOK Tryz.prog fx100.glob 102 (inst102.sem run102) :=
  fn_add fx100_ok feMixed 102 Tryz.f102 [.tmp 2] hint102 inst102 9 run102 Tryz.func102 (by kernel_rfl) Tryz.ntmps102 (by kernel_rfl) (by kernel_rfl) ev102
noncomputable def fx102 : Ctx := fx100.add 102 (inst102.sem run102)
theorem fx102_ok : CtxOK fx102 Tryz.prog := add_ok fx100_ok ok102 Tryz.call102
def inst57 : Inst := { args := [(.val (.pair .str (.pair (.int .i64) (.pair (.int .i64) (.pair (.int .i64) (.pair (.int .i64) (.pair (.int .i64) (.pair .bool (.pair .bool (.pair .bool (.pair .bool .unit)))))))))))], objs := [], nres := 1, out := [(90000, (.val (.int .i64)))], news := 0 }
def hint57 : HC := (.seq (.region [{ new := [10] }]) (.seq (.seq (.cut [(.normal, [(1, (.ptr 11 0)), (11, (.val .bool)), (100011, (.rcd (.cons (.val .str) (.cons (.val (.int .i64)) (.cons (.val (.int .i64)) (.cons (.val (.int .i64)) (.cons (.val (.int .i64)) (.cons (.val (.int .i64)) (.cons (.val .bool) (.cons (.val .bool) (.cons (.val .bool) (.cons (.val .bool) .unit))))))))))))])] (.region [{ rd := [10] }, { rd := [10] }, {}, {}, { rd := [10] }, { rd := [10] }])) (.cond (.seq (.region []) .leaf) .leaf)) (.seq (.seq (.region [{ rd := [11] }, { rd := [11] }]) (.seq (.region []) (.cond (.seq (.region []) .leaf) .leaf))) (.seq (.seq (.region [{ rd := [11] }, { rd := [11] }]) (.cond (.seq (.region []) .leaf) .leaf)) (.seq (.seq (.cut [(.normal, [(1, (.ptr 12 0)), (43, (.val .bool)), (100012, (.rcd (.cons (.val .str) (.cons (.val (.int .i64)) (.cons (.val (.int .i64)) (.cons (.val (.int .i64)) (.cons (.val (.int .i64)) (.cons (.val (.int .i64)) (.cons (.val .bool) (.cons (.val .bool) (.cons (.val .bool) (.cons (.val .bool) .unit))))))))))))])] (.region [{ rd := [11] }, { rd := [11] }, {}, {}, {}, { rd := [11] }, { rd := [11] }, {}, {}, {}, {}, { rd := [11] }, { rd := [11] }, {}, {}, {}, {}, { rd := [11] }, { rd := [11] }])) (.cond (.seq (.region []) .leaf) .leaf)) (.seq (.seq (.cut [(.normal, [(60, (.val .bool))])] (.region [{ rd := [12] }, { rd := [12] }, {}, {}, { rd := [12] }, { rd := [12] }, { rd := [12] }, { rd := [12] }, {}, {}, { rd := [12] }, { rd := [12] }, { rd := [12] }, { rd := [12] }])) (.cond (.seq (.region []) .leaf) .leaf)) (.seq (.region []) .leaf)))))))
noncomputable def run57 : Ks.den inst57.args → Ks.den inst57.objs → Option inst57.out.den := fun x _ => cellref_Check x.1
theorem ev57 : ∀ x y, evFn fx102 61 (bodyOf Tryz.f57) [.tmp 2] hint57 inst57 x y = run57 x y := by intro x y; kernel_rfl
theorem ok57 : FnOK Tryz.prog fx102.glob 57 (inst57.sem run57) :=
  fn_add fx102_ok feMixed 57 Tryz.f57 [.tmp 2] hint57 inst57 61 run57 Tryz.func57 (by kernel_rfl) Tryz.ntmps57 (by kernel_rfl) (by kernel_rfl) ev57
noncomputable def fx57 : Ctx := fx102.add 57 (inst57.sem run57)
theorem fx57_ok : CtxOK fx57 Tryz.prog := add_ok fx102_ok ok57 Tryz.call57
def inst39 : Inst := { args := [(.val .str)], objs := [], nres := 2, out := [(90000, (.val (.pair .str (.pair (.int .i64) (.pair (.int .i64) (.pair (.int .i64) (.pair (.int .i64) (.pair (.int .i64) (.pair .bool (.pair .bool (.pair .bool (.pair .bool .unit)))))))))))), (90001, (.val (.int .i64)))], news := 0 }
def hint39 : HC := (.seq (.region [{ new := [10] }]) (.seq (.seq (.region []) (.cond (.seq (.region [{}, { wr := [10] }]) .leaf) .leaf)) (.seq (.seq (.region []) (.cond (.seq (.region [{}, { wr := [10] }]) .leaf) .leaf)) (.seq (.region []) (.seq (.region []) (.seq (.region [{}, {}, {}, {}, {}, { new := [11] }, { wr := [11] }]) (.seq (.region [{ rd := [11] }, { new := [12] }, { wr := [12] }]) (.seq (.cut [(.normal, [(2, (.ptr 13 0)), (10, (.ptr 14 0)), (12, (.ptr 15 0)), (13, (.val .bool)), (100013, (.rcd (.cons (.val .str) (.cons (.val (.int .i64)) (.cons (.val (.int .i64)) (.cons (.val (.int .i64)) (.cons (.val (.int .i64)) (.cons (.val (.int .i64)) (.cons (.val .bool) (.cons (.val .bool) (.cons (.val .bool) (.cons (.val .bool) .unit)))))))))))), (100014, (.rcd (.cons (.val .str) (.cons (.val .str) (.cons (.val .bool) (.cons (.val .bool) .unit)))))), (100015, (.rcd (.cons (.val .str) (.cons (.val .str) (.cons (.val .bool) (.cons (.val .bool) .unit))))))])] (.seq (.region []) (.cond (.region [{}, {}, {}, {}, {}, { wr := [12] }]) .leaf))) (.seq (.cut [(.normal, [(2, (.ptr 16 0)), (10, (.ptr 17 0)), (12, (.ptr 18 0)), (14, (.val .bool)), (100016, (.rcd (.cons (.val .str) (.cons (.val (.int .i64)) (.cons (.val (.int .i64)) (.cons (.val (.int .i64)) (.cons (.val (.int .i64)) (.cons (.val (.int .i64)) (.cons (.val .bool) (.cons (.val .bool) (.cons (.val .bool) (.cons (.val .bool) .unit)))))))))))), (100017, (.rcd (.cons (.val .str) (.cons (.val .str) (.cons (.val .bool) (.cons (.val .bool) .unit)))))), (100018, (.rcd (.cons (.val .str) (.cons (.val .str) (.cons (.val .bool) (.cons (.val .bool) .unit))))))])] (.region [{ rd := [14] }, { rd := [14] }, {}, {}, { rd := [14] }, { rd := [14] }])) (.seq (.seq (.cut [(.normal, [(2, (.ptr 19 0)), (10, (.ptr 20 0)), (12, (.ptr 21 0)), (93, (.val .bool)), (100019, (.rcd (.cons (.val .str) (.cons (.val (.int .i64)) (.cons (.val (.int .i64)) (.cons (.val (.int .i64)) (.cons (.val (.int .i64)) (.cons (.val (.int .i64)) (.cons (.val .bool) (.cons (.val .bool) (.cons (.val .bool) (.cons (.val .bool) .unit)))))))))))), (100020, (.rcd (.cons (.val .str) (.cons (.val .str) (.cons (.val .bool) (.cons (.val .bool) .unit)))))), (100021, (.rcd (.cons (.val .str) (.cons (.val .str) (.cons (.val .bool) (.cons (.val .bool) .unit))))))])] (.region [{}, {}, {}, {}, {}, {}, {}, {}, {}, {}, {}, { rd := [17] }, { rd := [17] }, {}, { rd := [18] }, { rd := [18] }, {}, {}, {}, {}, { rd := [17] }, { rd := [17] }, {}, { rd := [18] }, { rd := [18] }])) (.cond (.seq (.region [{}, { wr := [19] }]) .leaf) .leaf)) (.seq (.region [{}, { rd := [20] }, { rd := [20] }, { rd := [20] }, { rd := [20] }, {}, { new := [22] }, { wr := [22] }]) (.seq (.region []) (.seq (.seq (.region [{ rd := [20] }, {}, {}, {}, {}, {}, { rd := [22] }, { wr := [22] }, { rd := [22] }, { wr := [22] }]) (.seq (.region []) (.cond (.seq (.region [{}, {}, { wr := [19] }]) .leaf) .leaf))) (.seq (.cut [(.normal, [(2, (.ptr 23 0)), (15, (.ptr 24 0)), (100023, (.rcd (.cons (.val .str) (.cons (.val (.int .i64)) (.cons (.val (.int .i64)) (.cons (.val (.int .i64)) (.cons (.val (.int .i64)) (.cons (.val (.int .i64)) (.cons (.val .bool) (.cons (.val .bool) (.cons (.val .bool) (.cons (.val .bool) .unit)))))))))))), (100024, (.rcd (.cons (.val .str) (.cons (.val (.int .i64)) (.cons (.val (.int .i64)) (.cons (.val (.int .i64)) (.cons (.val (.int .i64)) (.cons (.val (.int .i64)) (.cons (.val .bool) (.cons (.val .bool) (.cons (.val .bool) (.cons (.val .bool) .unit))))))))))))]), (.ret, [(2, (.ptr 25 0)), (3, (.val (.int .i64))), (100025, (.rcd (.cons (.val .str) (.cons (.val (.int .i64)) (.cons (.val (.int .i64)) (.cons (.val (.int .i64)) (.cons (.val (.int .i64)) (.cons (.val (.int .i64)) (.cons (.val .bool) (.cons (.val .bool) (.cons (.val .bool) (.cons (.val .bool) .unit))))))))))))])] (.seq (.region []) (.cond (.seq (.region [{ rd := [21] }, { rd := [21] }, { rd := [21] }, { rd := [21] }, { rd := [22] }, { wr := [22] }, { rd := [22] }, { wr := [22] }, { rd := [22] }, { wr := [22] }]) (.seq (.seq (.region [{ rd := [21] }, {}, {}, {}, {}, {}, { rd := [22] }, { wr := [22] }, { rd := [22] }, { wr := [22] }]) (.seq (.region []) (.cond (.seq (.region [{}, {}, { wr := [19] }]) .leaf) .leaf))) (.seq (.region []) (.cond (.seq (.region [{ rd := [22] }, { wr := [22] }]) (.seq (.region [{ rd := [20] }, { rd := [20] }]) (.cond (.region [{ rd := [22] }, { wr := [22] }]) .leaf))) .leaf)))) .leaf))) (.seq (.region [{ rd := [24] }, {}, { wr := [24] }]) (.seq (.seq (.region [{ rd := [24] }]) (.seq (.region []) (.cond (.seq (.region [{}, {}, { wr := [23] }]) .leaf) .leaf))) (.seq (.region [{ rd := [24] }, { wr := [23] }]) .leaf)))))))))))))))))
noncomputable def run39 : Ks.den inst39.args → Ks.den inst39.objs → Option inst39.out.den := fun x _ => cellref_Parse x.1
theorem ev39 : ∀ x y, evFn fx57 149 (bodyOf Tryz.f39) [.cell 2 35, .tmp 3] hint39 inst39 x y = run39 x y := by intro x y; kernel_rfl
theorem ok39 : FnOK Tryz.prog fx57.glob 39 (inst39.sem run39) :=
  fn_add fx57_ok feMixed 39 Tryz.f39 [.cell 2 35, .tmp 3] hint39 inst39 149 run39 Tryz.func39 (by kernel_rfl) Tryz.ntmps39 (by kernel_rfl) (by kernel_rfl) ev39
noncomputable def fx39 : Ctx := fx57.add 39 (inst39.sem run39)
theorem fx39_ok : CtxOK fx39 Tryz.prog := add_ok fx57_ok ok39 Tryz.call39
def inst112 : Inst := { args := [(.val .str)], objs := [], nres := 1, out := [(90000, (.val .bool))], news := 0 }
def hint112 : HC := (.seq (.region []) (.seq (.region [{}, {}, {}, {}, {}, { new := [10] }, { wr := [10] }]) (.seq (.region []) .leaf)))
noncomputable def run112 : Ks.den inst112.args → Ks.den inst112.objs → Option inst112.out.den := fun x _ => fscan_isRef x.1
theorem ev112 : ∀ x y, evFn fx39 12 (bodyOf Tryz.f112) [.tmp 2] hint112 inst112 x y = run112 x y := by intro x y; kernel_rfl
theorem ok112 : FnOK Tryz.prog fx39.glob 112 (inst112.sem run112) :=
  fn_add fx39_ok feMixed 112 Tryz.f112 [.tmp 2] hint112 inst112 12 run112 Tryz.func112 (by kernel_rfl) Tryz.ntmps112 (by kernel_rfl) (by kernel_rfl) ev112
noncomputable def fx112 : Ctx := fx39.add 112 (inst112.sem run112)
theorem fx112_ok : CtxOK fx112 Tryz.prog := add_ok fx39_ok ok112 Tryz.call112
def inst117 : Inst := { args := [(.val .str), (.val (.int .i64))], objs := [], nres := 1, out := [(90000, (.val (.int .i64)))], news := 0 }
def hint117 : HC := (.seq (.region []) (.seq (.cut [(.normal, []), (.ret, [(4, (.val (.int .i64)))])] (.seq (.cut [(.normal, [(15, (.val .bool))])] (.region [])) (.cond (.seq (.region []) (.seq (.region []) (.cond (.seq (.region []) .leaf) .leaf))) .leaf))) (.seq (.seq (.region []) (.cond (.seq (.region []) .leaf) .leaf)) (.seq (.region []) .leaf))))
noncomputable def run117 : Ks.den inst117.args → Ks.den inst117.objs → Option inst117.out.den := fun x _ => fscan_area x.1 x.2.1
theorem ev117 : ∀ x y, evFn fx112 34 (bodyOf Tryz.f117) [.tmp 4] hint117 inst117 x y = run117 x y := by intro x y; kernel_rfl
theorem ok117 : FnOK Tryz.prog fx112.glob 117 (inst117.sem run117) :=
  fn_add fx112_ok feMixed 117 Tryz.f117 [.tmp 4] hint117 inst117 34 run117 Tryz.func117 (by kernel_rfl) Tryz.ntmps117 (by kernel_rfl) (by kernel_rfl) ev117
noncomputable def fx117 : Ctx := fx112.add 117 (inst117.sem run117)
theorem fx117_ok : CtxOK fx117 Tryz.prog := add_ok fx112_ok ok117 Tryz.call117
def inst74 : Inst := { args := [(.val .str), (.val (.int .i64))], objs := [], nres := 1, out := [(90000, (.val (.int .i64)))], news := 0 }
def hint74 : HC := (.seq (.region []) (.seq (.seq (.cut [(.normal, [(14, (.val .bool))])] (.region [])) (.cond (.seq (.region []) .leaf) .leaf)) (.seq (.region []) .leaf)))
noncomputable def run74 : Ks.den inst74.args → Ks.den inst74.objs → Option inst74.out.den := fun x _ => fscan_sheeted x.1 x.2.1
theorem ev74 : ∀ x y, evFn fx117 25 (bodyOf Tryz.f74) [.tmp 4] hint74 inst74 x y = run74 x y := by intro x y; kernel_rfl
theorem ok74 : FnOK Tryz.prog fx117.glob 74 (inst74.sem run74) :=
  fn_add fx117_ok feMixed 74 Tryz.f74 [.tmp 4] hint74 inst74 25 run74 Tryz.func74 (by kernel_rfl) Tryz.ntmps74 (by kernel_rfl) (by kernel_rfl) ev74
noncomputable def fx74 : Ctx := fx117.add 74 (inst74.sem run74)
theorem fx74_ok : CtxOK fx74 Tryz.prog := add_ok fx117_ok ok74 Tryz.call74
def inst71x3 : Inst := { args := [(.val .str), (.fn 75 .unit)], objs := [], nres := 1, out := [(90000, (.val (.int .i64)))], news := 0 }
def hint71x3 : HC := (.seq (.region []) (.seq (.region []) (.seq (.block (.loop [(1, (.fn 75 .unit)), (5, (.val (.int .i64)))] [((.exit 0), [(5, (.val (.int .i64)))])] (.seq (.seq (.cut [(.normal, [(1, (.fn 75 .unit)), (16, (.val .bool))])] (.region [])) (.cond .leaf .leaf)) (.block (.region []))))) (.seq (.region []) .leaf))))
noncomputable def run71x3 : Ks.den inst71x3.args → Ks.den inst71x3.objs → Option inst71x3.out.den := fun x _ => fscan_run_digit x.1
theorem ev71x3 : ∀ x y, evFn fx74 20 (bodyOf Tryz.f71) [.tmp 4] hint71x3 inst71x3 x y = run71x3 x y := by intro x y; kernel_rfl
theorem ok71x3 : FnOK Tryz.prog fx74.glob 71 (inst71x3.sem run71x3) :=
  fn_add fx74_ok feMixed 71 Tryz.f71 [.tmp 4] hint71x3 inst71x3 20 run71x3 Tryz.func71 (by kernel_rfl) Tryz.ntmps71 (by kernel_rfl) (by kernel_rfl) ev71x3
noncomputable def fx71x3 : Ctx := fx74.more 71 (inst71x3.sem run71x3)
theorem fx71x3_ok : CtxOK fx71x3 Tryz.prog := more_ok fx74_ok ok71x3 Tryz.call71
def inst76 : Inst := { args := [(.val .str)], objs := [], nres := 1, out := [(90000, (.val (.int .i64)))], news := 0 }
def hint76 : HC := (.seq (.region []) (.seq (.region []) (.seq (.cut [(.normal, []), (.ret, [(2, (.val (.int .i64)))])] (.seq (.cut [(.normal, [(16, (.val .bool))])] (.region [])) (.cond (.seq (.region []) (.seq (.region []) (.cond (.seq (.region []) .leaf) .leaf))) .leaf))) (.seq (.region []) .leaf))))
noncomputable def run76 : Ks.den inst76.args → Ks.den inst76.objs → Option inst76.out.den := fun x _ => fscan_rows x.1
theorem ev76 : ∀ x y, evFn fx71x3 30 (bodyOf Tryz.f76) [.tmp 2] hint76 inst76 x y = run76 x y := by intro x y; kernel_rfl
theorem ok76 : FnOK Tryz.prog fx71x3.glob 76 (inst76.sem run76) :=
  fn_add fx71x3_ok feMixed 76 Tryz.f76 [.tmp 2] hint76 inst76 30 run76 Tryz.func76 (by kernel_rfl) Tryz.ntmps76 (by kernel_rfl) (by kernel_rfl) ev76
noncomputable def fx76 : Ctx := fx71x3.add 76 (inst76.sem run76)
theorem fx76_ok : CtxOK fx76 Tryz.prog := add_ok fx71x3_ok ok76 Tryz.call76
def inst77 : Inst := { args := [(.val .str)], objs := [], nres := 1, out := [(90000, (.val (.int .i64)))], news := 0 }
def hint77 : HC := (.seq (.region []) (.seq (.region []) (.seq (.cut [(.normal, [(3, (.val (.int .i64)))])] (.seq (.cut [(.normal, [(18, (.val .bool))])] (.region [])) (.cond (.seq (.region []) (.seq (.region []) (.cond (.region []) .leaf))) .leaf))) (.seq (.cut [(.normal, [(3, (.val (.int .i64)))])] (.seq (.cut [(.normal, [(40, (.val .bool))])] (.region [])) (.cond (.seq (.region []) (.seq (.cut [(.normal, [(5, (.val (.int .i64)))])] (.seq (.cut [(.normal, [(58, (.val .bool))])] (.region [])) (.cond (.region []) .leaf))) (.seq (.region []) (.seq (.region []) (.cond (.region []) .leaf))))) .leaf))) (.seq (.region []) .leaf)))))
noncomputable def run77 : Ks.den inst77.args → Ks.den inst77.objs → Option inst77.out.den := fun x _ => fscan_number x.1
theorem ev77 : ∀ x y, evFn fx76 71 (bodyOf Tryz.f77) [.tmp 2] hint77 inst77 x y = run77 x y := by intro x y; kernel_rfl
theorem ok77 : FnOK Tryz.prog fx76.glob 77 (inst77.sem run77) :=
  fn_add fx76_ok feMixed 77 Tryz.f77 [.tmp 2] hint77 inst77 71 run77 Tryz.func77 (by kernel_rfl) Tryz.ntmps77 (by kernel_rfl) (by kernel_rfl) ev77
noncomputable def fx77 : Ctx := fx76.add 77 (inst77.sem run77)
theorem fx77_ok : CtxOK fx77 Tryz.prog := add_ok fx76_ok ok77 Tryz.call77
def inst110 : Inst := { args := [(.val (.int .u8))], objs := [], nres := 1, out := [(90000, (.val .bool))], news := 0 }
def hint110 : HC := (.seq (.region []) (.seq (.region []) .leaf))
noncomputable def run110 : Ks.den inst110.args → Ks.den inst110.objs → Option inst110.out.den := fun x _ => fscan_wordly x.1
theorem ev110 : ∀ x y, evFn fx77 13 (bodyOf Tryz.f110) [.tmp 2] hint110 inst110 x y = run110 x y := by intro x y; kernel_rfl
theorem ok110 : FnOK Tryz.prog fx77.glob 110 (inst110.sem run110) :=
  fn_add fx77_ok feMixed 110 Tryz.f110 [.tmp 2] hint110 inst110 13 run110 Tryz.func110 (by kernel_rfl) Tryz.ntmps110 (by kernel_rfl) (by kernel_rfl) ev110
noncomputable def fx110 : Ctx := fx77.add 110 (inst110.sem run110)
theorem fx110_ok : CtxOK fx110 Tryz.prog := add_ok fx77_ok ok110 Tryz.call110
def inst71x4 : Inst := { args := [(.val .str), (.fn 110 .unit)], objs := [], nres := 1, out := [(90000, (.val (.int .i64)))], news := 0 }
def hint71x4 : HC := (.seq (.region []) (.seq (.region []) (.seq (.block (.loop [(1, (.fn 110 .unit)), (5, (.val (.int .i64)))] [((.exit 0), [(5, (.val (.int .i64)))])] (.seq (.seq (.cut [(.normal, [(1, (.fn 110 .unit)), (16, (.val .bool))])] (.region [])) (.cond .leaf .leaf)) (.block (.region []))))) (.seq (.region []) .leaf))))
noncomputable def run71x4 : Ks.den inst71x4.args → Ks.den inst71x4.objs → Option inst71x4.out.den := fun x _ => fscan_run_wordly x.1
theorem ev71x4 : ∀ x y, evFn fx110 20 (bodyOf Tryz.f71) [.tmp 4] hint71x4 inst71x4 x y = run71x4 x y := by intro x y; kernel_rfl
theorem ok71x4 : FnOK Tryz.prog fx110.glob 71 (inst71x4.sem run71x4) :=
  fn_add fx110_ok feMixed 71 Tryz.f71 [.tmp 4] hint71x4 inst71x4 20 run71x4 Tryz.func71 (by kernel_rfl) Tryz.ntmps71 (by kernel_rfl) (by kernel_rfl) ev71x4
noncomputable def fx71x4 : Ctx := fx110.more 71 (inst71x4.sem run71x4)
theorem fx71x4_ok : CtxOK fx71x4 Tryz.prog := more_ok fx110_ok ok71x4 Tryz.call71
def inst135 : Inst := { args := [(.val .str), (.val .str)], objs := [], nres := 1, out := [(90000, (.val (.int .i64)))], news := 0 }
def hint135 : HC := (.seq (.region []) (.seq (.region []) .leaf))
noncomputable def run135 : Ks.den inst135.args → Ks.den inst135.objs → Option inst135.out.den := fun x _ => strings_Index x.1 x.2.1
theorem ev135 : ∀ x y, evFn fx71x4 8 (bodyOf Tryz.f135) [.tmp 4] hint135 inst135 x y = run135 x y := by intro x y; kernel_rfl
theorem ok135 : FnOK Tryz.prog fx71x4.glob 135 (inst135.sem run135) :=
  fn_add fx71x4_ok feMixed 135 Tryz.f135 [.tmp 4] hint135 inst135 8 run135 Tryz.func135 (by kernel_rfl) Tryz.ntmps135 (by kernel_rfl) (by kernel_rfl) ev135
noncomputable def fx135 : Ctx := fx71x4.add 135 (inst135.sem run135)
theorem fx135_ok : CtxOK fx135 Tryz.prog := add_ok fx71x4_ok ok135 Tryz.call135
def inst111 : Inst := { args := [(.val .str), (.val .str)], objs := [], nres := 1, out := [(90000, (.val .bool))], news := 0 }
def hint111 : HC := (.seq (.region []) (.seq (.region []) .leaf))
noncomputable def run111 : Ks.den inst111.args → Ks.den inst111.objs → Option inst111.out.den := fun x _ => strings_Contains x.1 x.2.1
theorem ev111 : ∀ x y, evFn fx135 9 (bodyOf Tryz.f111) [.tmp 4] hint111 inst111 x y = run111 x y := by intro x y; kernel_rfl
theorem ok111 : FnOK Tryz.prog fx135.glob 111 (inst111.sem run111) :=
  fn_add fx135_ok feMixed 111 Tryz.f111 [.tmp 4] hint111 inst111 9 run111 Tryz.func111 (by kernel_rfl) Tryz.ntmps111 (by kernel_rfl) (by kernel_rfl) ev111
noncomputable def fx111 : Ctx := fx135.add 111 (inst111.sem run111)
theorem fx111_ok : CtxOK fx111 Tryz.prog := add_ok fx135_ok ok111 Tryz.call111
def inst120 : Inst := { args := [(.val .str)], objs := [], nres := 1, out := [(90000, (.val (.int .i64)))], news := 0 }
def hint120 : HC := (.seq (.region []) (.seq (.region []) (.seq (.seq (.region []) (.block (.loop [(3, (.val (.int .i64))), (7, (.val (.int .i64)))] [((.exit 0), []), (.ret, [(2, (.val (.int .i64)))])] (.seq (.region []) (.seq (.cond .leaf .leaf) (.seq (.block (.seq (.region []) (.seq (.cut [(.normal, [(3, (.val (.int .i64)))])] (.seq (.region []) (.block (.seq (.region []) (.cond (.region []) (.seq (.region []) (.cond (.region []) .leaf))))))) (.seq (.region []) (.cond (.seq (.region []) .leaf) .leaf))))) (.region []))))))) (.seq (.region []) .leaf))))
noncomputable def run120 : Ks.den inst120.args → Ks.den inst120.objs → Option inst120.out.den := fun x _ => fscan_brackets x.1
theorem ev120 : ∀ x y, evFn fx111 26 (bodyOf Tryz.f120) [.tmp 2] hint120 inst120 x y = run120 x y := by intro x y; kernel_rfl
theorem ok120 : FnOK Tryz.prog fx111.glob 120 (inst120.sem run120) :=
  fn_add fx111_ok feMixed 120 Tryz.f120 [.tmp 2] hint120 inst120 26 run120 Tryz.func120 (by kernel_rfl) Tryz.ntmps120 (by kernel_rfl) (by kernel_rfl) ev120
noncomputable def fx120 : Ctx := fx111.add 120 (inst120.sem run120)
theorem fx120_ok : CtxOK fx120 Tryz.prog := add_ok fx111_ok ok120 Tryz.call120
def inst79 : Inst := { args := [(.val .str)], objs := [], nres := 2, out := [(90000, (.val (.int .i64))), (90001, (.val (.int .i64)))], news := 0 }
def hint79 : HC := (.seq (.region []) (.seq (.region []) (.seq (.region []) (.seq (.cut [(.normal, [(6, (.val (.int .u8)))])] (.seq (.region []) (.cond (.region []) .leaf))) (.seq (.region []) (.seq (.block (.seq (.cut [(.normal, [(25, (.val .bool))])] (.region [])) (.cond (.seq (.region []) .leaf) (.seq (.cut [(.normal, [(35, (.val .bool))])] (.region [])) (.cond (.seq (.region []) .leaf) (.seq (.cut [(.normal, [(42, (.val .bool))])] (.region [])) (.cond (.seq (.seq (.region []) (.seq (.region []) (.cond (.seq (.region []) .leaf) .leaf))) (.seq (.region []) .leaf)) .leaf))))))) (.seq (.seq (.region []) (.seq (.region []) (.cond (.seq (.region []) .leaf) .leaf))) (.seq (.seq (.region []) (.cond (.seq (.region []) .leaf) .leaf)) (.seq (.region []) .leaf)))))))))
noncomputable def run79 : Ks.den inst79.args → Ks.den inst79.objs → Option inst79.out.den := fun x _ => fscan_word x.1
theorem ev79 : ∀ x y, evFn fx120 65 (bodyOf Tryz.f79) [.tmp 2, .tmp 3] hint79 inst79 x y = run79 x y := by intro x y; kernel_rfl
theorem ok79 : FnOK Tryz.prog fx120.glob 79 (inst79.sem run79) :=
  fn_add fx120_ok feMixed 79 Tryz.f79 [.tmp 2, .tmp 3] hint79 inst79 65 run79 Tryz.func79 (by kernel_rfl) Tryz.ntmps79 (by kernel_rfl) (by kernel_rfl) ev79
noncomputable def fx79 : Ctx := fx120.add 79 (inst79.sem run79)
theorem fx79_ok : CtxOK fx79 Tryz.prog := add_ok fx120_ok ok79 Tryz.call79
def inst36 : Inst := { args := [(.val .str)], objs := [], nres := 2, out := [(90000, (.val (.int .i64))), (90001, (.val (.int .i64)))], news := 0 }
def hint36 : HC := (.seq (.region []) (.seq (.seq (.region []) (.block (.seq (.cut [(.normal, [(11, (.val .bool))])] (.region [])) (.cond (.seq (.region []) .leaf) (.seq (.region []) (.cond (.seq (.region []) .leaf) (.seq (.region []) (.cond (.seq (.seq (.region []) (.cond (.seq (.region []) .leaf) .leaf)) (.seq (.seq (.region []) (.block (.loop [(32, (.val (.int .i64)))] [((.exit 1), []), (.ret, [(2, (.val (.int .i64))), (3, (.val (.int .i64)))])] (.seq (.region []) (.seq (.cond .leaf .leaf) (.seq (.block (.seq (.region []) (.seq (.region []) (.cond (.seq (.region []) .leaf) .leaf)))) (.region []))))))) (.seq (.region []) .leaf))) (.seq (.region []) (.cond (.seq (.seq (.region []) (.seq (.region []) (.cond (.seq (.region []) .leaf) .leaf))) (.seq (.region []) .leaf)) (.seq (.region []) (.cond (.seq (.seq (.region []) (.seq (.region []) (.cond (.seq (.region []) .leaf) .leaf))) (.seq (.region []) .leaf)) (.seq (.cut [(.normal, [(62, (.val .bool))])] (.region [])) (.cond (.seq (.region []) .leaf) (.seq (.cut [(.normal, [(77, (.val .bool))])] (.region [])) (.cond (.seq (.region []) .leaf) (.seq (.region []) (.cond (.seq (.region []) .leaf) .leaf)))))))))))))))))) (.seq (.region []) .leaf)))
noncomputable def run36 : Ks.den inst36.args → Ks.den inst36.objs → Option inst36.out.den := fun x _ => fscan_next x.1
theorem ev36 : ∀ x y, evFn fx79 92 (bodyOf Tryz.f36) [.tmp 2, .tmp 3] hint36 inst36 x y = run36 x y := by intro x y; kernel_rfl
theorem ok36 : FnOK Tryz.prog fx79.glob 36 (inst36.sem run36) :=
  fn_add fx79_ok feMixed 36 Tryz.f36 [.tmp 2, .tmp 3] hint36 inst36 92 run36 Tryz.func36 (by kernel_rfl) Tryz.ntmps36 (by kernel_rfl) (by kernel_rfl) ev36
noncomputable def fx36 : Ctx := fx79.add 36 (inst36.sem run36)
theorem fx36_ok : CtxOK fx36 Tryz.prog := add_ok fx79_ok ok36 Tryz.call36
def inst9 : Inst := { args := [(.val .str)], objs := [], nres := 3, out := [(90000, (.val (.sl (.pair (.int .i64) (.pair .str .unit))))), (90001, (.val (.int .i64))), (90002, (.val (.int .i64)))], news := 0 }
def hint9 : HC := (.seq (.region []) (.seq (.seq (.region []) (.cond (.seq (.region []) .leaf) .leaf)) (.seq (.region []) (.seq (.seq (.region []) (.block (.loop [(5, (.own 12)), (6, (.val (.int .i64))), (100012, (.vec none (.pair (.int .i64) (.pair .str .unit))))] [((.exit 0), [(5, (.own 13)), (100013, (.vec none (.pair (.int .i64) (.pair .str .unit))))]), (.ret, [(2, .nil), (3, (.val (.int .i64))), (4, (.val (.int .i64)))])] (.seq (.seq (.region []) (.cond .leaf .leaf)) (.block (.seq (.region []) (.seq (.seq (.region []) (.cond (.seq (.region []) .leaf) .leaf)) (.seq (.region [{}, {}, {}, {}, {}, {}, {}, {}, {}, { new := [10] }, { rd := [10], wr := [12], new := [11] }]) (.region []))))))))) (.seq (.region []) .leaf)))))
noncomputable def run9 : Ks.den inst9.args → Ks.den inst9.objs → Option inst9.out.den := fun x _ => fscan_Scan x.1
theorem ev9 : ∀ x y, evFn fx36 41 (bodyOf Tryz.f9) [.tmp 2, .tmp 3, .tmp 4] hint9 inst9 x y = run9 x y := by intro x y; kernel_rfl
theorem ok9 : FnOK Tryz.prog fx36.glob 9 (inst9.sem run9) :=
  fn_add fx36_ok feMixed 9 Tryz.f9 [.tmp 2, .tmp 3, .tmp 4] hint9 inst9 41 run9 Tryz.func9 (by kernel_rfl) Tryz.ntmps9 (by kernel_rfl) (by kernel_rfl) ev9
noncomputable def fx9 : Ctx := fx36.add 9 (inst9.sem run9)
theorem fx9_ok : CtxOK fx9 Tryz.prog := add_ok fx36_ok ok9 Tryz.call9
def inst7 : Inst := { args := [], objs := [], nres := 1, out := [(90000, (.val .bool))], news := 0 }
def hint7 : HC := (.seq (.region []) (.seq (.region []) (.seq (.region []) .leaf)))
noncomputable def run7 : Ks.den inst7.args → Ks.den inst7.objs → Option inst7.out.den := fun _ _ => chancerylaw2_scans
theorem ev7 : ∀ x y, evFn fx9 34 (bodyOf Tryz.f7) [.tmp 0] hint7 inst7 x y = run7 x y := by intro x y; kernel_rfl
theorem ok7 : FnOK Tryz.prog fx9.glob 7 (inst7.sem run7) :=
  fn_add fx9_ok feMixed 7 Tryz.f7 [.tmp 0] hint7 inst7 34 run7 Tryz.func7 (by kernel_rfl) Tryz.ntmps7 (by kernel_rfl) (by kernel_rfl) ev7
noncomputable def fx7 : Ctx := fx9.add 7 (inst7.sem run7)
theorem fx7_ok : CtxOK fx7 Tryz.prog := add_ok fx9_ok ok7 Tryz.call7
def inst8 : Inst := { args := [(.val .str)], objs := [], nres := 1, out := [(90000, (.val .str))], news := 0 }
def hint8 : HC := (.seq (.region []) (.seq (.region []) .leaf))
noncomputable def run8 : Ks.den inst8.args → Ks.den inst8.objs → Option inst8.out.den := fun x _ => chancerylaw2_long x.1
theorem ev8 : ∀ x y, evFn fx7 8 (bodyOf Tryz.f8) [.tmp 2] hint8 inst8 x y = run8 x y := by intro x y; kernel_rfl
theorem ok8 : FnOK Tryz.prog fx7.glob 8 (inst8.sem run8) :=
  fn_add fx7_ok feMixed 8 Tryz.f8 [.tmp 2] hint8 inst8 8 run8 Tryz.func8 (by kernel_rfl) Tryz.ntmps8 (by kernel_rfl) (by kernel_rfl) ev8
noncomputable def fx8 : Ctx := fx7.add 8 (inst8.sem run8)
theorem fx8_ok : CtxOK fx8 Tryz.prog := add_ok fx7_ok ok8 Tryz.call8
def inst37 : Inst := { args := [(.val .str), (.val .str)], objs := [], nres := 1, out := [(90000, (.val .bool))], news := 0 }
def hint37 : HC := (.seq (.region []) (.seq (.region []) .leaf))
noncomputable def run37 : Ks.den inst37.args → Ks.den inst37.objs → Option inst37.out.den := fun x _ => chanceryref2_Has x.1 x.2.1
theorem ev37 : ∀ x y, evFn fx8 18 (bodyOf Tryz.f37) [.tmp 4] hint37 inst37 x y = run37 x y := by intro x y; kernel_rfl
theorem ok37 : FnOK Tryz.prog fx8.glob 37 (inst37.sem run37) :=
  fn_add fx8_ok feMixed 37 Tryz.f37 [.tmp 4] hint37 inst37 18 run37 Tryz.func37 (by kernel_rfl) Tryz.ntmps37 (by kernel_rfl) (by kernel_rfl) ev37
noncomputable def fx37 : Ctx := fx8.add 37 (inst37.sem run37)
theorem fx37_ok : CtxOK fx37 Tryz.prog := add_ok fx8_ok ok37 Tryz.call37
def inst81 : Inst := { args := [(.val (.int .u8))], objs := [], nres := 1, out := [(90000, (.val .bool))], news := 0 }
def hint81 : HC := (.seq (.region []) (.seq (.region []) .leaf))
noncomputable def run81 : Ks.den inst81.args → Ks.den inst81.objs → Option inst81.out.den := fun x _ => chanceryref2_Token_1 x.1
theorem ev81 : ∀ x y, evFn fx37 9 (bodyOf Tryz.f81) [.tmp 2] hint81 inst81 x y = run81 x y := by intro x y; kernel_rfl
theorem ok81 : FnOK Tryz.prog fx37.glob 81 (inst81.sem run81) :=
  fn_add fx37_ok feMixed 81 Tryz.f81 [.tmp 2] hint81 inst81 9 run81 Tryz.func81 (by kernel_rfl) Tryz.ntmps81 (by kernel_rfl) (by kernel_rfl) ev81
noncomputable def fx81 : Ctx := fx37.add 81 (inst81.sem run81)
theorem fx81_ok : CtxOK fx81 Tryz.prog := add_ok fx37_ok ok81 Tryz.call81
def inst80 : Inst := { args := [(.val .str), (.fn 81 .unit)], objs := [], nres := 1, out := [(90000, (.val (.int .i64)))], news := 0 }
def hint80 : HC := (.seq (.region []) (.seq (.seq (.region []) (.block (.loop [(1, (.fn 81 .unit)), (8, (.val (.int .i64)))] [((.exit 0), []), (.ret, [(4, (.val (.int .i64)))])] (.seq (.region []) (.seq (.cond .leaf .leaf) (.seq (.block (.seq (.region []) (.seq (.region []) (.cond (.seq (.region []) .leaf) .leaf)))) (.region []))))))) (.seq (.region []) .leaf)))
noncomputable def run80 : Ks.den inst80.args → Ks.den inst80.objs → Option inst80.out.den := fun x _ => chanceryref2_span_Token_1 x.1
theorem ev80 : ∀ x y, evFn fx81 21 (bodyOf Tryz.f80) [.tmp 4] hint80 inst80 x y = run80 x y := by intro x y; kernel_rfl
theorem ok80 : FnOK Tryz.prog fx81.glob 80 (inst80.sem run80) :=
  fn_add fx81_ok feMixed 80 Tryz.f80 [.tmp 4] hint80 inst80 21 run80 Tryz.func80 (by kernel_rfl) Tryz.ntmps80 (by kernel_rfl) (by kernel_rfl) ev80
noncomputable def fx80 : Ctx := fx81.add 80 (inst80.sem run80)
theorem fx80_ok : CtxOK fx80 Tryz.prog := add_ok fx81_ok ok80 Tryz.call80
def inst82 : Inst := { args := [(.val .str)], objs := [], nres := 1, out := [(90000, (.val (.int .i64)))], news := 0 }
def hint82 : HC := (.seq (.region []) (.seq (.seq (.region []) (.block (.loop [(3, (.val (.int .i64)))] [((.exit 0), []), (.ret, [(2, (.val (.int .i64)))])] (.seq (.seq (.region []) (.cond .leaf .leaf)) (.seq (.cut [(.normal, [(3, (.val (.int .i64)))]), (.ret, [(2, (.val (.int .i64)))])] (.block (.seq (.region []) (.cond (.seq (.seq (.cut [(.normal, [(29, (.val .bool))])] (.region [])) (.cond (.seq (.region []) .leaf) .leaf)) (.region [])) .leaf)))) (.region [])))))) (.seq (.region []) .leaf)))
noncomputable def run82 : Ks.den inst82.args → Ks.den inst82.objs → Option inst82.out.den := fun x _ => chanceryref2_closing x.1
theorem ev82 : ∀ x y, evFn fx80 34 (bodyOf Tryz.f82) [.tmp 2] hint82 inst82 x y = run82 x y := by intro x y; kernel_rfl
theorem ok82 : FnOK Tryz.prog fx80.glob 82 (inst82.sem run82) :=
  fn_add fx80_ok feMixed 82 Tryz.f82 [.tmp 2] hint82 inst82 34 run82 Tryz.func82 (by kernel_rfl) Tryz.ntmps82 (by kernel_rfl) (by kernel_rfl) ev82
noncomputable def fx82 : Ctx := fx80.add 82 (inst82.sem run82)
theorem fx82_ok : CtxOK fx82 Tryz.prog := add_ok fx80_ok ok82 Tryz.call82
def inst67 : Inst := { args := [(.val (.int .u8))], objs := [], nres := 1, out := [(90000, (.val .bool))], news := 0 }
def hint67 : HC := (.seq (.region []) (.seq (.region []) .leaf))
noncomputable def run67 : Ks.den inst67.args → Ks.den inst67.objs → Option inst67.out.den := fun x _ => chanceryref2_Letter x.1
theorem ev67 : ∀ x y, evFn fx82 17 (bodyOf Tryz.f67) [.tmp 2] hint67 inst67 x y = run67 x y := by intro x y; kernel_rfl
theorem ok67 : FnOK Tryz.prog fx82.glob 67 (inst67.sem run67) :=
  fn_add fx82_ok feMixed 67 Tryz.f67 [.tmp 2] hint67 inst67 17 run67 Tryz.func67 (by kernel_rfl) Tryz.ntmps67 (by kernel_rfl) (by kernel_rfl) ev67
noncomputable def fx67 : Ctx := fx82.add 67 (inst67.sem run67)
theorem fx67_ok : CtxOK fx67 Tryz.prog := add_ok fx82_ok ok67 Tryz.call67
def inst69 : Inst := { args := [(.val (.int .u8))], objs := [], nres := 1, out := [(90000, (.val .bool))], news := 0 }
def hint69 : HC := (.seq (.region []) (.seq (.region []) .leaf))
noncomputable def run69 : Ks.den inst69.args → Ks.den inst69.objs → Option inst69.out.den := fun x _ => chanceryref2_Digit x.1
theorem ev69 : ∀ x y, evFn fx67 9 (bodyOf Tryz.f69) [.tmp 2] hint69 inst69 x y = run69 x y := by intro x y; kernel_rfl
theorem ok69 : FnOK Tryz.prog fx67.glob 69 (inst69.sem run69) :=
  fn_add fx67_ok feMixed 69 Tryz.f69 [.tmp 2] hint69 inst69 9 run69 Tryz.func69 (by kernel_rfl) Tryz.ntmps69 (by kernel_rfl) (by kernel_rfl) ev69
noncomputable def fx69 : Ctx := fx67.add 69 (inst69.sem run69)
theorem fx69_ok : CtxOK fx69 Tryz.prog := add_ok fx67_ok ok69 Tryz.call69
def inst84 : Inst := { args := [(.val (.int .u8))], objs := [], nres := 1, out := [(90000, (.val .bool))], news := 0 }
def hint84 : HC := (.seq (.region []) (.seq (.region []) .leaf))
noncomputable def run84 : Ks.den inst84.args → Ks.den inst84.objs → Option inst84.out.den := fun x _ => chanceryref2_refByte x.1
theorem ev84 : ∀ x y, evFn fx69 13 (bodyOf Tryz.f84) [.tmp 2] hint84 inst84 x y = run84 x y := by intro x y; kernel_rfl
theorem ok84 : FnOK Tryz.prog fx69.glob 84 (inst84.sem run84) :=
  fn_add fx69_ok feMixed 84 Tryz.f84 [.tmp 2] hint84 inst84 13 run84 Tryz.func84 (by kernel_rfl) Tryz.ntmps84 (by kernel_rfl) (by kernel_rfl) ev84
noncomputable def fx84 : Ctx := fx69.add 84 (inst84.sem run84)
theorem fx84_ok : CtxOK fx84 Tryz.prog := add_ok fx69_ok ok84 Tryz.call84
def inst80x2 : Inst := { args := [(.val .str), (.fn 84 .unit)], objs := [], nres := 1, out := [(90000, (.val (.int .i64)))], news := 0 }
def hint80x2 : HC := (.seq (.region []) (.seq (.seq (.region []) (.block (.loop [(1, (.fn 84 .unit)), (8, (.val (.int .i64)))] [((.exit 0), []), (.ret, [(4, (.val (.int .i64)))])] (.seq (.region []) (.seq (.cond .leaf .leaf) (.seq (.block (.seq (.region []) (.seq (.region []) (.cond (.seq (.region []) .leaf) .leaf)))) (.region []))))))) (.seq (.region []) .leaf)))
noncomputable def run80x2 : Ks.den inst80x2.args → Ks.den inst80x2.objs → Option inst80x2.out.den := fun x _ => chanceryref2_span_refByte x.1
theorem ev80x2 : ∀ x y, evFn fx84 21 (bodyOf Tryz.f80) [.tmp 4] hint80x2 inst80x2 x y = run80x2 x y := by intro x y; kernel_rfl
theorem ok80x2 : FnOK Tryz.prog fx84.glob 80 (inst80x2.sem run80x2) :=
  fn_add fx84_ok feMixed 80 Tryz.f80 [.tmp 4] hint80x2 inst80x2 21 run80x2 Tryz.func80 (by kernel_rfl) Tryz.ntmps80 (by kernel_rfl) (by kernel_rfl) ev80x2
noncomputable def fx80x2 : Ctx := fx84.more 80 (inst80x2.sem run80x2)
theorem fx80x2_ok : CtxOK fx80x2 Tryz.prog := more_ok fx84_ok ok80x2 Tryz.call80
def inst93 : Inst := { args := [(.val (.int .u8))], objs := [], nres := 1, out := [(90000, (.val .bool))], news := 0 }
def hint93 : HC := (.seq (.region []) (.seq (.region []) .leaf))
noncomputable def run93 : Ks.den inst93.args → Ks.den inst93.objs → Option inst93.out.den := fun x _ => chanceryref2_Plain_1 x.1
theorem ev93 : ∀ x y, evFn fx80x2 13 (bodyOf Tryz.f93) [.tmp 2] hint93 inst93 x y = run93 x y := by intro x y; kernel_rfl
theorem ok93 : FnOK Tryz.prog fx80x2.glob 93 (inst93.sem run93) :=
  fn_add fx80x2_ok feMixed 93 Tryz.f93 [.tmp 2] hint93 inst93 13 run93 Tryz.func93 (by kernel_rfl) Tryz.ntmps93 (by kernel_rfl) (by kernel_rfl) ev93
noncomputable def fx93 : Ctx := fx80x2.add 93 (inst93.sem run93)
theorem fx93_ok : CtxOK fx93 Tryz.prog := add_ok fx80x2_ok ok93 Tryz.call93
def inst59 : Inst := { args := [(.val .str), (.fn 93 .unit)], objs := [], nres := 1, out := [(90000, (.val .bool))], news := 0 }
def hint59 : HC := (.seq (.region []) (.seq (.seq (.region []) (.block (.loop [(1, (.fn 93 .unit)), (8, (.val (.int .i64)))] [((.exit 0), []), (.ret, [(4, (.val .bool))])] (.seq (.region []) (.seq (.cond .leaf .leaf) (.seq (.block (.seq (.region []) (.seq (.region []) (.cond (.seq (.region []) .leaf) .leaf)))) (.region []))))))) (.seq (.region []) .leaf)))
noncomputable def run59 : Ks.den inst59.args → Ks.den inst59.objs → Option inst59.out.den := fun x _ => chanceryref2_All_Plain_1 x.1
theorem ev59 : ∀ x y, evFn fx93 18 (bodyOf Tryz.f59) [.tmp 4] hint59 inst59 x y = run59 x y := by intro x y; kernel_rfl
theorem ok59 : FnOK Tryz.prog fx93.glob 59 (inst59.sem run59) :=
  fn_add fx93_ok feMixed 59 Tryz.f59 [.tmp 4] hint59 inst59 18 run59 Tryz.func59 (by kernel_rfl) Tryz.ntmps59 (by kernel_rfl) (by kernel_rfl) ev59
noncomputable def fx59 : Ctx := fx93.add 59 (inst59.sem run59)
theorem fx59_ok : CtxOK fx59 Tryz.prog := add_ok fx93_ok ok59 Tryz.call59
def inst40 : Inst := { args := [(.val .str)], objs := [], nres := 1, out := [(90000, (.val .bool))], news := 0 }
def hint40 : HC := (.seq (.region []) (.seq (.region []) .leaf))
noncomputable def run40 : Ks.den inst40.args → Ks.den inst40.objs → Option inst40.out.den := fun x _ => chanceryref2_Plain x.1
theorem ev40 : ∀ x y, evFn fx59 14 (bodyOf Tryz.f40) [.tmp 2] hint40 inst40 x y = run40 x y := by intro x y; kernel_rfl
theorem ok40 : FnOK Tryz.prog fx59.glob 40 (inst40.sem run40) :=
  fn_add fx59_ok feMixed 40 Tryz.f40 [.tmp 2] hint40 inst40 14 run40 Tryz.func40 (by kernel_rfl) Tryz.ntmps40 (by kernel_rfl) (by kernel_rfl) ev40
noncomputable def fx40 : Ctx := fx59.add 40 (inst40.sem run40)
theorem fx40_ok : CtxOK fx40 Tryz.prog := add_ok fx59_ok ok40 Tryz.call40
def inst95 : Inst := { args := [(.val (.int .u8))], objs := [], nres := 1, out := [(90000, (.val .bool))], news := 0 }
def hint95 : HC := (.seq (.region []) (.seq (.region []) .leaf))
noncomputable def run95 : Ks.den inst95.args → Ks.den inst95.objs → Option inst95.out.den := fun x _ => chanceryref2_readSide_2 x.1
theorem ev95 : ∀ x y, evFn fx40 5 (bodyOf Tryz.f95) [.tmp 2] hint95 inst95 x y = run95 x y := by intro x y; kernel_rfl
theorem ok95 : FnOK Tryz.prog fx40.glob 95 (inst95.sem run95) :=
  fn_add fx40_ok feMixed 95 Tryz.f95 [.tmp 2] hint95 inst95 5 run95 Tryz.func95 (by kernel_rfl) Tryz.ntmps95 (by kernel_rfl) (by kernel_rfl) ev95
noncomputable def fx95 : Ctx := fx40.add 95 (inst95.sem run95)
theorem fx95_ok : CtxOK fx95 Tryz.prog := add_ok fx40_ok ok95 Tryz.call95
def inst94 : Inst := { args := [(.fn 95 .unit), (.ptr 0 0), (.ptr 1 0)], objs := [(.rcd (.cons (.val (.int .i64)) .unit)), (.rcd (.cons (.val .str) .unit))], nres := 1, out := [(90000, (.val .str)), (1, (.ptr 0 0)), (2, (.ptr 1 0)), (100000, (.rcd (.cons (.val (.int .i64)) .unit))), (100001, (.rcd (.cons (.val .str) .unit)))], news := 0 }
def hint94 : HC := (.seq (.region []) (.seq (.region [{ rd := [0] }]) (.seq (.block (.loop [(0, (.fn 95 .unit)), (1, (.ptr 12 0)), (2, (.ptr 13 0)), (100012, (.rcd (.cons (.val (.int .i64)) .unit))), (100013, (.rcd (.cons (.val .str) .unit)))] [((.exit 0), [(1, (.ptr 16 0)), (2, (.ptr 17 0)), (100016, (.rcd (.cons (.val (.int .i64)) .unit))), (100017, (.rcd (.cons (.val .str) .unit)))])] (.seq (.seq (.cut [(.normal, [(0, (.fn 95 .unit)), (1, (.ptr 14 0)), (2, (.ptr 15 0)), (17, (.val .bool)), (100014, (.rcd (.cons (.val (.int .i64)) .unit))), (100015, (.rcd (.cons (.val .str) .unit)))])] (.region [{ rd := [12] }, { rd := [13] }, {}, {}, {}, {}, { rd := [13] }, { rd := [12] }])) (.cond .leaf .leaf)) (.block (.region [{ rd := [14] }, {}, { wr := [14] }]))))) (.seq (.region [{ rd := [17] }, {}, { rd := [16] }]) .leaf))))
noncomputable def run94 : Ks.den inst94.args → Ks.den inst94.objs → Option inst94.out.den := fun _ y => chanceryref2_readSide_1_readSide_2 y.1.1 y.2.1.1
theorem ev94 : ∀ x y, evFn fx95 24 (bodyOf Tryz.f94) [.tmp 4] hint94 inst94 x y = run94 x y := by intro x y; kernel_rfl
theorem ok94 : FnOK Tryz.prog fx95.glob 94 (inst94.sem run94) :=
  fn_add fx95_ok feMixed 94 Tryz.f94 [.tmp 4] hint94 inst94 24 run94 Tryz.func94 (by kernel_rfl) Tryz.ntmps94 (by kernel_rfl) (by kernel_rfl) ev94
noncomputable def fx94 : Ctx := fx95.add 94 (inst94.sem run94)
theorem fx94_ok : CtxOK fx94 Tryz.prog := add_ok fx95_ok ok94 Tryz.call94
def inst94x2 : Inst := { args := [(.fn 67 .unit), (.ptr 0 0), (.ptr 1 0)], objs := [(.rcd (.cons (.val (.int .i64)) .unit)), (.rcd (.cons (.val .str) .unit))], nres := 1, out := [(90000, (.val .str)), (1, (.ptr 0 0)), (2, (.ptr 1 0)), (100000, (.rcd (.cons (.val (.int .i64)) .unit))), (100001, (.rcd (.cons (.val .str) .unit)))], news := 0 }
def hint94x2 : HC := (.seq (.region []) (.seq (.region [{ rd := [0] }]) (.seq (.block (.loop [(0, (.fn 67 .unit)), (1, (.ptr 12 0)), (2, (.ptr 13 0)), (100012, (.rcd (.cons (.val (.int .i64)) .unit))), (100013, (.rcd (.cons (.val .str) .unit)))] [((.exit 0), [(1, (.ptr 16 0)), (2, (.ptr 17 0)), (100016, (.rcd (.cons (.val (.int .i64)) .unit))), (100017, (.rcd (.cons (.val .str) .unit)))])] (.seq (.seq (.cut [(.normal, [(0, (.fn 67 .unit)), (1, (.ptr 14 0)), (2, (.ptr 15 0)), (17, (.val .bool)), (100014, (.rcd (.cons (.val (.int .i64)) .unit))), (100015, (.rcd (.cons (.val .str) .unit)))])] (.region [{ rd := [12] }, { rd := [13] }, {}, {}, {}, {}, { rd := [13] }, { rd := [12] }])) (.cond .leaf .leaf)) (.block (.region [{ rd := [14] }, {}, { wr := [14] }]))))) (.seq (.region [{ rd := [17] }, {}, { rd := [16] }]) .leaf))))
noncomputable def run94x2 : Ks.den inst94x2.args → Ks.den inst94x2.objs → Option inst94x2.out.den := fun _ y => chanceryref2_readSide_1_Letter y.1.1 y.2.1.1
theorem ev94x2 : ∀ x y, evFn fx94 24 (bodyOf Tryz.f94) [.tmp 4] hint94x2 inst94x2 x y = run94x2 x y := by intro x y; kernel_rfl
theorem ok94x2 : FnOK Tryz.prog fx94.glob 94 (inst94x2.sem run94x2) :=
  fn_add fx94_ok feMixed 94 Tryz.f94 [.tmp 4] hint94x2 inst94x2 24 run94x2 Tryz.func94 (by kernel_rfl) Tryz.ntmps94 (by kernel_rfl) (by kernel_rfl) ev94x2
noncomputable def fx94x2 : Ctx := fx94.more 94 (inst94x2.sem run94x2)
theorem fx94x2_ok : CtxOK fx94x2 Tryz.prog := more_ok fx94_ok ok94x2 Tryz.call94
def inst94x3 : Inst := { args := [(.fn 69 .unit), (.ptr 0 0), (.ptr 1 0)], objs := [(.rcd (.cons (.val (.int .i64)) .unit)), (.rcd (.cons (.val .str) .unit))], nres := 1, out := [(90000, (.val .str)), (1, (.ptr 0 0)), (2, (.ptr 1 0)), (100000, (.rcd (.cons (.val (.int .i64)) .unit))), (100001, (.rcd (.cons (.val .str) .unit)))], news := 0 }
def hint94x3 : HC := (.seq (.region []) (.seq (.region [{ rd := [0] }]) (.seq (.block (.loop [(0, (.fn 69 .unit)), (1, (.ptr 12 0)), (2, (.ptr 13 0)), (100012, (.rcd (.cons (.val (.int .i64)) .unit))), (100013, (.rcd (.cons (.val .str) .unit)))] [((.exit 0), [(1, (.ptr 16 0)), (2, (.ptr 17 0)), (100016, (.rcd (.cons (.val (.int .i64)) .unit))), (100017, (.rcd (.cons (.val .str) .unit)))])] (.seq (.seq (.cut [(.normal, [(0, (.fn 69 .unit)), (1, (.ptr 14 0)), (2, (.ptr 15 0)), (17, (.val .bool)), (100014, (.rcd (.cons (.val (.int .i64)) .unit))), (100015, (.rcd (.cons (.val .str) .unit)))])] (.region [{ rd := [12] }, { rd := [13] }, {}, {}, {}, {}, { rd := [13] }, { rd := [12] }])) (.cond .leaf .leaf)) (.block (.region [{ rd := [14] }, {}, { wr := [14] }]))))) (.seq (.region [{ rd := [17] }, {}, { rd := [16] }]) .leaf))))
noncomputable def run94x3 : Ks.den inst94x3.args → Ks.den inst94x3.objs → Option inst94x3.out.den := fun _ y => chanceryref2_readSide_1_Digit y.1.1 y.2.1.1
theorem ev94x3 : ∀ x y, evFn fx94x2 24 (bodyOf Tryz.f94) [.tmp 4] hint94x3 inst94x3 x y = run94x3 x y := by intro x y; kernel_rfl
theorem ok94x3 : FnOK Tryz.prog fx94x2.glob 94 (inst94x3.sem run94x3) :=
  fn_add fx94x2_ok feMixed 94 Tryz.f94 [.tmp 4] hint94x3 inst94x3 24 run94x3 Tryz.func94 (by kernel_rfl) Tryz.ntmps94 (by kernel_rfl) (by kernel_rfl) ev94x3
noncomputable def fx94x3 : Ctx := fx94x2.more 94 (inst94x3.sem run94x3)
theorem fx94x3_ok : CtxOK fx94x3 Tryz.prog := more_ok fx94x2_ok ok94x3 Tryz.call94
def inst96 : Inst := { args := [(.val (.int .u8))], objs := [], nres := 1, out := [(90000, (.val .bool))], news := 0 }
def hint96 : HC := (.seq (.region []) (.seq (.region []) .leaf))
noncomputable def run96 : Ks.den inst96.args → Ks.den inst96.objs → Option inst96.out.den := fun x _ => chanceryref2_readSide_3 x.1
theorem ev96 : ∀ x y, evFn fx94x3 5 (bodyOf Tryz.f96) [.tmp 2] hint96 inst96 x y = run96 x y := by intro x y; kernel_rfl
theorem ok96 : FnOK Tryz.prog fx94x3.glob 96 (inst96.sem run96) :=
  fn_add fx94x3_ok feMixed 96 Tryz.f96 [.tmp 2] hint96 inst96 5 run96 Tryz.func96 (by kernel_rfl) Tryz.ntmps96 (by kernel_rfl) (by kernel_rfl) ev96
noncomputable def fx96 : Ctx := fx94x3.add 96 (inst96.sem run96)
theorem fx96_ok : CtxOK fx96 Tryz.prog := add_ok fx94x3_ok ok96 Tryz.call96
def inst94x4 : Inst := { args := [(.fn 96 .unit), (.ptr 0 0), (.ptr 1 0)], objs := [(.rcd (.cons (.val (.int .i64)) .unit)), (.rcd (.cons (.val .str) .unit))], nres := 1, out := [(90000, (.val .str)), (1, (.ptr 0 0)), (2, (.ptr 1 0)), (100000, (.rcd (.cons (.val (.int .i64)) .unit))), (100001, (.rcd (.cons (.val .str) .unit)))], news := 0 }
def hint94x4 : HC := (.seq (.region []) (.seq (.region [{ rd := [0] }]) (.seq (.block (.loop [(0, (.fn 96 .unit)), (1, (.ptr 12 0)), (2, (.ptr 13 0)), (100012, (.rcd (.cons (.val (.int .i64)) .unit))), (100013, (.rcd (.cons (.val .str) .unit)))] [((.exit 0), [(1, (.ptr 16 0)), (2, (.ptr 17 0)), (100016, (.rcd (.cons (.val (.int .i64)) .unit))), (100017, (.rcd (.cons (.val .str) .unit)))])] (.seq (.seq (.cut [(.normal, [(0, (.fn 96 .unit)), (1, (.ptr 14 0)), (2, (.ptr 15 0)), (17, (.val .bool)), (100014, (.rcd (.cons (.val (.int .i64)) .unit))), (100015, (.rcd (.cons (.val .str) .unit)))])] (.region [{ rd := [12] }, { rd := [13] }, {}, {}, {}, {}, { rd := [13] }, { rd := [12] }])) (.cond .leaf .leaf)) (.block (.region [{ rd := [14] }, {}, { wr := [14] }]))))) (.seq (.region [{ rd := [17] }, {}, { rd := [16] }]) .leaf))))
noncomputable def run94x4 : Ks.den inst94x4.args → Ks.den inst94x4.objs → Option inst94x4.out.den := fun _ y => chanceryref2_readSide_1_readSide_3 y.1.1 y.2.1.1
theorem ev94x4 : ∀ x y, evFn fx96 24 (bodyOf Tryz.f94) [.tmp 4] hint94x4 inst94x4 x y = run94x4 x y := by intro x y; kernel_rfl
theorem ok94x4 : FnOK Tryz.prog fx96.glob 94 (inst94x4.sem run94x4) :=
  fn_add fx96_ok feMixed 94 Tryz.f94 [.tmp 4] hint94x4 inst94x4 24 run94x4 Tryz.func94 (by kernel_rfl) Tryz.ntmps94 (by kernel_rfl) (by kernel_rfl) ev94x4
noncomputable def fx94x4 : Ctx := fx96.more 94 (inst94x4.sem run94x4)
theorem fx94x4_ok : CtxOK fx94x4 Tryz.prog := more_ok fx96_ok ok94x4 Tryz.call94
def inst129 : Inst := { args := [(.val .str)], objs := [], nres := 1, out := [(90000, (.val .str))], news := 0 }
def hint129 : HC := (.seq (.region []) (.seq (.region []) (.seq (.seq (.region []) (.block (.loop [(3, (.val .str)), (8, (.val (.int .i64)))] [((.exit 0), [(3, (.val .str))])] (.seq (.region []) (.seq (.cond .leaf .leaf) (.seq (.block (.seq (.region []) (.seq (.region []) (.seq (.cut [(.normal, [(5, (.val (.int .u8)))])] (.seq (.cut [(.normal, [(19, (.val .bool))])] (.region [])) (.cond (.region []) .leaf))) (.region [{}, {}, { new := [10] }, { rd := [10] }]))))) (.region []))))))) (.seq (.region []) .leaf))))
noncomputable def run129 : Ks.den inst129.args → Ks.den inst129.objs → Option inst129.out.den := fun x _ => chanceryref2_Upper x.1
theorem ev129 : ∀ x y, evFn fx94x4 29 (bodyOf Tryz.f129) [.tmp 2] hint129 inst129 x y = run129 x y := by intro x y; kernel_rfl
theorem ok129 : FnOK Tryz.prog fx94x4.glob 129 (inst129.sem run129) :=
  fn_add fx94x4_ok feMixed 129 Tryz.f129 [.tmp 2] hint129 inst129 29 run129 Tryz.func129 (by kernel_rfl) Tryz.ntmps129 (by kernel_rfl) (by kernel_rfl) ev129
noncomputable def fx129 : Ctx := fx94x4.add 129 (inst129.sem run129)
theorem fx129_ok : CtxOK fx129 Tryz.prog := add_ok fx94x4_ok ok129 Tryz.call129
def inst97 : Inst := { args := [(.val .str)], objs := [], nres := 1, out := [(90000, (.val (.int .i64)))], news := 0 }
def hint97 : HC := (.seq (.region []) (.seq (.region []) (.seq (.seq (.region []) (.block (.loop [(3, (.val (.int .i64))), (4, (.val (.int .i64))), (5, (.val (.int .i64)))] [((.exit 0), [(3, (.val (.int .i64)))])] (.seq (.seq (.region []) (.cond .leaf .leaf)) (.seq (.block (.seq (.region []) (.region []))) (.region [])))))) (.seq (.seq (.region []) (.block (.loop [(0, (.val .str)), (3, (.val (.int .i64))), (4, (.val (.int .i64)))] [((.exit 2), [(3, (.val (.int .i64)))])] (.seq (.seq (.region []) (.cond .leaf .leaf)) (.seq (.block (.seq (.region []) (.region []))) (.region [])))))) (.seq (.region []) .leaf)))))
noncomputable def run97 : Ks.den inst97.args → Ks.den inst97.objs → Option inst97.out.den := fun x _ => chanceryref2_Column x.1
theorem ev97 : ∀ x y, evFn fx129 39 (bodyOf Tryz.f97) [.tmp 2] hint97 inst97 x y = run97 x y := by intro x y; kernel_rfl
theorem ok97 : FnOK Tryz.prog fx129.glob 97 (inst97.sem run97) :=
  fn_add fx129_ok feMixed 97 Tryz.f97 [.tmp 2] hint97 inst97 39 run97 Tryz.func97 (by kernel_rfl) Tryz.ntmps97 (by kernel_rfl) (by kernel_rfl) ev97
noncomputable def fx97 : Ctx := fx129.add 97 (inst97.sem run97)
theorem fx97_ok : CtxOK fx97 Tryz.prog := add_ok fx129_ok ok97 Tryz.call97
def inst41 : Inst := { args := [(.val .str)], objs := [], nres := 2, out := [(90000, (.val (.pair (.int .i64) (.pair (.int .i64) (.pair .bool (.pair .bool .unit)))))), (90001, (.val (.int .i64)))], news := 0 }
def hint41 : HC := (.seq (.region [{ new := [10] }, { new := [11] }]) (.seq (.region [{}, { new := [12] }, { wr := [12] }]) (.seq (.region [{ new := [13] }, { wr := [13] }]) (.seq (.region []) (.seq (.region [{}, { wr := [13, 10] }]) (.seq (.region [{}, { wr := [13, 10] }]) (.seq (.region []) (.seq (.cut [(.normal, [(1, (.ptr 18 0)), (2, (.ptr 19 0)), (4, (.ptr 20 0)), (5, (.ptr 21 0)), (9, (.val .str)), (100018, (.rcd (.cons (.val .str) .unit))), (100019, (.rcd (.cons (.val (.int .i64)) (.cons (.val (.int .i64)) (.cons (.val .bool) (.cons (.val .bool) .unit)))))), (100020, (.rcd (.cons (.val (.int .i64)) (.cons (.val (.int .i64)) (.cons (.val .bool) (.cons (.val .bool) .unit)))))), (100021, (.rcd (.cons (.val (.int .i64)) .unit)))]), (.ret, [(2, (.ptr 22 0)), (3, (.val (.int .i64))), (100022, (.rcd (.cons (.val (.int .i64)) (.cons (.val (.int .i64)) (.cons (.val .bool) (.cons (.val .bool) .unit))))))])] (.seq (.region []) (.cond (.seq (.region [{}, { wr := [13, 10] }]) (.region [{}, {}, { rd := [12] }, { wr := [12] }])) (.seq (.region [{}, {}, { rd := [12] }, { wr := [12] }]) (.seq (.region [{}, { wr := [13, 10] }]) (.seq (.region [{}, { wr := [13, 10] }]) (.seq (.seq (.cut [(.normal, [(1, (.ptr 14 0)), (2, (.ptr 15 0)), (4, (.ptr 16 0)), (5, (.ptr 17 0)), (44, (.val .bool)), (100014, (.rcd (.cons (.val .str) .unit))), (100015, (.rcd (.cons (.val (.int .i64)) (.cons (.val (.int .i64)) (.cons (.val .bool) (.cons (.val .bool) .unit)))))), (100016, (.rcd (.cons (.val (.int .i64)) (.cons (.val (.int .i64)) (.cons (.val .bool) (.cons (.val .bool) .unit)))))), (100017, (.rcd (.cons (.val (.int .i64)) .unit)))])] (.region [])) (.cond (.seq (.region [{ rd := [16] }, { wr := [15] }]) .leaf) .leaf)) (.region [{}, {}, { rd := [16] }, { wr := [16] }])))))))) (.seq (.seq (.cut [(.normal, [(2, (.ptr 23 0)), (4, (.ptr 24 0)), (83, (.val .bool)), (100023, (.rcd (.cons (.val (.int .i64)) (.cons (.val (.int .i64)) (.cons (.val .bool) (.cons (.val .bool) .unit)))))), (100024, (.rcd (.cons (.val (.int .i64)) (.cons (.val (.int .i64)) (.cons (.val .bool) (.cons (.val .bool) .unit))))))])] (.region [{}, {}, {}, { rd := [21] }, { rd := [18] }])) (.cond (.seq (.region [{ rd := [24] }, { wr := [23] }]) .leaf) .leaf)) (.seq (.cut [(.normal, [(2, (.ptr 29 0)), (4, (.ptr 30 0)), (100029, (.rcd (.cons (.val (.int .i64)) (.cons (.val (.int .i64)) (.cons (.val .bool) (.cons (.val .bool) .unit)))))), (100030, (.rcd (.cons (.val (.int .i64)) (.cons (.val (.int .i64)) (.cons (.val .bool) (.cons (.val .bool) .unit))))))])] (.seq (.region []) (.cond (.seq (.region []) (.seq (.seq (.region []) (.block (.loop [(2, (.ptr 25 0)), (4, (.ptr 26 0)), (11, (.val (.int .i64))), (89, (.val (.int .i64))), (100025, (.rcd (.cons (.val (.int .i64)) (.cons (.val (.int .i64)) (.cons (.val .bool) (.cons (.val .bool) .unit)))))), (100026, (.rcd (.cons (.val (.int .i64)) (.cons (.val (.int .i64)) (.cons (.val .bool) (.cons (.val .bool) .unit))))))] [((.exit 0), [(2, (.ptr 27 0)), (4, (.ptr 28 0)), (11, (.val (.int .i64))), (100027, (.rcd (.cons (.val (.int .i64)) (.cons (.val (.int .i64)) (.cons (.val .bool) (.cons (.val .bool) .unit)))))), (100028, (.rcd (.cons (.val (.int .i64)) (.cons (.val (.int .i64)) (.cons (.val .bool) (.cons (.val .bool) .unit))))))])] (.seq (.region []) (.seq (.cond .leaf .leaf) (.seq (.block (.seq (.region []) (.region []))) (.region []))))))) (.region [{}, {}, { rd := [28] }, { wr := [28] }]))) .leaf))) (.seq (.cut [(.normal, [(2, (.ptr 31 0)), (4, (.ptr 32 0)), (100031, (.rcd (.cons (.val (.int .i64)) (.cons (.val (.int .i64)) (.cons (.val .bool) (.cons (.val .bool) .unit)))))), (100032, (.rcd (.cons (.val (.int .i64)) (.cons (.val (.int .i64)) (.cons (.val .bool) (.cons (.val .bool) .unit))))))])] (.seq (.region []) (.cond (.region [{}, {}, { rd := [30] }, { wr := [30] }]) .leaf))) (.seq (.seq (.cut [(.normal, [(2, (.ptr 33 0)), (4, (.ptr 34 0)), (116, (.val .bool)), (100033, (.rcd (.cons (.val (.int .i64)) (.cons (.val (.int .i64)) (.cons (.val .bool) (.cons (.val .bool) .unit)))))), (100034, (.rcd (.cons (.val (.int .i64)) (.cons (.val (.int .i64)) (.cons (.val .bool) (.cons (.val .bool) .unit))))))])] (.region [{ rd := [32] }, { rd := [32] }, {}, {}, { rd := [32] }, { rd := [32] }])) (.cond (.seq (.region [{ rd := [34] }, { wr := [33] }]) .leaf) .leaf)) (.seq (.region [{ rd := [34] }, { wr := [33] }]) .leaf)))))))))))))
noncomputable def run41 : Ks.den inst41.args → Ks.den inst41.objs → Option inst41.out.den := fun x _ => chanceryref2_readSide x.1
theorem ev41 : ∀ x y, evFn fx97 119 (bodyOf Tryz.f41) [.cell 2 68, .tmp 3] hint41 inst41 x y = run41 x y := by intro x y; kernel_rfl
theorem ok41 : FnOK Tryz.prog fx97.glob 41 (inst41.sem run41) :=
  fn_add fx97_ok feMixed 41 Tryz.f41 [.cell 2 68, .tmp 3] hint41 inst41 119 run41 Tryz.func41 (by kernel_rfl) Tryz.ntmps41 (by kernel_rfl) (by kernel_rfl) ev41
noncomputable def fx41 : Ctx := fx97.add 41 (inst41.sem run41)
theorem fx41_ok : CtxOK fx41 Tryz.prog := add_ok fx97_ok ok41 Tryz.call41
def inst42 : Inst := { args := [(.val (.pair .str (.pair (.int .i64) (.pair (.int .i64) (.pair (.int .i64) (.pair (.int .i64) (.pair (.int .i64) (.pair .bool (.pair .bool (.pair .bool (.pair .bool .unit)))))))))))], objs := [], nres := 1, out := [(90000, (.val (.pair .str (.pair (.int .i64) (.pair (.int .i64) (.pair (.int .i64) (.pair (.int .i64) (.pair (.int .i64) (.pair .bool (.pair .bool (.pair .bool (.pair .bool .unit))))))))))))], news := 0 }
def hint42 : HC := (.seq (.region [{ new := [10] }, { new := [11] }]) (.seq (.cut [(.normal, [(1, (.ptr 12 0)), (2, (.ptr 13 0)), (100012, (.rcd (.cons (.val .str) (.cons (.val (.int .i64)) (.cons (.val (.int .i64)) (.cons (.val (.int .i64)) (.cons (.val (.int .i64)) (.cons (.val (.int .i64)) (.cons (.val .bool) (.cons (.val .bool) (.cons (.val .bool) (.cons (.val .bool) .unit)))))))))))), (100013, (.rcd (.cons (.val .str) (.cons (.val (.int .i64)) (.cons (.val (.int .i64)) (.cons (.val (.int .i64)) (.cons (.val (.int .i64)) (.cons (.val (.int .i64)) (.cons (.val .bool) (.cons (.val .bool) (.cons (.val .bool) (.cons (.val .bool) .unit))))))))))))])] (.seq (.region [{ rd := [10] }, { rd := [10] }, { rd := [10] }, { rd := [10] }]) (.cond (.region [{ rd := [10] }, { rd := [10] }, { rd := [10] }, { rd := [10] }, { rd := [10] }, { rd := [10] }, { rd := [10] }, { rd := [10] }, { rd := [10] }, { wr := [10] }, { rd := [10] }, { wr := [10] }, { rd := [10] }, { wr := [10] }, { rd := [10] }, { wr := [10] }]) .leaf))) (.seq (.cut [(.normal, [(1, (.ptr 14 0)), (2, (.ptr 15 0)), (100014, (.rcd (.cons (.val .str) (.cons (.val (.int .i64)) (.cons (.val (.int .i64)) (.cons (.val (.int .i64)) (.cons (.val (.int .i64)) (.cons (.val (.int .i64)) (.cons (.val .bool) (.cons (.val .bool) (.cons (.val .bool) (.cons (.val .bool) .unit)))))))))))), (100015, (.rcd (.cons (.val .str) (.cons (.val (.int .i64)) (.cons (.val (.int .i64)) (.cons (.val (.int .i64)) (.cons (.val (.int .i64)) (.cons (.val (.int .i64)) (.cons (.val .bool) (.cons (.val .bool) (.cons (.val .bool) (.cons (.val .bool) .unit))))))))))))])] (.seq (.region [{ rd := [12] }, { rd := [12] }, { rd := [12] }, { rd := [12] }]) (.cond (.region [{ rd := [12] }, { rd := [12] }, { rd := [12] }, { rd := [12] }, { rd := [12] }, { rd := [12] }, { rd := [12] }, { rd := [12] }, { rd := [12] }, { wr := [12] }, { rd := [12] }, { wr := [12] }, { rd := [12] }, { wr := [12] }, { rd := [12] }, { wr := [12] }]) .leaf))) (.seq (.region [{ rd := [14] }, { wr := [15] }]) .leaf))))
noncomputable def run42 : Ks.den inst42.args → Ks.den inst42.objs → Option inst42.out.den := fun x _ => chanceryref2_Sorted x.1
theorem ev42 : ∀ x y, evFn fx41 38 (bodyOf Tryz.f42) [.cell 2 35] hint42 inst42 x y = run42 x y := by intro x y; kernel_rfl
theorem ok42 : FnOK Tryz.prog fx41.glob 42 (inst42.sem run42) :=
  fn_add fx41_ok feMixed 42 Tryz.f42 [.cell 2 35] hint42 inst42 38 run42 Tryz.func42 (by kernel_rfl) Tryz.ntmps42 (by kernel_rfl) (by kernel_rfl) ev42
noncomputable def fx42 : Ctx := fx41.add 42 (inst42.sem run42)
theorem fx42_ok : CtxOK fx42 Tryz.prog := add_ok fx41_ok ok42 Tryz.call42
def inst60 : Inst := { args := [(.val (.int .u8))], objs := [], nres := 1, out := [(90000, (.val .bool))], news := 0 }
def hint60 : HC := (.seq (.region []) (.seq (.region []) .leaf))
noncomputable def run60 : Ks.den inst60.args → Ks.den inst60.objs → Option inst60.out.den := fun x _ => chanceryref2_SheetError_1 x.1
theorem ev60 : ∀ x y, evFn fx42 9 (bodyOf Tryz.f60) [.tmp 2] hint60 inst60 x y = run60 x y := by intro x y; kernel_rfl
theorem ok60 : FnOK Tryz.prog fx42.glob 60 (inst60.sem run60) :=
  fn_add fx42_ok feMixed 60 Tryz.f60 [.tmp 2] hint60 inst60 9 run60 Tryz.func60 (by kernel_rfl) Tryz.ntmps60 (by kernel_rfl) (by kernel_rfl) ev60
noncomputable def fx60 : Ctx := fx42.add 60 (inst60.sem run60)
theorem fx60_ok : CtxOK fx60 Tryz.prog := add_ok fx42_ok ok60 Tryz.call60
def inst59x2 : Inst := { args := [(.val .str), (.fn 60 .unit)], objs := [], nres := 1, out := [(90000, (.val .bool))], news := 0 }
def hint59x2 : HC := (.seq (.region []) (.seq (.seq (.region []) (.block (.loop [(1, (.fn 60 .unit)), (8, (.val (.int .i64)))] [((.exit 0), []), (.ret, [(4, (.val .bool))])] (.seq (.region []) (.seq (.cond .leaf .leaf) (.seq (.block (.seq (.region []) (.seq (.region []) (.cond (.seq (.region []) .leaf) .leaf)))) (.region []))))))) (.seq (.region []) .leaf)))
noncomputable def run59x2 : Ks.den inst59x2.args → Ks.den inst59x2.objs → Option inst59x2.out.den := fun x _ => chanceryref2_All_SheetError_1 x.1
theorem ev59x2 : ∀ x y, evFn fx60 18 (bodyOf Tryz.f59) [.tmp 4] hint59x2 inst59x2 x y = run59x2 x y := by intro x y; kernel_rfl
theorem ok59x2 : FnOK Tryz.prog fx60.glob 59 (inst59x2.sem run59x2) :=
  fn_add fx60_ok feMixed 59 Tryz.f59 [.tmp 4] hint59x2 inst59x2 18 run59x2 Tryz.func59 (by kernel_rfl) Tryz.ntmps59 (by kernel_rfl) (by kernel_rfl) ev59x2
noncomputable def fx59x2 : Ctx := fx60.more 59 (inst59x2.sem run59x2)
theorem fx59x2_ok : CtxOK fx59x2 Tryz.prog := more_ok fx60_ok ok59x2 Tryz.call59
def inst29 : Inst := { args := [(.val .str)], objs := [], nres := 1, out := [(90000, (.val (.int .i64)))], news := 0 }
def hint29 : HC := (.seq (.region []) (.seq (.seq (.region []) (.cond (.seq (.region []) .leaf) .leaf)) (.seq (.seq (.region []) (.cond (.seq (.region []) .leaf) .leaf)) (.seq (.region []) .leaf))))
noncomputable def run29 : Ks.den inst29.args → Ks.den inst29.objs → Option inst29.out.den := fun x _ => chanceryref2_SheetError x.1
theorem ev29 : ∀ x y, evFn fx59x2 9 (bodyOf Tryz.f29) [.tmp 2] hint29 inst29 x y = run29 x y := by intro x y; kernel_rfl
theorem ok29 : FnOK Tryz.prog fx59x2.glob 29 (inst29.sem run29) :=
  fn_add fx59x2_ok feMixed 29 Tryz.f29 [.tmp 2] hint29 inst29 9 run29 Tryz.func29 (by kernel_rfl) Tryz.ntmps29 (by kernel_rfl) (by kernel_rfl) ev29
noncomputable def fx29 : Ctx := fx59x2.add 29 (inst29.sem run29)
theorem fx29_ok : CtxOK fx29 Tryz.prog := add_ok fx59x2_ok ok29 Tryz.call29
def inst52 : Inst := { args := [(.val (.int .i64))], objs := [], nres := 1, out := [(90000, (.val .bool))], news := 0 }
def hint52 : HC := (.seq (.region []) (.seq (.region []) .leaf))
noncomputable def run52 : Ks.den inst52.args → Ks.den inst52.objs → Option inst52.out.den := fun x _ => chanceryref2_inside x.1
theorem ev52 : ∀ x y, evFn fx29 9 (bodyOf Tryz.f52) [.tmp 2] hint52 inst52 x y = run52 x y := by intro x y; kernel_rfl
theorem ok52 : FnOK Tryz.prog fx29.glob 52 (inst52.sem run52) :=
  fn_add fx29_ok feMixed 52 Tryz.f52 [.tmp 2] hint52 inst52 9 run52 Tryz.func52 (by kernel_rfl) Tryz.ntmps52 (by kernel_rfl) (by kernel_rfl) ev52
noncomputable def fx52 : Ctx := fx29.add 52 (inst52.sem run52)
theorem fx52_ok : CtxOK fx52 Tryz.prog := add_ok fx29_ok ok52 Tryz.call52
def inst43 : Inst := { args := [(.val (.pair .str (.pair (.int .i64) (.pair (.int .i64) (.pair (.int .i64) (.pair (.int .i64) (.pair (.int .i64) (.pair .bool (.pair .bool (.pair .bool (.pair .bool .unit)))))))))))], objs := [], nres := 1, out := [(90000, (.val (.int .i64)))], news := 0 }
def hint43 : HC := (.seq (.region [{ new := [10] }]) (.seq (.seq (.cut [(.normal, [(1, (.ptr 11 0)), (15, (.val .bool)), (100011, (.rcd (.cons (.val .str) (.cons (.val (.int .i64)) (.cons (.val (.int .i64)) (.cons (.val (.int .i64)) (.cons (.val (.int .i64)) (.cons (.val (.int .i64)) (.cons (.val .bool) (.cons (.val .bool) (.cons (.val .bool) (.cons (.val .bool) .unit))))))))))))])] (.region [{ rd := [10] }, { rd := [10] }, {}, {}, { rd := [10] }, { rd := [10] }])) (.cond (.seq (.region []) .leaf) .leaf)) (.seq (.seq (.region [{ rd := [11] }, { rd := [11] }]) (.seq (.region []) (.cond (.seq (.region []) .leaf) .leaf))) (.seq (.cut [(.normal, [(1, (.ptr 12 0)), (4, (.val .bool)), (100012, (.rcd (.cons (.val .str) (.cons (.val (.int .i64)) (.cons (.val (.int .i64)) (.cons (.val (.int .i64)) (.cons (.val (.int .i64)) (.cons (.val (.int .i64)) (.cons (.val .bool) (.cons (.val .bool) (.cons (.val .bool) (.cons (.val .bool) .unit))))))))))))])] (.region [{ rd := [11] }, { rd := [11] }, {}, {}, { rd := [11] }, { rd := [11] }])) (.seq (.cut [(.normal, [(1, (.ptr 13 0)), (5, (.val .bool)), (100013, (.rcd (.cons (.val .str) (.cons (.val (.int .i64)) (.cons (.val (.int .i64)) (.cons (.val (.int .i64)) (.cons (.val (.int .i64)) (.cons (.val (.int .i64)) (.cons (.val .bool) (.cons (.val .bool) (.cons (.val .bool) (.cons (.val .bool) .unit))))))))))))])] (.region [{ rd := [12] }, { rd := [12] }, {}, {}, { rd := [12] }, { rd := [12] }])) (.seq (.cut [(.normal, [(1, (.ptr 14 0)), (6, (.val .bool)), (100014, (.rcd (.cons (.val .str) (.cons (.val (.int .i64)) (.cons (.val (.int .i64)) (.cons (.val (.int .i64)) (.cons (.val (.int .i64)) (.cons (.val (.int .i64)) (.cons (.val .bool) (.cons (.val .bool) (.cons (.val .bool) (.cons (.val .bool) .unit))))))))))))])] (.region [{ rd := [13] }, { rd := [13] }, {}, {}, { rd := [13] }, { rd := [13] }])) (.seq (.cut [(.normal, [(1, (.ptr 15 0)), (7, (.val .bool)), (100015, (.rcd (.cons (.val .str) (.cons (.val (.int .i64)) (.cons (.val (.int .i64)) (.cons (.val (.int .i64)) (.cons (.val (.int .i64)) (.cons (.val (.int .i64)) (.cons (.val .bool) (.cons (.val .bool) (.cons (.val .bool) (.cons (.val .bool) .unit))))))))))))])] (.region [{ rd := [14] }, { rd := [14] }, {}, {}, { rd := [14] }, { rd := [14] }])) (.seq (.block (.seq (.cut [(.normal, [(1, (.ptr 19 0)), (54, (.val .bool)), (100019, (.rcd (.cons (.val .str) (.cons (.val (.int .i64)) (.cons (.val (.int .i64)) (.cons (.val (.int .i64)) (.cons (.val (.int .i64)) (.cons (.val (.int .i64)) (.cons (.val .bool) (.cons (.val .bool) (.cons (.val .bool) (.cons (.val .bool) .unit))))))))))))])] (.seq (.cut [(.normal, [(1, (.ptr 16 0)), (54, (.val .bool)), (100016, (.rcd (.cons (.val .str) (.cons (.val (.int .i64)) (.cons (.val (.int .i64)) (.cons (.val (.int .i64)) (.cons (.val (.int .i64)) (.cons (.val (.int .i64)) (.cons (.val .bool) (.cons (.val .bool) (.cons (.val .bool) (.cons (.val .bool) .unit))))))))))))])] (.region [{ rd := [15] }, { rd := [15] }])) (.cond .leaf (.seq (.cut [(.normal, [(1, (.ptr 17 0)), (54, (.val .bool)), (100017, (.rcd (.cons (.val .str) (.cons (.val (.int .i64)) (.cons (.val (.int .i64)) (.cons (.val (.int .i64)) (.cons (.val (.int .i64)) (.cons (.val (.int .i64)) (.cons (.val .bool) (.cons (.val .bool) (.cons (.val .bool) (.cons (.val .bool) .unit))))))))))))])] (.region [{ rd := [16] }, { rd := [16] }])) (.cond .leaf (.seq (.cut [(.normal, [(1, (.ptr 18 0)), (54, (.val .bool)), (100018, (.rcd (.cons (.val .str) (.cons (.val (.int .i64)) (.cons (.val (.int .i64)) (.cons (.val (.int .i64)) (.cons (.val (.int .i64)) (.cons (.val (.int .i64)) (.cons (.val .bool) (.cons (.val .bool) (.cons (.val .bool) (.cons (.val .bool) .unit))))))))))))])] (.region [{ rd := [17] }, { rd := [17] }])) (.cond .leaf (.region [{ rd := [18] }, { rd := [18] }, {}, {}, {}, {}, {}, {}, {}, {}, {}, {}, {}, {}, {}, { rd := [18] }, { rd := [18] }])))))))) (.cond (.seq (.region []) .leaf) (.seq (.cut [(.normal, [(1, (.ptr 20 0)), (106, (.val .bool)), (100020, (.rcd (.cons (.val .str) (.cons (.val (.int .i64)) (.cons (.val (.int .i64)) (.cons (.val (.int .i64)) (.cons (.val (.int .i64)) (.cons (.val (.int .i64)) (.cons (.val .bool) (.cons (.val .bool) (.cons (.val .bool) (.cons (.val .bool) .unit))))))))))))])] (.seq (.region [{ rd := [19] }, { rd := [19] }]) (.cond .leaf (.seq (.region [{ rd := [19] }, { rd := [19] }]) (.cond .leaf (.seq (.region [{ rd := [19] }, { rd := [19] }]) (.cond .leaf (.region [{ rd := [19] }, { rd := [19] }])))))))) (.cond (.seq (.region []) .leaf) (.seq (.cut [(.normal, [(123, (.val .bool))])] (.region [{ rd := [20] }, { rd := [20] }, {}, {}, { rd := [20] }, { rd := [20] }, {}, {}, {}, { rd := [20] }, { rd := [20] }, { rd := [20] }, { rd := [20] }, {}, {}, { rd := [20] }, { rd := [20] }, { rd := [20] }, { rd := [20] }])) (.cond (.seq (.region []) .leaf) .leaf))))))) (.seq (.region []) .leaf)))))))))
noncomputable def run43 : Ks.den inst43.args → Ks.den inst43.objs → Option inst43.out.den := fun x _ => chanceryref2_RefError x.1
theorem ev43 : ∀ x y, evFn fx52 146 (bodyOf Tryz.f43) [.tmp 2] hint43 inst43 x y = run43 x y := by intro x y; kernel_rfl
theorem ok43 : FnOK Tryz.prog fx52.glob 43 (inst43.sem run43) :=
  fn_add fx52_ok feMixed 43 Tryz.f43 [.tmp 2] hint43 inst43 146 run43 Tryz.func43 (by kernel_rfl) Tryz.ntmps43 (by kernel_rfl) (by kernel_rfl) ev43
noncomputable def fx43 : Ctx := fx52.add 43 (inst43.sem run43)
theorem fx43_ok : CtxOK fx43 Tryz.prog := add_ok fx52_ok ok43 Tryz.call43
def inst12 : Inst := { args := [(.val .str)], objs := [], nres := 2, out := [(90000, (.val (.pair .str (.pair (.int .i64) (.pair (.int .i64) (.pair (.int .i64) (.pair (.int .i64) (.pair (.int .i64) (.pair .bool (.pair .bool (.pair .bool (.pair .bool .unit)))))))))))), (90001, (.val (.int .i64)))], news := 0 }
def hint12 : HC := (.seq (.region [{ new := [10] }]) (.seq (.seq (.region []) (.cond (.seq (.region [{}, { wr := [10] }]) .leaf) .leaf)) (.seq (.seq (.region []) (.cond (.seq (.region [{}, { wr := [10] }]) .leaf) .leaf)) (.seq (.region []) (.seq (.cut [(.normal, [(2, (.ptr 20 0)), (4, (.val .str)), (5, (.val .str)), (100020, (.rcd (.cons (.val .str) (.cons (.val (.int .i64)) (.cons (.val (.int .i64)) (.cons (.val (.int .i64)) (.cons (.val (.int .i64)) (.cons (.val (.int .i64)) (.cons (.val .bool) (.cons (.val .bool) (.cons (.val .bool) (.cons (.val .bool) .unit))))))))))))]), (.ret, [(2, (.ptr 21 0)), (3, (.val (.int .i64))), (100021, (.rcd (.cons (.val .str) (.cons (.val (.int .i64)) (.cons (.val (.int .i64)) (.cons (.val (.int .i64)) (.cons (.val (.int .i64)) (.cons (.val (.int .i64)) (.cons (.val .bool) (.cons (.val .bool) (.cons (.val .bool) (.cons (.val .bool) .unit))))))))))))])] (.seq (.cut [(.normal, [(2, (.ptr 11 0)), (32, (.val .bool)), (100011, (.rcd (.cons (.val .str) (.cons (.val (.int .i64)) (.cons (.val (.int .i64)) (.cons (.val (.int .i64)) (.cons (.val (.int .i64)) (.cons (.val (.int .i64)) (.cons (.val .bool) (.cons (.val .bool) (.cons (.val .bool) (.cons (.val .bool) .unit))))))))))))])] (.region [])) (.cond (.seq (.region []) (.seq (.block (.loop [(2, (.ptr 12 0)), (4, (.val .str)), (6, (.val (.int .i64))), (100012, (.rcd (.cons (.val .str) (.cons (.val (.int .i64)) (.cons (.val (.int .i64)) (.cons (.val (.int .i64)) (.cons (.val (.int .i64)) (.cons (.val (.int .i64)) (.cons (.val .bool) (.cons (.val .bool) (.cons (.val .bool) (.cons (.val .bool) .unit))))))))))))] [((.exit 0), [(2, (.ptr 15 0)), (4, (.val .str)), (6, (.val (.int .i64))), (100015, (.rcd (.cons (.val .str) (.cons (.val (.int .i64)) (.cons (.val (.int .i64)) (.cons (.val (.int .i64)) (.cons (.val (.int .i64)) (.cons (.val (.int .i64)) (.cons (.val .bool) (.cons (.val .bool) (.cons (.val .bool) (.cons (.val .bool) .unit))))))))))))])] (.seq (.seq (.cut [(.normal, [(2, (.ptr 13 0)), (56, (.val .bool)), (100013, (.rcd (.cons (.val .str) (.cons (.val (.int .i64)) (.cons (.val (.int .i64)) (.cons (.val (.int .i64)) (.cons (.val (.int .i64)) (.cons (.val (.int .i64)) (.cons (.val .bool) (.cons (.val .bool) (.cons (.val .bool) (.cons (.val .bool) .unit))))))))))))])] (.region [])) (.cond .leaf .leaf)) (.block (.seq (.region []) (.seq (.cut [(.normal, [(2, (.ptr 14 0)), (6, (.val (.int .i64))), (100014, (.rcd (.cons (.val .str) (.cons (.val (.int .i64)) (.cons (.val (.int .i64)) (.cons (.val (.int .i64)) (.cons (.val (.int .i64)) (.cons (.val (.int .i64)) (.cons (.val .bool) (.cons (.val .bool) (.cons (.val .bool) (.cons (.val .bool) .unit))))))))))))])] (.seq (.region []) (.cond (.region []) .leaf))) (.region []))))))) (.seq (.seq (.cut [(.normal, [(2, (.ptr 16 0)), (87, (.val .bool)), (100016, (.rcd (.cons (.val .str) (.cons (.val (.int .i64)) (.cons (.val (.int .i64)) (.cons (.val (.int .i64)) (.cons (.val (.int .i64)) (.cons (.val (.int .i64)) (.cons (.val .bool) (.cons (.val .bool) (.cons (.val .bool) (.cons (.val .bool) .unit))))))))))))])] (.region [])) (.cond (.seq (.region [{}, { wr := [16] }]) .leaf) .leaf)) (.region [])))) (.seq (.region []) (.block (.loop [(2, (.ptr 17 0)), (4, (.val .str)), (5, (.val .str)), (95, (.val (.int .i64))), (100017, (.rcd (.cons (.val .str) (.cons (.val (.int .i64)) (.cons (.val (.int .i64)) (.cons (.val (.int .i64)) (.cons (.val (.int .i64)) (.cons (.val (.int .i64)) (.cons (.val .bool) (.cons (.val .bool) (.cons (.val .bool) (.cons (.val .bool) .unit))))))))))))] [((.exit 2), [(2, (.ptr 18 0)), (4, (.val .str)), (5, (.val .str)), (100018, (.rcd (.cons (.val .str) (.cons (.val (.int .i64)) (.cons (.val (.int .i64)) (.cons (.val (.int .i64)) (.cons (.val (.int .i64)) (.cons (.val (.int .i64)) (.cons (.val .bool) (.cons (.val .bool) (.cons (.val .bool) (.cons (.val .bool) .unit))))))))))))]), (.ret, [(2, (.ptr 19 0)), (3, (.val (.int .i64))), (100019, (.rcd (.cons (.val .str) (.cons (.val (.int .i64)) (.cons (.val (.int .i64)) (.cons (.val (.int .i64)) (.cons (.val (.int .i64)) (.cons (.val (.int .i64)) (.cons (.val .bool) (.cons (.val .bool) (.cons (.val .bool) (.cons (.val .bool) .unit))))))))))))])] (.seq (.region []) (.seq (.cond .leaf .leaf) (.seq (.block (.seq (.region []) (.seq (.region []) (.cond (.seq (.region []) (.seq (.seq (.region []) (.cond (.seq (.region [{}, { wr := [17] }]) .leaf) .leaf)) .leaf)) .leaf)))) (.region [])))))))))) (.seq (.region []) (.seq (.seq (.region []) (.block (.loop [(2, (.ptr 22 0)), (8, (.val .str)), (9, (.val .str)), (10, (.val .bool)), (117, (.val (.int .i64))), (100022, (.rcd (.cons (.val .str) (.cons (.val (.int .i64)) (.cons (.val (.int .i64)) (.cons (.val (.int .i64)) (.cons (.val (.int .i64)) (.cons (.val (.int .i64)) (.cons (.val .bool) (.cons (.val .bool) (.cons (.val .bool) (.cons (.val .bool) .unit))))))))))))] [((.exit 4), [(2, (.ptr 23 0)), (8, (.val .str)), (9, (.val .str)), (10, (.val .bool)), (100023, (.rcd (.cons (.val .str) (.cons (.val (.int .i64)) (.cons (.val (.int .i64)) (.cons (.val (.int .i64)) (.cons (.val (.int .i64)) (.cons (.val (.int .i64)) (.cons (.val .bool) (.cons (.val .bool) (.cons (.val .bool) (.cons (.val .bool) .unit))))))))))))])] (.seq (.region []) (.seq (.cond .leaf .leaf) (.seq (.block (.seq (.region []) (.seq (.region []) (.cond (.seq (.region []) .leaf) .leaf)))) (.region []))))))) (.seq (.region [{}, {}, {}, {}, {}, { new := [24] }, { wr := [24] }]) (.seq (.region [{ rd := [24] }, { new := [25] }, { wr := [25] }]) (.seq (.cut [(.normal, [(2, (.ptr 26 0)), (12, (.ptr 27 0)), (14, (.ptr 28 0)), (15, (.val (.int .i64))), (100026, (.rcd (.cons (.val .str) (.cons (.val (.int .i64)) (.cons (.val (.int .i64)) (.cons (.val (.int .i64)) (.cons (.val (.int .i64)) (.cons (.val (.int .i64)) (.cons (.val .bool) (.cons (.val .bool) (.cons (.val .bool) (.cons (.val .bool) .unit)))))))))))), (100027, (.rcd (.cons (.val (.int .i64)) (.cons (.val (.int .i64)) (.cons (.val .bool) (.cons (.val .bool) .unit)))))), (100028, (.rcd (.cons (.val (.int .i64)) (.cons (.val (.int .i64)) (.cons (.val .bool) (.cons (.val .bool) .unit))))))])] (.seq (.region []) (.cond (.region [{}, {}, {}, {}, {}, { wr := [25] }]) .leaf))) (.seq (.seq (.cut [(.normal, [(2, (.ptr 29 0)), (12, (.ptr 30 0)), (14, (.ptr 31 0)), (181, (.val .bool)), (100029, (.rcd (.cons (.val .str) (.cons (.val (.int .i64)) (.cons (.val (.int .i64)) (.cons (.val (.int .i64)) (.cons (.val (.int .i64)) (.cons (.val (.int .i64)) (.cons (.val .bool) (.cons (.val .bool) (.cons (.val .bool) (.cons (.val .bool) .unit)))))))))))), (100030, (.rcd (.cons (.val (.int .i64)) (.cons (.val (.int .i64)) (.cons (.val .bool) (.cons (.val .bool) .unit)))))), (100031, (.rcd (.cons (.val (.int .i64)) (.cons (.val (.int .i64)) (.cons (.val .bool) (.cons (.val .bool) .unit))))))])] (.region [{}, {}, {}, {}, {}, {}, {}, { rd := [27] }, { rd := [27] }, {}, { rd := [28] }, { rd := [28] }, {}, {}, {}, {}, { rd := [27] }, { rd := [27] }, {}, { rd := [28] }, { rd := [28] }, {}, {}, {}, {}, {}, {}, {}, { rd := [27] }, { rd := [27] }, {}, {}, { rd := [27] }, { rd := [27] }])) (.cond (.seq (.region [{}, { wr := [29] }]) .leaf) .leaf)) (.seq (.seq (.cut [(.normal, [(2, (.ptr 32 0)), (12, (.ptr 33 0)), (14, (.ptr 34 0)), (188, (.val .bool)), (100032, (.rcd (.cons (.val .str) (.cons (.val (.int .i64)) (.cons (.val (.int .i64)) (.cons (.val (.int .i64)) (.cons (.val (.int .i64)) (.cons (.val (.int .i64)) (.cons (.val .bool) (.cons (.val .bool) (.cons (.val .bool) (.cons (.val .bool) .unit)))))))))))), (100033, (.rcd (.cons (.val (.int .i64)) (.cons (.val (.int .i64)) (.cons (.val .bool) (.cons (.val .bool) .unit)))))), (100034, (.rcd (.cons (.val (.int .i64)) (.cons (.val (.int .i64)) (.cons (.val .bool) (.cons (.val .bool) .unit))))))])] (.region [])) (.cond (.seq (.region [{}, { wr := [32] }]) .leaf) .leaf)) (.seq (.region [{}, { rd := [33] }, { rd := [33] }, {}, { rd := [33] }, { rd := [33] }, {}, { rd := [33] }, { rd := [33] }, { rd := [33] }, { rd := [33] }, {}, { new := [35] }, { wr := [35] }]) (.seq (.cut [(.normal, [(2, (.ptr 36 0)), (14, (.ptr 37 0)), (16, (.ptr 38 0)), (100036, (.rcd (.cons (.val .str) (.cons (.val (.int .i64)) (.cons (.val (.int .i64)) (.cons (.val (.int .i64)) (.cons (.val (.int .i64)) (.cons (.val (.int .i64)) (.cons (.val .bool) (.cons (.val .bool) (.cons (.val .bool) (.cons (.val .bool) .unit)))))))))))), (100037, (.rcd (.cons (.val (.int .i64)) (.cons (.val (.int .i64)) (.cons (.val .bool) (.cons (.val .bool) .unit)))))), (100038, (.rcd (.cons (.val .str) (.cons (.val (.int .i64)) (.cons (.val (.int .i64)) (.cons (.val (.int .i64)) (.cons (.val (.int .i64)) (.cons (.val (.int .i64)) (.cons (.val .bool) (.cons (.val .bool) (.cons (.val .bool) (.cons (.val .bool) .unit))))))))))))])] (.block (.seq (.region []) (.cond .leaf (.seq (.region [{ rd := [33] }, { rd := [33] }]) (.cond (.region [{ rd := [35] }, { wr := [35] }]) (.seq (.region [{ rd := [33] }, { rd := [33] }]) (.cond (.region [{ rd := [35] }, { wr := [35] }]) (.region [{ rd := [35] }, { wr := [35] }]))))))))) (.seq (.cut [(.normal, [(2, (.ptr 39 0)), (16, (.ptr 40 0)), (100039, (.rcd (.cons (.val .str) (.cons (.val (.int .i64)) (.cons (.val (.int .i64)) (.cons (.val (.int .i64)) (.cons (.val (.int .i64)) (.cons (.val (.int .i64)) (.cons (.val .bool) (.cons (.val .bool) (.cons (.val .bool) (.cons (.val .bool) .unit)))))))))))), (100040, (.rcd (.cons (.val .str) (.cons (.val (.int .i64)) (.cons (.val (.int .i64)) (.cons (.val (.int .i64)) (.cons (.val (.int .i64)) (.cons (.val (.int .i64)) (.cons (.val .bool) (.cons (.val .bool) (.cons (.val .bool) (.cons (.val .bool) .unit))))))))))))])] (.seq (.region []) (.cond (.seq (.region [{ rd := [37] }, { rd := [37] }, {}, { rd := [37] }, { rd := [37] }, {}, { rd := [37] }, { rd := [37] }, { rd := [37] }, { rd := [37] }, { rd := [38] }, { wr := [38] }, { rd := [38] }, { wr := [38] }, { rd := [38] }, { wr := [38] }, { rd := [38] }, { wr := [38] }]) (.region [{ rd := [38] }, {}, { wr := [38] }])) .leaf))) (.seq (.seq (.region [{ rd := [40] }]) (.seq (.region []) (.cond (.seq (.region [{}, {}, { wr := [39] }]) .leaf) .leaf))) (.seq (.region [{ rd := [40] }, { wr := [39] }]) .leaf)))))))))))))))))
noncomputable def run12 : Ks.den inst12.args → Ks.den inst12.objs → Option inst12.out.den := fun x _ => chanceryref2_ReadRef x.1
theorem ev12 : ∀ x y, evFn fx43 240 (bodyOf Tryz.f12) [.cell 2 35, .tmp 3] hint12 inst12 x y = run12 x y := by intro x y; kernel_rfl
theorem ok12 : FnOK Tryz.prog fx43.glob 12 (inst12.sem run12) :=
  fn_add fx43_ok feMixed 12 Tryz.f12 [.cell 2 35, .tmp 3] hint12 inst12 240 run12 Tryz.func12 (by kernel_rfl) Tryz.ntmps12 (by kernel_rfl) (by kernel_rfl) ev12
noncomputable def fx12 : Ctx := fx43.add 12 (inst12.sem run12)
theorem fx12_ok : CtxOK fx12 Tryz.prog := add_ok fx43_ok ok12 Tryz.call12
def inst85 : Inst := { args := [(.val .str)], objs := [], nres := 1, out := [(90000, (.val .bool))], news := 0 }
def hint85 : HC := (.seq (.region []) (.seq (.region [{}, {}, {}, {}, {}, { new := [10] }, { wr := [10] }]) (.seq (.region []) .leaf)))
noncomputable def run85 : Ks.den inst85.args → Ks.den inst85.objs → Option inst85.out.den := fun x _ => chanceryref2_isRef x.1
theorem ev85 : ∀ x y, evFn fx12 12 (bodyOf Tryz.f85) [.tmp 2] hint85 inst85 x y = run85 x y := by intro x y; kernel_rfl
theorem ok85 : FnOK Tryz.prog fx12.glob 85 (inst85.sem run85) :=
  fn_add fx12_ok feMixed 85 Tryz.f85 [.tmp 2] hint85 inst85 12 run85 Tryz.func85 (by kernel_rfl) Tryz.ntmps85 (by kernel_rfl) (by kernel_rfl) ev85
noncomputable def fx85 : Ctx := fx12.add 85 (inst85.sem run85)
theorem fx85_ok : CtxOK fx85 Tryz.prog := add_ok fx12_ok ok85 Tryz.call85
def inst83 : Inst := { args := [(.val .str), (.val (.int .i64))], objs := [], nres := 1, out := [(90000, (.val (.int .i64)))], news := 0 }
def hint83 : HC := (.seq (.region []) (.seq (.cut [(.normal, []), (.ret, [(4, (.val (.int .i64)))])] (.seq (.cut [(.normal, [(15, (.val .bool))])] (.region [])) (.cond (.seq (.region []) (.seq (.region []) (.cond (.seq (.region []) .leaf) .leaf))) .leaf))) (.seq (.seq (.region []) (.cond (.seq (.region []) .leaf) .leaf)) (.seq (.region []) .leaf))))
noncomputable def run83 : Ks.den inst83.args → Ks.den inst83.objs → Option inst83.out.den := fun x _ => chanceryref2_longRef x.1 x.2.1
theorem ev83 : ∀ x y, evFn fx85 34 (bodyOf Tryz.f83) [.tmp 4] hint83 inst83 x y = run83 x y := by intro x y; kernel_rfl
theorem ok83 : FnOK Tryz.prog fx85.glob 83 (inst83.sem run83) :=
  fn_add fx85_ok feMixed 83 Tryz.f83 [.tmp 4] hint83 inst83 34 run83 Tryz.func83 (by kernel_rfl) Tryz.ntmps83 (by kernel_rfl) (by kernel_rfl) ev83
noncomputable def fx83 : Ctx := fx85.add 83 (inst83.sem run83)
theorem fx83_ok : CtxOK fx83 Tryz.prog := add_ok fx85_ok ok83 Tryz.call83
def inst80x3 : Inst := { args := [(.val .str), (.fn 69 .unit)], objs := [], nres := 1, out := [(90000, (.val (.int .i64)))], news := 0 }
def hint80x3 : HC := (.seq (.region []) (.seq (.seq (.region []) (.block (.loop [(1, (.fn 69 .unit)), (8, (.val (.int .i64)))] [((.exit 0), []), (.ret, [(4, (.val (.int .i64)))])] (.seq (.region []) (.seq (.cond .leaf .leaf) (.seq (.block (.seq (.region []) (.seq (.region []) (.cond (.seq (.region []) .leaf) .leaf)))) (.region []))))))) (.seq (.region []) .leaf)))
noncomputable def run80x3 : Ks.den inst80x3.args → Ks.den inst80x3.objs → Option inst80x3.out.den := fun x _ => chanceryref2_span_Digit x.1
theorem ev80x3 : ∀ x y, evFn fx83 21 (bodyOf Tryz.f80) [.tmp 4] hint80x3 inst80x3 x y = run80x3 x y := by intro x y; kernel_rfl
theorem ok80x3 : FnOK Tryz.prog fx83.glob 80 (inst80x3.sem run80x3) :=
  fn_add fx83_ok feMixed 80 Tryz.f80 [.tmp 4] hint80x3 inst80x3 21 run80x3 Tryz.func80 (by kernel_rfl) Tryz.ntmps80 (by kernel_rfl) (by kernel_rfl) ev80x3
noncomputable def fx80x3 : Ctx := fx83.more 80 (inst80x3.sem run80x3)
theorem fx80x3_ok : CtxOK fx80x3 Tryz.prog := more_ok fx83_ok ok80x3 Tryz.call80
def inst86 : Inst := { args := [(.val .str)], objs := [], nres := 1, out := [(90000, (.val (.int .i64)))], news := 0 }
def hint86 : HC := (.seq (.region []) (.seq (.region []) (.seq (.cut [(.normal, [(3, (.val (.int .i64)))])] (.seq (.cut [(.normal, [(25, (.val .bool))])] (.region [])) (.cond (.region []) .leaf))) (.seq (.seq (.region []) (.block (.loop [(35, (.val (.int .i64)))] [((.exit 0), []), (.ret, [(2, (.val (.int .i64)))])] (.seq (.region []) (.seq (.cond .leaf .leaf) (.seq (.block (.seq (.region []) (.seq (.cut [(.normal, [(60, (.val .bool))])] (.region [])) (.cond (.seq (.region []) .leaf) .leaf)))) (.region []))))))) (.seq (.region []) .leaf)))))
noncomputable def run86 : Ks.den inst86.args → Ks.den inst86.objs → Option inst86.out.den := fun x _ => chanceryref2_numberLength x.1
theorem ev86 : ∀ x y, evFn fx80x3 75 (bodyOf Tryz.f86) [.tmp 2] hint86 inst86 x y = run86 x y := by intro x y; kernel_rfl
theorem ok86 : FnOK Tryz.prog fx80x3.glob 86 (inst86.sem run86) :=
  fn_add fx80x3_ok feMixed 86 Tryz.f86 [.tmp 2] hint86 inst86 75 run86 Tryz.func86 (by kernel_rfl) Tryz.ntmps86 (by kernel_rfl) (by kernel_rfl) ev86
noncomputable def fx86 : Ctx := fx80x3.add 86 (inst86.sem run86)
theorem fx86_ok : CtxOK fx86 Tryz.prog := add_ok fx80x3_ok ok86 Tryz.call86
def inst121 : Inst := { args := [(.val (.int .u8))], objs := [], nres := 1, out := [(90000, (.val .bool))], news := 0 }
def hint121 : HC := (.seq (.region []) (.seq (.region []) .leaf))
noncomputable def run121 : Ks.den inst121.args → Ks.den inst121.objs → Option inst121.out.den := fun x _ => chanceryref2_wordToken_1 x.1
theorem ev121 : ∀ x y, evFn fx86 13 (bodyOf Tryz.f121) [.tmp 2] hint121 inst121 x y = run121 x y := by intro x y; kernel_rfl
theorem ok121 : FnOK Tryz.prog fx86.glob 121 (inst121.sem run121) :=
  fn_add fx86_ok feMixed 121 Tryz.f121 [.tmp 2] hint121 inst121 13 run121 Tryz.func121 (by kernel_rfl) Tryz.ntmps121 (by kernel_rfl) (by kernel_rfl) ev121
noncomputable def fx121 : Ctx := fx86.add 121 (inst121.sem run121)
theorem fx121_ok : CtxOK fx121 Tryz.prog := add_ok fx86_ok ok121 Tryz.call121
def inst80x4 : Inst := { args := [(.val .str), (.fn 121 .unit)], objs := [], nres := 1, out := [(90000, (.val (.int .i64)))], news := 0 }
def hint80x4 : HC := (.seq (.region []) (.seq (.seq (.region []) (.block (.loop [(1, (.fn 121 .unit)), (8, (.val (.int .i64)))] [((.exit 0), []), (.ret, [(4, (.val (.int .i64)))])] (.seq (.region []) (.seq (.cond .leaf .leaf) (.seq (.block (.seq (.region []) (.seq (.region []) (.cond (.seq (.region []) .leaf) .leaf)))) (.region []))))))) (.seq (.region []) .leaf)))
noncomputable def run80x4 : Ks.den inst80x4.args → Ks.den inst80x4.objs → Option inst80x4.out.den := fun x _ => chanceryref2_span_wordToken_1 x.1
theorem ev80x4 : ∀ x y, evFn fx121 21 (bodyOf Tryz.f80) [.tmp 4] hint80x4 inst80x4 x y = run80x4 x y := by intro x y; kernel_rfl
theorem ok80x4 : FnOK Tryz.prog fx121.glob 80 (inst80x4.sem run80x4) :=
  fn_add fx121_ok feMixed 80 Tryz.f80 [.tmp 4] hint80x4 inst80x4 21 run80x4 Tryz.func80 (by kernel_rfl) Tryz.ntmps80 (by kernel_rfl) (by kernel_rfl) ev80x4
noncomputable def fx80x4 : Ctx := fx121.more 80 (inst80x4.sem run80x4)
theorem fx80x4_ok : CtxOK fx80x4 Tryz.prog := more_ok fx121_ok ok80x4 Tryz.call80
def inst33 : Inst := { args := [(.val .str), (.val (.int .u8))], objs := [], nres := 1, out := [(90000, (.val (.int .i64)))], news := 0 }
def hint33 : HC := (.seq (.region []) (.seq (.seq (.region []) (.block (.loop [(8, (.val (.int .i64)))] [((.exit 0), []), (.ret, [(4, (.val (.int .i64)))])] (.seq (.region []) (.seq (.cond .leaf .leaf) (.seq (.block (.seq (.region []) (.seq (.region []) (.cond (.seq (.region []) .leaf) .leaf)))) (.region []))))))) (.seq (.region []) .leaf)))
noncomputable def run33 : Ks.den inst33.args → Ks.den inst33.objs → Option inst33.out.den := fun x _ => chanceryref2_Index x.1 x.2.1
theorem ev33 : ∀ x y, evFn fx80x4 18 (bodyOf Tryz.f33) [.tmp 4] hint33 inst33 x y = run33 x y := by intro x y; kernel_rfl
theorem ok33 : FnOK Tryz.prog fx80x4.glob 33 (inst33.sem run33) :=
  fn_add fx80x4_ok feMixed 33 Tryz.f33 [.tmp 4] hint33 inst33 18 run33 Tryz.func33 (by kernel_rfl) Tryz.ntmps33 (by kernel_rfl) (by kernel_rfl) ev33
noncomputable def fx33 : Ctx := fx80x4.add 33 (inst33.sem run33)
theorem fx33_ok : CtxOK fx33 Tryz.prog := add_ok fx80x4_ok ok33 Tryz.call33
def inst87 : Inst := { args := [(.val .str)], objs := [], nres := 2, out := [(90000, (.val (.int .i64))), (90001, (.val (.int .i64)))], news := 0 }
def hint87 : HC := (.seq (.region []) (.seq (.region []) (.seq (.region []) (.seq (.region []) (.seq (.block (.seq (.cut [(.normal, [(22, (.val .bool))])] (.region [])) (.cond (.seq (.region []) .leaf) (.seq (.cut [(.normal, [(37, (.val .bool))])] (.region [])) (.cond (.seq (.region []) .leaf) (.seq (.cut [(.normal, [(45, (.val .bool))])] (.region [])) (.cond (.seq (.region []) (.seq (.seq (.region []) (.block (.loop [(8, (.val (.int .i64))), (54, (.val (.int .i64)))] [((.exit 1), []), (.ret, [(2, (.val (.int .i64))), (3, (.val (.int .i64)))])] (.seq (.region []) (.seq (.cond .leaf .leaf) (.seq (.block (.seq (.region []) (.seq (.cut [(.normal, [(8, (.val (.int .i64)))])] (.seq (.region []) (.cond (.region []) .leaf))) (.seq (.cut [(.normal, [(8, (.val (.int .i64)))])] (.seq (.region []) (.cond (.region []) .leaf))) (.seq (.region []) (.cond (.seq (.region []) .leaf) .leaf)))))) (.region []))))))) (.seq (.region []) .leaf))) .leaf))))))) (.seq (.seq (.region []) (.seq (.region []) (.cond (.seq (.region []) .leaf) .leaf))) (.seq (.seq (.region []) (.cond (.seq (.region []) .leaf) .leaf)) (.seq (.region []) .leaf))))))))
noncomputable def run87 : Ks.den inst87.args → Ks.den inst87.objs → Option inst87.out.den := fun x _ => chanceryref2_wordToken x.1
theorem ev87 : ∀ x y, evFn fx33 84 (bodyOf Tryz.f87) [.tmp 2, .tmp 3] hint87 inst87 x y = run87 x y := by intro x y; kernel_rfl
theorem ok87 : FnOK Tryz.prog fx33.glob 87 (inst87.sem run87) :=
  fn_add fx33_ok feMixed 87 Tryz.f87 [.tmp 2, .tmp 3] hint87 inst87 84 run87 Tryz.func87 (by kernel_rfl) Tryz.ntmps87 (by kernel_rfl) (by kernel_rfl) ev87
noncomputable def fx87 : Ctx := fx33.add 87 (inst87.sem run87)
theorem fx87_ok : CtxOK fx87 Tryz.prog := add_ok fx33_ok ok87 Tryz.call87
def inst38 : Inst := { args := [(.val .str)], objs := [], nres := 2, out := [(90000, (.val (.int .i64))), (90001, (.val (.int .i64)))], news := 0 }
def hint38 : HC := (.seq (.region []) (.seq (.region []) (.seq (.seq (.region []) (.seq (.region []) (.cond (.seq (.region []) .leaf) .leaf))) (.seq (.seq (.region []) (.cond (.seq (.region []) .leaf) .leaf)) (.seq (.seq (.region []) (.cond (.seq (.seq (.region []) (.block (.loop [(23, (.val (.int .i64)))] [((.exit 0), []), (.ret, [(2, (.val (.int .i64))), (3, (.val (.int .i64)))])] (.seq (.region []) (.seq (.cond .leaf .leaf) (.seq (.block (.seq (.region []) (.seq (.cut [(.normal, [(34, (.val .bool))])] (.region [])) (.cond (.seq (.seq (.region []) (.cond (.seq (.region []) .leaf) .leaf)) (.seq (.region []) .leaf)) .leaf)))) (.region []))))))) (.seq (.region []) .leaf)) .leaf)) (.seq (.seq (.region []) (.cond (.seq (.region []) (.seq (.seq (.cut [(.normal, [(59, (.val .bool))])] (.region [])) (.cond (.seq (.region []) .leaf) .leaf)) (.seq (.region []) .leaf))) .leaf)) (.seq (.seq (.region []) (.cond (.seq (.region []) (.seq (.cut [(.normal, []), (.ret, [(2, (.val (.int .i64))), (3, (.val (.int .i64)))])] (.seq (.cut [(.normal, [(83, (.val .bool))])] (.region [])) (.cond (.seq (.region []) (.seq (.region []) (.cond (.seq (.region []) .leaf) .leaf))) .leaf))) (.seq (.region []) .leaf))) .leaf)) (.seq (.seq (.cut [(.normal, [(108, (.val .bool))])] (.region [])) (.cond (.seq (.region []) .leaf) .leaf)) (.seq (.seq (.cut [(.normal, [(122, (.val .bool))])] (.region [])) (.cond (.seq (.region []) .leaf) .leaf)) (.seq (.seq (.region []) (.cond (.seq (.region []) .leaf) .leaf)) (.seq (.region []) .leaf)))))))))))
noncomputable def run38 : Ks.den inst38.args → Ks.den inst38.objs → Option inst38.out.den := fun x _ => chanceryref2_Token x.1
theorem ev38 : ∀ x y, evFn fx87 126 (bodyOf Tryz.f38) [.tmp 2, .tmp 3] hint38 inst38 x y = run38 x y := by intro x y; kernel_rfl
theorem ok38 : FnOK Tryz.prog fx87.glob 38 (inst38.sem run38) :=
  fn_add fx87_ok feMixed 38 Tryz.f38 [.tmp 2, .tmp 3] hint38 inst38 126 run38 Tryz.func38 (by kernel_rfl) Tryz.ntmps38 (by kernel_rfl) (by kernel_rfl) ev38
noncomputable def fx38 : Ctx := fx87.add 38 (inst38.sem run38)
theorem fx38_ok : CtxOK fx38 Tryz.prog := add_ok fx87_ok ok38 Tryz.call38
def inst10 : Inst := { args := [(.val .str)], objs := [], nres := 2, out := [(90000, (.val (.sl (.pair (.int .i64) (.pair .str .unit))))), (90001, (.val (.int .i64)))], news := 0 }
def hint10 : HC := (.seq (.region []) (.seq (.seq (.region []) (.cond (.seq (.region []) .leaf) .leaf)) (.seq (.region []) (.seq (.seq (.region []) (.block (.loop [(4, (.own 12)), (5, (.val (.int .i64))), (100012, (.vec none (.pair (.int .i64) (.pair .str .unit))))] [((.exit 0), [(4, (.own 13)), (100013, (.vec none (.pair (.int .i64) (.pair .str .unit))))]), (.ret, [(2, .nil), (3, (.val (.int .i64)))])] (.seq (.seq (.region []) (.cond .leaf .leaf)) (.block (.seq (.region []) (.seq (.seq (.region []) (.cond (.seq (.region []) .leaf) .leaf)) (.seq (.region [{}, {}, {}, {}, {}, {}, {}, {}, {}, { new := [10] }, { rd := [10], wr := [12], new := [11] }]) (.region []))))))))) (.seq (.region []) .leaf)))))
noncomputable def run10 : Ks.den inst10.args → Ks.den inst10.objs → Option inst10.out.den := fun x _ => chanceryref2_Scan x.1
theorem ev10 : ∀ x y, evFn fx38 40 (bodyOf Tryz.f10) [.tmp 2, .tmp 3] hint10 inst10 x y = run10 x y := by intro x y; kernel_rfl
theorem ok10 : FnOK Tryz.prog fx38.glob 10 (inst10.sem run10) :=
  fn_add fx38_ok feMixed 10 Tryz.f10 [.tmp 2, .tmp 3] hint10 inst10 40 run10 Tryz.func10 (by kernel_rfl) Tryz.ntmps10 (by kernel_rfl) (by kernel_rfl) ev10
noncomputable def fx10 : Ctx := fx38.add 10 (inst10.sem run10)
theorem fx10_ok : CtxOK fx10 Tryz.prog := add_ok fx38_ok ok10 Tryz.call10
def inst11 : Inst := { args := [(.val .str)], objs := [], nres := 1, out := [(90000, (.val (.sl (.pair .str (.pair (.int .i64) (.pair (.int .i64) (.pair (.int .i64) (.pair (.int .i64) (.pair (.int .i64) (.pair .bool (.pair .bool (.pair .bool (.pair .bool .unit)))))))))))))], news := 0 }
def hint11 : HC := (.seq (.region []) (.seq (.region []) (.seq (.region []) (.seq (.seq (.region []) (.block (.loop [(6, (.own 15)), (19, (.val (.int .i64))), (100015, (.vec none (.pair .str (.pair (.int .i64) (.pair (.int .i64) (.pair (.int .i64) (.pair (.int .i64) (.pair (.int .i64) (.pair .bool (.pair .bool (.pair .bool (.pair .bool .unit))))))))))))] [((.exit 0), [(6, (.own 16)), (100016, (.vec none (.pair .str (.pair (.int .i64) (.pair (.int .i64) (.pair (.int .i64) (.pair (.int .i64) (.pair (.int .i64) (.pair .bool (.pair .bool (.pair .bool (.pair .bool .unit))))))))))))])] (.seq (.region []) (.seq (.cond .leaf .leaf) (.seq (.cut [(.normal, [(6, (.own 14)), (100014, (.vec none (.pair .str (.pair (.int .i64) (.pair (.int .i64) (.pair (.int .i64) (.pair (.int .i64) (.pair (.int .i64) (.pair .bool (.pair .bool (.pair .bool (.pair .bool .unit))))))))))))])] (.block (.seq (.region [{}, {}, { new := [10] }, { wr := [10] }]) (.seq (.region [{ rd := [10] }, { rd := [10] }]) (.cond (.seq (.region [{ rd := [10] }, { rd := [10] }, {}, {}, {}, {}, { new := [11] }, { wr := [11] }]) (.region [{}, { rd := [11] }, { new := [12] }, { rd := [12], wr := [15], new := [13] }])) .leaf))))) (.region []))))))) (.seq (.region []) .leaf)))))
noncomputable def run11 : Ks.den inst11.args → Ks.den inst11.objs → Option inst11.out.den := fun x _ => fscan_Refs x.1
theorem ev11 : ∀ x y, evFn fx10 38 (bodyOf Tryz.f11) [.tmp 2] hint11 inst11 x y = run11 x y := by intro x y; kernel_rfl
theorem ok11 : FnOK Tryz.prog fx10.glob 11 (inst11.sem run11) :=
  fn_add fx10_ok feMixed 11 Tryz.f11 [.tmp 2] hint11 inst11 38 run11 Tryz.func11 (by kernel_rfl) Tryz.ntmps11 (by kernel_rfl) (by kernel_rfl) ev11
noncomputable def fx11 : Ctx := fx10.add 11 (inst11.sem run11)
theorem fx11_ok : CtxOK fx11 Tryz.prog := add_ok fx10_ok ok11 Tryz.call11
def inst13 : Inst := { args := [(.val (.sl (.pair (.int .i64) (.pair .str .unit)))), (.val (.sl (.pair (.int .i64) (.pair .str .unit))))], objs := [], nres := 1, out := [(90000, (.val .bool))], news := 0 }
def hint13 : HC := (.seq (.region []) (.seq (.seq (.region []) (.cond (.seq (.region []) .leaf) .leaf)) (.seq (.seq (.region []) (.block (.loop [(13, (.val (.int .i64)))] [((.exit 0), []), (.ret, [(4, (.val .bool))])] (.seq (.region []) (.seq (.cond .leaf .leaf) (.seq (.block (.seq (.region []) (.seq (.region []) (.cond (.seq (.region []) .leaf) .leaf)))) (.region []))))))) (.seq (.region []) .leaf))))
noncomputable def run13 : Ks.den inst13.args → Ks.den inst13.objs → Option inst13.out.den := fun x _ => api_ScanToken_ x.1 x.2.1
theorem ev13 : ∀ x y, evFn fx11 26 (bodyOf Tryz.f13) [.tmp 4] hint13 inst13 x y = run13 x y := by intro x y; kernel_rfl
theorem ok13 : FnOK Tryz.prog fx11.glob 13 (inst13.sem run13) :=
  fn_add fx11_ok feMixed 13 Tryz.f13 [.tmp 4] hint13 inst13 26 run13 Tryz.func13 (by kernel_rfl) Tryz.ntmps13 (by kernel_rfl) (by kernel_rfl) ev13
noncomputable def fx13 : Ctx := fx11.add 13 (inst13.sem run13)
theorem fx13_ok : CtxOK fx13 Tryz.prog := add_ok fx11_ok ok13 Tryz.call13
def inst14 : Inst := { args := [(.val (.sl (.pair .str (.pair (.int .i64) (.pair (.int .i64) (.pair (.int .i64) (.pair (.int .i64) (.pair (.int .i64) (.pair .bool (.pair .bool (.pair .bool (.pair .bool .unit)))))))))))), (.val (.sl (.pair .str (.pair (.int .i64) (.pair (.int .i64) (.pair (.int .i64) (.pair (.int .i64) (.pair (.int .i64) (.pair .bool (.pair .bool (.pair .bool (.pair .bool .unit))))))))))))], objs := [], nres := 1, out := [(90000, (.val .bool))], news := 0 }
def hint14 : HC := (.seq (.region []) (.seq (.seq (.region []) (.cond (.seq (.region []) .leaf) .leaf)) (.seq (.seq (.region []) (.block (.loop [(13, (.val (.int .i64)))] [((.exit 0), []), (.ret, [(4, (.val .bool))])] (.seq (.region []) (.seq (.cond .leaf .leaf) (.seq (.block (.seq (.region []) (.seq (.region []) (.cond (.seq (.region []) .leaf) .leaf)))) (.region []))))))) (.seq (.region []) .leaf))))
noncomputable def run14 : Ks.den inst14.args → Ks.den inst14.objs → Option inst14.out.den := fun x _ => api_Ref_ x.1 x.2.1
theorem ev14 : ∀ x y, evFn fx13 26 (bodyOf Tryz.f14) [.tmp 4] hint14 inst14 x y = run14 x y := by intro x y; kernel_rfl
theorem ok14 : FnOK Tryz.prog fx13.glob 14 (inst14.sem run14) :=
  fn_add fx13_ok feMixed 14 Tryz.f14 [.tmp 4] hint14 inst14 26 run14 Tryz.func14 (by kernel_rfl) Tryz.ntmps14 (by kernel_rfl) (by kernel_rfl) ev14
noncomputable def fx14 : Ctx := fx13.add 14 (inst14.sem run14)
theorem fx14_ok : CtxOK fx14 Tryz.prog := add_ok fx13_ok ok14 Tryz.call14
def inst3 : Inst := { args := [(.val .str)], objs := [], nres := 1, out := [(90000, (.val .bool))], news := 0 }
def hint3 : HC := (.seq (.region []) (.seq (.seq (.region []) (.cond (.seq (.region []) .leaf) .leaf)) (.seq (.region []) (.seq (.region []) (.seq (.region []) (.seq (.seq (.region []) (.cond (.seq (.region []) .leaf) .leaf)) (.seq (.region []) (.seq (.seq (.region []) (.block (.loop [(8, (.own 15)), (50, (.val (.int .i64))), (100015, (.vec none (.pair .str (.pair (.int .i64) (.pair (.int .i64) (.pair (.int .i64) (.pair (.int .i64) (.pair (.int .i64) (.pair .bool (.pair .bool (.pair .bool (.pair .bool .unit))))))))))))] [((.exit 0), [(8, (.own 16)), (100016, (.vec none (.pair .str (.pair (.int .i64) (.pair (.int .i64) (.pair (.int .i64) (.pair (.int .i64) (.pair (.int .i64) (.pair .bool (.pair .bool (.pair .bool (.pair .bool .unit))))))))))))])] (.seq (.region []) (.seq (.cond .leaf .leaf) (.seq (.cut [(.normal, [(8, (.own 14)), (100014, (.vec none (.pair .str (.pair (.int .i64) (.pair (.int .i64) (.pair (.int .i64) (.pair (.int .i64) (.pair (.int .i64) (.pair .bool (.pair .bool (.pair .bool (.pair .bool .unit))))))))))))])] (.block (.seq (.region [{}, {}, { new := [10] }, { wr := [10] }]) (.seq (.region [{ rd := [10] }, { rd := [10] }]) (.cond (.seq (.region [{ rd := [10] }, { rd := [10] }, {}, {}, {}, {}, { new := [11] }, { wr := [11] }]) (.region [{}, { rd := [11] }, { new := [12] }, { rd := [12], wr := [15], new := [13] }])) .leaf))))) (.region []))))))) (.seq (.region [{}, {}, {}, {}, {}, {}, {}, {}, {}, {}, {}, {}, {}, {}, {}, { fz := [(82, 16)] }]) .leaf)))))))))
noncomputable def run3 : Ks.den inst3.args → Ks.den inst3.objs → Option inst3.out.den := fun x _ => chancerylaw2_ScanTokensMatch x.1
theorem ev3 : ∀ x y, evFn fx14 85 (bodyOf Tryz.f3) [.tmp 2] hint3 inst3 x y = run3 x y := by intro x y; kernel_rfl
theorem ok3 : FnOK Tryz.prog fx14.glob 3 (inst3.sem run3) :=
  fn_add fx14_ok feMixed 3 Tryz.f3 [.tmp 2] hint3 inst3 85 run3 Tryz.func3 (by kernel_rfl) Tryz.ntmps3 (by kernel_rfl) (by kernel_rfl) ev3
noncomputable def fx3 : Ctx := fx14.add 3 (inst3.sem run3)
theorem fx3_ok : CtxOK fx3 Tryz.prog := add_ok fx14_ok ok3 Tryz.call3
def inst58 : Inst := { args := [(.val (.pair .str (.pair (.int .i64) (.pair (.int .i64) (.pair (.int .i64) (.pair (.int .i64) (.pair (.int .i64) (.pair .bool (.pair .bool (.pair .bool (.pair .bool .unit))))))))))), (.ptr 0 0), (.ptr 1 0)], objs := [(.rcd (.cons (.val .str) .unit)), (.rcd (.cons (.val .str) .unit))], nres := 1, out := [(90000, (.val (.pair .str (.pair (.int .i64) (.pair (.int .i64) (.pair (.int .i64) (.pair (.int .i64) (.pair (.int .i64) (.pair .bool (.pair .bool (.pair .bool (.pair .bool .unit)))))))))))), (1, (.ptr 0 0)), (2, (.ptr 1 0)), (100000, (.rcd (.cons (.val .str) .unit))), (100001, (.rcd (.cons (.val .str) .unit)))], news := 0 }
def hint58 : HC := (.seq (.region [{ new := [12] }, { new := [13] }]) (.seq (.cut [(.normal, [(1, (.ptr 14 0)), (2, (.ptr 15 0)), (3, (.ptr 16 0)), (4, (.ptr 17 0)), (100014, (.rcd (.cons (.val .str) .unit))), (100015, (.rcd (.cons (.val .str) .unit))), (100016, (.rcd (.cons (.val .str) (.cons (.val (.int .i64)) (.cons (.val (.int .i64)) (.cons (.val (.int .i64)) (.cons (.val (.int .i64)) (.cons (.val (.int .i64)) (.cons (.val .bool) (.cons (.val .bool) (.cons (.val .bool) (.cons (.val .bool) .unit)))))))))))), (100017, (.rcd (.cons (.val .str) (.cons (.val (.int .i64)) (.cons (.val (.int .i64)) (.cons (.val (.int .i64)) (.cons (.val (.int .i64)) (.cons (.val (.int .i64)) (.cons (.val .bool) (.cons (.val .bool) (.cons (.val .bool) (.cons (.val .bool) .unit))))))))))))])] (.seq (.region [{ rd := [12] }, { rd := [12] }, { rd := [0] }]) (.cond (.region [{ rd := [1] }, { rd := [12] }, { wr := [12] }]) .leaf))) (.seq (.region [{ rd := [16] }, { wr := [17] }]) .leaf)))
noncomputable def run58 : Ks.den inst58.args → Ks.den inst58.objs → Option inst58.out.den := fun x y => fscan_Rename_1 x.1 y.1.1 y.2.1.1
theorem ev58 : ∀ x y, evFn fx3 12 (bodyOf Tryz.f58) [.cell 4 35] hint58 inst58 x y = run58 x y := by intro x y; kernel_rfl
theorem ok58 : FnOK Tryz.prog fx3.glob 58 (inst58.sem run58) :=
  fn_add fx3_ok feMixed 58 Tryz.f58 [.cell 4 35] hint58 inst58 12 run58 Tryz.func58 (by kernel_rfl) Tryz.ntmps58 (by kernel_rfl) (by kernel_rfl) ev58
noncomputable def fx58 : Ctx := fx3.add 58 (inst58.sem run58)
theorem fx58_ok : CtxOK fx58 Tryz.prog := add_ok fx3_ok ok58 Tryz.call58
def inst147 : Inst := { args := [(.val (.int .i64))], objs := [], nres := 1, out := [(90000, (.val .str))], news := 0 }
def hint147 : HC := (.seq (.region []) (.seq (.region []) (.seq (.seq (.region []) (.block (.loop [(3, (.val .str)), (4, (.val (.int .i64)))] [((.exit 0), [(3, (.val .str))])] (.seq (.seq (.region []) (.cond .leaf .leaf)) (.seq (.block (.region [{}, {}, {}, {}, {}, { new := [10] }, { rd := [10] }])) (.region [])))))) (.seq (.region []) .leaf))))
noncomputable def run147 : Ks.den inst147.args → Ks.den inst147.objs → Option inst147.out.den := fun x _ => cellref_letters x.1
theorem ev147 : ∀ x y, evFn fx58 22 (bodyOf Tryz.f147) [.tmp 2] hint147 inst147 x y = run147 x y := by intro x y; kernel_rfl
theorem ok147 : FnOK Tryz.prog fx58.glob 147 (inst147.sem run147) :=
  fn_add fx58_ok feMixed 147 Tryz.f147 [.tmp 2] hint147 inst147 22 run147 Tryz.func147 (by kernel_rfl) Tryz.ntmps147 (by kernel_rfl) (by kernel_rfl) ev147
noncomputable def fx147 : Ctx := fx58.add 147 (inst147.sem run147)
theorem fx147_ok : CtxOK fx147 Tryz.prog := add_ok fx58_ok ok147 Tryz.call147
def inst146 : Inst := { args := [(.val .bool), (.val .str)], objs := [], nres := 1, out := [(90000, (.val .str))], news := 0 }
def hint146 : HC := (.seq (.region []) (.seq (.seq (.region []) (.cond (.seq (.region []) .leaf) .leaf)) (.seq (.region []) .leaf)))
noncomputable def run146 : Ks.den inst146.args → Ks.den inst146.objs → Option inst146.out.den := fun x _ => cellref_dollar x.1 x.2.1
theorem ev146 : ∀ x y, evFn fx147 9 (bodyOf Tryz.f146) [.tmp 4] hint146 inst146 x y = run146 x y := by intro x y; kernel_rfl
theorem ok146 : FnOK Tryz.prog fx147.glob 146 (inst146.sem run146) :=
  fn_add fx147_ok feMixed 146 Tryz.f146 [.tmp 4] hint146 inst146 9 run146 Tryz.func146 (by kernel_rfl) Tryz.ntmps146 (by kernel_rfl) (by kernel_rfl) ev146
noncomputable def fx146 : Ctx := fx147.add 146 (inst146.sem run146)
theorem fx146_ok : CtxOK fx146 Tryz.prog := add_ok fx147_ok ok146 Tryz.call146
def inst131 : Inst := { args := [(.val (.int .i64)), (.val .bool)], objs := [], nres := 1, out := [(90000, (.val .str))], news := 0 }
def hint131 : HC := (.seq (.region []) (.seq (.region []) .leaf))
noncomputable def run131 : Ks.den inst131.args → Ks.den inst131.objs → Option inst131.out.den := fun x _ => cellref_col x.1 x.2.1
theorem ev131 : ∀ x y, evFn fx146 9 (bodyOf Tryz.f131) [.tmp 4] hint131 inst131 x y = run131 x y := by intro x y; kernel_rfl
theorem ok131 : FnOK Tryz.prog fx146.glob 131 (inst131.sem run131) :=
  fn_add fx146_ok feMixed 131 Tryz.f131 [.tmp 4] hint131 inst131 9 run131 Tryz.func131 (by kernel_rfl) Tryz.ntmps131 (by kernel_rfl) (by kernel_rfl) ev131
noncomputable def fx131 : Ctx := fx146.add 131 (inst131.sem run131)
theorem fx131_ok : CtxOK fx131 Tryz.prog := add_ok fx146_ok ok131 Tryz.call131
def inst132 : Inst := { args := [(.val (.int .i64)), (.val .bool)], objs := [], nres := 1, out := [(90000, (.val .str))], news := 0 }
def hint132 : HC := (.seq (.region []) (.seq (.region []) .leaf))
noncomputable def run132 : Ks.den inst132.args → Ks.den inst132.objs → Option inst132.out.den := fun x _ => cellref_row x.1 x.2.1
theorem ev132 : ∀ x y, evFn fx131 10 (bodyOf Tryz.f132) [.tmp 4] hint132 inst132 x y = run132 x y := by intro x y; kernel_rfl
theorem ok132 : FnOK Tryz.prog fx131.glob 132 (inst132.sem run132) :=
  fn_add fx131_ok feMixed 132 Tryz.f132 [.tmp 4] hint132 inst132 10 run132 Tryz.func132 (by kernel_rfl) Tryz.ntmps132 (by kernel_rfl) (by kernel_rfl) ev132
noncomputable def fx132 : Ctx := fx131.add 132 (inst132.sem run132)
theorem fx132_ok : CtxOK fx132 Tryz.prog := add_ok fx131_ok ok132 Tryz.call132
def inst101 : Inst := { args := [(.val (.pair .str (.pair (.int .i64) (.pair (.int .i64) (.pair (.int .i64) (.pair (.int .i64) (.pair (.int .i64) (.pair .bool (.pair .bool (.pair .bool (.pair .bool .unit)))))))))))], objs := [], nres := 2, out := [(90000, (.val .str)), (90001, (.val (.int .i64)))], news := 0 }
def hint101 : HC := (.seq (.region [{ new := [10] }]) (.seq (.seq (.region [{ rd := [10] }]) (.seq (.region []) (.cond (.seq (.region []) .leaf) .leaf))) (.seq (.region []) (.seq (.cut [(.normal, [(1, (.ptr 11 0)), (5, (.val .str)), (100011, (.rcd (.cons (.val .str) (.cons (.val (.int .i64)) (.cons (.val (.int .i64)) (.cons (.val (.int .i64)) (.cons (.val (.int .i64)) (.cons (.val (.int .i64)) (.cons (.val .bool) (.cons (.val .bool) (.cons (.val .bool) (.cons (.val .bool) .unit))))))))))))])] (.seq (.region [{ rd := [10] }, { rd := [10] }]) (.cond (.seq (.region [{ rd := [10] }, { rd := [10] }]) (.seq (.region [{ rd := [10] }, { rd := [10] }]) (.cond (.region [{ rd := [10] }, { rd := [10] }]) .leaf))) .leaf))) (.seq (.seq (.region [{ rd := [11] }, { rd := [11] }]) (.block (.seq (.region []) (.cond (.seq (.region [{}, { rd := [11] }, { rd := [11] }, { rd := [11] }, { rd := [11] }, {}, {}, { rd := [11] }, { rd := [11] }, { rd := [11] }, { rd := [11] }]) .leaf) (.seq (.region []) (.cond (.seq (.region [{}, { rd := [11] }, { rd := [11] }, { rd := [11] }, { rd := [11] }, {}, {}, { rd := [11] }, { rd := [11] }, { rd := [11] }, { rd := [11] }, {}, {}, {}, { rd := [11] }, { rd := [11] }, { rd := [11] }, { rd := [11] }, {}, {}, { rd := [11] }, { rd := [11] }, { rd := [11] }, { rd := [11] }]) .leaf) (.seq (.region []) (.cond (.seq (.region [{}, { rd := [11] }, { rd := [11] }, { rd := [11] }, { rd := [11] }, {}, {}, {}, { rd := [11] }, { rd := [11] }, { rd := [11] }, { rd := [11] }]) .leaf) (.seq (.region []) (.cond (.seq (.region [{}, { rd := [11] }, { rd := [11] }, { rd := [11] }, { rd := [11] }, {}, {}, {}, { rd := [11] }, { rd := [11] }, { rd := [11] }, { rd := [11] }]) .leaf) .leaf)))))))))) (.seq (.region []) .leaf))))))
noncomputable def run101 : Ks.den inst101.args → Ks.den inst101.objs → Option inst101.out.den := fun x _ => cellref_Print x.1
theorem ev101 : ∀ x y, evFn fx132 103 (bodyOf Tryz.f101) [.tmp 2, .tmp 3] hint101 inst101 x y = run101 x y := by intro x y; kernel_rfl
theorem ok101 : FnOK Tryz.prog fx132.glob 101 (inst101.sem run101) :=
  fn_add fx132_ok feMixed 101 Tryz.f101 [.tmp 2, .tmp 3] hint101 inst101 103 run101 Tryz.func101 (by kernel_rfl) Tryz.ntmps101 (by kernel_rfl) (by kernel_rfl) ev101
noncomputable def fx101 : Ctx := fx132.add 101 (inst101.sem run101)
theorem fx101_ok : CtxOK fx101 Tryz.prog := add_ok fx132_ok ok101 Tryz.call101
def inst65 : Inst := { args := [(.ptr 0 0), (.val .str)], objs := [(.rcd (.cons (.adr 0 85) (.cons (.brow 1) .unit))), (.vec none (.int .u8))], nres := 2, out := [(90000, (.val (.int .i64))), (90001, (.val .err)), (0, (.ptr 0 0)), (100000, (.rcd (.cons (.adr 0 85) (.cons (.brow 2) .unit)))), (100002, (.vec none (.int .u8)))], news := 1 }
def hint65 : HC := (.seq (.region []) (.seq (.region [{}, { wr := [0, 1] }]) (.seq (.region [{}, {}, { rd := [0] }, { rd := [0] }, { rd := [0] }, {}, { wr := [1], new := [12] }, { rd := [0] }, { rd := [0] }, { rd := [12], wr := [0] }]) (.seq (.region []) .leaf))))
noncomputable def run65 : Ks.den inst65.args → Ks.den inst65.objs → Option inst65.out.den := fun x y => _strings_Builder__WriteString x.2.1 y.2.1
theorem ev65 : ∀ x y, evFn fx101 19 (bodyOf Tryz.f65) [.tmp 4, .tmp 5] hint65 inst65 x y = run65 x y := by intro x y; kernel_rfl
theorem ok65 : FnOK Tryz.prog fx101.glob 65 (inst65.sem run65) :=
  fn_add fx101_ok feMixed 65 Tryz.f65 [.tmp 4, .tmp 5] hint65 inst65 19 run65 Tryz.func65 (by kernel_rfl) Tryz.ntmps65 (by kernel_rfl) (by kernel_rfl) ev65
noncomputable def fx65 : Ctx := fx101.add 65 (inst65.sem run65)
theorem fx65_ok : CtxOK fx65 Tryz.prog := add_ok fx101_ok ok65 Tryz.call65
def inst45 : Inst := { args := [(.val .str), (.fn 58 (.cons (.ptr 0 0) (.cons (.ptr 1 0) .unit)))], objs := [(.rcd (.cons (.val .str) .unit)), (.rcd (.cons (.val .str) .unit))], nres := 1, out := [(90000, (.val .str)), (1, (.fn 58 (.cons (.ptr 0 0) (.cons (.ptr 1 0) .unit)))), (100000, (.rcd (.cons (.val .str) .unit))), (100001, (.rcd (.cons (.val .str) .unit)))], news := 0 }
def hint45 : HC := (.seq (.region []) (.seq (.region []) (.seq (.seq (.region []) (.cond (.seq (.region []) .leaf) .leaf)) (.seq (.region [{}, { new := [12, 13] }, { wr := [12, 13], new := [14] }]) (.seq (.region [{ wr := [12, 14], new := [15] }]) (.seq (.seq (.region []) (.block (.loop [(1, (.fn 58 (.cons (.ptr 16 0) (.cons (.ptr 17 0) .unit)))), (8, (.ptr 18 0)), (27, (.val (.int .i64))), (100016, (.rcd (.cons (.val .str) .unit))), (100017, (.rcd (.cons (.val .str) .unit))), (100018, (.rcd (.cons (.adr 18 85) (.cons (.brow 19) .unit)))), (100019, (.vec none (.int .u8)))] [((.exit 0), [(1, (.fn 58 (.cons (.ptr 29 0) (.cons (.ptr 30 0) .unit)))), (8, (.ptr 31 0)), (100029, (.rcd (.cons (.val .str) .unit))), (100030, (.rcd (.cons (.val .str) .unit))), (100031, (.rcd (.cons (.adr 31 85) (.cons (.brow 32) .unit)))), (100032, (.vec none (.int .u8)))])] (.seq (.region []) (.seq (.cond .leaf .leaf) (.seq (.block (.seq (.region [{}, {}, { new := [20] }, { wr := [20] }]) (.seq (.cut [(.normal, [(1, (.fn 58 (.cons (.ptr 23 0) (.cons (.ptr 24 0) .unit)))), (8, (.ptr 25 0)), (10, (.ptr 26 0)), (100023, (.rcd (.cons (.val .str) .unit))), (100024, (.rcd (.cons (.val .str) .unit))), (100025, (.rcd (.cons (.adr 25 85) (.cons (.brow 27) .unit)))), (100026, (.rcd (.cons (.val (.int .i64)) (.cons (.val .str) .unit)))), (100027, (.vec none (.int .u8)))])] (.seq (.region [{ rd := [20] }, { rd := [20] }]) (.cond (.seq (.region [{ rd := [20] }, { rd := [20] }, {}, {}, {}, {}, { new := [21] }, { wr := [21] }]) (.seq (.region [{}, { rd := [21] }, { wr := [16, 17] }, { new := [22] }, { wr := [22] }]) (.seq (.region [{ rd := [22] }, { rd := [21] }]) (.cond (.region [{ rd := [22] }, {}, {}, {}, {}, { rd := [20] }, { wr := [20] }]) .leaf)))) .leaf))) (.region [{ rd := [26] }, { rd := [26] }, { wr := [25, 27], new := [28] }])))) (.region []))))))) (.seq (.region [{ wr := [31, 32] }]) .leaf)))))))
noncomputable def run45 : Ks.den inst45.args → Ks.den inst45.objs → Option inst45.out.den := fun x y => fscan_replaced_Rename_1 x.1 y.1.1 y.2.1.1
theorem ev45 : ∀ x y, evFn fx65 57 (bodyOf Tryz.f45) [.tmp 4] hint45 inst45 x y = run45 x y := by intro x y; kernel_rfl
theorem ok45 : FnOK Tryz.prog fx65.glob 45 (inst45.sem run45) :=
  fn_add fx65_ok feMixed 45 Tryz.f45 [.tmp 4] hint45 inst45 57 run45 Tryz.func45 (by kernel_rfl) Tryz.ntmps45 (by kernel_rfl) (by kernel_rfl) ev45
noncomputable def fx45 : Ctx := fx65.add 45 (inst45.sem run45)
theorem fx45_ok : CtxOK fx45 Tryz.prog := add_ok fx65_ok ok45 Tryz.call45
def inst28 : Inst := { args := [(.val .str), (.val .str), (.val .str)], objs := [], nres := 2, out := [(90000, (.val .str)), (90001, (.val (.int .i64)))], news := 0 }
def hint28 : HC := (.seq (.region [{ new := [10] }, { new := [11] }]) (.seq (.seq (.cut [(.normal, [(4, (.ptr 12 0)), (5, (.ptr 13 0)), (14, (.val .bool)), (100012, (.rcd (.cons (.val .str) .unit))), (100013, (.rcd (.cons (.val .str) .unit)))])] (.region [{ rd := [10] }, {}, {}, { rd := [11] }])) (.cond (.seq (.region []) .leaf) .leaf)) (.seq (.seq (.region [{ rd := [13] }]) (.seq (.region []) (.cond (.seq (.region []) .leaf) .leaf))) (.seq (.region [{}, {}, { wr := [12, 13] }]) .leaf))))
noncomputable def run28 : Ks.den inst28.args → Ks.den inst28.objs → Option inst28.out.den := fun x _ => fscan_Rename x.1 x.2.1 x.2.2.1
theorem ev28 : ∀ x y, evFn fx45 24 (bodyOf Tryz.f28) [.tmp 6, .tmp 7] hint28 inst28 x y = run28 x y := by intro x y; kernel_rfl
theorem ok28 : FnOK Tryz.prog fx45.glob 28 (inst28.sem run28) :=
  fn_add fx45_ok feMixed 28 Tryz.f28 [.tmp 6, .tmp 7] hint28 inst28 24 run28 Tryz.func28 (by kernel_rfl) Tryz.ntmps28 (by kernel_rfl) (by kernel_rfl) ev28
noncomputable def fx28 : Ctx := fx45.add 28 (inst28.sem run28)
theorem fx28_ok : CtxOK fx28 Tryz.prog := add_ok fx45_ok ok28 Tryz.call28
def inst30 : Inst := { args := [(.val (.pair .str (.pair (.int .i64) (.pair (.int .i64) (.pair (.int .i64) (.pair (.int .i64) (.pair (.int .i64) (.pair .bool (.pair .bool (.pair .bool (.pair .bool .unit))))))))))), (.ptr 0 0), (.ptr 1 0)], objs := [(.rcd (.cons (.val .str) .unit)), (.rcd (.cons (.val .str) .unit))], nres := 1, out := [(90000, (.val (.pair .str (.pair (.int .i64) (.pair (.int .i64) (.pair (.int .i64) (.pair (.int .i64) (.pair (.int .i64) (.pair .bool (.pair .bool (.pair .bool (.pair .bool .unit)))))))))))), (1, (.ptr 0 0)), (2, (.ptr 1 0)), (100000, (.rcd (.cons (.val .str) .unit))), (100001, (.rcd (.cons (.val .str) .unit)))], news := 0 }
def hint30 : HC := (.seq (.region [{ new := [12] }, { new := [13] }]) (.seq (.cut [(.normal, [(1, (.ptr 14 0)), (2, (.ptr 15 0)), (3, (.ptr 16 0)), (4, (.ptr 17 0)), (100014, (.rcd (.cons (.val .str) .unit))), (100015, (.rcd (.cons (.val .str) .unit))), (100016, (.rcd (.cons (.val .str) (.cons (.val (.int .i64)) (.cons (.val (.int .i64)) (.cons (.val (.int .i64)) (.cons (.val (.int .i64)) (.cons (.val (.int .i64)) (.cons (.val .bool) (.cons (.val .bool) (.cons (.val .bool) (.cons (.val .bool) .unit)))))))))))), (100017, (.rcd (.cons (.val .str) (.cons (.val (.int .i64)) (.cons (.val (.int .i64)) (.cons (.val (.int .i64)) (.cons (.val (.int .i64)) (.cons (.val (.int .i64)) (.cons (.val .bool) (.cons (.val .bool) (.cons (.val .bool) (.cons (.val .bool) .unit))))))))))))])] (.seq (.region [{ rd := [12] }, { rd := [12] }, { rd := [0] }]) (.cond (.region [{ rd := [1] }, { rd := [12] }, { wr := [12] }]) .leaf))) (.seq (.region [{ rd := [16] }, { wr := [17] }]) .leaf)))
noncomputable def run30 : Ks.den inst30.args → Ks.den inst30.objs → Option inst30.out.den := fun x y => chancerylaw2_ScanRenames_1 x.1 y.1.1 y.2.1.1
theorem ev30 : ∀ x y, evFn fx28 12 (bodyOf Tryz.f30) [.cell 4 35] hint30 inst30 x y = run30 x y := by intro x y; kernel_rfl
theorem ok30 : FnOK Tryz.prog fx28.glob 30 (inst30.sem run30) :=
  fn_add fx28_ok feMixed 30 Tryz.f30 [.cell 4 35] hint30 inst30 12 run30 Tryz.func30 (by kernel_rfl) Tryz.ntmps30 (by kernel_rfl) (by kernel_rfl) ev30
noncomputable def fx30 : Ctx := fx28.add 30 (inst30.sem run30)
theorem fx30_ok : CtxOK fx30 Tryz.prog := add_ok fx28_ok ok30 Tryz.call30
def inst104 : Inst := { args := [(.val (.int .i64))], objs := [], nres := 1, out := [(90000, (.val .str))], news := 0 }
def hint104 : HC := (.seq (.region []) (.seq (.region []) (.seq (.block (.loop [(0, (.val (.int .i64))), (3, (.val (.int .i64))), (4, (.val (.int .i64)))] [((.exit 0), [(0, (.val (.int .i64))), (3, (.val (.int .i64)))])] (.seq (.seq (.region []) (.cond .leaf .leaf)) (.block (.seq (.region []) (.seq (.region []) (.region []))))))) (.seq (.region [{}, { new := [10] }]) (.seq (.seq (.region []) (.block (.loop [(0, (.val (.int .i64))), (5, (.own 11)), (6, (.val (.int .i64))), (100011, (.vec none (.int .u8)))] [((.exit 2), [(5, (.own 12)), (100012, (.vec none (.int .u8)))])] (.seq (.seq (.region []) (.cond .leaf .leaf)) (.seq (.block (.seq (.region [{}, {}, {}, {}, {}, {}, { rd := [11] }, { wr := [11] }]) (.region []))) (.region [])))))) (.seq (.region [{}, { rd := [12] }]) .leaf))))))
noncomputable def run104 : Ks.den inst104.args → Ks.den inst104.objs → Option inst104.out.den := fun x _ => chanceryref2_Letters x.1
theorem ev104 : ∀ x y, evFn fx30 36 (bodyOf Tryz.f104) [.tmp 2] hint104 inst104 x y = run104 x y := by intro x y; kernel_rfl
theorem ok104 : FnOK Tryz.prog fx30.glob 104 (inst104.sem run104) :=
  fn_add fx30_ok feMixed 104 Tryz.f104 [.tmp 2] hint104 inst104 36 run104 Tryz.func104 (by kernel_rfl) Tryz.ntmps104 (by kernel_rfl) (by kernel_rfl) ev104
noncomputable def fx104 : Ctx := fx30.add 104 (inst104.sem run104)
theorem fx104_ok : CtxOK fx104 Tryz.prog := add_ok fx30_ok ok104 Tryz.call104
def inst103 : Inst := { args := [(.val .str), (.val .bool)], objs := [], nres := 1, out := [(90000, (.val .str))], news := 0 }
def hint103 : HC := (.seq (.region []) (.seq (.seq (.region []) (.cond (.seq (.region []) .leaf) .leaf)) (.seq (.region []) .leaf)))
noncomputable def run103 : Ks.den inst103.args → Ks.den inst103.objs → Option inst103.out.den := fun x _ => chanceryref2_mark x.1 x.2.1
theorem ev103 : ∀ x y, evFn fx104 9 (bodyOf Tryz.f103) [.tmp 4] hint103 inst103 x y = run103 x y := by intro x y; kernel_rfl
theorem ok103 : FnOK Tryz.prog fx104.glob 103 (inst103.sem run103) :=
  fn_add fx104_ok feMixed 103 Tryz.f103 [.tmp 4] hint103 inst103 9 run103 Tryz.func103 (by kernel_rfl) Tryz.ntmps103 (by kernel_rfl) (by kernel_rfl) ev103
noncomputable def fx103 : Ctx := fx104.add 103 (inst103.sem run103)
theorem fx103_ok : CtxOK fx103 Tryz.prog := add_ok fx104_ok ok103 Tryz.call103
def inst105 : Inst := { args := [(.val (.int .i64))], objs := [], nres := 1, out := [(90000, (.val .str))], news := 0 }
def hint105 : HC := (.seq (.region []) (.seq (.seq (.region []) (.cond (.seq (.region [{}, {}, {}, {}, {}, {}, {}, { new := [10] }, { rd := [10] }]) .leaf) .leaf)) (.seq (.seq (.region []) (.cond (.seq (.region [{}, {}, {}, { new := [11] }, { rd := [11] }]) .leaf) .leaf)) (.seq (.seq (.region []) (.cond (.seq (.region [{}, {}, {}, {}, {}, {}, {}, { new := [12] }, { rd := [12] }]) .leaf) .leaf)) (.seq (.region [{}, {}, {}, { new := [13] }, { rd := [13] }]) .leaf)))))
noncomputable def run105 (m : Nat) : Ks.den inst105.args → Ks.den inst105.objs → Option inst105.out.den := fun x _ => chanceryref2_Decimal_f m x.1
theorem ev105 : ∀ m x y, evFn (fx103.add 105 (inst105.sem (run105 m))) 40 (bodyOf Tryz.f105) [.tmp 2] hint105 inst105 x y = run105 (m + 1) x y := by intro m x y; kernel_rfl
theorem ok105 : ∀ m, FnOK Tryz.prog fx103.glob 105 (inst105.sem (run105 m)) :=
  fn_rec fx103_ok feMixed 105 Tryz.f105 [.tmp 2] hint105 inst105 40 run105 Tryz.func105 (by kernel_rfl) Tryz.ntmps105 (by kernel_rfl) (by kernel_rfl) Tryz.call105 (fun _ _ => rfl) ev105
noncomputable def fx105 : Ctx := fx103.add 105 (inst105.sem (run105 rounds))
theorem fx105_ok : CtxOK fx105 Tryz.prog := add_ok fx103_ok (ok105 rounds) Tryz.call105
def inst50 : Inst := { args := [(.val (.pair .str (.pair (.int .i64) (.pair (.int .i64) (.pair (.int .i64) (.pair (.int .i64) (.pair (.int .i64) (.pair .bool (.pair .bool (.pair .bool (.pair .bool .unit)))))))))))], objs := [], nres := 1, out := [(90000, (.val .str))], news := 0 }
def hint50 : HC := (.seq (.region [{ new := [10] }]) (.seq (.seq (.region [{ rd := [10] }, { rd := [10] }]) (.cond (.seq (.region []) .leaf) .leaf)) (.seq (.region []) (.seq (.cut [(.normal, [(1, (.ptr 15 0)), (3, (.val .str)), (100015, (.rcd (.cons (.val .str) (.cons (.val (.int .i64)) (.cons (.val (.int .i64)) (.cons (.val (.int .i64)) (.cons (.val (.int .i64)) (.cons (.val (.int .i64)) (.cons (.val .bool) (.cons (.val .bool) (.cons (.val .bool) (.cons (.val .bool) .unit))))))))))))])] (.seq (.region [{ rd := [10] }, { rd := [10] }]) (.cond (.seq (.region [{ rd := [10] }, { rd := [10] }]) (.seq (.cut [(.normal, [(1, (.ptr 14 0)), (3, (.val .str)), (100014, (.rcd (.cons (.val .str) (.cons (.val (.int .i64)) (.cons (.val (.int .i64)) (.cons (.val (.int .i64)) (.cons (.val (.int .i64)) (.cons (.val (.int .i64)) (.cons (.val .bool) (.cons (.val .bool) (.cons (.val .bool) (.cons (.val .bool) .unit))))))))))))])] (.seq (.region []) (.cond (.seq (.region []) (.seq (.seq (.region [{ rd := [10] }, { rd := [10] }]) (.block (.loop [(1, (.ptr 11 0)), (3, (.val .str)), (20, (.val (.int .i64))), (100011, (.rcd (.cons (.val .str) (.cons (.val (.int .i64)) (.cons (.val (.int .i64)) (.cons (.val (.int .i64)) (.cons (.val (.int .i64)) (.cons (.val (.int .i64)) (.cons (.val .bool) (.cons (.val .bool) (.cons (.val .bool) (.cons (.val .bool) .unit))))))))))))] [((.exit 0), [(1, (.ptr 13 0)), (3, (.val .str)), (100013, (.rcd (.cons (.val .str) (.cons (.val (.int .i64)) (.cons (.val (.int .i64)) (.cons (.val (.int .i64)) (.cons (.val (.int .i64)) (.cons (.val (.int .i64)) (.cons (.val .bool) (.cons (.val .bool) (.cons (.val .bool) (.cons (.val .bool) .unit))))))))))))])] (.seq (.region []) (.seq (.cond .leaf .leaf) (.seq (.cut [(.normal, [(1, (.ptr 12 0)), (3, (.val .str)), (100012, (.rcd (.cons (.val .str) (.cons (.val (.int .i64)) (.cons (.val (.int .i64)) (.cons (.val (.int .i64)) (.cons (.val (.int .i64)) (.cons (.val (.int .i64)) (.cons (.val .bool) (.cons (.val .bool) (.cons (.val .bool) (.cons (.val .bool) .unit))))))))))))])] (.block (.seq (.region []) (.seq (.region [{}, { rd := [11] }, { rd := [11] }]) (.seq (.region [{ rd := [11] }, { rd := [11] }]) (.cond (.region []) .leaf)))))) (.region []))))))) (.region []))) .leaf))) (.region []))) .leaf))) (.seq (.region [{ new := [16] }]) (.seq (.cut [(.normal, [(1, (.ptr 17 0)), (5, (.ptr 18 0)), (100017, (.rcd (.cons (.val .str) (.cons (.val (.int .i64)) (.cons (.val (.int .i64)) (.cons (.val (.int .i64)) (.cons (.val (.int .i64)) (.cons (.val (.int .i64)) (.cons (.val .bool) (.cons (.val .bool) (.cons (.val .bool) (.cons (.val .bool) .unit)))))))))))), (100018, (.vec (some 2) .str))])] (.seq (.region [{ rd := [15] }, { rd := [15] }]) (.cond (.seq (.region [{ rd := [15] }, { rd := [15] }, {}, { rd := [15] }, { rd := [15] }, {}, { rd := [16] }, { wr := [16] }]) (.region [{ rd := [15] }, { rd := [15] }, {}, { rd := [15] }, { rd := [15] }, {}, { rd := [16] }, { wr := [16] }])) .leaf))) (.seq (.cut [(.normal, [(1, (.ptr 19 0)), (5, (.ptr 20 0)), (100019, (.rcd (.cons (.val .str) (.cons (.val (.int .i64)) (.cons (.val (.int .i64)) (.cons (.val (.int .i64)) (.cons (.val (.int .i64)) (.cons (.val (.int .i64)) (.cons (.val .bool) (.cons (.val .bool) (.cons (.val .bool) (.cons (.val .bool) .unit)))))))))))), (100020, (.vec (some 2) .str))])] (.seq (.region [{ rd := [17] }, { rd := [17] }]) (.cond (.seq (.region [{ rd := [18] }, { rd := [18] }, { rd := [17] }, { rd := [17] }, {}, {}, { rd := [17] }, { rd := [17] }, {}, {}, { rd := [18] }, { wr := [18] }]) (.region [{ rd := [18] }, { rd := [18] }, { rd := [17] }, { rd := [17] }, {}, {}, { rd := [17] }, { rd := [17] }, {}, {}, { rd := [18] }, { wr := [18] }])) .leaf))) (.seq (.seq (.region [{ rd := [19] }, { rd := [19] }]) (.cond (.seq (.region [{}, { rd := [20] }, { rd := [20] }]) .leaf) .leaf)) (.seq (.region [{}, { rd := [20] }, { rd := [20] }, {}, {}, { rd := [20] }, { rd := [20] }]) .leaf)))))))))
noncomputable def run50 : Ks.den inst50.args → Ks.den inst50.objs → Option inst50.out.den := fun x _ => chanceryref2_RefText x.1
theorem ev50 : ∀ x y, evFn fx105 100 (bodyOf Tryz.f50) [.tmp 2] hint50 inst50 x y = run50 x y := by intro x y; kernel_rfl
theorem ok50 : FnOK Tryz.prog fx105.glob 50 (inst50.sem run50) :=
  fn_add fx105_ok feMixed 50 Tryz.f50 [.tmp 2] hint50 inst50 100 run50 Tryz.func50 (by kernel_rfl) Tryz.ntmps50 (by kernel_rfl) (by kernel_rfl) ev50
noncomputable def fx50 : Ctx := fx105.add 50 (inst50.sem run50)
theorem fx50_ok : CtxOK fx50 Tryz.prog := add_ok fx105_ok ok50 Tryz.call50
def inst18 : Inst := { args := [(.val .str), (.fn 30 (.cons (.ptr 0 0) (.cons (.ptr 1 0) .unit)))], objs := [(.rcd (.cons (.val .str) .unit)), (.rcd (.cons (.val .str) .unit))], nres := 1, out := [(90000, (.val .str)), (1, (.fn 30 (.cons (.ptr 0 0) (.cons (.ptr 1 0) .unit)))), (100000, (.rcd (.cons (.val .str) .unit))), (100001, (.rcd (.cons (.val .str) .unit)))], news := 0 }
def hint18 : HC := (.seq (.region []) (.seq (.region []) (.seq (.seq (.region []) (.cond (.seq (.region []) .leaf) .leaf)) (.seq (.region []) (.seq (.seq (.region []) (.block (.loop [(1, (.fn 30 (.cons (.ptr 12 0) (.cons (.ptr 13 0) .unit)))), (7, (.val .str)), (23, (.val (.int .i64))), (100012, (.rcd (.cons (.val .str) .unit))), (100013, (.rcd (.cons (.val .str) .unit)))] [((.exit 0), [(1, (.fn 30 (.cons (.ptr 20 0) (.cons (.ptr 21 0) .unit)))), (7, (.val .str)), (100020, (.rcd (.cons (.val .str) .unit))), (100021, (.rcd (.cons (.val .str) .unit)))])] (.seq (.region []) (.seq (.cond .leaf .leaf) (.seq (.block (.seq (.region [{}, {}, { new := [14] }, { wr := [14] }]) (.seq (.cut [(.normal, [(1, (.fn 30 (.cons (.ptr 17 0) (.cons (.ptr 18 0) .unit)))), (9, (.ptr 19 0)), (100017, (.rcd (.cons (.val .str) .unit))), (100018, (.rcd (.cons (.val .str) .unit))), (100019, (.rcd (.cons (.val (.int .i64)) (.cons (.val .str) .unit))))])] (.seq (.region [{ rd := [14] }, { rd := [14] }]) (.cond (.seq (.region [{ rd := [14] }, { rd := [14] }, {}, {}, {}, {}, { new := [15] }, { wr := [15] }]) (.seq (.region [{}, { rd := [15] }, { wr := [12, 13] }, { new := [16] }, { wr := [16] }]) (.seq (.region [{ rd := [16] }, { rd := [15] }]) (.cond (.region [{ rd := [16] }, {}, { rd := [14] }, { wr := [14] }]) .leaf)))) .leaf))) (.region [{}, { rd := [19] }, { rd := [19] }])))) (.region []))))))) (.seq (.region []) .leaf))))))
noncomputable def run18 : Ks.den inst18.args → Ks.den inst18.objs → Option inst18.out.den := fun x y => chanceryref2_Rewritten_ScanRenames_1 x.1 y.1.1 y.2.1.1
theorem ev18 : ∀ x y, evFn fx50 51 (bodyOf Tryz.f18) [.tmp 4] hint18 inst18 x y = run18 x y := by intro x y; kernel_rfl
theorem ok18 : FnOK Tryz.prog fx50.glob 18 (inst18.sem run18) :=
  fn_add fx50_ok feMixed 18 Tryz.f18 [.tmp 4] hint18 inst18 51 run18 Tryz.func18 (by kernel_rfl) Tryz.ntmps18 (by kernel_rfl) (by kernel_rfl) ev18
noncomputable def fx18 : Ctx := fx50.add 18 (inst18.sem run18)
theorem fx18_ok : CtxOK fx18 Tryz.prog := add_ok fx50_ok ok18 Tryz.call18
def inst61 : Inst := { args := [(.val .str)], objs := [], nres := 1, out := [(90000, (.val .bool))], news := 0 }
def hint61 : HC := (.seq (.region []) (.seq (.region []) .leaf))
noncomputable def run61 : Ks.den inst61.args → Ks.den inst61.objs → Option inst61.out.den := fun x _ => fscan_named x.1
theorem ev61 : ∀ x y, evFn fx18 33 (bodyOf Tryz.f61) [.tmp 2] hint61 inst61 x y = run61 x y := by intro x y; kernel_rfl
theorem ok61 : FnOK Tryz.prog fx18.glob 61 (inst61.sem run61) :=
  fn_add fx18_ok feMixed 61 Tryz.f61 [.tmp 2] hint61 inst61 33 run61 Tryz.func61 (by kernel_rfl) Tryz.ntmps61 (by kernel_rfl) (by kernel_rfl) ev61
noncomputable def fx61 : Ctx := fx18.add 61 (inst61.sem run61)
theorem fx61_ok : CtxOK fx61 Tryz.prog := add_ok fx18_ok ok61 Tryz.call61
def inst31 : Inst := { args := [(.val .str), (.val .str), (.val .str)], objs := [], nres := 2, out := [(90000, (.val .str)), (90001, (.val (.int .i64)))], news := 0 }
def hint31 : HC := (.seq (.region []) (.seq (.seq (.cut [(.normal, [(22, (.val .bool))])] (.region [])) (.cond (.seq (.region []) .leaf) .leaf)) (.seq (.region []) (.seq (.seq (.region []) (.cond (.seq (.region []) .leaf) .leaf)) (.seq (.region [{}, { new := [10, 11] }, { wr := [10, 11], new := [12] }]) (.seq (.region [{ wr := [10, 12], new := [13] }]) (.seq (.seq (.region []) (.block (.loop [(11, (.ptr 14 0)), (36, (.val (.int .i64))), (100014, (.rcd (.cons (.adr 14 85) (.cons (.brow 15) .unit)))), (100015, (.vec none (.int .u8)))] [((.exit 0), [(11, (.ptr 27 0)), (100027, (.rcd (.cons (.adr 27 85) (.cons (.brow 28) .unit)))), (100028, (.vec none (.int .u8)))])] (.seq (.region []) (.seq (.cond .leaf .leaf) (.seq (.block (.seq (.region [{}, {}, { new := [16] }, { wr := [16] }]) (.seq (.region [{ rd := [16] }, { rd := [16] }]) (.seq (.cut [(.normal, [(11, (.ptr 17 0)), (13, (.ptr 18 0)), (14, (.val .str)), (100017, (.rcd (.cons (.adr 17 85) (.cons (.brow 19) .unit)))), (100018, (.rcd (.cons (.val (.int .i64)) (.cons (.val .str) .unit)))), (100019, (.vec none (.int .u8)))])] (.seq (.region [{ rd := [16] }, { rd := [16] }]) (.cond (.region []) .leaf))) (.seq (.cut [(.normal, [(11, (.ptr 23 0)), (13, (.ptr 24 0)), (100023, (.rcd (.cons (.adr 23 85) (.cons (.brow 25) .unit)))), (100024, (.rcd (.cons (.val (.int .i64)) (.cons (.val .str) .unit)))), (100025, (.vec none (.int .u8)))])] (.seq (.cut [(.normal, [(11, (.ptr 20 0)), (13, (.ptr 21 0)), (61, (.val .bool)), (100020, (.rcd (.cons (.adr 20 85) (.cons (.brow 22) .unit)))), (100021, (.rcd (.cons (.val (.int .i64)) (.cons (.val .str) .unit)))), (100022, (.vec none (.int .u8)))])] (.region [{ rd := [18] }, { rd := [18] }, {}, {}, { rd := [18] }, { rd := [18] }])) (.cond (.region [{}, { rd := [21] }, { rd := [21] }, {}, {}, {}, {}, { rd := [21] }, { wr := [21] }]) .leaf))) (.region [{ rd := [24] }, { rd := [24] }, { wr := [23, 25], new := [26] }])))))) (.region []))))))) (.seq (.region [{ wr := [27, 28] }]) .leaf))))))))
noncomputable def run31 : Ks.den inst31.args → Ks.den inst31.objs → Option inst31.out.den := fun x _ => fscan_RenameName x.1 x.2.1 x.2.2.1
theorem ev31 : ∀ x y, evFn fx61 75 (bodyOf Tryz.f31) [.tmp 6, .tmp 7] hint31 inst31 x y = run31 x y := by intro x y; kernel_rfl
theorem ok31 : FnOK Tryz.prog fx61.glob 31 (inst31.sem run31) :=
  fn_add fx61_ok feMixed 31 Tryz.f31 [.tmp 6, .tmp 7] hint31 inst31 75 run31 Tryz.func31 (by kernel_rfl) Tryz.ntmps31 (by kernel_rfl) (by kernel_rfl) ev31
noncomputable def fx31 : Ctx := fx61.add 31 (inst31.sem run31)
theorem fx31_ok : CtxOK fx31 Tryz.prog := add_ok fx61_ok ok31 Tryz.call31
def inst68 : Inst := { args := [(.val (.int .u8))], objs := [], nres := 1, out := [(90000, (.val .bool))], news := 0 }
def hint68 : HC := (.seq (.region []) (.seq (.region []) .leaf))
noncomputable def run68 : Ks.den inst68.args → Ks.den inst68.objs → Option inst68.out.den := fun x _ => chanceryref2_NameForm_1 x.1
theorem ev68 : ∀ x y, evFn fx31 17 (bodyOf Tryz.f68) [.tmp 2] hint68 inst68 x y = run68 x y := by intro x y; kernel_rfl
theorem ok68 : FnOK Tryz.prog fx31.glob 68 (inst68.sem run68) :=
  fn_add fx31_ok feMixed 68 Tryz.f68 [.tmp 2] hint68 inst68 17 run68 Tryz.func68 (by kernel_rfl) Tryz.ntmps68 (by kernel_rfl) (by kernel_rfl) ev68
noncomputable def fx68 : Ctx := fx31.add 68 (inst68.sem run68)
theorem fx68_ok : CtxOK fx68 Tryz.prog := add_ok fx31_ok ok68 Tryz.call68
def inst59x3 : Inst := { args := [(.val .str), (.fn 68 .unit)], objs := [], nres := 1, out := [(90000, (.val .bool))], news := 0 }
def hint59x3 : HC := (.seq (.region []) (.seq (.seq (.region []) (.block (.loop [(1, (.fn 68 .unit)), (8, (.val (.int .i64)))] [((.exit 0), []), (.ret, [(4, (.val .bool))])] (.seq (.region []) (.seq (.cond .leaf .leaf) (.seq (.block (.seq (.region []) (.seq (.region []) (.cond (.seq (.region []) .leaf) .leaf)))) (.region []))))))) (.seq (.region []) .leaf)))
noncomputable def run59x3 : Ks.den inst59x3.args → Ks.den inst59x3.objs → Option inst59x3.out.den := fun x _ => chanceryref2_All_NameForm_1 x.1
theorem ev59x3 : ∀ x y, evFn fx68 18 (bodyOf Tryz.f59) [.tmp 4] hint59x3 inst59x3 x y = run59x3 x y := by intro x y; kernel_rfl
theorem ok59x3 : FnOK Tryz.prog fx68.glob 59 (inst59x3.sem run59x3) :=
  fn_add fx68_ok feMixed 59 Tryz.f59 [.tmp 4] hint59x3 inst59x3 18 run59x3 Tryz.func59 (by kernel_rfl) Tryz.ntmps59 (by kernel_rfl) (by kernel_rfl) ev59x3
noncomputable def fx59x3 : Ctx := fx68.more 59 (inst59x3.sem run59x3)
theorem fx59x3_ok : CtxOK fx59x3 Tryz.prog := more_ok fx68_ok ok59x3 Tryz.call59
def inst32 : Inst := { args := [(.val .str)], objs := [], nres := 1, out := [(90000, (.val .bool))], news := 0 }
def hint32 : HC := (.seq (.region []) (.seq (.seq (.cut [(.normal, [(15, (.val .bool))])] (.region [])) (.cond (.seq (.region []) .leaf) .leaf)) (.seq (.region []) .leaf)))
noncomputable def run32 : Ks.den inst32.args → Ks.den inst32.objs → Option inst32.out.den := fun x _ => chanceryref2_NameForm x.1
theorem ev32 : ∀ x y, evFn fx59x3 18 (bodyOf Tryz.f32) [.tmp 2] hint32 inst32 x y = run32 x y := by intro x y; kernel_rfl
theorem ok32 : FnOK Tryz.prog fx59x3.glob 32 (inst32.sem run32) :=
  fn_add fx59x3_ok feMixed 32 Tryz.f32 [.tmp 2] hint32 inst32 18 run32 Tryz.func32 (by kernel_rfl) Tryz.ntmps32 (by kernel_rfl) (by kernel_rfl) ev32
noncomputable def fx32 : Ctx := fx59x3.add 32 (inst32.sem run32)
theorem fx32_ok : CtxOK fx32 Tryz.prog := add_ok fx59x3_ok ok32 Tryz.call32
def inst34 : Inst := { args := [(.val .str)], objs := [], nres := 1, out := [(90000, (.val .str))], news := 0 }
def hint34 : HC := (.seq (.region []) (.seq (.region []) (.seq (.seq (.region []) (.block (.loop [(3, (.val .str)), (8, (.val (.int .i64)))] [((.exit 0), [(3, (.val .str))])] (.seq (.region []) (.seq (.cond .leaf .leaf) (.seq (.block (.seq (.region []) (.seq (.region []) (.seq (.cut [(.normal, [(5, (.val (.int .u8)))])] (.seq (.cut [(.normal, [(19, (.val .bool))])] (.region [])) (.cond (.region []) .leaf))) (.region [{}, {}, { new := [10] }, { rd := [10] }]))))) (.region []))))))) (.seq (.region []) .leaf))))
noncomputable def run34 : Ks.den inst34.args → Ks.den inst34.objs → Option inst34.out.den := fun x _ => chanceryref2_Lower x.1
theorem ev34 : ∀ x y, evFn fx32 29 (bodyOf Tryz.f34) [.tmp 2] hint34 inst34 x y = run34 x y := by intro x y; kernel_rfl
theorem ok34 : FnOK Tryz.prog fx32.glob 34 (inst34.sem run34) :=
  fn_add fx32_ok feMixed 34 Tryz.f34 [.tmp 2] hint34 inst34 29 run34 Tryz.func34 (by kernel_rfl) Tryz.ntmps34 (by kernel_rfl) (by kernel_rfl) ev34
noncomputable def fx34 : Ctx := fx32.add 34 (inst34.sem run34)
theorem fx34_ok : CtxOK fx34 Tryz.prog := add_ok fx32_ok ok34 Tryz.call34
def inst6 : Inst := { args := [(.val .str), (.val .str), (.val .str)], objs := [], nres := 1, out := [(90000, (.val .bool))], news := 0 }
def hint6 : HC := (.seq (.region [{ new := [10] }, { new := [11] }]) (.seq (.seq (.region []) (.cond (.seq (.region []) .leaf) .leaf)) (.seq (.region []) (.seq (.region [{}, { rd := [10] }, { rd := [11] }]) (.seq (.region [{ rd := [11] }]) (.seq (.cut [(.normal, [(4, (.ptr 14 0)), (5, (.ptr 15 0)), (9, (.val (.int .i64))), (100014, (.rcd (.cons (.val .str) .unit))), (100015, (.rcd (.cons (.val .str) .unit)))])] (.seq (.cut [(.normal, [(4, (.ptr 12 0)), (5, (.ptr 13 0)), (40, (.val .bool)), (100012, (.rcd (.cons (.val .str) .unit))), (100013, (.rcd (.cons (.val .str) .unit)))])] (.region [{ rd := [10] }, {}, {}, { rd := [11] }])) (.cond (.region []) .leaf))) (.seq (.cut [(.normal, [(4, (.ptr 20 0)), (5, (.ptr 21 0)), (100020, (.rcd (.cons (.val .str) .unit))), (100021, (.rcd (.cons (.val .str) .unit)))]), (.ret, [(6, (.val .bool))])] (.seq (.region []) (.cond (.seq (.cut [(.normal, [(4, (.ptr 16 0)), (5, (.ptr 17 0)), (49, (.val .bool)), (100016, (.rcd (.cons (.val .str) .unit))), (100017, (.rcd (.cons (.val .str) .unit)))])] (.region [])) (.cond (.seq (.region []) .leaf) .leaf)) (.seq (.cut [(.normal, [(4, (.ptr 18 0)), (5, (.ptr 19 0)), (58, (.val .bool)), (100018, (.rcd (.cons (.val .str) .unit))), (100019, (.rcd (.cons (.val .str) .unit)))])] (.region [{}, {}, {}, {}, {}, {}, { wr := [14, 15] }])) (.cond (.seq (.region []) .leaf) .leaf))))) (.seq (.region [{}, { rd := [20] }, { rd := [21] }]) (.seq (.seq (.region [{ rd := [20] }, { rd := [21] }]) (.block (.loop [(4, (.ptr 22 0)), (5, (.ptr 23 0)), (69, (.val (.int .i64))), (100022, (.rcd (.cons (.val .str) .unit))), (100023, (.rcd (.cons (.val .str) .unit)))] [((.exit 0), [(4, (.ptr 27 0)), (5, (.ptr 28 0)), (100027, (.rcd (.cons (.val .str) .unit))), (100028, (.rcd (.cons (.val .str) .unit)))]), (.ret, [(6, (.val .bool))])] (.seq (.region []) (.seq (.cond .leaf .leaf) (.seq (.block (.seq (.region []) (.seq (.region [{}, {}, {}, {}, {}, { new := [24] }, { wr := [24] }]) (.seq (.cut [(.normal, [(4, (.ptr 25 0)), (5, (.ptr 26 0)), (83, (.val .bool)), (100025, (.rcd (.cons (.val .str) .unit))), (100026, (.rcd (.cons (.val .str) .unit)))])] (.region [])) (.cond (.seq (.region []) .leaf) .leaf))))) (.region []))))))) (.seq (.region []) (.seq (.region []) (.seq (.seq (.region []) (.block (.loop [(4, (.ptr 29 0)), (5, (.ptr 30 0)), (18, (.val .str)), (98, (.val (.int .i64))), (100029, (.rcd (.cons (.val .str) .unit))), (100030, (.rcd (.cons (.val .str) .unit)))] [((.exit 2), [(18, (.val .str))])] (.seq (.region []) (.seq (.cond .leaf .leaf) (.seq (.cut [(.normal, [(4, (.ptr 38 0)), (5, (.ptr 39 0)), (18, (.val .str)), (100038, (.rcd (.cons (.val .str) .unit))), (100039, (.rcd (.cons (.val .str) .unit)))])] (.block (.seq (.region [{}, {}, { new := [31] }, { wr := [31] }]) (.seq (.region [{ rd := [31] }, { rd := [31] }]) (.seq (.cut [(.normal, [(4, (.ptr 32 0)), (5, (.ptr 33 0)), (20, (.ptr 34 0)), (21, (.val (.int .i64))), (100032, (.rcd (.cons (.val .str) .unit))), (100033, (.rcd (.cons (.val .str) .unit))), (100034, (.rcd (.cons (.val (.int .i64)) (.cons (.val .str) .unit))))])] (.seq (.region [{ rd := [31] }, { rd := [31] }]) (.cond (.region [{ rd := [31] }, { rd := [31] }]) .leaf))) (.seq (.cut [(.normal, [(4, (.ptr 35 0)), (5, (.ptr 36 0)), (20, (.ptr 37 0)), (128, (.val .bool)), (100035, (.rcd (.cons (.val .str) .unit))), (100036, (.rcd (.cons (.val .str) .unit))), (100037, (.rcd (.cons (.val (.int .i64)) (.cons (.val .str) .unit))))])] (.region [{ rd := [34] }, { rd := [34] }, {}, {}, { rd := [34] }, { rd := [34] }, {}, {}, {}, { rd := [34] }, { rd := [34] }, {}, {}, {}, { rd := [32] }])) (.cond (.region [{}, { rd := [36] }, { rd := [37] }, { rd := [37] }]) (.region [{}, { rd := [37] }, { rd := [37] }])))))))) (.region []))))))) (.seq (.cut [(.normal, [(18, (.val .str))])] (.seq (.region []) (.cond (.region []) .leaf))) (.seq (.region []) .leaf))))))))))))))
noncomputable def run6 : Ks.den inst6.args → Ks.den inst6.objs → Option inst6.out.den := fun x _ => chancerylaw2_ScanRenames x.1 x.2.1 x.2.2.1
theorem ev6 : ∀ x y, evFn fx34 152 (bodyOf Tryz.f6) [.tmp 6] hint6 inst6 x y = run6 x y := by intro x y; kernel_rfl
theorem ok6 : FnOK Tryz.prog fx34.glob 6 (inst6.sem run6) :=
  fn_add fx34_ok feMixed 6 Tryz.f6 [.tmp 6] hint6 inst6 152 run6 Tryz.func6 (by kernel_rfl) Tryz.ntmps6 (by kernel_rfl) (by kernel_rfl) ev6
noncomputable def fx6 : Ctx := fx34.add 6 (inst6.sem run6)
theorem fx6_ok : CtxOK fx6 Tryz.prog := add_ok fx34_ok ok6 Tryz.call6
end Go.Proofs.YtfbnnjmhlkafiaaGreatDoor
