/- The contracts that say what the program's functions come to. Printed by a program (fegen.py). -/
import Derived.Test.YtmcoedgkmciciaaGreatDoorFun
import Derived.Test.YtmcoedgkmciciaaGreatDoorShelf
import Derived.Test.YtmcoedgkmciciaaGreatDoorNat
import Derived.WalkKit
import Derived.Lib.Builder
import Derived.BigRegion
import Derived.Test.YtmcoedgkmciciaaGreatDoorProg
namespace Go.Proofs
open Go Go.RowKit
set_option maxRecDepth 100000
theorem Tryz.bldUsed (b : Nat) (w : World) (h0 : w.cell? ⟨b, 0, none⟩ = some (.pointer (some ⟨b, 0, none⟩))) :
    Calls Tryz.prog 134 #[.pointer (some ⟨b, 0, none⟩)] w fun e w' => e = .returned (.tuple #[]) ∧ w' = w := by
  obtain ⟨j, hj, _⟩ := Option.map_eq_some_iff.1 (show (Tryz.prog.info? 122).map (·.size) = some 2 by kernel_rfl)
  go_enter Tryz.func134, Tryz.ntmps134
  go_wp2
  rw [Lib.run_neq_ptr_same w _ Tryz.underlying120 hj]
  go_wp2
  go_end0
  exact ⟨rfl, rfl⟩

theorem Tryz.bldFresh (b : Nat) (w : World) (h0 : w.cell? ⟨b, 0, none⟩ = some (.pointer none)) (hsh : w.shape? b = some (122, 2)) (hfz : w.frozen? ⟨b, 0, none⟩ = false) :
    Calls Tryz.prog 134 #[.pointer (some ⟨b, 0, none⟩)] w fun e w' => e = .returned (.tuple #[]) ∧ w' = w.setCell ⟨b, 0, none⟩ (.pointer (some ⟨b, 0, none⟩)) := by
  obtain ⟨j, hj, hjs⟩ := Option.map_eq_some_iff.1 (show (Tryz.prog.info? 122).map (·.size) = some 2 by kernel_rfl)
  have hlies : liesAt Tryz.prog Tryz.prog.depth 122 (2 / Tryz.prog.cellsOf 122) 0 122 1 = true := by kernel_rfl
  go_enter Tryz.func134, Tryz.ntmps134
  go_wp2
  rw [Lib.run_to_unsafe w ⟨b, 0, none⟩ Tryz.underlying120 Tryz.underlying163 hj (by rw [hjs]; decide) hsh (Nat.zero_lt_succ 1)]
  simp only [Result.andThen]
  rw [Oper.upon_value]
  go_wp2
  rw [run_callFunc_extern Tryz.func149 (by kernel_rfl) (by kernel_rfl) (by kernel_rfl) (e := Extern.AbiNoEscape.same) (by kernel_rfl)]
  rw [Lib.run_noEscape]
  simp only [Result.andThen]
  rw [Oper.upon_value]
  go_wp2
  rw [Lib.run_from_unsafe w ⟨b, 0, none⟩ Tryz.underlying163 Tryz.underlying120 hj hsh hlies]
  simp only [Result.andThen]
  rw [Oper.upon_value]
  go_wp2
  go_end0
  exact ⟨rfl, rfl⟩

set_option maxHeartbeats 2000000 in
theorem Tryz.bldStr (b : Nat) (v pv : Value) (a : Option Addr) (n cap : Nat) (s : ByteArray) (w w2 : World) (hv : v = .slice a n cap) (hc : w.cell? ⟨b, 1, none⟩ = some v)
    (h1 : (Builtin.unsafeSliceData_ #[110] 145 #[v]).run Tryz.prog w.drew = .ok pv w.drew) (h2 : (Builtin.unsafeString_ #[145, 3] 9 #[pv, .int .i64 n]).run Tryz.prog w.drew = .ok (.string s) w2) :
    Calls Tryz.prog 115 #[.pointer (some ⟨b, 0, none⟩)] w fun e w' => e = .returned (.string s) ∧ w' = w2 := by
  subst hv
  have hc : w.drew.cell? ⟨b, 1, none⟩ = some (.slice a n cap) := hc
  have mixed : Tryz.prog.follows .mixedOrders = true := by kernel_rfl
  go_enter Tryz.func115, Tryz.ntmps115
  go_wp2
  go_region
  all_goals (go_wp2; go_ret; exact ⟨rfl, rfl⟩)

end Go.Proofs
namespace Go.Proofs.YtmcoedgkmciciaaGreatDoor
open Go Go.Fe

def feTab : List (TypeId × Ty) := [(3, (.int .i64)), (4, .bool), (5, (.int .u8)), (9, .str), (23, (.pair .str (.pair .str .unit))), (34, (.sl (.int .i64))), (36, (.pair .bool (.pair (.sl (.int .i64)) (.pair (.sl (.int .i64)) .unit)))), (67, (.sl (.int .u32))), (69, (.pair .bool (.pair (.sl (.int .u32)) (.pair (.sl (.int .u32)) .unit)))), (97, (.int .u32)), (106, .err), (110, (.sl (.int .u8))), (113, (.int .u64)), (133, (.arr 256 .bool))]
noncomputable def fe0 : Ctx := (Ctx.withBld (Ctx.base feTab (globOf [(0, ⟨.err, some true⟩), (1, ⟨.err, some true⟩), (2, ⟨(.arr 20 (.int .u64)), some Lib.pow10Tab⟩), (3, ⟨(.int .i64), none⟩)])) [122]).eqs [(23, (.pair .str (.pair .str .unit)))]
theorem fe0_ok : CtxOK fe0 Tryz.prog := eqs_ok (bld_ok (base_ok (by kernel_rfl)) (by kernel_rfl)) (by kernel_rfl)
theorem feMixed : Tryz.prog.follows .mixedOrders = true := by kernel_rfl
noncomputable def fx67 : Ctx := fe0.add 67 (shelfSem [.str, .str] [.str, .bool] sCutPrefix)
theorem fx67_ok : CtxOK fx67 Tryz.prog := add_ok fe0_ok (okCutPrefix Tryz.strings_CutPrefix) Tryz.call67
noncomputable def fx68 : Ctx := fx67.add 68 (shelfSem [(.int .i64)] [.str] sItoa)
theorem fx68_ok : CtxOK fx68 Tryz.prog := add_ok fx67_ok (okItoa (g := 2) rfl (by kernel_rfl) Tryz.strconv_Itoa) Tryz.call68
noncomputable def fx90 : Ctx := fx68.add 90 (shelfSem [.str] [(.int .i64), .err] sAtoi)
theorem fx90_ok : CtxOK fx90 Tryz.prog := add_ok fx68_ok (okAtoi (g1 := 0) (g2 := 1) rfl rfl Tryz.strconv_Atoi_ok Tryz.strconv_Atoi_syntax Tryz.strconv_Atoi_range) Tryz.call90
noncomputable def fx98 : Ctx := fx90.add 98 (shelfSem [(.sl (.int .u32))] [.str] sNatText)
theorem fx98_ok : CtxOK fx98 Tryz.prog := add_ok fx90_ok (Tryz.okNatText rfl) Tryz.call98
noncomputable def fx104 : Ctx := fx98.add 104 (shelfSem [.str, (.int .i64)] [.str] sRepeat)
theorem fx104_ok : CtxOK fx104 Tryz.prog := add_ok fx98_ok (okRepeat Tryz.strings_Repeat) Tryz.call104
noncomputable def fx106 : Ctx := fx104.add 106 (shelfSem [.str, .str] [.bool] sHasPrefix)
theorem fx106_ok : CtxOK fx106 Tryz.prog := add_ok fx104_ok (okHasPrefix Tryz.strings_HasPrefix) Tryz.call106
noncomputable def fx115 : Ctx := fx106.add 115 bldStr
theorem fx115_ok : CtxOK fx115 Tryz.prog := add_ok fx106_ok (bld_str (i := 115) (Ts := 110) (Tp := 145) (Ti := 3) (Tz := 9) Tryz.underlying145 (by kernel_rfl) Tryz.bldStr) Tryz.call115
noncomputable def fx124 : Ctx := fx115.add 124 (shelfSem [.str, .str] [.str] (sNever [Ty.str, Ty.str] [Ty.str]))
theorem fx124_ok : CtxOK fx124 Tryz.prog := add_ok fx115_ok (okNever (l := [.str, .str]) (r := [.str])) Tryz.call124
noncomputable def fx132 : Ctx := fx124.add 132 (shelfSem [.str, .str] [.str] (sNever [Ty.str, Ty.str] [Ty.str]))
theorem fx132_ok : CtxOK fx132 Tryz.prog := add_ok fx124_ok (okNever (l := [.str, .str]) (r := [.str])) Tryz.call132
noncomputable def fx134 : Ctx := fx132.add 134 (bldCopy 122)
theorem fx134_ok : CtxOK fx134 Tryz.prog := add_ok fx132_ok (bld_copy Tryz.bldUsed Tryz.bldFresh) Tryz.call134
noncomputable def fx163 : Ctx := fx134.add 163 (shelfSem [.str, (.int .u8)] [(.int .i64)] sIndexByte)
theorem fx163_ok : CtxOK fx163 Tryz.prog := add_ok fx134_ok (okIndexByte Tryz.strings_IndexByte) Tryz.call163
def inst130 : Inst := { args := [(.val .str), (.val (.int .u8))], objs := [], nres := 1, out := [(90000, (.val .str))], news := 0 }
def hint130 : HC := (.seq (.region []) (.seq (.block (.loop [(0, (.val .str))] [((.exit 0), [(0, (.val .str))])] (.seq (.seq (.cut [(.normal, [(16, (.val .bool))])] (.region [])) (.cond .leaf .leaf)) (.block (.region []))))) (.seq (.region []) .leaf)))
noncomputable def run130 : Ks.den inst130.args → Ks.den inst130.objs → Option inst130.out.den := fun x _ => strings_trimRightByte x.1 x.2.1
theorem ev130 : ∀ x y, evFn fx163 23 (bodyOf Tryz.f130) [.tmp 4] hint130 inst130 x y = run130 x y := by intro x y; kernel_rfl
theorem ok130 : FnOK Tryz.prog fx163.glob 130 (inst130.sem run130) :=
  fn_add fx163_ok feMixed 130 Tryz.f130 [.tmp 4] hint130 inst130 23 run130 Tryz.func130 (by kernel_rfl) Tryz.ntmps130 (by kernel_rfl) (by kernel_rfl) ev130
noncomputable def fx130 : Ctx := fx163.add 130 (inst130.sem run130)
theorem fx130_ok : CtxOK fx130 Tryz.prog := add_ok fx163_ok ok130 Tryz.call130
def inst121 : Inst := { args := [(.val .str), (.val (.int .u8))], objs := [], nres := 1, out := [(90000, (.val .str))], news := 0 }
def hint121 : HC := (.seq (.region []) (.seq (.block (.loop [(0, (.val .str))] [((.exit 0), [(0, (.val .str))])] (.seq (.seq (.cut [(.normal, [(13, (.val .bool))])] (.region [])) (.cond .leaf .leaf)) (.block (.region []))))) (.seq (.region []) .leaf)))
noncomputable def run121 : Ks.den inst121.args → Ks.den inst121.objs → Option inst121.out.den := fun x _ => strings_trimLeftByte x.1 x.2.1
theorem ev121 : ∀ x y, evFn fx130 17 (bodyOf Tryz.f121) [.tmp 4] hint121 inst121 x y = run121 x y := by intro x y; kernel_rfl
theorem ok121 : FnOK Tryz.prog fx130.glob 121 (inst121.sem run121) :=
  fn_add fx130_ok feMixed 121 Tryz.f121 [.tmp 4] hint121 inst121 17 run121 Tryz.func121 (by kernel_rfl) Tryz.ntmps121 (by kernel_rfl) (by kernel_rfl) ev121
noncomputable def fx121 : Ctx := fx130.add 121 (inst121.sem run121)
theorem fx121_ok : CtxOK fx121 Tryz.prog := add_ok fx130_ok ok121 Tryz.call121
def inst122 : Inst := { args := [(.val .str)], objs := [], nres := 2, out := [(90000, (.val (.arr 256 .bool))), (90001, (.val .bool))], news := 0 }
def hint122 : HC := (.seq (.region [{ new := [10] }]) (.seq (.seq (.region []) (.block (.loop [(2, (.ptr 11 0)), (4, (.val (.int .i64))), (100011, (.vec (some 256) .bool))] [((.exit 0), [(2, (.ptr 12 0)), (100012, (.vec (some 256) .bool))]), (.ret, [(2, (.ptr 13 0)), (3, (.val .bool)), (100013, (.vec (some 256) .bool))])] (.seq (.seq (.region []) (.cond .leaf .leaf)) (.seq (.block (.seq (.region []) (.seq (.seq (.region []) (.cond (.seq (.region [{ rd := [11] }, { wr := [11] }]) .leaf) .leaf)) (.region [{}, { rd := [11] }, { wr := [11] }])))) (.region [])))))) (.seq (.region [{ rd := [12] }, { wr := [12] }]) .leaf)))
noncomputable def run122 : Ks.den inst122.args → Ks.den inst122.objs → Option inst122.out.den := fun x _ => strings_makeASCIISet x.1
theorem ev122 : ∀ x y, evFn fx121 21 (bodyOf Tryz.f122) [.cell 2 133, .tmp 3] hint122 inst122 x y = run122 x y := by intro x y; kernel_rfl
theorem ok122 : FnOK Tryz.prog fx121.glob 122 (inst122.sem run122) :=
  fn_add fx121_ok feMixed 122 Tryz.f122 [.cell 2 133, .tmp 3] hint122 inst122 21 run122 Tryz.func122 (by kernel_rfl) Tryz.ntmps122 (by kernel_rfl) (by kernel_rfl) ev122
noncomputable def fx122 : Ctx := fx121.add 122 (inst122.sem run122)
theorem fx122_ok : CtxOK fx122 Tryz.prog := add_ok fx121_ok ok122 Tryz.call122
def inst142 : Inst := { args := [(.ptr 0 0), (.val (.int .u8))], objs := [(.vec (some 256) .bool)], nres := 1, out := [(90000, (.val .bool)), (0, (.ptr 0 0)), (100000, (.vec (some 256) .bool))], news := 0 }
def hint142 : HC := (.seq (.region []) (.seq (.region [{}, {}, { rd := [0] }, { rd := [0] }, { rd := [0] }]) .leaf))
noncomputable def run142 : Ks.den inst142.args → Ks.den inst142.objs → Option inst142.out.den := fun x y => _strings_asciiSet__contains x.2.1 y.1
theorem ev142 : ∀ x y, evFn fx122 10 (bodyOf Tryz.f142) [.tmp 4] hint142 inst142 x y = run142 x y := by intro x y; kernel_rfl
theorem ok142 : FnOK Tryz.prog fx122.glob 142 (inst142.sem run142) :=
  fn_add fx122_ok feMixed 142 Tryz.f142 [.tmp 4] hint142 inst142 10 run142 Tryz.func142 (by kernel_rfl) Tryz.ntmps142 (by kernel_rfl) (by kernel_rfl) ev142
noncomputable def fx142 : Ctx := fx122.add 142 (inst142.sem run142)
theorem fx142_ok : CtxOK fx142 Tryz.prog := add_ok fx122_ok ok142 Tryz.call142
def inst131 : Inst := { args := [(.val .str), (.ptr 0 0)], objs := [(.vec (some 256) .bool)], nres := 1, out := [(90000, (.val .str)), (1, (.ptr 0 0)), (100000, (.vec (some 256) .bool))], news := 0 }
def hint131 : HC := (.seq (.region []) (.seq (.block (.loop [(0, (.val .str)), (1, (.ptr 11 0)), (100011, (.vec (some 256) .bool))] [((.exit 0), [(0, (.val .str)), (1, (.ptr 12 0)), (100012, (.vec (some 256) .bool))])] (.seq (.seq (.region []) (.cond .leaf .leaf)) (.block (.seq (.seq (.region [{}, {}, {}, {}, {}, {}, { wr := [11] }]) (.cond .leaf .leaf)) (.region [])))))) (.seq (.region []) .leaf)))
noncomputable def run131 : Ks.den inst131.args → Ks.den inst131.objs → Option inst131.out.den := fun x y => strings_trimRightASCII x.1 y.1
theorem ev131 : ∀ x y, evFn fx142 22 (bodyOf Tryz.f131) [.tmp 4] hint131 inst131 x y = run131 x y := by intro x y; kernel_rfl
theorem ok131 : FnOK Tryz.prog fx142.glob 131 (inst131.sem run131) :=
  fn_add fx142_ok feMixed 131 Tryz.f131 [.tmp 4] hint131 inst131 22 run131 Tryz.func131 (by kernel_rfl) Tryz.ntmps131 (by kernel_rfl) (by kernel_rfl) ev131
noncomputable def fx131 : Ctx := fx142.add 131 (inst131.sem run131)
theorem fx131_ok : CtxOK fx131 Tryz.prog := add_ok fx142_ok ok131 Tryz.call131
def inst123 : Inst := { args := [(.val .str), (.ptr 0 0)], objs := [(.vec (some 256) .bool)], nres := 1, out := [(90000, (.val .str)), (1, (.ptr 0 0)), (100000, (.vec (some 256) .bool))], news := 0 }
def hint123 : HC := (.seq (.region []) (.seq (.block (.loop [(0, (.val .str)), (1, (.ptr 11 0)), (100011, (.vec (some 256) .bool))] [((.exit 0), [(0, (.val .str)), (1, (.ptr 12 0)), (100012, (.vec (some 256) .bool))])] (.seq (.seq (.region []) (.cond .leaf .leaf)) (.block (.seq (.seq (.region [{}, {}, {}, { wr := [11] }]) (.cond .leaf .leaf)) (.region [])))))) (.seq (.region []) .leaf)))
noncomputable def run123 : Ks.den inst123.args → Ks.den inst123.objs → Option inst123.out.den := fun x y => strings_trimLeftASCII x.1 y.1
theorem ev123 : ∀ x y, evFn fx131 16 (bodyOf Tryz.f123) [.tmp 4] hint123 inst123 x y = run123 x y := by intro x y; kernel_rfl
theorem ok123 : FnOK Tryz.prog fx131.glob 123 (inst123.sem run123) :=
  fn_add fx131_ok feMixed 123 Tryz.f123 [.tmp 4] hint123 inst123 16 run123 Tryz.func123 (by kernel_rfl) Tryz.ntmps123 (by kernel_rfl) (by kernel_rfl) ev123
noncomputable def fx123 : Ctx := fx131.add 123 (inst123.sem run123)
theorem fx123_ok : CtxOK fx123 Tryz.prog := add_ok fx131_ok ok123 Tryz.call123
def inst112 : Inst := { args := [(.val .str), (.val .str)], objs := [], nres := 1, out := [(90000, (.val .str))], news := 0 }
def hint112 : HC := (.seq (.region []) (.seq (.seq (.cut [(.normal, [(12, (.val .bool))])] (.region [])) (.cond (.seq (.region []) .leaf) .leaf)) (.seq (.seq (.cut [(.normal, [(21, (.val .bool))])] (.region [])) (.cond (.seq (.region []) .leaf) .leaf)) (.seq (.seq (.region [{}, {}, {}, {}, {}, { new := [10] }, { wr := [10] }]) (.seq (.region []) (.cond (.seq (.region [{}, { wr := [10] }, { wr := [10] }]) .leaf) .leaf))) (.seq (.region []) .leaf)))))
noncomputable def run112 : Ks.den inst112.args → Ks.den inst112.objs → Option inst112.out.den := fun x _ => strings_Trim x.1 x.2.1
theorem ev112 : ∀ x y, evFn fx123 43 (bodyOf Tryz.f112) [.tmp 4] hint112 inst112 x y = run112 x y := by intro x y; kernel_rfl
theorem ok112 : FnOK Tryz.prog fx123.glob 112 (inst112.sem run112) :=
  fn_add fx123_ok feMixed 112 Tryz.f112 [.tmp 4] hint112 inst112 43 run112 Tryz.func112 (by kernel_rfl) Tryz.ntmps112 (by kernel_rfl) (by kernel_rfl) ev112
noncomputable def fx112 : Ctx := fx123.add 112 (inst112.sem run112)
theorem fx112_ok : CtxOK fx112 Tryz.prog := add_ok fx123_ok ok112 Tryz.call112
def inst97 : Inst := { args := [(.val .str)], objs := [], nres := 1, out := [(90000, (.val .bool))], news := 0 }
def hint97 : HC := (.seq (.region []) (.seq (.seq (.cut [(.normal, [(14, (.val .bool))])] (.region [])) (.cond (.seq (.region []) .leaf) .leaf)) (.seq (.region []) .leaf)))
noncomputable def run97 : Ks.den inst97.args → Ks.den inst97.objs → Option inst97.out.den := fun x _ => exact_digits x.1
theorem ev97 : ∀ x y, evFn fx112 18 (bodyOf Tryz.f97) [.tmp 2] hint97 inst97 x y = run97 x y := by intro x y; kernel_rfl
theorem ok97 : FnOK Tryz.prog fx112.glob 97 (inst97.sem run97) :=
  fn_add fx112_ok feMixed 97 Tryz.f97 [.tmp 2] hint97 inst97 18 run97 Tryz.func97 (by kernel_rfl) Tryz.ntmps97 (by kernel_rfl) (by kernel_rfl) ev97
noncomputable def fx97 : Ctx := fx112.add 97 (inst97.sem run97)
theorem fx97_ok : CtxOK fx97 Tryz.prog := add_ok fx112_ok ok97 Tryz.call97
def inst96 : Inst := { args := [(.val (.sl (.int .u32)))], objs := [], nres := 1, out := [(90000, (.val (.sl (.int .u32))))], news := 0 }
def hint96 : HC := (.seq (.region []) (.seq (.block (.loop [(0, (.val (.sl (.int .u32))))] [((.exit 0), [(0, (.val (.sl (.int .u32))))])] (.seq (.seq (.cut [(.normal, [(14, (.val .bool))])] (.region [])) (.cond .leaf .leaf)) (.block (.region []))))) (.seq (.region []) .leaf)))
noncomputable def run96 : Ks.den inst96.args → Ks.den inst96.objs → Option inst96.out.den := fun x _ => exact_nat__trim x.1
theorem ev96 : ∀ x y, evFn fx97 21 (bodyOf Tryz.f96) [.tmp 2] hint96 inst96 x y = run96 x y := by intro x y; kernel_rfl
theorem ok96 : FnOK Tryz.prog fx97.glob 96 (inst96.sem run96) :=
  fn_add fx97_ok feMixed 96 Tryz.f96 [.tmp 2] hint96 inst96 21 run96 Tryz.func96 (by kernel_rfl) Tryz.ntmps96 (by kernel_rfl) (by kernel_rfl) ev96
noncomputable def fx96 : Ctx := fx97.add 96 (inst96.sem run96)
theorem fx96_ok : CtxOK fx96 Tryz.prog := add_ok fx97_ok ok96 Tryz.call96
def inst69 : Inst := { args := [(.val .str)], objs := [], nres := 1, out := [(90000, (.val (.sl (.int .u32))))], news := 0 }
def hint69 : HC := (.seq (.region []) (.seq (.region []) (.seq (.block (.loop [(0, (.val .str)), (3, (.own 12)), (100012, (.vec none (.int .u32)))] [((.exit 0), [(3, (.own 13)), (100013, (.vec none (.int .u32)))])] (.seq (.seq (.region []) (.cond .leaf .leaf)) (.block (.seq (.region []) (.seq (.region []) (.seq (.region [{}, {}, {}, { new := [10] }, { rd := [10], wr := [12], new := [11] }]) (.region [])))))))) (.seq (.region [{}, { fz := [(29, 13)] }]) .leaf))))
noncomputable def run69 : Ks.den inst69.args → Ks.den inst69.objs → Option inst69.out.den := fun x _ => exact_parse x.1
theorem ev69 : ∀ x y, evFn fx96 31 (bodyOf Tryz.f69) [.tmp 2] hint69 inst69 x y = run69 x y := by intro x y; kernel_rfl
theorem ok69 : FnOK Tryz.prog fx96.glob 69 (inst69.sem run69) :=
  fn_add fx96_ok feMixed 69 Tryz.f69 [.tmp 2] hint69 inst69 31 run69 Tryz.func69 (by kernel_rfl) Tryz.ntmps69 (by kernel_rfl) (by kernel_rfl) ev69
noncomputable def fx69 : Ctx := fx96.add 69 (inst69.sem run69)
theorem fx69_ok : CtxOK fx69 Tryz.prog := add_ok fx96_ok ok69 Tryz.call69
def inst54 : Inst := { args := [(.val (.sl (.int .u32)))], objs := [], nres := 1, out := [(90000, (.val .bool))], news := 0 }
def hint54 : HC := (.seq (.region []) (.seq (.region []) .leaf))
noncomputable def run54 : Ks.den inst54.args → Ks.den inst54.objs → Option inst54.out.den := fun x _ => exact_nat__zero x.1
theorem ev54 : ∀ x y, evFn fx69 6 (bodyOf Tryz.f54) [.tmp 2] hint54 inst54 x y = run54 x y := by intro x y; kernel_rfl
theorem ok54 : FnOK Tryz.prog fx69.glob 54 (inst54.sem run54) :=
  fn_add fx69_ok feMixed 54 Tryz.f54 [.tmp 2] hint54 inst54 6 run54 Tryz.func54 (by kernel_rfl) Tryz.ntmps54 (by kernel_rfl) (by kernel_rfl) ev54
noncomputable def fx54 : Ctx := fx69.add 54 (inst54.sem run54)
theorem fx54_ok : CtxOK fx54 Tryz.prog := add_ok fx69_ok ok54 Tryz.call54
def inst94 : Inst := { args := [(.val (.sl (.int .u32))), (.val (.sl (.int .u32)))], objs := [], nres := 1, out := [(90000, (.val (.int .i64)))], news := 0 }
def hint94 : HC := (.seq (.region []) (.seq (.seq (.region []) (.cond (.seq (.region []) .leaf) .leaf)) (.seq (.seq (.region []) (.block (.loop [(5, (.val (.int .i64)))] [((.exit 0), []), (.ret, [(4, (.val (.int .i64)))])] (.seq (.seq (.region []) (.cond .leaf .leaf)) (.seq (.block (.seq (.region []) (.cond (.seq (.seq (.region []) (.cond (.seq (.region []) .leaf) .leaf)) (.seq (.region []) .leaf)) .leaf))) (.region [])))))) (.seq (.region []) .leaf))))
noncomputable def run94 : Ks.den inst94.args → Ks.den inst94.objs → Option inst94.out.den := fun x _ => exact_nat__compare x.1 x.2.1
theorem ev94 : ∀ x y, evFn fx54 41 (bodyOf Tryz.f94) [.tmp 4] hint94 inst94 x y = run94 x y := by intro x y; kernel_rfl
theorem ok94 : FnOK Tryz.prog fx54.glob 94 (inst94.sem run94) :=
  fn_add fx54_ok feMixed 94 Tryz.f94 [.tmp 4] hint94 inst94 41 run94 Tryz.func94 (by kernel_rfl) Tryz.ntmps94 (by kernel_rfl) (by kernel_rfl) ev94
noncomputable def fx94 : Ctx := fx54.add 94 (inst94.sem run94)
theorem fx94_ok : CtxOK fx94 Tryz.prog := add_ok fx54_ok ok94 Tryz.call94
def inst52 : Inst := { args := [(.val (.sl (.int .u32))), (.val (.sl (.int .u32)))], objs := [], nres := 1, out := [(90000, (.val (.sl (.int .u32))))], news := 0 }
def hint52 : HC := (.seq (.region []) (.seq (.region [{}, {}, {}, {}, {}, { new := [10] }]) (.seq (.seq (.region []) (.block (.loop [(5, (.own 11)), (20, (.val (.int .i64))), (100011, (.vec none (.int .u32)))] [((.exit 0), [(5, (.own 14)), (100014, (.vec none (.int .u32)))])] (.seq (.region []) (.seq (.cond .leaf .leaf) (.seq (.block (.seq (.region []) (.seq (.region []) (.seq (.seq (.region []) (.block (.loop [(5, (.own 12)), (8, (.val (.int .u64))), (27, (.val (.int .i64))), (100012, (.vec none (.int .u32)))] [((.exit 2), [(5, (.own 13)), (8, (.val (.int .u64))), (100013, (.vec none (.int .u32)))])] (.seq (.region []) (.seq (.cond .leaf .leaf) (.seq (.block (.seq (.region []) (.seq (.region [{}, {}, {}, {}, {}, {}, {}, {}, {}, { rd := [12] }, { rd := [12] }]) (.seq (.region [{}, {}, {}, {}, {}, {}, {}, { rd := [12] }, { wr := [12] }]) (.region []))))) (.region []))))))) (.region [{}, {}, {}, {}, {}, {}, {}, { rd := [13] }, { wr := [13] }]))))) (.region []))))))) (.seq (.region [{}, { fz := [(67, 14)] }]) .leaf))))
noncomputable def run52 : Ks.den inst52.args → Ks.den inst52.objs → Option inst52.out.den := fun x _ => exact_nat__times x.1 x.2.1
theorem ev52 : ∀ x y, evFn fx94 69 (bodyOf Tryz.f52) [.tmp 4] hint52 inst52 x y = run52 x y := by intro x y; kernel_rfl
theorem ok52 : FnOK Tryz.prog fx94.glob 52 (inst52.sem run52) :=
  fn_add fx94_ok feMixed 52 Tryz.f52 [.tmp 4] hint52 inst52 69 run52 Tryz.func52 (by kernel_rfl) Tryz.ntmps52 (by kernel_rfl) (by kernel_rfl) ev52
noncomputable def fx52 : Ctx := fx94.add 52 (inst52.sem run52)
theorem fx52_ok : CtxOK fx52 Tryz.prog := add_ok fx94_ok ok52 Tryz.call52
def inst103 : Inst := { args := [(.val (.sl (.int .u32))), (.val (.sl (.int .u32)))], objs := [], nres := 1, out := [(90000, (.val (.int .u32)))], news := 0 }
def hint103 : HC := (.seq (.region []) (.seq (.seq (.region []) (.cond (.seq (.region []) .leaf) .leaf)) (.seq (.region []) (.seq (.region []) (.seq (.seq (.region []) (.block (.loop [(6, (.val (.int .u64))), (7, (.val (.int .i64)))] [((.exit 0), [(6, (.val (.int .u64)))])] (.seq (.seq (.region []) (.cond .leaf .leaf)) (.seq (.block (.region [])) (.region [])))))) (.seq (.region []) (.seq (.block (.loop [(8, (.val (.int .u64))), (9, (.val (.int .u64)))] [((.exit 2), [(8, (.val (.int .u64)))])] (.seq (.seq (.region []) (.cond .leaf .leaf)) (.block (.seq (.region []) (.seq (.region [{}, {}, {}, { new := [10] }, { fz := [(61, 10)] }]) (.cond (.region []) (.region [])))))))) (.seq (.region []) .leaf))))))))
noncomputable def run103 : Ks.den inst103.args → Ks.den inst103.objs → Option inst103.out.den := fun x _ => exact_digit x.1 x.2.1
theorem ev103 : ∀ x y, evFn fx52 72 (bodyOf Tryz.f103) [.tmp 4] hint103 inst103 x y = run103 x y := by intro x y; kernel_rfl
theorem ok103 : FnOK Tryz.prog fx52.glob 103 (inst103.sem run103) :=
  fn_add fx52_ok feMixed 103 Tryz.f103 [.tmp 4] hint103 inst103 72 run103 Tryz.func103 (by kernel_rfl) Tryz.ntmps103 (by kernel_rfl) (by kernel_rfl) ev103
noncomputable def fx103 : Ctx := fx52.add 103 (inst103.sem run103)
theorem fx103_ok : CtxOK fx103 Tryz.prog := add_ok fx52_ok ok103 Tryz.call103
def inst111 : Inst := { args := [(.val (.sl (.int .u32)))], objs := [], nres := 1, out := [(90000, (.own 0)), (100000, (.vec none (.int .u32)))], news := 1 }
def hint111 : HC := (.seq (.region []) (.seq (.seq (.region []) (.cond (.seq (.region []) .leaf) .leaf)) (.seq (.region [{ new := [10] }, {}, { wr := [10], new := [11] }]) .leaf)))
noncomputable def run111 : Ks.den inst111.args → Ks.den inst111.objs → Option inst111.out.den := fun x _ => exact_nat_uint32_ x.1
theorem ev111 : ∀ x y, evFn fx103 8 (bodyOf Tryz.f111) [.tmp 2] hint111 inst111 x y = run111 x y := by intro x y; kernel_rfl
theorem ok111 : FnOK Tryz.prog fx103.glob 111 (inst111.sem run111) :=
  fn_add fx103_ok feMixed 111 Tryz.f111 [.tmp 2] hint111 inst111 8 run111 Tryz.func111 (by kernel_rfl) Tryz.ntmps111 (by kernel_rfl) (by kernel_rfl) ev111
noncomputable def fx111 : Ctx := fx103.add 111 (inst111.sem run111)
theorem fx111_ok : CtxOK fx111 Tryz.prog := add_ok fx103_ok ok111 Tryz.call111
def inst95 : Inst := { args := [(.val (.sl (.int .u32))), (.val (.sl (.int .u32)))], objs := [], nres := 1, out := [(90000, (.val (.sl (.int .u32))))], news := 0 }
def hint95 : HC := (.seq (.region []) (.seq (.region [{}, { new := [10] }]) (.seq (.region []) (.seq (.seq (.region [{}, { rd := [10] }]) (.block (.loop [(5, (.own 11)), (6, (.val (.int .u32))), (13, (.val (.int .i64))), (100011, (.vec none (.int .u32)))] [((.exit 0), [(5, (.own 14)), (100014, (.vec none (.int .u32)))])] (.seq (.region []) (.seq (.cond .leaf .leaf) (.seq (.block (.seq (.region []) (.seq (.region []) (.seq (.cut [(.normal, [(5, (.own 12)), (8, (.val (.int .u32))), (100012, (.vec none (.int .u32)))])] (.seq (.region []) (.cond (.region []) .leaf))) (.seq (.region []) (.seq (.cut [(.normal, [(5, (.own 13)), (6, (.val (.int .u32))), (100013, (.vec none (.int .u32)))])] (.seq (.region [{}, {}, { rd := [12] }, { rd := [12] }]) (.cond (.seq (.region [{}, {}, { rd := [12] }, { rd := [12] }, {}, { rd := [12] }, { wr := [12] }]) (.region [])) .leaf))) (.region [{}, {}, { rd := [13] }, { rd := [13] }, {}, {}, { rd := [13] }, { wr := [13] }]))))))) (.region []))))))) (.seq (.region [{}, { fz := [(47, 14)] }]) .leaf)))))
noncomputable def run95 : Ks.den inst95.args → Ks.den inst95.objs → Option inst95.out.den := fun x _ => exact_nat__minus x.1 x.2.1
theorem ev95 : ∀ x y, evFn fx111 49 (bodyOf Tryz.f95) [.tmp 4] hint95 inst95 x y = run95 x y := by intro x y; kernel_rfl
theorem ok95 : FnOK Tryz.prog fx111.glob 95 (inst95.sem run95) :=
  fn_add fx111_ok feMixed 95 Tryz.f95 [.tmp 4] hint95 inst95 49 run95 Tryz.func95 (by kernel_rfl) Tryz.ntmps95 (by kernel_rfl) (by kernel_rfl) ev95
noncomputable def fx95 : Ctx := fx111.add 95 (inst95.sem run95)
theorem fx95_ok : CtxOK fx95 Tryz.prog := add_ok fx111_ok ok95 Tryz.call95
def inst73 : Inst := { args := [(.val (.sl (.int .u32))), (.val (.sl (.int .u32)))], objs := [], nres := 2, out := [(90000, (.val (.sl (.int .u32)))), (90001, (.val (.sl (.int .u32))))], news := 0 }
def hint73 : HC := (.seq (.region []) (.seq (.region [{}, {}, { new := [10] }]) (.seq (.region []) (.seq (.seq (.region []) (.block (.loop [(6, (.own 11)), (7, (.val (.sl (.int .u32)))), (8, (.val (.int .i64))), (100011, (.vec none (.int .u32)))] [((.exit 0), [(6, (.own 15)), (7, (.val (.sl (.int .u32)))), (100015, (.vec none (.int .u32)))])] (.seq (.seq (.region []) (.cond .leaf .leaf)) (.seq (.block (.seq (.region [{}, {}, {}, {}, { new := [12] }, {}, { wr := [12], new := [13] }, { fz := [(25, 13)] }]) (.seq (.region [{}, {}, {}, {}, {}, { rd := [11] }, { wr := [11] }]) (.region [{}, {}, {}, {}, { rd := [11] }, { rd := [11] }, { new := [14] }, { fz := [(39, 14)] }])))) (.region [])))))) (.seq (.region [{}, { fz := [(43, 15)] }]) .leaf)))))
noncomputable def run73 : Ks.den inst73.args → Ks.den inst73.objs → Option inst73.out.den := fun x _ => exact_divide x.1 x.2.1
theorem ev73 : ∀ x y, evFn fx95 46 (bodyOf Tryz.f73) [.tmp 4, .tmp 5] hint73 inst73 x y = run73 x y := by intro x y; kernel_rfl
theorem ok73 : FnOK Tryz.prog fx95.glob 73 (inst73.sem run73) :=
  fn_add fx95_ok feMixed 73 Tryz.f73 [.tmp 4, .tmp 5] hint73 inst73 46 run73 Tryz.func73 (by kernel_rfl) Tryz.ntmps73 (by kernel_rfl) (by kernel_rfl) ev73
noncomputable def fx73 : Ctx := fx95.add 73 (inst73.sem run73)
theorem fx73_ok : CtxOK fx73 Tryz.prog := add_ok fx95_ok ok73 Tryz.call73
def inst89 : Inst := { args := [(.val (.sl (.int .u32))), (.val (.sl (.int .u32)))], objs := [], nres := 1, out := [(90000, (.val (.sl (.int .u32))))], news := 0 }
def hint89 : HC := (.seq (.region []) (.seq (.block (.loop [(0, (.val (.sl (.int .u32)))), (1, (.val (.sl (.int .u32))))] [((.exit 0), [(0, (.val (.sl (.int .u32))))])] (.seq (.seq (.region []) (.cond .leaf .leaf)) (.block (.seq (.region []) (.region [])))))) (.seq (.region []) .leaf)))
noncomputable def run89 : Ks.den inst89.args → Ks.den inst89.objs → Option inst89.out.den := fun x _ => exact_common x.1 x.2.1
theorem ev89 : ∀ x y, evFn fx73 19 (bodyOf Tryz.f89) [.tmp 4] hint89 inst89 x y = run89 x y := by intro x y; kernel_rfl
theorem ok89 : FnOK Tryz.prog fx73.glob 89 (inst89.sem run89) :=
  fn_add fx73_ok feMixed 89 Tryz.f89 [.tmp 4] hint89 inst89 19 run89 Tryz.func89 (by kernel_rfl) Tryz.ntmps89 (by kernel_rfl) (by kernel_rfl) ev89
noncomputable def fx89 : Ctx := fx73.add 89 (inst89.sem run89)
theorem fx89_ok : CtxOK fx89 Tryz.prog := add_ok fx73_ok ok89 Tryz.call89
def inst88 : Inst := { args := [(.val (.sl (.int .u32)))], objs := [], nres := 1, out := [(90000, (.val .bool))], news := 0 }
def hint88 : HC := (.seq (.region []) (.seq (.region []) .leaf))
noncomputable def run88 : Ks.den inst88.args → Ks.den inst88.objs → Option inst88.out.den := fun x _ => exact_nat__one x.1
theorem ev88 : ∀ x y, evFn fx89 12 (bodyOf Tryz.f88) [.tmp 2] hint88 inst88 x y = run88 x y := by intro x y; kernel_rfl
theorem ok88 : FnOK Tryz.prog fx89.glob 88 (inst88.sem run88) :=
  fn_add fx89_ok feMixed 88 Tryz.f88 [.tmp 2] hint88 inst88 12 run88 Tryz.func88 (by kernel_rfl) Tryz.ntmps88 (by kernel_rfl) (by kernel_rfl) ev88
noncomputable def fx88 : Ctx := fx89.add 88 (inst88.sem run88)
theorem fx88_ok : CtxOK fx88 Tryz.prog := add_ok fx89_ok ok88 Tryz.call88
def inst56 : Inst := { args := [(.val (.pair .str (.pair .str .unit)))], objs := [], nres := 2, out := [(90000, (.val (.pair .bool (.pair (.sl (.int .u32)) (.pair (.sl (.int .u32)) .unit))))), (90001, (.val (.int .i64)))], news := 0 }
def hint56 : HC := (.seq (.region [{ new := [10] }, { new := [11] }]) (.seq (.region [{ rd := [10] }, { rd := [10] }]) (.seq (.seq (.cut [(.normal, [(1, (.ptr 12 0)), (2, (.ptr 13 0)), (33, (.val .bool)), (100012, (.rcd (.cons (.val .str) (.cons (.val .str) .unit)))), (100013, (.rcd (.cons (.val .bool) (.cons (.val (.sl (.int .u32))) (.cons (.val (.sl (.int .u32))) .unit)))))])] (.region [{}, {}, {}, {}, { rd := [10] }, { rd := [10] }, {}, {}, {}, {}, { rd := [10] }, { rd := [10] }])) (.cond (.seq (.region [{}, { wr := [13] }]) .leaf) .leaf)) (.seq (.seq (.cut [(.normal, [(1, (.ptr 14 0)), (2, (.ptr 15 0)), (43, (.val .bool)), (100014, (.rcd (.cons (.val .str) (.cons (.val .str) .unit)))), (100015, (.rcd (.cons (.val .bool) (.cons (.val (.sl (.int .u32))) (.cons (.val (.sl (.int .u32))) .unit)))))])] (.region [{}, {}, {}, {}, { rd := [12] }, { rd := [12] }])) (.cond (.seq (.region [{}, { wr := [15] }]) .leaf) .leaf)) (.seq (.region [{}, {}, {}, { rd := [14] }, { rd := [14] }, {}, {}, { new := [16] }, { wr := [16] }]) (.seq (.seq (.region [{ rd := [16] }, { rd := [16] }, { rd := [16] }, { rd := [16] }]) (.cond (.seq (.region [{}, { wr := [15] }]) .leaf) .leaf)) (.seq (.region [{ rd := [16] }, { wr := [15] }]) .leaf)))))))
noncomputable def run56 : Ks.den inst56.args → Ks.den inst56.objs → Option inst56.out.den := fun x _ => exact_read x.1
theorem ev56 : ∀ x y, evFn fx88 61 (bodyOf Tryz.f56) [.cell 2 69, .tmp 3] hint56 inst56 x y = run56 x y := by intro x y; kernel_rfl
theorem ok56 : FnOK Tryz.prog fx88.glob 56 (inst56.sem run56) :=
  fn_add fx88_ok feMixed 56 Tryz.f56 [.cell 2 69, .tmp 3] hint56 inst56 61 run56 Tryz.func56 (by kernel_rfl) Tryz.ntmps56 (by kernel_rfl) (by kernel_rfl) ev56
noncomputable def fx56 : Ctx := fx88.add 56 (inst56.sem run56)
theorem fx56_ok : CtxOK fx56 Tryz.prog := add_ok fx88_ok ok56 Tryz.call56
def inst55 : Inst := { args := [(.val (.pair .str (.pair .str .unit))), (.val (.pair .str (.pair .str .unit)))], objs := [], nres := 3, out := [(90000, (.val (.pair .bool (.pair (.sl (.int .u32)) (.pair (.sl (.int .u32)) .unit))))), (90001, (.val (.pair .bool (.pair (.sl (.int .u32)) (.pair (.sl (.int .u32)) .unit))))), (90002, (.val (.int .i64)))], news := 0 }
def hint55 : HC := (.seq (.region [{ new := [10] }, { new := [11] }, { new := [12] }, { new := [13] }]) (.seq (.region [{ rd := [10] }, {}, {}, {}, {}, { new := [14] }, { wr := [14] }]) (.seq (.seq (.region []) (.cond (.seq (.region [{ rd := [14] }, { rd := [14] }, {}, { wr := [12] }, { wr := [13] }]) .leaf) .leaf)) (.seq (.region [{ rd := [11] }, {}, {}, {}, {}, { new := [15] }, { wr := [15] }]) (.seq (.region [{ rd := [14] }, { rd := [15] }, {}, { wr := [12] }, { wr := [13] }]) .leaf)))))
noncomputable def run55 : Ks.den inst55.args → Ks.den inst55.objs → Option inst55.out.den := fun x _ => exact_both x.1 x.2.1
theorem ev55 : ∀ x y, evFn fx56 28 (bodyOf Tryz.f55) [.cell 4 69, .cell 5 69, .tmp 6] hint55 inst55 x y = run55 x y := by intro x y; kernel_rfl
theorem ok55 : FnOK Tryz.prog fx56.glob 55 (inst55.sem run55) :=
  fn_add fx56_ok feMixed 55 Tryz.f55 [.cell 4 69, .cell 5 69, .tmp 6] hint55 inst55 28 run55 Tryz.func55 (by kernel_rfl) Tryz.ntmps55 (by kernel_rfl) (by kernel_rfl) ev55
noncomputable def fx55 : Ctx := fx56.add 55 (inst55.sem run55)
theorem fx55_ok : CtxOK fx55 Tryz.prog := add_ok fx56_ok ok55 Tryz.call55
def inst84 : Inst := { args := [(.val (.sl (.int .u32))), (.val (.sl (.int .u32)))], objs := [], nres := 1, out := [(90000, (.val (.sl (.int .u32))))], news := 0 }
def hint84 : HC := (.seq (.region []) (.seq (.region [{}, {}, {}, {}, {}, {}, { new := [10] }]) (.seq (.region []) (.seq (.seq (.region []) (.block (.loop [(5, (.own 11)), (6, (.val (.int .u32))), (7, (.val (.int .i64))), (100011, (.vec none (.int .u32)))] [((.exit 0), [(5, (.own 17)), (100017, (.vec none (.int .u32)))])] (.seq (.seq (.cut [(.normal, [(5, (.own 12)), (29, (.val .bool)), (100012, (.vec none (.int .u32)))])] (.region [])) (.cond .leaf .leaf)) (.seq (.block (.seq (.region []) (.seq (.cut [(.normal, [(5, (.own 13)), (8, (.val (.int .u32))), (100013, (.vec none (.int .u32)))])] (.seq (.region []) (.cond (.region []) .leaf))) (.seq (.cut [(.normal, [(5, (.own 14)), (8, (.val (.int .u32))), (100014, (.vec none (.int .u32)))])] (.seq (.region []) (.cond (.region []) .leaf))) (.seq (.region [{}, {}, {}, { new := [15] }, { rd := [15], wr := [14], new := [16] }]) (.region [])))))) (.region [])))))) (.seq (.region []) .leaf)))))
noncomputable def run84 : Ks.den inst84.args → Ks.den inst84.objs → Option inst84.out.den := fun x _ => exact_nat__plus x.1 x.2.1
theorem ev84 : ∀ x y, evFn fx55 61 (bodyOf Tryz.f84) [.tmp 4] hint84 inst84 x y = run84 x y := by intro x y; kernel_rfl
theorem ok84 : FnOK Tryz.prog fx55.glob 84 (inst84.sem run84) :=
  fn_add fx55_ok feMixed 84 Tryz.f84 [.tmp 4] hint84 inst84 61 run84 Tryz.func84 (by kernel_rfl) Tryz.ntmps84 (by kernel_rfl) (by kernel_rfl) ev84
noncomputable def fx84 : Ctx := fx55.add 84 (inst84.sem run84)
theorem fx84_ok : CtxOK fx84 Tryz.prog := add_ok fx55_ok ok84 Tryz.call84
def inst49 : Inst := { args := [(.val (.pair .bool (.pair (.sl (.int .u32)) (.pair (.sl (.int .u32)) .unit)))), (.val (.pair .bool (.pair (.sl (.int .u32)) (.pair (.sl (.int .u32)) .unit))))], objs := [], nres := 1, out := [(90000, (.val (.pair .bool (.pair (.sl (.int .u32)) (.pair (.sl (.int .u32)) .unit)))))], news := 0 }
def hint49 : HC := (.seq (.region [{ new := [10] }, { new := [11] }, { new := [12] }]) (.seq (.region [{ rd := [10] }, { rd := [10] }, { rd := [11] }, { rd := [11] }, {}, { rd := [11] }, { rd := [11] }, { rd := [10] }, { rd := [10] }]) (.seq (.region [{ rd := [10] }, { rd := [10] }, { rd := [11] }, { rd := [11] }]) (.seq (.seq (.region [{ rd := [10] }, { rd := [10] }, { rd := [11] }, { rd := [11] }]) (.cond (.seq (.region [{ rd := [10] }, { rd := [10] }, {}, {}, {}, {}, {}, { wr := [12] }]) .leaf) .leaf)) (.seq (.seq (.region []) (.cond (.seq (.region [{ rd := [10] }, { rd := [10] }, {}, {}, {}, {}, {}, { wr := [12] }]) .leaf) .leaf)) (.seq (.region [{ rd := [11] }, { rd := [11] }, {}, {}, {}, {}, {}, { wr := [12] }]) .leaf))))))
noncomputable def run49 : Ks.den inst49.args → Ks.den inst49.objs → Option inst49.out.den := fun x _ => exact_sum x.1 x.2.1
theorem ev49 : ∀ x y, evFn fx84 53 (bodyOf Tryz.f49) [.cell 4 69] hint49 inst49 x y = run49 x y := by intro x y; kernel_rfl
theorem ok49 : FnOK Tryz.prog fx84.glob 49 (inst49.sem run49) :=
  fn_add fx84_ok feMixed 49 Tryz.f49 [.cell 4 69] hint49 inst49 53 run49 Tryz.func49 (by kernel_rfl) Tryz.ntmps49 (by kernel_rfl) (by kernel_rfl) ev49
noncomputable def fx49 : Ctx := fx84.add 49 (inst49.sem run49)
theorem fx49_ok : CtxOK fx49 Tryz.prog := add_ok fx84_ok ok49 Tryz.call49
def inst48 : Inst := { args := [(.val (.pair .bool (.pair (.sl (.int .u32)) (.pair (.sl (.int .u32)) .unit)))), (.val (.pair .bool (.pair (.sl (.int .u32)) (.pair (.sl (.int .u32)) .unit))))], objs := [], nres := 2, out := [(90000, (.val (.pair .bool (.pair (.sl (.int .u32)) (.pair (.sl (.int .u32)) .unit))))), (90001, (.val (.int .i64)))], news := 0 }
def hint48 : HC := (.seq (.region [{ new := [10] }, { new := [11] }, { new := [12] }]) (.seq (.region [{ rd := [10] }, { rd := [11] }, {}, { wr := [12] }]) .leaf))
noncomputable def run48 : Ks.den inst48.args → Ks.den inst48.objs → Option inst48.out.den := fun x _ => exact_Add_1 x.1 x.2.1
theorem ev48 : ∀ x y, evFn fx49 9 (bodyOf Tryz.f48) [.cell 4 69, .tmp 5] hint48 inst48 x y = run48 x y := by intro x y; kernel_rfl
theorem ok48 : FnOK Tryz.prog fx49.glob 48 (inst48.sem run48) :=
  fn_add fx49_ok feMixed 48 Tryz.f48 [.cell 4 69, .tmp 5] hint48 inst48 9 run48 Tryz.func48 (by kernel_rfl) Tryz.ntmps48 (by kernel_rfl) (by kernel_rfl) ev48
noncomputable def fx48 : Ctx := fx49.add 48 (inst48.sem run48)
theorem fx48_ok : CtxOK fx48 Tryz.prog := add_ok fx49_ok ok48 Tryz.call48
def inst57 : Inst := { args := [(.val (.pair .bool (.pair (.sl (.int .u32)) (.pair (.sl (.int .u32)) .unit))))], objs := [], nres := 2, out := [(90000, (.val (.pair .str (.pair .str .unit)))), (90001, (.val (.int .i64)))], news := 0 }
def hint57 : HC := (.seq (.region [{ new := [10] }, { new := [11] }]) (.seq (.seq (.region [{ rd := [10] }, { rd := [10] }]) (.cond (.seq (.region [{}, { wr := [11] }]) .leaf) .leaf)) (.seq (.region [{ rd := [10] }, { rd := [10] }, { rd := [10] }, { rd := [10] }]) (.seq (.region [{ rd := [10] }, { rd := [10] }]) (.seq (.region [{ rd := [10] }, { rd := [10] }]) (.seq (.region [{}, {}, {}, {}, {}, { new := [12] }, { wr := [12] }]) (.seq (.seq (.cut [(.normal, [(1, (.ptr 13 0)), (2, (.ptr 14 0)), (9, (.ptr 15 0)), (47, (.val .bool)), (100013, (.rcd (.cons (.val .bool) (.cons (.val (.sl (.int .u32))) (.cons (.val (.sl (.int .u32))) .unit))))), (100014, (.rcd (.cons (.val .str) (.cons (.val .str) .unit)))), (100015, (.rcd (.cons (.val .str) (.cons (.val .str) .unit))))])] (.region [{ rd := [12] }, { rd := [12] }, {}, {}, {}, { rd := [12] }, { rd := [12] }])) (.cond (.seq (.region [{}, { wr := [14] }]) .leaf) .leaf)) (.seq (.cut [(.normal, [(2, (.ptr 16 0)), (9, (.ptr 17 0)), (100016, (.rcd (.cons (.val .str) (.cons (.val .str) .unit)))), (100017, (.rcd (.cons (.val .str) (.cons (.val .str) .unit))))])] (.seq (.region [{ rd := [13] }, { rd := [13] }]) (.cond (.region [{ rd := [15] }, { rd := [15] }, {}, { rd := [15] }, { wr := [15] }]) .leaf))) (.seq (.region [{ rd := [17] }, { wr := [16] }]) .leaf)))))))))
noncomputable def run57 : Ks.den inst57.args → Ks.den inst57.objs → Option inst57.out.den := fun x _ => exact_number__write x.1
theorem ev57 : ∀ x y, evFn fx48 56 (bodyOf Tryz.f57) [.cell 2 23, .tmp 3] hint57 inst57 x y = run57 x y := by intro x y; kernel_rfl
theorem ok57 : FnOK Tryz.prog fx48.glob 57 (inst57.sem run57) :=
  fn_add fx48_ok feMixed 57 Tryz.f57 [.cell 2 23, .tmp 3] hint57 inst57 56 run57 Tryz.func57 (by kernel_rfl) Tryz.ntmps57 (by kernel_rfl) (by kernel_rfl) ev57
noncomputable def fx57 : Ctx := fx48.add 57 (inst57.sem run57)
theorem fx57_ok : CtxOK fx57 Tryz.prog := add_ok fx48_ok ok57 Tryz.call57
def inst47 : Inst := { args := [(.val (.pair .str (.pair .str .unit))), (.val (.pair .str (.pair .str .unit))), (.fn 48 .unit)], objs := [], nres := 2, out := [(90000, (.val (.pair .str (.pair .str .unit)))), (90001, (.val (.int .i64)))], news := 0 }
def hint47 : HC := (.seq (.region [{ new := [10] }, { new := [11] }, { new := [12] }]) (.seq (.region [{ rd := [10] }, { rd := [11] }, {}, {}, {}, {}, {}, { new := [13] }, { new := [14] }, { wr := [13] }, { wr := [14] }]) (.seq (.seq (.region []) (.cond (.seq (.region [{}, {}, { wr := [12] }]) .leaf) .leaf)) (.seq (.region [{}, { rd := [13] }, { rd := [14] }, {}, {}, {}, {}, { new := [15] }, { wr := [15] }]) (.seq (.seq (.region []) (.cond (.seq (.region [{}, {}, { wr := [12] }]) .leaf) .leaf)) (.seq (.region [{ rd := [15] }, {}, {}, {}, { wr := [12] }]) .leaf))))))
noncomputable def run47 : Ks.den inst47.args → Ks.den inst47.objs → Option inst47.out.den := fun x _ => exact_two_Add_1 x.1 x.2.1
theorem ev47 : ∀ x y, evFn fx57 38 (bodyOf Tryz.f47) [.cell 6 23, .tmp 7] hint47 inst47 x y = run47 x y := by intro x y; kernel_rfl
theorem ok47 : FnOK Tryz.prog fx57.glob 47 (inst47.sem run47) :=
  fn_add fx57_ok feMixed 47 Tryz.f47 [.cell 6 23, .tmp 7] hint47 inst47 38 run47 Tryz.func47 (by kernel_rfl) Tryz.ntmps47 (by kernel_rfl) (by kernel_rfl) ev47
noncomputable def fx47 : Ctx := fx57.add 47 (inst47.sem run47)
theorem fx47_ok : CtxOK fx47 Tryz.prog := add_ok fx57_ok ok47 Tryz.call47
def inst9 : Inst := { args := [(.val (.pair .str (.pair .str .unit))), (.val (.pair .str (.pair .str .unit)))], objs := [], nres := 2, out := [(90000, (.val (.pair .str (.pair .str .unit)))), (90001, (.val (.int .i64)))], news := 0 }
def hint9 : HC := (.seq (.region [{ new := [10] }, { new := [11] }, { new := [12] }]) (.seq (.region [{ rd := [10] }, { rd := [11] }, {}, {}, {}, { wr := [12] }]) .leaf))
noncomputable def run9 : Ks.den inst9.args → Ks.den inst9.objs → Option inst9.out.den := fun x _ => exact_Add x.1 x.2.1
theorem ev9 : ∀ x y, evFn fx47 11 (bodyOf Tryz.f9) [.cell 4 23, .tmp 5] hint9 inst9 x y = run9 x y := by intro x y; kernel_rfl
theorem ok9 : FnOK Tryz.prog fx47.glob 9 (inst9.sem run9) :=
  fn_add fx47_ok feMixed 9 Tryz.f9 [.cell 4 23, .tmp 5] hint9 inst9 11 run9 Tryz.func9 (by kernel_rfl) Tryz.ntmps9 (by kernel_rfl) (by kernel_rfl) ev9
noncomputable def fx9 : Ctx := fx47.add 9 (inst9.sem run9)
theorem fx9_ok : CtxOK fx9 Tryz.prog := add_ok fx47_ok ok9 Tryz.call9
def inst8 : Inst := { args := [], objs := [], nres := 1, out := [(90000, (.val .bool))], news := 0 }
def hint8 : HC := (.seq (.region []) (.seq (.region [{}, {}, {}, {}, {}, {}, { new := [10] }, { wr := [10] }]) (.seq (.region [{}, {}, {}, { rd := [10] }]) .leaf)))
noncomputable def run8 : Ks.den inst8.args → Ks.den inst8.objs → Option inst8.out.den := fun _ _ => chancerylaw2_fractions
theorem ev8 : ∀ x y, evFn fx9 16 (bodyOf Tryz.f8) [.tmp 0] hint8 inst8 x y = run8 x y := by intro x y; kernel_rfl
theorem ok8 : FnOK Tryz.prog fx9.glob 8 (inst8.sem run8) :=
  fn_add fx9_ok feMixed 8 Tryz.f8 [.tmp 0] hint8 inst8 16 run8 Tryz.func8 (by kernel_rfl) Tryz.ntmps8 (by kernel_rfl) (by kernel_rfl) ev8
noncomputable def fx8 : Ctx := fx9.add 8 (inst8.sem run8)
theorem fx8_ok : CtxOK fx8 Tryz.prog := add_ok fx9_ok ok8 Tryz.call8
def inst50 : Inst := { args := [(.val (.pair .bool (.pair (.sl (.int .u32)) (.pair (.sl (.int .u32)) .unit)))), (.val (.pair .bool (.pair (.sl (.int .u32)) (.pair (.sl (.int .u32)) .unit))))], objs := [], nres := 2, out := [(90000, (.val (.pair .bool (.pair (.sl (.int .u32)) (.pair (.sl (.int .u32)) .unit))))), (90001, (.val (.int .i64)))], news := 0 }
def hint50 : HC := (.seq (.region [{ new := [10] }, { new := [11] }, { new := [12] }]) (.seq (.region [{ rd := [11] }, { rd := [11] }, {}, { rd := [11] }, { wr := [11] }]) (.seq (.region [{ rd := [10] }, { rd := [11] }, {}, { wr := [12] }]) .leaf)))
noncomputable def run50 : Ks.den inst50.args → Ks.den inst50.objs → Option inst50.out.den := fun x _ => exact_Sub_1 x.1 x.2.1
theorem ev50 : ∀ x y, evFn fx8 13 (bodyOf Tryz.f50) [.cell 4 69, .tmp 5] hint50 inst50 x y = run50 x y := by intro x y; kernel_rfl
theorem ok50 : FnOK Tryz.prog fx8.glob 50 (inst50.sem run50) :=
  fn_add fx8_ok feMixed 50 Tryz.f50 [.cell 4 69, .tmp 5] hint50 inst50 13 run50 Tryz.func50 (by kernel_rfl) Tryz.ntmps50 (by kernel_rfl) (by kernel_rfl) ev50
noncomputable def fx50 : Ctx := fx8.add 50 (inst50.sem run50)
theorem fx50_ok : CtxOK fx50 Tryz.prog := add_ok fx8_ok ok50 Tryz.call50
def inst47x2 : Inst := { args := [(.val (.pair .str (.pair .str .unit))), (.val (.pair .str (.pair .str .unit))), (.fn 50 .unit)], objs := [], nres := 2, out := [(90000, (.val (.pair .str (.pair .str .unit)))), (90001, (.val (.int .i64)))], news := 0 }
def hint47x2 : HC := (.seq (.region [{ new := [10] }, { new := [11] }, { new := [12] }]) (.seq (.region [{ rd := [10] }, { rd := [11] }, {}, {}, {}, {}, {}, { new := [13] }, { new := [14] }, { wr := [13] }, { wr := [14] }]) (.seq (.seq (.region []) (.cond (.seq (.region [{}, {}, { wr := [12] }]) .leaf) .leaf)) (.seq (.region [{}, { rd := [13] }, { rd := [14] }, {}, {}, {}, {}, { new := [15] }, { wr := [15] }]) (.seq (.seq (.region []) (.cond (.seq (.region [{}, {}, { wr := [12] }]) .leaf) .leaf)) (.seq (.region [{ rd := [15] }, {}, {}, {}, { wr := [12] }]) .leaf))))))
noncomputable def run47x2 : Ks.den inst47x2.args → Ks.den inst47x2.objs → Option inst47x2.out.den := fun x _ => exact_two_Sub_1 x.1 x.2.1
theorem ev47x2 : ∀ x y, evFn fx50 38 (bodyOf Tryz.f47) [.cell 6 23, .tmp 7] hint47x2 inst47x2 x y = run47x2 x y := by intro x y; kernel_rfl
theorem ok47x2 : FnOK Tryz.prog fx50.glob 47 (inst47x2.sem run47x2) :=
  fn_add fx50_ok feMixed 47 Tryz.f47 [.cell 6 23, .tmp 7] hint47x2 inst47x2 38 run47x2 Tryz.func47 (by kernel_rfl) Tryz.ntmps47 (by kernel_rfl) (by kernel_rfl) ev47x2
noncomputable def fx47x2 : Ctx := fx50.more 47 (inst47x2.sem run47x2)
theorem fx47x2_ok : CtxOK fx47x2 Tryz.prog := more_ok fx50_ok ok47x2 Tryz.call47
def inst10 : Inst := { args := [(.val (.pair .str (.pair .str .unit))), (.val (.pair .str (.pair .str .unit)))], objs := [], nres := 2, out := [(90000, (.val (.pair .str (.pair .str .unit)))), (90001, (.val (.int .i64)))], news := 0 }
def hint10 : HC := (.seq (.region [{ new := [10] }, { new := [11] }, { new := [12] }]) (.seq (.region [{ rd := [10] }, { rd := [11] }, {}, {}, {}, { wr := [12] }]) .leaf))
noncomputable def run10 : Ks.den inst10.args → Ks.den inst10.objs → Option inst10.out.den := fun x _ => exact_Sub x.1 x.2.1
theorem ev10 : ∀ x y, evFn fx47x2 11 (bodyOf Tryz.f10) [.cell 4 23, .tmp 5] hint10 inst10 x y = run10 x y := by intro x y; kernel_rfl
theorem ok10 : FnOK Tryz.prog fx47x2.glob 10 (inst10.sem run10) :=
  fn_add fx47x2_ok feMixed 10 Tryz.f10 [.cell 4 23, .tmp 5] hint10 inst10 11 run10 Tryz.func10 (by kernel_rfl) Tryz.ntmps10 (by kernel_rfl) (by kernel_rfl) ev10
noncomputable def fx10 : Ctx := fx47x2.add 10 (inst10.sem run10)
theorem fx10_ok : CtxOK fx10 Tryz.prog := add_ok fx47x2_ok ok10 Tryz.call10
def inst51 : Inst := { args := [(.val (.pair .bool (.pair (.sl (.int .u32)) (.pair (.sl (.int .u32)) .unit)))), (.val (.pair .bool (.pair (.sl (.int .u32)) (.pair (.sl (.int .u32)) .unit))))], objs := [], nres := 2, out := [(90000, (.val (.pair .bool (.pair (.sl (.int .u32)) (.pair (.sl (.int .u32)) .unit))))), (90001, (.val (.int .i64)))], news := 0 }
def hint51 : HC := (.seq (.region [{ new := [10] }, { new := [11] }, { new := [12] }]) (.seq (.region [{ rd := [10] }, { rd := [10] }, { rd := [11] }, { rd := [11] }, {}, { rd := [10] }, { rd := [10] }, { rd := [11] }, { rd := [11] }, {}, { rd := [10] }, { rd := [10] }, { rd := [11] }, { rd := [11] }, {}, {}, { wr := [12] }]) .leaf))
noncomputable def run51 : Ks.den inst51.args → Ks.den inst51.objs → Option inst51.out.den := fun x _ => exact_Mul_1 x.1 x.2.1
theorem ev51 : ∀ x y, evFn fx10 22 (bodyOf Tryz.f51) [.cell 4 69, .tmp 5] hint51 inst51 x y = run51 x y := by intro x y; kernel_rfl
theorem ok51 : FnOK Tryz.prog fx10.glob 51 (inst51.sem run51) :=
  fn_add fx10_ok feMixed 51 Tryz.f51 [.cell 4 69, .tmp 5] hint51 inst51 22 run51 Tryz.func51 (by kernel_rfl) Tryz.ntmps51 (by kernel_rfl) (by kernel_rfl) ev51
noncomputable def fx51 : Ctx := fx10.add 51 (inst51.sem run51)
theorem fx51_ok : CtxOK fx51 Tryz.prog := add_ok fx10_ok ok51 Tryz.call51
def inst47x3 : Inst := { args := [(.val (.pair .str (.pair .str .unit))), (.val (.pair .str (.pair .str .unit))), (.fn 51 .unit)], objs := [], nres := 2, out := [(90000, (.val (.pair .str (.pair .str .unit)))), (90001, (.val (.int .i64)))], news := 0 }
def hint47x3 : HC := (.seq (.region [{ new := [10] }, { new := [11] }, { new := [12] }]) (.seq (.region [{ rd := [10] }, { rd := [11] }, {}, {}, {}, {}, {}, { new := [13] }, { new := [14] }, { wr := [13] }, { wr := [14] }]) (.seq (.seq (.region []) (.cond (.seq (.region [{}, {}, { wr := [12] }]) .leaf) .leaf)) (.seq (.region [{}, { rd := [13] }, { rd := [14] }, {}, {}, {}, {}, { new := [15] }, { wr := [15] }]) (.seq (.seq (.region []) (.cond (.seq (.region [{}, {}, { wr := [12] }]) .leaf) .leaf)) (.seq (.region [{ rd := [15] }, {}, {}, {}, { wr := [12] }]) .leaf))))))
noncomputable def run47x3 : Ks.den inst47x3.args → Ks.den inst47x3.objs → Option inst47x3.out.den := fun x _ => exact_two_Mul_1 x.1 x.2.1
theorem ev47x3 : ∀ x y, evFn fx51 38 (bodyOf Tryz.f47) [.cell 6 23, .tmp 7] hint47x3 inst47x3 x y = run47x3 x y := by intro x y; kernel_rfl
theorem ok47x3 : FnOK Tryz.prog fx51.glob 47 (inst47x3.sem run47x3) :=
  fn_add fx51_ok feMixed 47 Tryz.f47 [.cell 6 23, .tmp 7] hint47x3 inst47x3 38 run47x3 Tryz.func47 (by kernel_rfl) Tryz.ntmps47 (by kernel_rfl) (by kernel_rfl) ev47x3
noncomputable def fx47x3 : Ctx := fx51.more 47 (inst47x3.sem run47x3)
theorem fx47x3_ok : CtxOK fx47x3 Tryz.prog := more_ok fx51_ok ok47x3 Tryz.call47
def inst11 : Inst := { args := [(.val (.pair .str (.pair .str .unit))), (.val (.pair .str (.pair .str .unit)))], objs := [], nres := 2, out := [(90000, (.val (.pair .str (.pair .str .unit)))), (90001, (.val (.int .i64)))], news := 0 }
def hint11 : HC := (.seq (.region [{ new := [10] }, { new := [11] }, { new := [12] }]) (.seq (.region [{ rd := [10] }, { rd := [11] }, {}, {}, {}, { wr := [12] }]) .leaf))
noncomputable def run11 : Ks.den inst11.args → Ks.den inst11.objs → Option inst11.out.den := fun x _ => exact_Mul x.1 x.2.1
theorem ev11 : ∀ x y, evFn fx47x3 11 (bodyOf Tryz.f11) [.cell 4 23, .tmp 5] hint11 inst11 x y = run11 x y := by intro x y; kernel_rfl
theorem ok11 : FnOK Tryz.prog fx47x3.glob 11 (inst11.sem run11) :=
  fn_add fx47x3_ok feMixed 11 Tryz.f11 [.cell 4 23, .tmp 5] hint11 inst11 11 run11 Tryz.func11 (by kernel_rfl) Tryz.ntmps11 (by kernel_rfl) (by kernel_rfl) ev11
noncomputable def fx11 : Ctx := fx47x3.add 11 (inst11.sem run11)
theorem fx11_ok : CtxOK fx11 Tryz.prog := add_ok fx47x3_ok ok11 Tryz.call11
def inst53 : Inst := { args := [(.val (.pair .bool (.pair (.sl (.int .u32)) (.pair (.sl (.int .u32)) .unit)))), (.val (.pair .bool (.pair (.sl (.int .u32)) (.pair (.sl (.int .u32)) .unit))))], objs := [], nres := 2, out := [(90000, (.val (.pair .bool (.pair (.sl (.int .u32)) (.pair (.sl (.int .u32)) .unit))))), (90001, (.val (.int .i64)))], news := 0 }
def hint53 : HC := (.seq (.region [{ new := [10] }, { new := [11] }, { new := [12] }]) (.seq (.seq (.region [{ rd := [11] }, { rd := [11] }]) (.cond (.seq (.region [{}, { wr := [12] }]) .leaf) .leaf)) (.seq (.region [{ rd := [10] }, { rd := [10] }, { rd := [11] }, { rd := [11] }, {}, { rd := [10] }, { rd := [10] }, { rd := [11] }, { rd := [11] }, {}, { rd := [10] }, { rd := [10] }, { rd := [11] }, { rd := [11] }, {}, {}, { wr := [12] }]) .leaf)))
noncomputable def run53 : Ks.den inst53.args → Ks.den inst53.objs → Option inst53.out.den := fun x _ => exact_Div_1 x.1 x.2.1
theorem ev53 : ∀ x y, evFn fx11 26 (bodyOf Tryz.f53) [.cell 4 69, .tmp 5] hint53 inst53 x y = run53 x y := by intro x y; kernel_rfl
theorem ok53 : FnOK Tryz.prog fx11.glob 53 (inst53.sem run53) :=
  fn_add fx11_ok feMixed 53 Tryz.f53 [.cell 4 69, .tmp 5] hint53 inst53 26 run53 Tryz.func53 (by kernel_rfl) Tryz.ntmps53 (by kernel_rfl) (by kernel_rfl) ev53
noncomputable def fx53 : Ctx := fx11.add 53 (inst53.sem run53)
theorem fx53_ok : CtxOK fx53 Tryz.prog := add_ok fx11_ok ok53 Tryz.call53
def inst47x4 : Inst := { args := [(.val (.pair .str (.pair .str .unit))), (.val (.pair .str (.pair .str .unit))), (.fn 53 .unit)], objs := [], nres := 2, out := [(90000, (.val (.pair .str (.pair .str .unit)))), (90001, (.val (.int .i64)))], news := 0 }
def hint47x4 : HC := (.seq (.region [{ new := [10] }, { new := [11] }, { new := [12] }]) (.seq (.region [{ rd := [10] }, { rd := [11] }, {}, {}, {}, {}, {}, { new := [13] }, { new := [14] }, { wr := [13] }, { wr := [14] }]) (.seq (.seq (.region []) (.cond (.seq (.region [{}, {}, { wr := [12] }]) .leaf) .leaf)) (.seq (.region [{}, { rd := [13] }, { rd := [14] }, {}, {}, {}, {}, { new := [15] }, { wr := [15] }]) (.seq (.seq (.region []) (.cond (.seq (.region [{}, {}, { wr := [12] }]) .leaf) .leaf)) (.seq (.region [{ rd := [15] }, {}, {}, {}, { wr := [12] }]) .leaf))))))
noncomputable def run47x4 : Ks.den inst47x4.args → Ks.den inst47x4.objs → Option inst47x4.out.den := fun x _ => exact_two_Div_1 x.1 x.2.1
theorem ev47x4 : ∀ x y, evFn fx53 38 (bodyOf Tryz.f47) [.cell 6 23, .tmp 7] hint47x4 inst47x4 x y = run47x4 x y := by intro x y; kernel_rfl
theorem ok47x4 : FnOK Tryz.prog fx53.glob 47 (inst47x4.sem run47x4) :=
  fn_add fx53_ok feMixed 47 Tryz.f47 [.cell 6 23, .tmp 7] hint47x4 inst47x4 38 run47x4 Tryz.func47 (by kernel_rfl) Tryz.ntmps47 (by kernel_rfl) (by kernel_rfl) ev47x4
noncomputable def fx47x4 : Ctx := fx53.more 47 (inst47x4.sem run47x4)
theorem fx47x4_ok : CtxOK fx47x4 Tryz.prog := more_ok fx53_ok ok47x4 Tryz.call47
def inst12 : Inst := { args := [(.val (.pair .str (.pair .str .unit))), (.val (.pair .str (.pair .str .unit)))], objs := [], nres := 2, out := [(90000, (.val (.pair .str (.pair .str .unit)))), (90001, (.val (.int .i64)))], news := 0 }
def hint12 : HC := (.seq (.region [{ new := [10] }, { new := [11] }, { new := [12] }]) (.seq (.region [{ rd := [10] }, { rd := [11] }, {}, {}, {}, { wr := [12] }]) .leaf))
noncomputable def run12 : Ks.den inst12.args → Ks.den inst12.objs → Option inst12.out.den := fun x _ => exact_Div x.1 x.2.1
theorem ev12 : ∀ x y, evFn fx47x4 11 (bodyOf Tryz.f12) [.cell 4 23, .tmp 5] hint12 inst12 x y = run12 x y := by intro x y; kernel_rfl
theorem ok12 : FnOK Tryz.prog fx47x4.glob 12 (inst12.sem run12) :=
  fn_add fx47x4_ok feMixed 12 Tryz.f12 [.cell 4 23, .tmp 5] hint12 inst12 11 run12 Tryz.func12 (by kernel_rfl) Tryz.ntmps12 (by kernel_rfl) (by kernel_rfl) ev12
noncomputable def fx12 : Ctx := fx47x4.add 12 (inst12.sem run12)
theorem fx12_ok : CtxOK fx12 Tryz.prog := add_ok fx47x4_ok ok12 Tryz.call12
def inst13 : Inst := { args := [(.val (.pair .str (.pair .str .unit))), (.val (.pair .str (.pair .str .unit)))], objs := [], nres := 2, out := [(90000, (.val (.int .i64))), (90001, (.val (.int .i64)))], news := 0 }
def hint13 : HC := (.seq (.region [{ new := [10] }, { new := [11] }]) (.seq (.region [{ rd := [10] }, { rd := [11] }, {}, {}, {}, {}, {}, { new := [12] }, { new := [13] }, { wr := [12] }, { wr := [13] }]) (.seq (.seq (.region []) (.cond (.seq (.region []) .leaf) .leaf)) (.seq (.region [{ rd := [13] }, { rd := [13] }, {}, { rd := [13] }, { wr := [13] }]) (.seq (.region [{ rd := [12] }, { rd := [13] }, {}, { new := [14] }, { wr := [14] }]) (.seq (.block (.seq (.region [{ rd := [14] }, { rd := [14] }]) (.cond (.seq (.region []) .leaf) (.seq (.region [{ rd := [14] }, { rd := [14] }]) (.cond (.seq (.region []) .leaf) .leaf))))) (.seq (.region []) .leaf)))))))
noncomputable def run13 : Ks.den inst13.args → Ks.den inst13.objs → Option inst13.out.den := fun x _ => exact_Compare x.1 x.2.1
theorem ev13 : ∀ x y, evFn fx12 34 (bodyOf Tryz.f13) [.tmp 4, .tmp 5] hint13 inst13 x y = run13 x y := by intro x y; kernel_rfl
theorem ok13 : FnOK Tryz.prog fx12.glob 13 (inst13.sem run13) :=
  fn_add fx12_ok feMixed 13 Tryz.f13 [.tmp 4, .tmp 5] hint13 inst13 34 run13 Tryz.func13 (by kernel_rfl) Tryz.ntmps13 (by kernel_rfl) (by kernel_rfl) ev13
noncomputable def fx13 : Ctx := fx12.add 13 (inst13.sem run13)
theorem fx13_ok : CtxOK fx13 Tryz.prog := add_ok fx12_ok ok13 Tryz.call13
def inst14 : Inst := { args := [(.val (.pair .str (.pair .str .unit)))], objs := [], nres := 2, out := [(90000, (.val (.pair .str (.pair .str .unit)))), (90001, (.val (.int .i64)))], news := 0 }
def hint14 : HC := (.seq (.region [{ new := [10] }, { new := [11] }]) (.seq (.region [{ rd := [10] }, {}, {}, {}, {}, { new := [12] }, { wr := [12] }]) (.seq (.seq (.region []) (.cond (.seq (.region [{}, {}, { wr := [11] }]) .leaf) .leaf)) (.seq (.region [{ rd := [12] }, { rd := [12] }, {}, { rd := [12] }, { wr := [12] }]) (.seq (.region [{ rd := [12] }, {}, {}, {}, { wr := [11] }]) .leaf)))))
noncomputable def run14 : Ks.den inst14.args → Ks.den inst14.objs → Option inst14.out.den := fun x _ => exact_Neg x.1
theorem ev14 : ∀ x y, evFn fx13 23 (bodyOf Tryz.f14) [.cell 2 23, .tmp 3] hint14 inst14 x y = run14 x y := by intro x y; kernel_rfl
theorem ok14 : FnOK Tryz.prog fx13.glob 14 (inst14.sem run14) :=
  fn_add fx13_ok feMixed 14 Tryz.f14 [.cell 2 23, .tmp 3] hint14 inst14 23 run14 Tryz.func14 (by kernel_rfl) Tryz.ntmps14 (by kernel_rfl) (by kernel_rfl) ev14
noncomputable def fx14 : Ctx := fx13.add 14 (inst14.sem run14)
theorem fx14_ok : CtxOK fx14 Tryz.prog := add_ok fx13_ok ok14 Tryz.call14
def inst58 : Inst := { args := [(.val .str)], objs := [], nres := 1, out := [(90000, (.val .bool))], news := 0 }
def hint58 : HC := (.seq (.region []) (.seq (.seq (.region []) (.block (.loop [(6, (.val (.int .i64)))] [((.exit 0), []), (.ret, [(2, (.val .bool))])] (.seq (.region []) (.seq (.cond .leaf .leaf) (.seq (.block (.seq (.region []) (.seq (.cut [(.normal, [(18, (.val .bool))])] (.region [])) (.cond (.seq (.region []) .leaf) .leaf)))) (.region []))))))) (.seq (.region []) .leaf)))
noncomputable def run58 : Ks.den inst58.args → Ks.den inst58.objs → Option inst58.out.den := fun x _ => chanceryref2_Digits x.1
theorem ev58 : ∀ x y, evFn fx14 31 (bodyOf Tryz.f58) [.tmp 2] hint58 inst58 x y = run58 x y := by intro x y; kernel_rfl
theorem ok58 : FnOK Tryz.prog fx14.glob 58 (inst58.sem run58) :=
  fn_add fx14_ok feMixed 58 Tryz.f58 [.tmp 2] hint58 inst58 31 run58 Tryz.func58 (by kernel_rfl) Tryz.ntmps58 (by kernel_rfl) (by kernel_rfl) ev58
noncomputable def fx58 : Ctx := fx14.add 58 (inst58.sem run58)
theorem fx58_ok : CtxOK fx58 Tryz.prog := add_ok fx14_ok ok58 Tryz.call58
def inst99 : Inst := { args := [(.val (.sl (.int .i64)))], objs := [], nres := 1, out := [(90000, (.val (.sl (.int .i64))))], news := 0 }
def hint99 : HC := (.seq (.region []) (.seq (.block (.loop [(0, (.val (.sl (.int .i64))))] [((.exit 0), [(0, (.val (.sl (.int .i64))))])] (.seq (.seq (.cut [(.normal, [(14, (.val .bool))])] (.region [])) (.cond .leaf .leaf)) (.block (.region []))))) (.seq (.region []) .leaf)))
noncomputable def run99 : Ks.den inst99.args → Ks.den inst99.objs → Option inst99.out.den := fun x _ => chanceryref2_Nat__trim x.1
theorem ev99 : ∀ x y, evFn fx58 21 (bodyOf Tryz.f99) [.tmp 2] hint99 inst99 x y = run99 x y := by intro x y; kernel_rfl
theorem ok99 : FnOK Tryz.prog fx58.glob 99 (inst99.sem run99) :=
  fn_add fx58_ok feMixed 99 Tryz.f99 [.tmp 2] hint99 inst99 21 run99 Tryz.func99 (by kernel_rfl) Tryz.ntmps99 (by kernel_rfl) (by kernel_rfl) ev99
noncomputable def fx99 : Ctx := fx58.add 99 (inst99.sem run99)
theorem fx99_ok : CtxOK fx99 Tryz.prog := add_ok fx58_ok ok99 Tryz.call99
def inst60 : Inst := { args := [(.val .str)], objs := [], nres := 1, out := [(90000, (.val (.sl (.int .i64))))], news := 0 }
def hint60 : HC := (.seq (.region []) (.seq (.region []) (.seq (.seq (.region []) (.block (.loop [(3, (.own 12)), (4, (.val (.int .i64))), (100012, (.vec none (.int .i64)))] [((.exit 0), [(3, (.own 13)), (100013, (.vec none (.int .i64)))])] (.seq (.seq (.region []) (.cond .leaf .leaf)) (.seq (.block (.region [{}, {}, {}, {}, {}, {}, { new := [10] }, { rd := [10], wr := [12], new := [11] }])) (.region [])))))) (.seq (.region [{}, { fz := [(20, 13)] }]) .leaf))))
noncomputable def run60 : Ks.den inst60.args → Ks.den inst60.objs → Option inst60.out.den := fun x _ => chanceryref2_NatOf x.1
theorem ev60 : ∀ x y, evFn fx99 22 (bodyOf Tryz.f60) [.tmp 2] hint60 inst60 x y = run60 x y := by intro x y; kernel_rfl
theorem ok60 : FnOK Tryz.prog fx99.glob 60 (inst60.sem run60) :=
  fn_add fx99_ok feMixed 60 Tryz.f60 [.tmp 2] hint60 inst60 22 run60 Tryz.func60 (by kernel_rfl) Tryz.ntmps60 (by kernel_rfl) (by kernel_rfl) ev60
noncomputable def fx60 : Ctx := fx99.add 60 (inst60.sem run60)
theorem fx60_ok : CtxOK fx60 Tryz.prog := add_ok fx99_ok ok60 Tryz.call60
def inst92 : Inst := { args := [(.val (.sl (.int .i64)))], objs := [], nres := 1, out := [(90000, (.val (.sl (.int .i64))))], news := 0 }
def hint92 : HC := (.seq (.region []) (.seq (.region [{}, {}, { new := [10] }]) (.seq (.region []) (.seq (.seq (.region []) (.block (.loop [(3, (.own 11)), (4, (.val (.int .i64))), (5, (.val (.int .i64))), (100011, (.vec none (.int .i64)))] [((.exit 0), [(3, (.own 12)), (100012, (.vec none (.int .i64)))])] (.seq (.seq (.region []) (.cond .leaf .leaf)) (.seq (.block (.seq (.region []) (.seq (.region [{}, {}, {}, {}, { rd := [11] }, { wr := [11] }]) (.region [])))) (.region [])))))) (.seq (.region [{}, { fz := [(31, 12)] }]) .leaf)))))
noncomputable def run92 : Ks.den inst92.args → Ks.den inst92.objs → Option inst92.out.den := fun x _ => chanceryref2_Nat__half x.1
theorem ev92 : ∀ x y, evFn fx60 33 (bodyOf Tryz.f92) [.tmp 2] hint92 inst92 x y = run92 x y := by intro x y; kernel_rfl
theorem ok92 : FnOK Tryz.prog fx60.glob 92 (inst92.sem run92) :=
  fn_add fx60_ok feMixed 92 Tryz.f92 [.tmp 2] hint92 inst92 33 run92 Tryz.func92 (by kernel_rfl) Tryz.ntmps92 (by kernel_rfl) (by kernel_rfl) ev92
noncomputable def fx92 : Ctx := fx60.add 92 (inst92.sem run92)
theorem fx92_ok : CtxOK fx92 Tryz.prog := add_ok fx60_ok ok92 Tryz.call92
def inst65 : Inst := { args := [(.val (.sl (.int .i64))), (.val (.sl (.int .i64)))], objs := [], nres := 1, out := [(90000, (.val (.int .i64)))], news := 0 }
def hint65 : HC := (.seq (.region []) (.seq (.seq (.region []) (.cond (.seq (.seq (.region []) (.cond (.seq (.region []) .leaf) .leaf)) (.seq (.region []) .leaf)) .leaf)) (.seq (.seq (.region []) (.block (.loop [(5, (.val (.int .i64)))] [((.exit 0), []), (.ret, [(4, (.val (.int .i64)))])] (.seq (.seq (.region []) (.cond .leaf .leaf)) (.seq (.block (.seq (.seq (.region []) (.cond (.seq (.region []) .leaf) .leaf)) (.seq (.region []) (.cond (.seq (.region []) .leaf) .leaf)))) (.region [])))))) (.seq (.region []) .leaf))))
noncomputable def run65 : Ks.den inst65.args → Ks.den inst65.objs → Option inst65.out.den := fun x _ => chanceryref2_Nat__Compare x.1 x.2.1
theorem ev65 : ∀ x y, evFn fx92 41 (bodyOf Tryz.f65) [.tmp 4] hint65 inst65 x y = run65 x y := by intro x y; kernel_rfl
theorem ok65 : FnOK Tryz.prog fx92.glob 65 (inst65.sem run65) :=
  fn_add fx92_ok feMixed 65 Tryz.f65 [.tmp 4] hint65 inst65 41 run65 Tryz.func65 (by kernel_rfl) Tryz.ntmps65 (by kernel_rfl) (by kernel_rfl) ev65
noncomputable def fx65 : Ctx := fx92.add 65 (inst65.sem run65)
theorem fx65_ok : CtxOK fx65 Tryz.prog := add_ok fx92_ok ok65 Tryz.call65
def inst100 : Inst := { args := [(.val (.sl (.int .i64))), (.val (.int .i64))], objs := [], nres := 1, out := [(90000, (.val (.int .i64)))], news := 0 }
def hint100 : HC := (.seq (.region []) (.seq (.seq (.region []) (.cond (.seq (.region []) .leaf) .leaf)) (.seq (.region []) .leaf)))
noncomputable def run100 : Ks.den inst100.args → Ks.den inst100.objs → Option inst100.out.den := fun x _ => chanceryref2_digitAt x.1 x.2.1
theorem ev100 : ∀ x y, evFn fx65 13 (bodyOf Tryz.f100) [.tmp 4] hint100 inst100 x y = run100 x y := by intro x y; kernel_rfl
theorem ok100 : FnOK Tryz.prog fx65.glob 100 (inst100.sem run100) :=
  fn_add fx65_ok feMixed 100 Tryz.f100 [.tmp 4] hint100 inst100 13 run100 Tryz.func100 (by kernel_rfl) Tryz.ntmps100 (by kernel_rfl) (by kernel_rfl) ev100
noncomputable def fx100 : Ctx := fx65.add 100 (inst100.sem run100)
theorem fx100_ok : CtxOK fx100 Tryz.prog := add_ok fx65_ok ok100 Tryz.call100
def inst66 : Inst := { args := [(.val (.sl (.int .i64))), (.val (.sl (.int .i64)))], objs := [], nres := 1, out := [(90000, (.val (.sl (.int .i64))))], news := 0 }
def hint66 : HC := (.seq (.region []) (.seq (.region []) (.seq (.region []) (.seq (.seq (.region []) (.block (.loop [(5, (.own 12)), (6, (.val (.int .i64))), (11, (.val (.int .i64))), (100012, (.vec none (.int .i64)))] [((.exit 0), [(5, (.own 14)), (100014, (.vec none (.int .i64)))])] (.seq (.region []) (.seq (.cond .leaf .leaf) (.seq (.block (.seq (.region []) (.seq (.region []) (.seq (.region []) (.seq (.cut [(.normal, [(5, (.own 13)), (6, (.val (.int .i64))), (8, (.val (.int .i64))), (100013, (.vec none (.int .i64)))])] (.seq (.region []) (.cond (.seq (.region []) (.region [])) .leaf))) (.region [{}, {}, { new := [10] }, { rd := [10], wr := [13], new := [11] }])))))) (.region []))))))) (.seq (.region [{}, { fz := [(33, 14)] }]) .leaf)))))
noncomputable def run66 : Ks.den inst66.args → Ks.den inst66.objs → Option inst66.out.den := fun x _ => chanceryref2_Nat__Less x.1 x.2.1
theorem ev66 : ∀ x y, evFn fx100 35 (bodyOf Tryz.f66) [.tmp 4] hint66 inst66 x y = run66 x y := by intro x y; kernel_rfl
theorem ok66 : FnOK Tryz.prog fx100.glob 66 (inst66.sem run66) :=
  fn_add fx100_ok feMixed 66 Tryz.f66 [.tmp 4] hint66 inst66 35 run66 Tryz.func66 (by kernel_rfl) Tryz.ntmps66 (by kernel_rfl) (by kernel_rfl) ev66
noncomputable def fx66 : Ctx := fx100.add 66 (inst66.sem run66)
theorem fx66_ok : CtxOK fx66 Tryz.prog := add_ok fx100_ok ok66 Tryz.call66
def inst64 : Inst := { args := [(.val (.sl (.int .i64))), (.val (.sl (.int .i64)))], objs := [], nres := 1, out := [(90000, (.val (.sl (.int .i64))))], news := 0 }
def hint64 : HC := (.seq (.region []) (.seq (.region []) (.seq (.region []) (.seq (.seq (.region []) (.block (.loop [(5, (.own 12)), (6, (.val (.int .i64))), (7, (.val (.int .i64))), (100012, (.vec none (.int .i64)))] [((.exit 0), [(5, (.own 14)), (100014, (.vec none (.int .i64)))])] (.seq (.seq (.cut [(.normal, [(5, (.own 13)), (22, (.val .bool)), (100013, (.vec none (.int .i64)))])] (.region [])) (.cond .leaf .leaf)) (.seq (.block (.seq (.region []) (.seq (.region [{}, {}, {}, { new := [10] }, { rd := [10], wr := [13], new := [11] }]) (.region [])))) (.region [])))))) (.seq (.region []) .leaf)))))
noncomputable def run64 : Ks.den inst64.args → Ks.den inst64.objs → Option inst64.out.den := fun x _ => chanceryref2_Nat__Plus x.1 x.2.1
theorem ev64 : ∀ x y, evFn fx66 42 (bodyOf Tryz.f64) [.tmp 4] hint64 inst64 x y = run64 x y := by intro x y; kernel_rfl
theorem ok64 : FnOK Tryz.prog fx66.glob 64 (inst64.sem run64) :=
  fn_add fx66_ok feMixed 64 Tryz.f64 [.tmp 4] hint64 inst64 42 run64 Tryz.func64 (by kernel_rfl) Tryz.ntmps64 (by kernel_rfl) (by kernel_rfl) ev64
noncomputable def fx64 : Ctx := fx66.add 64 (inst64.sem run64)
theorem fx64_ok : CtxOK fx64 Tryz.prog := add_ok fx66_ok ok64 Tryz.call64
def inst59 : Inst := { args := [(.val (.sl (.int .i64))), (.val (.sl (.int .i64)))], objs := [], nres := 1, out := [(90000, (.val (.sl (.int .i64))))], news := 0 }
def hint59 : HC := (.seq (.region []) (.seq (.seq (.region []) (.cond (.seq (.region []) .leaf) .leaf)) (.seq (.seq (.region []) (.cond (.seq (.region []) .leaf) .leaf)) (.seq (.region []) (.seq (.block (.loop [(0, (.val (.sl (.int .i64)))), (1, (.val (.sl (.int .i64)))), (5, (.val (.int .i64)))] [((.exit 0), [(0, (.val (.sl (.int .i64)))), (1, (.val (.sl (.int .i64)))), (5, (.val (.int .i64)))])] (.seq (.seq (.cut [(.normal, [(25, (.val .bool))])] (.region [])) (.cond .leaf .leaf)) (.block (.seq (.region []) (.region [])))))) (.seq (.block (.loop [(0, (.val (.sl (.int .i64)))), (1, (.val (.sl (.int .i64))))] [((.exit 2), [(1, (.val (.sl (.int .i64))))])] (.seq (.seq (.region []) (.cond .leaf .leaf)) (.block (.seq (.block (.loop [(0, (.val (.sl (.int .i64))))] [((.exit 4), [(0, (.val (.sl (.int .i64))))])] (.seq (.seq (.cut [(.normal, [(44, (.val .bool))])] (.region [])) (.cond .leaf .leaf)) (.block (.region []))))) (.seq (.block (.loop [(1, (.val (.sl (.int .i64))))] [((.exit 6), [(1, (.val (.sl (.int .i64))))])] (.seq (.seq (.region []) (.cond .leaf .leaf)) (.block (.region []))))) (.seq (.cut [(.normal, [(0, (.val (.sl (.int .i64)))), (1, (.val (.sl (.int .i64))))])] (.seq (.region []) (.cond (.region []) .leaf))) (.region [])))))))) (.seq (.seq (.region []) (.block (.loop [(1, (.val (.sl (.int .i64)))), (64, (.val (.int .i64)))] [((.exit 8), [(1, (.val (.sl (.int .i64))))])] (.seq (.region []) (.seq (.cond .leaf .leaf) (.seq (.block (.region [])) (.region []))))))) (.seq (.region []) .leaf))))))))
noncomputable def run59 : Ks.den inst59.args → Ks.den inst59.objs → Option inst59.out.den := fun x _ => chanceryref2_Gcd x.1 x.2.1
theorem ev59 : ∀ x y, evFn fx64 71 (bodyOf Tryz.f59) [.tmp 4] hint59 inst59 x y = run59 x y := by intro x y; kernel_rfl
theorem ok59 : FnOK Tryz.prog fx64.glob 59 (inst59.sem run59) :=
  fn_add fx64_ok feMixed 59 Tryz.f59 [.tmp 4] hint59 inst59 71 run59 Tryz.func59 (by kernel_rfl) Tryz.ntmps59 (by kernel_rfl) (by kernel_rfl) ev59
noncomputable def fx59 : Ctx := fx64.add 59 (inst59.sem run59)
theorem fx59_ok : CtxOK fx59 Tryz.prog := add_ok fx64_ok ok59 Tryz.call59
def inst61 : Inst := { args := [(.val (.sl (.int .i64)))], objs := [], nres := 1, out := [(90000, (.val .str))], news := 0 }
def hint61 : HC := (.seq (.region []) (.seq (.seq (.region []) (.cond (.seq (.region []) .leaf) .leaf)) (.seq (.region []) (.seq (.seq (.region []) (.block (.loop [(3, (.own 12)), (4, (.val (.int .i64))), (100012, (.vec none (.int .u8)))] [((.exit 0), [(3, (.own 13)), (100013, (.vec none (.int .u8)))])] (.seq (.seq (.region []) (.cond .leaf .leaf)) (.seq (.block (.region [{}, {}, {}, {}, {}, {}, {}, { new := [10] }, { rd := [10], wr := [12], new := [11] }])) (.region [])))))) (.seq (.region [{}, { rd := [13] }]) .leaf)))))
noncomputable def run61 : Ks.den inst61.args → Ks.den inst61.objs → Option inst61.out.den := fun x _ => chanceryref2_Nat__Text x.1
theorem ev61 : ∀ x y, evFn fx59 26 (bodyOf Tryz.f61) [.tmp 2] hint61 inst61 x y = run61 x y := by intro x y; kernel_rfl
theorem ok61 : FnOK Tryz.prog fx59.glob 61 (inst61.sem run61) :=
  fn_add fx59_ok feMixed 61 Tryz.f61 [.tmp 2] hint61 inst61 26 run61 Tryz.func61 (by kernel_rfl) Tryz.ntmps61 (by kernel_rfl) (by kernel_rfl) ev61
noncomputable def fx61 : Ctx := fx59.add 61 (inst61.sem run61)
theorem fx61_ok : CtxOK fx61 Tryz.prog := add_ok fx59_ok ok61 Tryz.call61
def inst15 : Inst := { args := [(.val (.pair .str (.pair .str .unit)))], objs := [], nres := 1, out := [(90000, (.val (.int .i64)))], news := 0 }
def hint15 : HC := (.seq (.region [{ new := [10] }]) (.seq (.region [{ rd := [10] }, { rd := [10] }]) (.seq (.cut [(.normal, [(1, (.ptr 12 0)), (3, (.val .str)), (4, (.val .bool)), (100012, (.rcd (.cons (.val .str) (.cons (.val .str) .unit))))])] (.seq (.cut [(.normal, [(1, (.ptr 11 0)), (13, (.val .bool)), (100011, (.rcd (.cons (.val .str) (.cons (.val .str) .unit))))])] (.region [])) (.cond (.region []) .leaf))) (.seq (.seq (.cut [(.normal, [(1, (.ptr 13 0)), (36, (.val .bool)), (100013, (.rcd (.cons (.val .str) (.cons (.val .str) .unit))))])] (.region [{}, {}, {}, {}, { rd := [12] }, { rd := [12] }, {}, {}, {}, {}, { rd := [12] }, { rd := [12] }])) (.cond (.seq (.region []) .leaf) .leaf)) (.seq (.seq (.cut [(.normal, [(1, (.ptr 14 0)), (45, (.val .bool)), (100014, (.rcd (.cons (.val .str) (.cons (.val .str) .unit))))])] (.region [{}, {}, {}, {}, { rd := [13] }, { rd := [13] }])) (.cond (.seq (.region []) .leaf) .leaf)) (.seq (.seq (.region [{}, {}, { rd := [14] }, { rd := [14] }]) (.cond (.seq (.region []) .leaf) .leaf)) (.seq (.region []) .leaf)))))))
noncomputable def run15 : Ks.den inst15.args → Ks.den inst15.objs → Option inst15.out.den := fun x _ => chanceryref2_FracError x.1
theorem ev15 : ∀ x y, evFn fx61 54 (bodyOf Tryz.f15) [.tmp 2] hint15 inst15 x y = run15 x y := by intro x y; kernel_rfl
theorem ok15 : FnOK Tryz.prog fx61.glob 15 (inst15.sem run15) :=
  fn_add fx61_ok feMixed 15 Tryz.f15 [.tmp 2] hint15 inst15 54 run15 Tryz.func15 (by kernel_rfl) Tryz.ntmps15 (by kernel_rfl) (by kernel_rfl) ev15
noncomputable def fx15 : Ctx := fx61.add 15 (inst15.sem run15)
theorem fx15_ok : CtxOK fx15 Tryz.prog := add_ok fx61_ok ok15 Tryz.call15
def inst16 : Inst := { args := [(.val (.pair .str (.pair .str .unit)))], objs := [], nres := 1, out := [(90000, (.val (.int .i64)))], news := 0 }
def hint16 : HC := (.seq (.region [{ new := [10] }]) (.seq (.region [{ rd := [10] }, {}, {}, {}, {}, { new := [11] }, { wr := [11] }]) (.seq (.region []) .leaf)))
noncomputable def run16 : Ks.den inst16.args → Ks.den inst16.objs → Option inst16.out.den := fun x _ => exact_Check x.1
theorem ev16 : ∀ x y, evFn fx15 11 (bodyOf Tryz.f16) [.tmp 2] hint16 inst16 x y = run16 x y := by intro x y; kernel_rfl
theorem ok16 : FnOK Tryz.prog fx15.glob 16 (inst16.sem run16) :=
  fn_add fx15_ok feMixed 16 Tryz.f16 [.tmp 2] hint16 inst16 11 run16 Tryz.func16 (by kernel_rfl) Tryz.ntmps16 (by kernel_rfl) (by kernel_rfl) ev16
noncomputable def fx16 : Ctx := fx15.add 16 (inst16.sem run16)
theorem fx16_ok : CtxOK fx16 Tryz.prog := add_ok fx15_ok ok16 Tryz.call16
def inst17 : Inst := { args := [(.val (.pair .str (.pair .str .unit))), (.val (.pair .str (.pair .str .unit)))], objs := [], nres := 1, out := [(90000, (.val (.int .i64)))], news := 0 }
def hint17 : HC := (.seq (.region [{ new := [10] }, { new := [11] }]) (.seq (.seq (.region [{ rd := [10] }]) (.seq (.region []) (.cond (.seq (.region []) .leaf) .leaf))) (.seq (.region [{ rd := [11] }]) .leaf)))
noncomputable def run17 : Ks.den inst17.args → Ks.den inst17.objs → Option inst17.out.den := fun x _ => chancerylaw2_both x.1 x.2.1
theorem ev17 : ∀ x y, evFn fx16 13 (bodyOf Tryz.f17) [.tmp 4] hint17 inst17 x y = run17 x y := by intro x y; kernel_rfl
theorem ok17 : FnOK Tryz.prog fx16.glob 17 (inst17.sem run17) :=
  fn_add fx16_ok feMixed 17 Tryz.f17 [.tmp 4] hint17 inst17 13 run17 Tryz.func17 (by kernel_rfl) Tryz.ntmps17 (by kernel_rfl) (by kernel_rfl) ev17
noncomputable def fx17 : Ctx := fx16.add 17 (inst17.sem run17)
theorem fx17_ok : CtxOK fx17 Tryz.prog := add_ok fx16_ok ok17 Tryz.call17
def inst18 : Inst := { args := [(.val (.pair .str (.pair .str .unit)))], objs := [], nres := 1, out := [(90000, (.val (.pair .bool (.pair (.sl (.int .i64)) (.pair (.sl (.int .i64)) .unit)))))], news := 0 }
def hint18 : HC := (.seq (.region [{ new := [10] }, { new := [11] }]) (.seq (.seq (.region [{ rd := [10] }, { rd := [10] }]) (.cond (.seq (.region [{ rd := [10] }, { rd := [10] }, {}, {}, { rd := [10] }, { rd := [10] }, {}, {}, { wr := [11] }]) .leaf) .leaf)) (.seq (.region [{ rd := [10] }, { rd := [10] }, {}, { rd := [10] }, { rd := [10] }, {}, {}, { wr := [11] }]) .leaf)))
noncomputable def run18 : Ks.den inst18.args → Ks.den inst18.objs → Option inst18.out.den := fun x _ => chanceryref2_RatOf x.1
theorem ev18 : ∀ x y, evFn fx17 22 (bodyOf Tryz.f18) [.cell 2 36] hint18 inst18 x y = run18 x y := by intro x y; kernel_rfl
theorem ok18 : FnOK Tryz.prog fx17.glob 18 (inst18.sem run18) :=
  fn_add fx17_ok feMixed 18 Tryz.f18 [.cell 2 36] hint18 inst18 22 run18 Tryz.func18 (by kernel_rfl) Tryz.ntmps18 (by kernel_rfl) (by kernel_rfl) ev18
noncomputable def fx18 : Ctx := fx17.add 18 (inst18.sem run18)
theorem fx18_ok : CtxOK fx18 Tryz.prog := add_ok fx17_ok ok18 Tryz.call18
def inst19 : Inst := { args := [(.val (.pair .bool (.pair (.sl (.int .i64)) (.pair (.sl (.int .i64)) .unit))))], objs := [], nres := 1, out := [(90000, (.val (.int .i64)))], news := 0 }
def hint19 : HC := (.seq (.region [{ new := [10] }]) (.seq (.block (.seq (.region [{ rd := [10] }, { rd := [10] }]) (.cond (.seq (.region []) .leaf) (.seq (.region [{ rd := [10] }, { rd := [10] }]) (.cond (.seq (.region []) .leaf) .leaf))))) (.seq (.region []) .leaf)))
noncomputable def run19 : Ks.den inst19.args → Ks.den inst19.objs → Option inst19.out.den := fun x _ => chanceryref2_Rat__Sign x.1
theorem ev19 : ∀ x y, evFn fx18 11 (bodyOf Tryz.f19) [.tmp 2] hint19 inst19 x y = run19 x y := by intro x y; kernel_rfl
theorem ok19 : FnOK Tryz.prog fx18.glob 19 (inst19.sem run19) :=
  fn_add fx18_ok feMixed 19 Tryz.f19 [.tmp 2] hint19 inst19 11 run19 Tryz.func19 (by kernel_rfl) Tryz.ntmps19 (by kernel_rfl) (by kernel_rfl) ev19
noncomputable def fx19 : Ctx := fx18.add 19 (inst19.sem run19)
theorem fx19_ok : CtxOK fx19 Tryz.prog := add_ok fx18_ok ok19 Tryz.call19
def inst22 : Inst := { args := [(.val (.pair .bool (.pair (.sl (.int .i64)) (.pair (.sl (.int .i64)) .unit))))], objs := [], nres := 1, out := [(90000, (.val (.pair .bool (.pair (.sl (.int .i64)) (.pair (.sl (.int .i64)) .unit)))))], news := 0 }
def hint22 : HC := (.seq (.region [{ new := [10] }, { new := [11] }]) (.seq (.region [{ rd := [10] }, { rd := [10] }, { rd := [10] }, { rd := [10] }, { rd := [10] }, { rd := [10] }, {}, { wr := [11] }]) .leaf))
noncomputable def run22 : Ks.den inst22.args → Ks.den inst22.objs → Option inst22.out.den := fun x _ => chanceryref2_Rat__Inverse x.1
theorem ev22 : ∀ x y, evFn fx19 10 (bodyOf Tryz.f22) [.cell 2 36] hint22 inst22 x y = run22 x y := by intro x y; kernel_rfl
theorem ok22 : FnOK Tryz.prog fx19.glob 22 (inst22.sem run22) :=
  fn_add fx19_ok feMixed 22 Tryz.f22 [.cell 2 36] hint22 inst22 10 run22 Tryz.func22 (by kernel_rfl) Tryz.ntmps22 (by kernel_rfl) (by kernel_rfl) ev22
noncomputable def fx22 : Ctx := fx19.add 22 (inst22.sem run22)
theorem fx22_ok : CtxOK fx22 Tryz.prog := add_ok fx19_ok ok22 Tryz.call22
def inst63 : Inst := { args := [(.val (.sl (.int .i64))), (.val (.sl (.int .i64)))], objs := [], nres := 1, out := [(90000, (.val (.sl (.int .i64))))], news := 0 }
def hint63 : HC := (.seq (.region []) (.seq (.region [{}, {}, {}, {}, {}, { new := [10] }]) (.seq (.seq (.region []) (.block (.loop [(5, (.own 11)), (19, (.val (.int .i64))), (100011, (.vec none (.int .i64)))] [((.exit 0), [(5, (.own 16)), (100016, (.vec none (.int .i64)))])] (.seq (.region []) (.seq (.cond .leaf .leaf) (.seq (.block (.seq (.region []) (.seq (.seq (.region []) (.block (.loop [(5, (.own 12)), (24, (.val (.int .i64))), (100012, (.vec none (.int .i64)))] [((.exit 2), [(5, (.own 13)), (100013, (.vec none (.int .i64)))])] (.seq (.region []) (.seq (.cond .leaf .leaf) (.seq (.block (.seq (.region []) (.region [{}, {}, {}, {}, { rd := [12] }, { rd := [12] }, {}, {}, {}, {}, {}, {}, {}, {}, {}, {}, { rd := [12] }, { wr := [12] }]))) (.region []))))))) (.seq (.region []) (.seq (.region []) (.block (.loop [(5, (.own 14)), (8, (.val (.int .i64))), (9, (.val (.int .i64))), (100014, (.vec none (.int .i64)))] [((.exit 4), [(5, (.own 15)), (100015, (.vec none (.int .i64)))])] (.seq (.seq (.region [{}, {}, { rd := [14] }]) (.cond .leaf .leaf)) (.seq (.block (.seq (.region [{}, {}, { rd := [14] }, { rd := [14] }]) (.seq (.region [{}, {}, {}, {}, { rd := [14] }, { wr := [14] }]) (.region [])))) (.region [])))))))))) (.region []))))))) (.seq (.region [{}, { fz := [(66, 16)] }]) .leaf))))
noncomputable def run63 : Ks.den inst63.args → Ks.den inst63.objs → Option inst63.out.den := fun x _ => chanceryref2_Nat__Times x.1 x.2.1
theorem ev63 : ∀ x y, evFn fx22 68 (bodyOf Tryz.f63) [.tmp 4] hint63 inst63 x y = run63 x y := by intro x y; kernel_rfl
theorem ok63 : FnOK Tryz.prog fx22.glob 63 (inst63.sem run63) :=
  fn_add fx22_ok feMixed 63 Tryz.f63 [.tmp 4] hint63 inst63 68 run63 Tryz.func63 (by kernel_rfl) Tryz.ntmps63 (by kernel_rfl) (by kernel_rfl) ev63
noncomputable def fx63 : Ctx := fx22.add 63 (inst63.sem run63)
theorem fx63_ok : CtxOK fx63 Tryz.prog := add_ok fx22_ok ok63 Tryz.call63
def inst21 : Inst := { args := [(.val (.pair .bool (.pair (.sl (.int .i64)) (.pair (.sl (.int .i64)) .unit)))), (.val (.pair .bool (.pair (.sl (.int .i64)) (.pair (.sl (.int .i64)) .unit))))], objs := [], nres := 1, out := [(90000, (.val (.pair .bool (.pair (.sl (.int .i64)) (.pair (.sl (.int .i64)) .unit)))))], news := 0 }
def hint21 : HC := (.seq (.region [{ new := [10] }, { new := [11] }, { new := [12] }]) (.seq (.region [{ rd := [10] }, { rd := [10] }, { rd := [11] }, { rd := [11] }, {}, { rd := [10] }, { rd := [10] }, { rd := [11] }, { rd := [11] }, {}, { rd := [10] }, { rd := [10] }, { rd := [11] }, { rd := [11] }, {}, {}, { wr := [12] }]) .leaf))
noncomputable def run21 : Ks.den inst21.args → Ks.den inst21.objs → Option inst21.out.den := fun x _ => chanceryref2_Rat__Mul x.1 x.2.1
theorem ev21 : ∀ x y, evFn fx63 21 (bodyOf Tryz.f21) [.cell 4 36] hint21 inst21 x y = run21 x y := by intro x y; kernel_rfl
theorem ok21 : FnOK Tryz.prog fx63.glob 21 (inst21.sem run21) :=
  fn_add fx63_ok feMixed 21 Tryz.f21 [.cell 4 36] hint21 inst21 21 run21 Tryz.func21 (by kernel_rfl) Tryz.ntmps21 (by kernel_rfl) (by kernel_rfl) ev21
noncomputable def fx21 : Ctx := fx63.add 21 (inst21.sem run21)
theorem fx21_ok : CtxOK fx21 Tryz.prog := add_ok fx63_ok ok21 Tryz.call21
def inst76 : Inst := { args := [(.val (.sl (.int .i64))), (.val (.sl (.int .i64)))], objs := [], nres := 2, out := [(90000, (.val (.sl (.int .i64)))), (90001, (.val (.sl (.int .i64))))], news := 0 }
def hint76 : HC := (.seq (.region []) (.seq (.region [{}, {}, { new := [10] }]) (.seq (.region []) (.seq (.seq (.region []) (.block (.loop [(6, (.own 11)), (7, (.val (.sl (.int .i64)))), (8, (.val (.int .i64))), (100011, (.vec none (.int .i64)))] [((.exit 0), [(6, (.own 16)), (7, (.val (.sl (.int .i64)))), (100016, (.vec none (.int .i64)))])] (.seq (.seq (.region []) (.cond .leaf .leaf)) (.seq (.block (.seq (.region [{}, {}, {}, {}, { new := [12] }, {}, { wr := [12], new := [13] }, { fz := [(25, 13)] }]) (.block (.loop [(6, (.own 14)), (7, (.val (.sl (.int .i64)))), (100014, (.vec none (.int .i64)))] [((.exit 2), [(6, (.own 15)), (7, (.val (.sl (.int .i64)))), (100015, (.vec none (.int .i64)))])] (.seq (.seq (.region []) (.cond .leaf .leaf)) (.block (.seq (.region []) (.region [{}, {}, { rd := [14] }, { rd := [14] }, {}, { rd := [14] }, { wr := [14] }])))))))) (.region [])))))) (.seq (.region [{}, { fz := [(40, 16)] }]) .leaf)))))
noncomputable def run76 : Ks.den inst76.args → Ks.den inst76.objs → Option inst76.out.den := fun x _ => chanceryref2_Nat__Divide x.1 x.2.1
theorem ev76 : ∀ x y, evFn fx21 43 (bodyOf Tryz.f76) [.tmp 4, .tmp 5] hint76 inst76 x y = run76 x y := by intro x y; kernel_rfl
theorem ok76 : FnOK Tryz.prog fx21.glob 76 (inst76.sem run76) :=
  fn_add fx21_ok feMixed 76 Tryz.f76 [.tmp 4, .tmp 5] hint76 inst76 43 run76 Tryz.func76 (by kernel_rfl) Tryz.ntmps76 (by kernel_rfl) (by kernel_rfl) ev76
noncomputable def fx76 : Ctx := fx21.add 76 (inst76.sem run76)
theorem fx76_ok : CtxOK fx76 Tryz.prog := add_ok fx21_ok ok76 Tryz.call76
def inst62 : Inst := { args := [(.val (.pair .bool (.pair (.sl (.int .i64)) (.pair (.sl (.int .i64)) .unit))))], objs := [], nres := 2, out := [(90000, (.val (.pair .str (.pair .str .unit)))), (90001, (.val (.int .i64)))], news := 0 }
def hint62 : HC := (.seq (.region [{ new := [10] }, { new := [11] }]) (.seq (.seq (.region [{ rd := [10] }, { rd := [10] }]) (.cond (.seq (.region [{}, { wr := [11] }]) .leaf) .leaf)) (.seq (.region [{ rd := [10] }, { rd := [10] }, { rd := [10] }, { rd := [10] }]) (.seq (.region [{ rd := [10] }, { rd := [10] }]) (.seq (.region [{ rd := [10] }, { rd := [10] }]) (.seq (.seq (.cut [(.normal, [(1, (.ptr 12 0)), (2, (.ptr 13 0)), (41, (.val .bool)), (100012, (.rcd (.cons (.val .bool) (.cons (.val (.sl (.int .i64))) (.cons (.val (.sl (.int .i64))) .unit))))), (100013, (.rcd (.cons (.val .str) (.cons (.val .str) .unit))))])] (.region [])) (.cond (.seq (.region [{}, { wr := [13] }]) .leaf) .leaf)) (.seq (.region [{}, {}, {}, {}, {}, { new := [14] }, { wr := [14] }]) (.seq (.cut [(.normal, [(2, (.ptr 15 0)), (9, (.ptr 16 0)), (100015, (.rcd (.cons (.val .str) (.cons (.val .str) .unit)))), (100016, (.rcd (.cons (.val .str) (.cons (.val .str) .unit))))])] (.seq (.region [{ rd := [12] }, { rd := [12] }]) (.cond (.region [{ rd := [14] }, { rd := [14] }, {}, { rd := [14] }, { wr := [14] }]) .leaf))) (.seq (.region [{ rd := [16] }, { wr := [15] }]) .leaf)))))))))
noncomputable def run62 : Ks.den inst62.args → Ks.den inst62.objs → Option inst62.out.den := fun x _ => chanceryref2_Rat__Frac x.1
theorem ev62 : ∀ x y, evFn fx76 55 (bodyOf Tryz.f62) [.cell 2 23, .tmp 3] hint62 inst62 x y = run62 x y := by intro x y; kernel_rfl
theorem ok62 : FnOK Tryz.prog fx76.glob 62 (inst62.sem run62) :=
  fn_add fx76_ok feMixed 62 Tryz.f62 [.cell 2 23, .tmp 3] hint62 inst62 55 run62 Tryz.func62 (by kernel_rfl) Tryz.ntmps62 (by kernel_rfl) (by kernel_rfl) ev62
noncomputable def fx62 : Ctx := fx76.add 62 (inst62.sem run62)
theorem fx62_ok : CtxOK fx62 Tryz.prog := add_ok fx76_ok ok62 Tryz.call62
def inst20 : Inst := { args := [(.val (.pair .str (.pair .str .unit))), (.val (.int .i64)), (.val (.pair .bool (.pair (.sl (.int .i64)) (.pair (.sl (.int .i64)) .unit))))], objs := [], nres := 1, out := [(90000, (.val .bool))], news := 0 }
def hint20 : HC := (.seq (.region [{ new := [10] }, { new := [11] }]) (.seq (.region [{ rd := [11] }, {}, {}, {}, {}, { new := [12] }, { wr := [12] }]) (.seq (.region [{ rd := [10] }, { rd := [12] }]) .leaf)))
noncomputable def run20 : Ks.den inst20.args → Ks.den inst20.objs → Option inst20.out.den := fun x _ => chancerylaw2_frac x.1 x.2.1 x.2.2.1
theorem ev20 : ∀ x y, evFn fx62 22 (bodyOf Tryz.f20) [.tmp 6] hint20 inst20 x y = run20 x y := by intro x y; kernel_rfl
theorem ok20 : FnOK Tryz.prog fx62.glob 20 (inst20.sem run20) :=
  fn_add fx62_ok feMixed 20 Tryz.f20 [.tmp 6] hint20 inst20 22 run20 Tryz.func20 (by kernel_rfl) Tryz.ntmps20 (by kernel_rfl) (by kernel_rfl) ev20
noncomputable def fx20 : Ctx := fx62.add 20 (inst20.sem run20)
theorem fx20_ok : CtxOK fx20 Tryz.prog := add_ok fx62_ok ok20 Tryz.call20
def inst23 : Inst := { args := [(.val (.pair .bool (.pair (.sl (.int .i64)) (.pair (.sl (.int .i64)) .unit)))), (.val (.pair .bool (.pair (.sl (.int .i64)) (.pair (.sl (.int .i64)) .unit))))], objs := [], nres := 1, out := [(90000, (.val (.pair .bool (.pair (.sl (.int .i64)) (.pair (.sl (.int .i64)) .unit)))))], news := 0 }
def hint23 : HC := (.seq (.region [{ new := [10] }, { new := [11] }, { new := [12] }]) (.seq (.region [{ rd := [10] }, { rd := [10] }, { rd := [11] }, { rd := [11] }, {}, { rd := [11] }, { rd := [11] }, { rd := [10] }, { rd := [10] }]) (.seq (.region [{ rd := [10] }, { rd := [10] }, { rd := [11] }, { rd := [11] }, {}, {}, { new := [13] }, { wr := [13] }]) (.seq (.cut [(.normal, [(4, (.ptr 14 0)), (7, (.ptr 15 0)), (100014, (.rcd (.cons (.val .bool) (.cons (.val (.sl (.int .i64))) (.cons (.val (.sl (.int .i64))) .unit))))), (100015, (.rcd (.cons (.val .bool) (.cons (.val (.sl (.int .i64))) (.cons (.val (.sl (.int .i64))) .unit)))))])] (.block (.seq (.region [{ rd := [10] }, { rd := [10] }, { rd := [11] }, { rd := [11] }]) (.cond (.region [{ rd := [10] }, { rd := [10] }, {}, {}, {}, { rd := [13] }, { wr := [13] }, { rd := [13] }, { wr := [13] }]) (.seq (.region []) (.cond (.region [{ rd := [10] }, { rd := [10] }, {}, {}, {}, { rd := [13] }, { wr := [13] }, { rd := [13] }, { wr := [13] }]) (.region [{ rd := [11] }, { rd := [11] }, {}, {}, {}, { rd := [13] }, { wr := [13] }, { rd := [13] }, { wr := [13] }]))))))) (.seq (.region [{ rd := [15] }, { wr := [14] }]) .leaf)))))
noncomputable def run23 : Ks.den inst23.args → Ks.den inst23.objs → Option inst23.out.den := fun x _ => chanceryref2_Rat__Add x.1 x.2.1
theorem ev23 : ∀ x y, evFn fx20 57 (bodyOf Tryz.f23) [.cell 4 36] hint23 inst23 x y = run23 x y := by intro x y; kernel_rfl
theorem ok23 : FnOK Tryz.prog fx20.glob 23 (inst23.sem run23) :=
  fn_add fx20_ok feMixed 23 Tryz.f23 [.cell 4 36] hint23 inst23 57 run23 Tryz.func23 (by kernel_rfl) Tryz.ntmps23 (by kernel_rfl) (by kernel_rfl) ev23
noncomputable def fx23 : Ctx := fx20.add 23 (inst23.sem run23)
theorem fx23_ok : CtxOK fx23 Tryz.prog := add_ok fx20_ok ok23 Tryz.call23
def inst24 : Inst := { args := [(.val (.pair .bool (.pair (.sl (.int .i64)) (.pair (.sl (.int .i64)) .unit))))], objs := [], nres := 1, out := [(90000, (.val (.pair .bool (.pair (.sl (.int .i64)) (.pair (.sl (.int .i64)) .unit)))))], news := 0 }
def hint24 : HC := (.seq (.region [{ new := [10] }, { new := [11] }]) (.seq (.region [{ rd := [10] }, { rd := [10] }, {}, { rd := [10] }, { rd := [10] }, { rd := [10] }, { rd := [10] }, {}, { wr := [11] }]) .leaf))
noncomputable def run24 : Ks.den inst24.args → Ks.den inst24.objs → Option inst24.out.den := fun x _ => chanceryref2_Rat__Negative x.1
theorem ev24 : ∀ x y, evFn fx23 11 (bodyOf Tryz.f24) [.cell 2 36] hint24 inst24 x y = run24 x y := by intro x y; kernel_rfl
theorem ok24 : FnOK Tryz.prog fx23.glob 24 (inst24.sem run24) :=
  fn_add fx23_ok feMixed 24 Tryz.f24 [.cell 2 36] hint24 inst24 11 run24 Tryz.func24 (by kernel_rfl) Tryz.ntmps24 (by kernel_rfl) (by kernel_rfl) ev24
noncomputable def fx24 : Ctx := fx23.add 24 (inst24.sem run24)
theorem fx24_ok : CtxOK fx24 Tryz.prog := add_ok fx23_ok ok24 Tryz.call24
def inst25 : Inst := { args := [(.val (.pair .bool (.pair (.sl (.int .i64)) (.pair (.sl (.int .i64)) .unit)))), (.val (.pair .bool (.pair (.sl (.int .i64)) (.pair (.sl (.int .i64)) .unit))))], objs := [], nres := 1, out := [(90000, (.val (.int .i64)))], news := 0 }
def hint25 : HC := (.seq (.region [{ new := [10] }, { new := [11] }]) (.seq (.region [{ rd := [10] }, { rd := [11] }]) .leaf))
noncomputable def run25 : Ks.den inst25.args → Ks.den inst25.objs → Option inst25.out.den := fun x _ => chanceryref2_Rat__Cmp x.1 x.2.1
theorem ev25 : ∀ x y, evFn fx24 10 (bodyOf Tryz.f25) [.tmp 4] hint25 inst25 x y = run25 x y := by intro x y; kernel_rfl
theorem ok25 : FnOK Tryz.prog fx24.glob 25 (inst25.sem run25) :=
  fn_add fx24_ok feMixed 25 Tryz.f25 [.tmp 4] hint25 inst25 10 run25 Tryz.func25 (by kernel_rfl) Tryz.ntmps25 (by kernel_rfl) (by kernel_rfl) ev25
noncomputable def fx25 : Ctx := fx24.add 25 (inst25.sem run25)
theorem fx25_ok : CtxOK fx25 Tryz.prog := add_ok fx24_ok ok25 Tryz.call25
def inst3 : Inst := { args := [(.val (.pair .str (.pair .str .unit))), (.val (.pair .str (.pair .str .unit)))], objs := [], nres := 1, out := [(90000, (.val .bool))], news := 0 }
def hint3 : HC := (.seq (.region [{ new := [10] }, { new := [11] }]) (.seq (.seq (.region []) (.cond (.seq (.region []) .leaf) .leaf)) (.seq (.region [{ rd := [10] }, { rd := [11] }, {}, {}, {}, {}, { new := [12] }, { wr := [12] }]) (.seq (.region [{ rd := [10] }, { rd := [11] }, {}, {}, {}, {}, { new := [13] }, { wr := [13] }]) (.seq (.region [{ rd := [10] }, { rd := [11] }, {}, {}, {}, {}, { new := [14] }, { wr := [14] }]) (.seq (.region [{ rd := [10] }, { rd := [11] }, {}, {}, {}, {}, { new := [15] }, { wr := [15] }]) (.seq (.region [{ rd := [10] }, { rd := [11] }]) (.seq (.region [{ rd := [10] }, {}, {}, {}, {}, { new := [16] }, { wr := [16] }]) (.seq (.seq (.region [{ rd := [10] }]) (.seq (.cut [(.normal, [(2, (.ptr 17 0)), (3, (.ptr 18 0)), (5, (.ptr 19 0)), (7, (.ptr 20 0)), (9, (.ptr 21 0)), (11, (.ptr 22 0)), (15, (.ptr 23 0)), (77, (.val .bool)), (100017, (.rcd (.cons (.val .str) (.cons (.val .str) .unit)))), (100018, (.rcd (.cons (.val .str) (.cons (.val .str) .unit)))), (100019, (.rcd (.cons (.val .str) (.cons (.val .str) .unit)))), (100020, (.rcd (.cons (.val .str) (.cons (.val .str) .unit)))), (100021, (.rcd (.cons (.val .str) (.cons (.val .str) .unit)))), (100022, (.rcd (.cons (.val .str) (.cons (.val .str) .unit)))), (100023, (.rcd (.cons (.val .str) (.cons (.val .str) .unit))))])] (.region [{ rd := [10] }, {}, {}, {}, {}, {}, {}, {}, {}, {}, {}, {}, { rd := [16] }])) (.cond (.seq (.region []) .leaf) .leaf))) (.seq (.seq (.region [{ rd := [17] }, { rd := [18] }]) (.seq (.region []) (.cond (.seq (.region [{}, {}, {}, {}, {}, {}, {}, {}, {}, {}, {}, {}, {}, {}, {}, {}, {}, {}, {}, {}, {}, {}, {}, {}, {}, {}, {}, {}, { rd := [19] }, {}, {}, {}, {}, { rd := [20] }, {}, {}, {}, {}, { rd := [21] }, {}, {}, {}, {}, { rd := [22] }]) .leaf) .leaf))) (.seq (.region [{ rd := [17] }, {}, { rd := [18] }, {}, { new := [24] }, { new := [25] }, { wr := [24] }, { wr := [25] }]) (.seq (.cut [(.normal, [(5, (.ptr 32 0)), (7, (.ptr 33 0)), (9, (.ptr 34 0)), (15, (.ptr 35 0)), (19, (.ptr 36 0)), (20, (.ptr 37 0)), (100032, (.rcd (.cons (.val .str) (.cons (.val .str) .unit)))), (100033, (.rcd (.cons (.val .str) (.cons (.val .str) .unit)))), (100034, (.rcd (.cons (.val .str) (.cons (.val .str) .unit)))), (100035, (.rcd (.cons (.val .str) (.cons (.val .str) .unit)))), (100036, (.rcd (.cons (.val .bool) (.cons (.val (.sl (.int .i64))) (.cons (.val (.sl (.int .i64))) .unit))))), (100037, (.rcd (.cons (.val .bool) (.cons (.val (.sl (.int .i64))) (.cons (.val (.sl (.int .i64))) .unit)))))]), (.ret, [(4, (.val .bool))])] (.seq (.region [{ rd := [25] }]) (.cond (.seq (.cut [(.normal, [(5, (.ptr 26 0)), (7, (.ptr 27 0)), (9, (.ptr 28 0)), (15, (.ptr 29 0)), (19, (.ptr 30 0)), (20, (.ptr 31 0)), (143, (.val .bool)), (100026, (.rcd (.cons (.val .str) (.cons (.val .str) .unit)))), (100027, (.rcd (.cons (.val .str) (.cons (.val .str) .unit)))), (100028, (.rcd (.cons (.val .str) (.cons (.val .str) .unit)))), (100029, (.rcd (.cons (.val .str) (.cons (.val .str) .unit)))), (100030, (.rcd (.cons (.val .bool) (.cons (.val (.sl (.int .i64))) (.cons (.val (.sl (.int .i64))) .unit))))), (100031, (.rcd (.cons (.val .bool) (.cons (.val (.sl (.int .i64))) (.cons (.val (.sl (.int .i64))) .unit)))))])] (.region [{ rd := [22] }])) (.cond (.seq (.region []) .leaf) .leaf)) (.seq (.region [{ rd := [22] }, {}, { rd := [24] }, { rd := [25] }]) (.cond (.seq (.region []) .leaf) .leaf))))) (.seq (.region [{ rd := [32] }, {}, { rd := [36] }, { rd := [37] }, {}, {}, {}, { rd := [33] }, {}, { rd := [36] }, { rd := [37] }, {}, {}, {}, {}, {}, { rd := [34] }, {}, { rd := [36] }, { rd := [37] }, {}, {}, {}, {}, {}, {}, {}, {}, {}, { rd := [36] }, { rd := [37] }, {}, {}, {}, {}, { rd := [35] }, {}, { rd := [36] }]) .leaf)))))))))))))
noncomputable def run3 : Ks.den inst3.args → Ks.den inst3.objs → Option inst3.out.den := fun x _ => chancerylaw2_ExactOperationsMatch x.1 x.2.1
theorem ev3 : ∀ x y, evFn fx25 193 (bodyOf Tryz.f3) [.tmp 4] hint3 inst3 x y = run3 x y := by intro x y; kernel_rfl
theorem ok3 : FnOK Tryz.prog fx25.glob 3 (inst3.sem run3) :=
  fn_add fx25_ok feMixed 3 Tryz.f3 [.tmp 4] hint3 inst3 193 run3 Tryz.func3 (by kernel_rfl) Tryz.ntmps3 (by kernel_rfl) (by kernel_rfl) ev3
noncomputable def fx3 : Ctx := fx25.add 3 (inst3.sem run3)
theorem fx3_ok : CtxOK fx3 Tryz.prog := add_ok fx25_ok ok3 Tryz.call3
def inst26 : Inst := { args := [(.val (.int .i64)), (.val (.int .i64))], objs := [], nres := 2, out := [(90000, (.val (.pair .str (.pair .str .unit)))), (90001, (.val (.int .i64)))], news := 0 }
def hint26 : HC := (.seq (.region [{ new := [10] }]) (.seq (.seq (.region []) (.cond (.seq (.region [{}, { wr := [10] }]) .leaf) .leaf)) (.seq (.region []) (.seq (.region []) (.seq (.region [{}, {}, {}, {}, {}, {}, {}, {}, {}, {}, {}, { wr := [10] }]) .leaf)))))
noncomputable def run26 : Ks.den inst26.args → Ks.den inst26.objs → Option inst26.out.den := fun x _ => exact_Ratio x.1 x.2.1
theorem ev26 : ∀ x y, evFn fx3 36 (bodyOf Tryz.f26) [.cell 4 23, .tmp 5] hint26 inst26 x y = run26 x y := by intro x y; kernel_rfl
theorem ok26 : FnOK Tryz.prog fx3.glob 26 (inst26.sem run26) :=
  fn_add fx3_ok feMixed 26 Tryz.f26 [.cell 4 23, .tmp 5] hint26 inst26 36 run26 Tryz.func26 (by kernel_rfl) Tryz.ntmps26 (by kernel_rfl) (by kernel_rfl) ev26
noncomputable def fx26 : Ctx := fx3.add 26 (inst26.sem run26)
theorem fx26_ok : CtxOK fx26 Tryz.prog := add_ok fx3_ok ok26 Tryz.call26
def inst71 : Inst := { args := [(.val (.int .i64))], objs := [], nres := 1, out := [(90000, (.val .str))], news := 0 }
def hint71 : HC := (.seq (.region []) (.seq (.seq (.region []) (.cond (.seq (.region [{}, {}, {}, {}, {}, {}, {}, { new := [10] }, { rd := [10] }]) .leaf) .leaf)) (.seq (.seq (.region []) (.cond (.seq (.region [{}, {}, {}, { new := [11] }, { rd := [11] }]) .leaf) .leaf)) (.seq (.seq (.region []) (.cond (.seq (.region [{}, {}, {}, {}, {}, {}, {}, { new := [12] }, { rd := [12] }]) .leaf) .leaf)) (.seq (.region [{}, {}, {}, { new := [13] }, { rd := [13] }]) .leaf)))))
noncomputable def run71 (m : Nat) : Ks.den inst71.args → Ks.den inst71.objs → Option inst71.out.den := fun x _ => chanceryref2_Decimal_f m x.1
theorem ev71 : ∀ m x y, evFn (fx26.add 71 (inst71.sem (run71 m))) 40 (bodyOf Tryz.f71) [.tmp 2] hint71 inst71 x y = run71 (m + 1) x y := by intro m x y; kernel_rfl
theorem ok71 : ∀ m, FnOK Tryz.prog fx26.glob 71 (inst71.sem (run71 m)) :=
  fn_rec fx26_ok feMixed 71 Tryz.f71 [.tmp 2] hint71 inst71 40 run71 Tryz.func71 (by kernel_rfl) Tryz.ntmps71 (by kernel_rfl) (by kernel_rfl) Tryz.call71 (fun _ _ => rfl) ev71
noncomputable def fx71 : Ctx := fx26.add 71 (inst71.sem (run71 rounds))
theorem fx71_ok : CtxOK fx71 Tryz.prog := add_ok fx26_ok (ok71 rounds) Tryz.call71
def inst70 : Inst := { args := [(.val (.int .i64))], objs := [], nres := 1, out := [(90000, (.val .str))], news := 0 }
def hint70 : HC := (.seq (.region []) (.seq (.region []) .leaf))
noncomputable def run70 : Ks.den inst70.args → Ks.den inst70.objs → Option inst70.out.den := fun x _ => chanceryref2_unsigned x.1
theorem ev70 : ∀ x y, evFn fx71 6 (bodyOf Tryz.f70) [.tmp 2] hint70 inst70 x y = run70 x y := by intro x y; kernel_rfl
theorem ok70 : FnOK Tryz.prog fx71.glob 70 (inst70.sem run70) :=
  fn_add fx71_ok feMixed 70 Tryz.f70 [.tmp 2] hint70 inst70 6 run70 Tryz.func70 (by kernel_rfl) Tryz.ntmps70 (by kernel_rfl) (by kernel_rfl) ev70
noncomputable def fx70 : Ctx := fx71.add 70 (inst70.sem run70)
theorem fx70_ok : CtxOK fx70 Tryz.prog := add_ok fx71_ok ok70 Tryz.call70
def inst27 : Inst := { args := [(.val (.int .i64))], objs := [], nres := 1, out := [(90000, (.val (.pair .bool (.pair (.sl (.int .i64)) (.pair (.sl (.int .i64)) .unit)))))], news := 0 }
def hint27 : HC := (.seq (.region [{ new := [10] }]) (.seq (.seq (.region []) (.cond (.seq (.region [{}, {}, {}, { new := [11] }, { fz := [(8, 11)] }, { wr := [10] }]) .leaf) .leaf)) (.seq (.region [{}, {}, {}, { new := [12] }, { fz := [(13, 12)] }, { wr := [10] }]) .leaf)))
noncomputable def run27 : Ks.den inst27.args → Ks.den inst27.objs → Option inst27.out.den := fun x _ => chanceryref2_Whole x.1
theorem ev27 : ∀ x y, evFn fx70 15 (bodyOf Tryz.f27) [.cell 2 36] hint27 inst27 x y = run27 x y := by intro x y; kernel_rfl
theorem ok27 : FnOK Tryz.prog fx70.glob 27 (inst27.sem run27) :=
  fn_add fx70_ok feMixed 27 Tryz.f27 [.cell 2 36] hint27 inst27 15 run27 Tryz.func27 (by kernel_rfl) Tryz.ntmps27 (by kernel_rfl) (by kernel_rfl) ev27
noncomputable def fx27 : Ctx := fx70.add 27 (inst27.sem run27)
theorem fx27_ok : CtxOK fx27 Tryz.prog := add_ok fx70_ok ok27 Tryz.call27
def inst28 : Inst := { args := [(.val (.int .i64))], objs := [], nres := 1, out := [(90000, (.val (.pair .str (.pair .str .unit))))], news := 0 }
def hint28 : HC := (.seq (.region [{ new := [10] }]) (.seq (.region [{}, {}, {}, { wr := [10] }]) .leaf))
noncomputable def run28 : Ks.den inst28.args → Ks.den inst28.objs → Option inst28.out.den := fun x _ => exact_Of x.1
theorem ev28 : ∀ x y, evFn fx27 6 (bodyOf Tryz.f28) [.cell 2 23] hint28 inst28 x y = run28 x y := by intro x y; kernel_rfl
theorem ok28 : FnOK Tryz.prog fx27.glob 28 (inst28.sem run28) :=
  fn_add fx27_ok feMixed 28 Tryz.f28 [.cell 2 23] hint28 inst28 6 run28 Tryz.func28 (by kernel_rfl) Tryz.ntmps28 (by kernel_rfl) (by kernel_rfl) ev28
noncomputable def fx28 : Ctx := fx27.add 28 (inst28.sem run28)
theorem fx28_ok : CtxOK fx28 Tryz.prog := add_ok fx27_ok ok28 Tryz.call28
def inst29 : Inst := { args := [(.val (.int .i64)), (.val (.int .i64))], objs := [], nres := 1, out := [(90000, (.val (.int .i64)))], news := 0 }
def hint29 : HC := (.seq (.region []) (.seq (.region []) .leaf))
noncomputable def run29 : Ks.den inst29.args → Ks.den inst29.objs → Option inst29.out.den := fun x _ => chancerylaw2_mod x.1 x.2.1
theorem ev29 : ∀ x y, evFn fx28 12 (bodyOf Tryz.f29) [.tmp 4] hint29 inst29 x y = run29 x y := by intro x y; kernel_rfl
theorem ok29 : FnOK Tryz.prog fx28.glob 29 (inst29.sem run29) :=
  fn_add fx28_ok feMixed 29 Tryz.f29 [.tmp 4] hint29 inst29 12 run29 Tryz.func29 (by kernel_rfl) Tryz.ntmps29 (by kernel_rfl) (by kernel_rfl) ev29
noncomputable def fx29 : Ctx := fx28.add 29 (inst29.sem run29)
theorem fx29_ok : CtxOK fx29 Tryz.prog := add_ok fx28_ok ok29 Tryz.call29
def inst72 : Inst := { args := [(.val (.sl (.int .u32))), (.val (.int .i64))], objs := [], nres := 2, out := [(90000, (.val (.sl (.int .u32)))), (90001, (.val .bool))], news := 0 }
def hint72 : HC := (.seq (.region []) (.seq (.seq (.cut [(.normal, [(16, (.val .bool))])] (.region [])) (.cond (.seq (.region []) .leaf) .leaf)) (.seq (.region [{ new := [10] }]) (.seq (.block (.loop [(0, (.val (.sl (.int .u32)))), (1, (.val (.int .i64))), (6, (.val (.sl (.int .u32))))] [((.exit 0), [(6, (.val (.sl (.int .u32))))]), (.ret, [(4, .nil), (5, (.val .bool))])] (.seq (.seq (.region []) (.cond .leaf .leaf)) (.seq (.cut [(.normal, [(0, (.val (.sl (.int .u32)))), (6, (.val (.sl (.int .u32))))]), (.ret, [(4, .nil), (5, (.val .bool))])] (.block (.seq (.cut [(.normal, [(6, (.val (.sl (.int .u32))))])] (.seq (.region []) (.cond (.region []) .leaf))) (.seq (.seq (.cut [(.normal, [(41, (.val .bool))])] (.region [])) (.cond (.seq (.region []) .leaf) .leaf)) (.seq (.region []) (.cond (.region []) .leaf)))))) (.region []))))) (.seq (.region []) .leaf)))))
noncomputable def run72 : Ks.den inst72.args → Ks.den inst72.objs → Option inst72.out.den := fun x _ => exact_nat__power x.1 x.2.1
theorem ev72 : ∀ x y, evFn fx29 49 (bodyOf Tryz.f72) [.tmp 4, .tmp 5] hint72 inst72 x y = run72 x y := by intro x y; kernel_rfl
theorem ok72 : FnOK Tryz.prog fx29.glob 72 (inst72.sem run72) :=
  fn_add fx29_ok feMixed 72 Tryz.f72 [.tmp 4, .tmp 5] hint72 inst72 49 run72 Tryz.func72 (by kernel_rfl) Tryz.ntmps72 (by kernel_rfl) (by kernel_rfl) ev72
noncomputable def fx72 : Ctx := fx29.add 72 (inst72.sem run72)
theorem fx72_ok : CtxOK fx72 Tryz.prog := add_ok fx29_ok ok72 Tryz.call72
def inst30 : Inst := { args := [(.val (.pair .str (.pair .str .unit))), (.val (.int .i64))], objs := [], nres := 2, out := [(90000, (.val (.pair .str (.pair .str .unit)))), (90001, (.val (.int .i64)))], news := 0 }
def hint30 : HC := (.seq (.region [{ new := [10] }, { new := [11] }]) (.seq (.region [{ rd := [10] }, {}, {}, {}, {}, { new := [12] }, { wr := [12] }]) (.seq (.seq (.region []) (.cond (.seq (.region [{}, {}, { wr := [11] }]) .leaf) .leaf)) (.seq (.region []) (.seq (.cut [(.normal, [(4, (.ptr 13 0)), (6, (.ptr 14 0)), (100013, (.rcd (.cons (.val .str) (.cons (.val .str) .unit)))), (100014, (.rcd (.cons (.val .bool) (.cons (.val (.sl (.int .u32))) (.cons (.val (.sl (.int .u32))) .unit)))))]), (.ret, [(4, (.ptr 15 0)), (5, (.val (.int .i64))), (100015, (.rcd (.cons (.val .str) (.cons (.val .str) .unit))))])] (.seq (.region []) (.cond (.seq (.seq (.region [{ rd := [12] }, { rd := [12] }]) (.cond (.seq (.region [{}, { wr := [11] }]) .leaf) .leaf)) (.region [{ rd := [12] }, { rd := [12] }, { rd := [12] }, { rd := [12] }, { rd := [12] }, { wr := [12] }, { rd := [12] }, { wr := [12] }])) .leaf))) (.seq (.region [{ rd := [14] }, { rd := [14] }]) (.seq (.region [{ rd := [14] }, { rd := [14] }]) (.seq (.seq (.cut [(.normal, [(4, (.ptr 16 0)), (6, (.ptr 17 0)), (56, (.val .bool)), (100016, (.rcd (.cons (.val .str) (.cons (.val .str) .unit)))), (100017, (.rcd (.cons (.val .bool) (.cons (.val (.sl (.int .u32))) (.cons (.val (.sl (.int .u32))) .unit)))))])] (.region [])) (.cond (.seq (.region [{}, { wr := [16] }]) .leaf) .leaf)) (.seq (.region [{ rd := [17] }, { rd := [17] }, {}, {}, {}, {}, {}, {}, {}, {}, {}, { wr := [16] }]) .leaf)))))))))
noncomputable def run30 : Ks.den inst30.args → Ks.den inst30.objs → Option inst30.out.den := fun x _ => exact_Power x.1 x.2.1
theorem ev30 : ∀ x y, evFn fx72 69 (bodyOf Tryz.f30) [.cell 4 23, .tmp 5] hint30 inst30 x y = run30 x y := by intro x y; kernel_rfl
theorem ok30 : FnOK Tryz.prog fx72.glob 30 (inst30.sem run30) :=
  fn_add fx72_ok feMixed 30 Tryz.f30 [.cell 4 23, .tmp 5] hint30 inst30 69 run30 Tryz.func30 (by kernel_rfl) Tryz.ntmps30 (by kernel_rfl) (by kernel_rfl) ev30
noncomputable def fx30 : Ctx := fx72.add 30 (inst30.sem run30)
theorem fx30_ok : CtxOK fx30 Tryz.prog := add_ok fx72_ok ok30 Tryz.call30
def inst31 : Inst := { args := [(.val (.pair .bool (.pair (.sl (.int .i64)) (.pair (.sl (.int .i64)) .unit)))), (.val (.int .i64))], objs := [], nres := 1, out := [(90000, (.val (.pair .bool (.pair (.sl (.int .i64)) (.pair (.sl (.int .i64)) .unit)))))], news := 0 }
def hint31 : HC := (.seq (.region [{ new := [10] }, { new := [11] }]) (.seq (.region [{}, { new := [12] }, { wr := [12] }]) (.seq (.seq (.region []) (.block (.loop [(2, (.ptr 13 0)), (4, (.ptr 14 0)), (5, (.ptr 15 0)), (8, (.val (.int .i64))), (100013, (.rcd (.cons (.val .bool) (.cons (.val (.sl (.int .i64))) (.cons (.val (.sl (.int .i64))) .unit))))), (100014, (.rcd (.cons (.val .bool) (.cons (.val (.sl (.int .i64))) (.cons (.val (.sl (.int .i64))) .unit))))), (100015, (.rcd (.cons (.val .bool) (.cons (.val (.sl (.int .i64))) (.cons (.val (.sl (.int .i64))) .unit)))))] [((.exit 0), [(4, (.ptr 16 0)), (5, (.ptr 17 0)), (100016, (.rcd (.cons (.val .bool) (.cons (.val (.sl (.int .i64))) (.cons (.val (.sl (.int .i64))) .unit))))), (100017, (.rcd (.cons (.val .bool) (.cons (.val (.sl (.int .i64))) (.cons (.val (.sl (.int .i64))) .unit)))))])] (.seq (.region []) (.seq (.cond .leaf .leaf) (.seq (.block (.region [{ rd := [15] }, { rd := [13] }, {}, { wr := [15] }])) (.region []))))))) (.seq (.region [{ rd := [17] }, { wr := [16] }]) .leaf))))
noncomputable def run31 : Ks.den inst31.args → Ks.den inst31.objs → Option inst31.out.den := fun x _ => chanceryref2_Rat__Power x.1 x.2.1
theorem ev31 : ∀ x y, evFn fx30 15 (bodyOf Tryz.f31) [.cell 4 36] hint31 inst31 x y = run31 x y := by intro x y; kernel_rfl
theorem ok31 : FnOK Tryz.prog fx30.glob 31 (inst31.sem run31) :=
  fn_add fx30_ok feMixed 31 Tryz.f31 [.cell 4 36] hint31 inst31 15 run31 Tryz.func31 (by kernel_rfl) Tryz.ntmps31 (by kernel_rfl) (by kernel_rfl) ev31
noncomputable def fx31 : Ctx := fx30.add 31 (inst31.sem run31)
theorem fx31_ok : CtxOK fx31 Tryz.prog := add_ok fx30_ok ok31 Tryz.call31
def inst4 : Inst := { args := [(.val (.pair .str (.pair .str .unit))), (.val (.int .i64)), (.val (.int .i64)), (.val (.int .i64))], objs := [], nres := 1, out := [(90000, (.val .bool))], news := 0 }
def hint4 : HC := (.seq (.region [{ new := [10] }]) (.seq (.seq (.region []) (.cond (.seq (.region []) .leaf) .leaf)) (.seq (.region [{}, {}, {}, {}, {}, {}, { new := [11] }, { wr := [11] }]) (.seq (.cut [(.normal, [(4, (.ptr 13 0)), (100013, (.rcd (.cons (.val .str) (.cons (.val .str) .unit))))]), (.ret, [(8, (.val .bool))])] (.seq (.region []) (.cond (.seq (.cut [(.normal, [(4, (.ptr 12 0)), (31, (.val .bool)), (100012, (.rcd (.cons (.val .str) (.cons (.val .str) .unit))))])] (.region [{ rd := [11] }])) (.cond (.seq (.region []) .leaf) .leaf)) (.seq (.region [{ rd := [11] }]) (.cond (.seq (.region []) .leaf) .leaf))))) (.seq (.seq (.region []) (.cond (.seq (.region []) .leaf) .leaf)) (.seq (.region []) (.seq (.region [{ rd := [13] }, {}, {}, {}, {}, {}, { new := [14] }, { wr := [14] }]) (.seq (.seq (.region [{ rd := [13] }]) (.seq (.region []) (.cond (.seq (.region [{ rd := [14] }]) .leaf) .leaf))) (.seq (.region [{ rd := [13] }, {}, { new := [15] }, { wr := [15] }]) (.seq (.cut [(.normal, [(1, (.val (.int .i64))), (11, (.ptr 16 0)), (14, (.ptr 17 0)), (100016, (.rcd (.cons (.val .str) (.cons (.val .str) .unit)))), (100017, (.rcd (.cons (.val .bool) (.cons (.val (.sl (.int .i64))) (.cons (.val (.sl (.int .i64))) .unit)))))]), (.ret, [(8, (.val .bool))])] (.seq (.region []) (.cond (.seq (.seq (.region [{ rd := [15] }]) (.cond (.seq (.region [{ rd := [14] }]) .leaf) .leaf)) (.region [{ rd := [15] }, {}, {}, {}, { wr := [15] }])) .leaf))) (.seq (.region [{ rd := [16] }, {}, { rd := [17] }]) .leaf)))))))))))
noncomputable def run4 : Ks.den inst4.args → Ks.den inst4.objs → Option inst4.out.den := fun x _ => chancerylaw2_ExactPowersMatch x.1 x.2.1 x.2.2.1 x.2.2.2.1
theorem ev4 : ∀ x y, evFn fx31 93 (bodyOf Tryz.f4) [.tmp 8] hint4 inst4 x y = run4 x y := by intro x y; kernel_rfl
theorem ok4 : FnOK Tryz.prog fx31.glob 4 (inst4.sem run4) :=
  fn_add fx31_ok feMixed 4 Tryz.f4 [.tmp 8] hint4 inst4 93 run4 Tryz.func4 (by kernel_rfl) Tryz.ntmps4 (by kernel_rfl) (by kernel_rfl) ev4
noncomputable def fx4 : Ctx := fx31.add 4 (inst4.sem run4)
theorem fx4_ok : CtxOK fx4 Tryz.prog := add_ok fx31_ok ok4 Tryz.call4
def inst74 : Inst := { args := [(.val (.int .i64))], objs := [], nres := 1, out := [(90000, (.val (.sl (.int .u32))))], news := 0 }
def hint74 : HC := (.seq (.region []) (.seq (.region []) .leaf))
noncomputable def run74 : Ks.den inst74.args → Ks.den inst74.objs → Option inst74.out.den := fun x _ => exact_ten x.1
theorem ev74 : ∀ x y, evFn fx4 7 (bodyOf Tryz.f74) [.tmp 2] hint74 inst74 x y = run74 x y := by intro x y; kernel_rfl
theorem ok74 : FnOK Tryz.prog fx4.glob 74 (inst74.sem run74) :=
  fn_add fx4_ok feMixed 74 Tryz.f74 [.tmp 2] hint74 inst74 7 run74 Tryz.func74 (by kernel_rfl) Tryz.ntmps74 (by kernel_rfl) (by kernel_rfl) ev74
noncomputable def fx74 : Ctx := fx4.add 74 (inst74.sem run74)
theorem fx74_ok : CtxOK fx74 Tryz.prog := add_ok fx4_ok ok74 Tryz.call74
def inst75 : Inst := { args := [(.val (.sl (.int .u32)))], objs := [], nres := 1, out := [(90000, (.val (.sl (.int .u32))))], news := 0 }
def hint75 : HC := (.seq (.region []) (.seq (.seq (.region []) (.cond (.seq (.region []) .leaf) .leaf)) (.seq (.region []) (.block (.loop [(3, (.val (.sl (.int .u32))))] [(.ret, [(2, (.val (.sl (.int .u32))))])] (.block (.seq (.region []) (.seq (.region [{}, {}, {}, { new := [10] }, { fz := [(28, 10)] }]) (.seq (.seq (.region []) (.cond (.seq (.region []) .leaf) .leaf)) (.region []))))))))))
noncomputable def run75 : Ks.den inst75.args → Ks.den inst75.objs → Option inst75.out.den := fun x _ => exact_nat__root x.1
theorem ev75 : ∀ x y, evFn fx74 38 (bodyOf Tryz.f75) [.tmp 2] hint75 inst75 x y = run75 x y := by intro x y; kernel_rfl
theorem ok75 : FnOK Tryz.prog fx74.glob 75 (inst75.sem run75) :=
  fn_add fx74_ok feMixed 75 Tryz.f75 [.tmp 2] hint75 inst75 38 run75 Tryz.func75 (by kernel_rfl) Tryz.ntmps75 (by kernel_rfl) (by kernel_rfl) ev75
noncomputable def fx75 : Ctx := fx74.add 75 (inst75.sem run75)
theorem fx75_ok : CtxOK fx75 Tryz.prog := add_ok fx74_ok ok75 Tryz.call75
def inst32 : Inst := { args := [(.val (.pair .str (.pair .str .unit))), (.val (.int .i64))], objs := [], nres := 2, out := [(90000, (.val (.pair .str (.pair .str .unit)))), (90001, (.val (.int .i64)))], news := 0 }
def hint32 : HC := (.seq (.region [{ new := [10] }, { new := [11] }]) (.seq (.region [{ rd := [10] }, {}, {}, {}, {}, { new := [12] }, { wr := [12] }]) (.seq (.seq (.region []) (.cond (.seq (.region [{}, {}, { wr := [11] }]) .leaf) .leaf)) (.seq (.seq (.region [{ rd := [12] }, { rd := [12] }]) (.cond (.seq (.region [{}, { wr := [11] }]) .leaf) .leaf)) (.seq (.seq (.cut [(.normal, [(4, (.ptr 13 0)), (6, (.ptr 14 0)), (27, (.val .bool)), (100013, (.rcd (.cons (.val .str) (.cons (.val .str) .unit)))), (100014, (.rcd (.cons (.val .bool) (.cons (.val (.sl (.int .u32))) (.cons (.val (.sl (.int .u32))) .unit)))))])] (.region [])) (.cond (.seq (.region [{}, { wr := [13] }]) .leaf) .leaf)) (.seq (.region [{ rd := [14] }, { rd := [14] }, {}, {}, {}, {}, { rd := [14] }, { rd := [14] }]) (.seq (.region [{}, {}, {}, {}, {}, {}, {}, {}, { wr := [13] }]) .leaf)))))))
noncomputable def run32 : Ks.den inst32.args → Ks.den inst32.objs → Option inst32.out.den := fun x _ => exact_Root x.1 x.2.1
theorem ev32 : ∀ x y, evFn fx75 49 (bodyOf Tryz.f32) [.cell 4 23, .tmp 5] hint32 inst32 x y = run32 x y := by intro x y; kernel_rfl
theorem ok32 : FnOK Tryz.prog fx75.glob 32 (inst32.sem run32) :=
  fn_add fx75_ok feMixed 32 Tryz.f32 [.cell 4 23, .tmp 5] hint32 inst32 49 run32 Tryz.func32 (by kernel_rfl) Tryz.ntmps32 (by kernel_rfl) (by kernel_rfl) ev32
noncomputable def fx32 : Ctx := fx75.add 32 (inst32.sem run32)
theorem fx32_ok : CtxOK fx32 Tryz.prog := add_ok fx75_ok ok32 Tryz.call32
def inst33 : Inst := { args := [(.val (.int .i64))], objs := [], nres := 1, out := [(90000, (.val (.sl (.int .i64))))], news := 0 }
def hint33 : HC := (.seq (.region []) (.seq (.region [{}, {}, { new := [10] }]) (.seq (.region [{}, {}, { rd := [10] }, { wr := [10] }]) (.seq (.region []) .leaf))))
noncomputable def run33 : Ks.den inst33.args → Ks.den inst33.objs → Option inst33.out.den := fun x _ => chanceryref2_Ten x.1
theorem ev33 : ∀ x y, evFn fx32 11 (bodyOf Tryz.f33) [.tmp 2] hint33 inst33 x y = run33 x y := by intro x y; kernel_rfl
theorem ok33 : FnOK Tryz.prog fx32.glob 33 (inst33.sem run33) :=
  fn_add fx32_ok feMixed 33 Tryz.f33 [.tmp 2] hint33 inst33 11 run33 Tryz.func33 (by kernel_rfl) Tryz.ntmps33 (by kernel_rfl) (by kernel_rfl) ev33
noncomputable def fx33 : Ctx := fx32.add 33 (inst33.sem run33)
theorem fx33_ok : CtxOK fx33 Tryz.prog := add_ok fx32_ok ok33 Tryz.call33
def inst34 : Inst := { args := [(.val (.pair .bool (.pair (.sl (.int .i64)) (.pair (.sl (.int .i64)) .unit)))), (.val (.int .i64))], objs := [], nres := 1, out := [(90000, (.val (.pair .bool (.pair (.sl (.int .i64)) (.pair (.sl (.int .i64)) .unit)))))], news := 0 }
def hint34 : HC := (.seq (.region [{ new := [10] }, { new := [11] }]) (.seq (.seq (.region []) (.cond (.seq (.region [{ rd := [10] }, { rd := [10] }, { rd := [10] }, { rd := [10] }, { rd := [10] }, { rd := [10] }, {}, {}, {}, {}, {}, { wr := [11] }]) .leaf) .leaf)) (.seq (.region [{ rd := [10] }, { rd := [10] }, { rd := [10] }, { rd := [10] }, {}, {}, {}, { rd := [10] }, { rd := [10] }, {}, { wr := [11] }]) .leaf)))
noncomputable def run34 : Ks.den inst34.args → Ks.den inst34.objs → Option inst34.out.den := fun x _ => chanceryref2_Rat__Scaled x.1 x.2.1
theorem ev34 : ∀ x y, evFn fx33 28 (bodyOf Tryz.f34) [.cell 4 36] hint34 inst34 x y = run34 x y := by intro x y; kernel_rfl
theorem ok34 : FnOK Tryz.prog fx33.glob 34 (inst34.sem run34) :=
  fn_add fx33_ok feMixed 34 Tryz.f34 [.cell 4 36] hint34 inst34 28 run34 Tryz.func34 (by kernel_rfl) Tryz.ntmps34 (by kernel_rfl) (by kernel_rfl) ev34
noncomputable def fx34 : Ctx := fx33.add 34 (inst34.sem run34)
theorem fx34_ok : CtxOK fx34 Tryz.prog := add_ok fx33_ok ok34 Tryz.call34
def inst35 : Inst := { args := [(.val (.pair .bool (.pair (.sl (.int .i64)) (.pair (.sl (.int .i64)) .unit))))], objs := [], nres := 1, out := [(90000, (.val (.pair .bool (.pair (.sl (.int .i64)) (.pair (.sl (.int .i64)) .unit)))))], news := 0 }
def hint35 : HC := (.seq (.region [{ new := [10] }, { new := [11] }]) (.seq (.region [{ rd := [10] }, { rd := [10] }, { rd := [10] }, { rd := [10] }]) (.seq (.cut [(.normal, [(1, (.ptr 15 0)), (2, (.ptr 16 0)), (3, (.val (.sl (.int .i64)))), (100015, (.rcd (.cons (.val .bool) (.cons (.val (.sl (.int .i64))) (.cons (.val (.sl (.int .i64))) .unit))))), (100016, (.rcd (.cons (.val .bool) (.cons (.val (.sl (.int .i64))) (.cons (.val (.sl (.int .i64))) .unit)))))])] (.seq (.cut [(.normal, [(1, (.ptr 12 0)), (2, (.ptr 13 0)), (19, (.val .bool)), (100012, (.rcd (.cons (.val .bool) (.cons (.val (.sl (.int .i64))) (.cons (.val (.sl (.int .i64))) .unit))))), (100013, (.rcd (.cons (.val .bool) (.cons (.val (.sl (.int .i64))) (.cons (.val (.sl (.int .i64))) .unit)))))])] (.region [{ rd := [10] }, { rd := [10] }])) (.cond (.region [{}, { new := [14] }, { fz := [(21, 14)] }]) .leaf))) (.seq (.region [{ rd := [15] }, { rd := [15] }, {}, { new := [17] }, { fz := [(26, 17)] }, { wr := [16] }]) .leaf))))
noncomputable def run35 : Ks.den inst35.args → Ks.den inst35.objs → Option inst35.out.den := fun x _ => chanceryref2_Rat__Floor x.1
theorem ev35 : ∀ x y, evFn fx34 28 (bodyOf Tryz.f35) [.cell 2 36] hint35 inst35 x y = run35 x y := by intro x y; kernel_rfl
theorem ok35 : FnOK Tryz.prog fx34.glob 35 (inst35.sem run35) :=
  fn_add fx34_ok feMixed 35 Tryz.f35 [.cell 2 36] hint35 inst35 28 run35 Tryz.func35 (by kernel_rfl) Tryz.ntmps35 (by kernel_rfl) (by kernel_rfl) ev35
noncomputable def fx35 : Ctx := fx34.add 35 (inst35.sem run35)
theorem fx35_ok : CtxOK fx35 Tryz.prog := add_ok fx34_ok ok35 Tryz.call35
def inst5 : Inst := { args := [(.val (.pair .str (.pair .str .unit))), (.val (.int .i64))], objs := [], nres := 1, out := [(90000, (.val .bool))], news := 0 }
def hint5 : HC := (.seq (.region [{ new := [10] }]) (.seq (.seq (.region []) (.cond (.seq (.region []) .leaf) .leaf)) (.seq (.region [{ rd := [10] }, {}, {}, {}, {}, {}, { new := [11] }, { wr := [11] }]) (.seq (.region [{ rd := [10] }]) (.seq (.cut [(.normal, [(2, (.ptr 14 0)), (5, (.ptr 15 0)), (7, (.val (.int .i64))), (100014, (.rcd (.cons (.val .str) (.cons (.val .str) .unit)))), (100015, (.rcd (.cons (.val .str) (.cons (.val .str) .unit))))])] (.block (.seq (.region []) (.cond .leaf (.seq (.region [{ rd := [10] }]) (.cond (.region []) (.seq (.cut [(.normal, [(2, (.ptr 12 0)), (5, (.ptr 13 0)), (30, (.val .bool)), (100012, (.rcd (.cons (.val .str) (.cons (.val .str) .unit)))), (100013, (.rcd (.cons (.val .str) (.cons (.val .str) .unit))))])] (.region [])) (.cond (.region []) .leaf)))))))) (.seq (.seq (.region []) (.cond (.seq (.region [{ rd := [15] }]) .leaf) .leaf)) (.seq (.seq (.region []) (.cond (.seq (.region [{ rd := [15] }, {}, {}, {}, {}, {}, {}, {}, { rd := [14] }, { rd := [14] }]) .leaf) .leaf)) (.seq (.region [{ rd := [15] }, {}, { new := [16] }, { wr := [16] }]) (.seq (.region [{ rd := [16] }, { new := [17] }, {}, {}, { fz := [(65, 17)] }, {}, { new := [18] }, { wr := [18] }]) (.seq (.region [{ rd := [16] }, {}, {}, {}, { rd := [16] }, {}, {}, { new := [19] }, { new := [20] }, { wr := [19] }, { wr := [20] }]) (.seq (.region [{ rd := [20] }, { rd := [20] }, {}, {}, {}, {}, { rd := [16] }, { rd := [16] }, {}, { rd := [14] }, {}, {}, {}, {}, {}, { rd := [18] }, { rd := [18] }, {}, { rd := [14] }, {}, {}, {}, {}, {}, { rd := [16] }]) .leaf)))))))))))
noncomputable def run5 : Ks.den inst5.args → Ks.den inst5.objs → Option inst5.out.den := fun x _ => chancerylaw2_ExactRootMatches x.1 x.2.1
theorem ev5 : ∀ x y, evFn fx35 105 (bodyOf Tryz.f5) [.tmp 4] hint5 inst5 x y = run5 x y := by intro x y; kernel_rfl
theorem ok5 : FnOK Tryz.prog fx35.glob 5 (inst5.sem run5) :=
  fn_add fx35_ok feMixed 5 Tryz.f5 [.tmp 4] hint5 inst5 105 run5 Tryz.func5 (by kernel_rfl) Tryz.ntmps5 (by kernel_rfl) (by kernel_rfl) ev5
noncomputable def fx5 : Ctx := fx35.add 5 (inst5.sem run5)
theorem fx5_ok : CtxOK fx5 Tryz.prog := add_ok fx35_ok ok5 Tryz.call5
def inst105 : Inst := { args := [(.val .str), (.val .str)], objs := [], nres := 1, out := [(90000, (.val .str))], news := 0 }
def hint105 : HC := (.seq (.region []) (.seq (.seq (.cut [(.normal, [(12, (.val .bool))])] (.region [])) (.cond (.seq (.region []) .leaf) .leaf)) (.seq (.seq (.cut [(.normal, [(21, (.val .bool))])] (.region [])) (.cond (.seq (.region []) .leaf) .leaf)) (.seq (.seq (.region [{}, {}, {}, {}, {}, { new := [10] }, { wr := [10] }]) (.seq (.region []) (.cond (.seq (.region [{}, { wr := [10] }]) .leaf) .leaf))) (.seq (.region []) .leaf)))))
noncomputable def run105 : Ks.den inst105.args → Ks.den inst105.objs → Option inst105.out.den := fun x _ => strings_TrimLeft x.1 x.2.1
theorem ev105 : ∀ x y, evFn fx5 37 (bodyOf Tryz.f105) [.tmp 4] hint105 inst105 x y = run105 x y := by intro x y; kernel_rfl
theorem ok105 : FnOK Tryz.prog fx5.glob 105 (inst105.sem run105) :=
  fn_add fx5_ok feMixed 105 Tryz.f105 [.tmp 4] hint105 inst105 37 run105 Tryz.func105 (by kernel_rfl) Tryz.ntmps105 (by kernel_rfl) (by kernel_rfl) ev105
noncomputable def fx105 : Ctx := fx5.add 105 (inst105.sem run105)
theorem fx105_ok : CtxOK fx105 Tryz.prog := add_ok fx5_ok ok105 Tryz.call105
def inst77 : Inst := { args := [(.val .str)], objs := [], nres := 2, out := [(90000, (.val .str)), (90001, (.val .str))], news := 0 }
def hint77 : HC := (.seq (.region []) (.seq (.region []) (.seq (.region []) .leaf)))
noncomputable def run77 : Ks.den inst77.args → Ks.den inst77.objs → Option inst77.out.den := fun x _ => exact_run x.1
theorem ev77 : ∀ x y, evFn fx105 15 (bodyOf Tryz.f77) [.tmp 2, .tmp 3] hint77 inst77 x y = run77 x y := by intro x y; kernel_rfl
theorem ok77 : FnOK Tryz.prog fx105.glob 77 (inst77.sem run77) :=
  fn_add fx105_ok feMixed 77 Tryz.f77 [.tmp 2, .tmp 3] hint77 inst77 15 run77 Tryz.func77 (by kernel_rfl) Tryz.ntmps77 (by kernel_rfl) (by kernel_rfl) ev77
noncomputable def fx77 : Ctx := fx105.add 77 (inst77.sem run77)
theorem fx77_ok : CtxOK fx77 Tryz.prog := add_ok fx105_ok ok77 Tryz.call77
def inst78 : Inst := { args := [(.val .str)], objs := [], nres := 2, out := [(90000, (.val (.int .i64))), (90001, (.val .bool))], news := 0 }
def hint78 : HC := (.seq (.region []) (.seq (.seq (.region []) (.cond (.seq (.region []) .leaf) .leaf)) (.seq (.seq (.cut [(.normal, [(18, (.val .bool))])] (.region [])) (.cond (.seq (.region []) .leaf) .leaf)) (.seq (.region []) (.seq (.region []) (.seq (.cut [(.normal, [(0, (.val .str))])] (.seq (.cut [(.normal, [(27, (.val .bool))])] (.region [])) (.cond (.region []) .leaf))) (.seq (.region []) (.seq (.seq (.cut [(.normal, [(45, (.val .bool))])] (.region [])) (.cond (.seq (.region []) .leaf) .leaf)) (.seq (.region []) (.seq (.cut [(.normal, [(7, (.val (.int .i64)))])] (.seq (.region []) (.cond (.region []) .leaf))) (.seq (.region []) .leaf)))))))))))
noncomputable def run78 : Ks.den inst78.args → Ks.den inst78.objs → Option inst78.out.den := fun x _ => exact_exponent x.1
theorem ev78 : ∀ x y, evFn fx77 55 (bodyOf Tryz.f78) [.tmp 2, .tmp 3] hint78 inst78 x y = run78 x y := by intro x y; kernel_rfl
theorem ok78 : FnOK Tryz.prog fx77.glob 78 (inst78.sem run78) :=
  fn_add fx77_ok feMixed 78 Tryz.f78 [.tmp 2, .tmp 3] hint78 inst78 55 run78 Tryz.func78 (by kernel_rfl) Tryz.ntmps78 (by kernel_rfl) (by kernel_rfl) ev78
noncomputable def fx78 : Ctx := fx77.add 78 (inst78.sem run78)
theorem fx78_ok : CtxOK fx78 Tryz.prog := add_ok fx77_ok ok78 Tryz.call78
def inst36 : Inst := { args := [(.val .str)], objs := [], nres := 2, out := [(90000, (.val (.pair .str (.pair .str .unit)))), (90001, (.val (.int .i64)))], news := 0 }
def hint36 : HC := (.seq (.region [{ new := [10] }]) (.seq (.seq (.region []) (.cond (.seq (.region [{}, { wr := [10] }]) .leaf) .leaf)) (.seq (.region []) (.seq (.region []) (.seq (.region []) (.seq (.cut [(.normal, [(2, (.ptr 11 0)), (4, (.val .str)), (7, (.val .str)), (100011, (.rcd (.cons (.val .str) (.cons (.val .str) .unit))))]), (.ret, [(2, (.ptr 12 0)), (3, (.val (.int .i64))), (100012, (.rcd (.cons (.val .str) (.cons (.val .str) .unit))))])] (.seq (.region []) (.seq (.region []) (.cond (.seq (.region []) (.seq (.region []) (.cond (.seq (.region [{}, { wr := [10] }]) .leaf) .leaf))) .leaf)))) (.seq (.region []) (.seq (.seq (.cut [(.normal, [(2, (.ptr 13 0)), (51, (.val .bool)), (100013, (.rcd (.cons (.val .str) (.cons (.val .str) .unit))))])] (.region [])) (.cond (.seq (.region [{}, { wr := [13] }]) .leaf) .leaf)) (.seq (.region [{}, {}, {}, {}, {}, { new := [14] }, { fz := [(58, 14)] }, { new := [15] }, { wr := [15] }]) (.seq (.cut [(.normal, [(2, (.ptr 16 0)), (12, (.ptr 17 0)), (100016, (.rcd (.cons (.val .str) (.cons (.val .str) .unit)))), (100017, (.rcd (.cons (.val .bool) (.cons (.val (.sl (.int .u32))) (.cons (.val (.sl (.int .u32))) .unit)))))])] (.seq (.region []) (.seq (.region []) (.cond (.region [{}, {}, {}, { rd := [15] }, { wr := [15] }]) (.region [{ rd := [15] }, { rd := [15] }, {}, {}, {}, { rd := [15] }, { wr := [15] }]))))) (.seq (.region [{ rd := [17] }, {}, {}, {}, { wr := [16] }]) .leaf)))))))))))
noncomputable def run36 : Ks.den inst36.args → Ks.den inst36.objs → Option inst36.out.den := fun x _ => exact_Parse x.1
theorem ev36 : ∀ x y, evFn fx78 80 (bodyOf Tryz.f36) [.cell 2 23, .tmp 3] hint36 inst36 x y = run36 x y := by intro x y; kernel_rfl
theorem ok36 : FnOK Tryz.prog fx78.glob 36 (inst36.sem run36) :=
  fn_add fx78_ok feMixed 36 Tryz.f36 [.cell 2 23, .tmp 3] hint36 inst36 80 run36 Tryz.func36 (by kernel_rfl) Tryz.ntmps36 (by kernel_rfl) (by kernel_rfl) ev36
noncomputable def fx36 : Ctx := fx78.add 36 (inst36.sem run36)
theorem fx36_ok : CtxOK fx36 Tryz.prog := add_ok fx78_ok ok36 Tryz.call36
def inst79 : Inst := { args := [(.val .str), (.val .str)], objs := [], nres := 1, out := [(90000, (.val .bool))], news := 0 }
def hint79 : HC := (.seq (.region []) (.seq (.region []) .leaf))
noncomputable def run79 : Ks.den inst79.args → Ks.den inst79.objs → Option inst79.out.den := fun x _ => chanceryref2_Has x.1 x.2.1
theorem ev79 : ∀ x y, evFn fx36 18 (bodyOf Tryz.f79) [.tmp 4] hint79 inst79 x y = run79 x y := by intro x y; kernel_rfl
theorem ok79 : FnOK Tryz.prog fx36.glob 79 (inst79.sem run79) :=
  fn_add fx36_ok feMixed 79 Tryz.f79 [.tmp 4] hint79 inst79 18 run79 Tryz.func79 (by kernel_rfl) Tryz.ntmps79 (by kernel_rfl) (by kernel_rfl) ev79
noncomputable def fx79 : Ctx := fx36.add 79 (inst79.sem run79)
theorem fx79_ok : CtxOK fx79 Tryz.prog := add_ok fx36_ok ok79 Tryz.call79
def inst81 : Inst := { args := [(.val (.int .u8))], objs := [], nres := 1, out := [(90000, (.val .bool))], news := 0 }
def hint81 : HC := (.seq (.region []) (.seq (.region []) .leaf))
noncomputable def run81 : Ks.den inst81.args → Ks.den inst81.objs → Option inst81.out.den := fun x _ => chanceryref2_Digit x.1
theorem ev81 : ∀ x y, evFn fx79 9 (bodyOf Tryz.f81) [.tmp 2] hint81 inst81 x y = run81 x y := by intro x y; kernel_rfl
theorem ok81 : FnOK Tryz.prog fx79.glob 81 (inst81.sem run81) :=
  fn_add fx79_ok feMixed 81 Tryz.f81 [.tmp 2] hint81 inst81 9 run81 Tryz.func81 (by kernel_rfl) Tryz.ntmps81 (by kernel_rfl) (by kernel_rfl) ev81
noncomputable def fx81 : Ctx := fx79.add 81 (inst81.sem run81)
theorem fx81_ok : CtxOK fx81 Tryz.prog := add_ok fx79_ok ok81 Tryz.call81
def inst80 : Inst := { args := [(.val .str), (.fn 81 .unit)], objs := [], nres := 1, out := [(90000, (.val (.int .i64)))], news := 0 }
def hint80 : HC := (.seq (.region []) (.seq (.seq (.region []) (.block (.loop [(1, (.fn 81 .unit)), (8, (.val (.int .i64)))] [((.exit 0), []), (.ret, [(4, (.val (.int .i64)))])] (.seq (.region []) (.seq (.cond .leaf .leaf) (.seq (.block (.seq (.region []) (.seq (.region []) (.cond (.seq (.region []) .leaf) .leaf)))) (.region []))))))) (.seq (.region []) .leaf)))
noncomputable def run80 : Ks.den inst80.args → Ks.den inst80.objs → Option inst80.out.den := fun x _ => chanceryref2_span_Digit x.1
theorem ev80 : ∀ x y, evFn fx81 21 (bodyOf Tryz.f80) [.tmp 4] hint80 inst80 x y = run80 x y := by intro x y; kernel_rfl
theorem ok80 : FnOK Tryz.prog fx81.glob 80 (inst80.sem run80) :=
  fn_add fx81_ok feMixed 80 Tryz.f80 [.tmp 4] hint80 inst80 21 run80 Tryz.func80 (by kernel_rfl) Tryz.ntmps80 (by kernel_rfl) (by kernel_rfl) ev80
noncomputable def fx80 : Ctx := fx81.add 80 (inst80.sem run80)
theorem fx80_ok : CtxOK fx80 Tryz.prog := add_ok fx81_ok ok80 Tryz.call80
def inst107 : Inst := { args := [(.val .str), (.fn 81 .unit)], objs := [], nres := 1, out := [(90000, (.val .bool))], news := 0 }
def hint107 : HC := (.seq (.region []) (.seq (.seq (.region []) (.block (.loop [(1, (.fn 81 .unit)), (8, (.val (.int .i64)))] [((.exit 0), []), (.ret, [(4, (.val .bool))])] (.seq (.region []) (.seq (.cond .leaf .leaf) (.seq (.block (.seq (.region []) (.seq (.region []) (.cond (.seq (.region []) .leaf) .leaf)))) (.region []))))))) (.seq (.region []) .leaf)))
noncomputable def run107 : Ks.den inst107.args → Ks.den inst107.objs → Option inst107.out.den := fun x _ => chanceryref2_All_Digit x.1
theorem ev107 : ∀ x y, evFn fx80 18 (bodyOf Tryz.f107) [.tmp 4] hint107 inst107 x y = run107 x y := by intro x y; kernel_rfl
theorem ok107 : FnOK Tryz.prog fx80.glob 107 (inst107.sem run107) :=
  fn_add fx80_ok feMixed 107 Tryz.f107 [.tmp 4] hint107 inst107 18 run107 Tryz.func107 (by kernel_rfl) Tryz.ntmps107 (by kernel_rfl) (by kernel_rfl) ev107
noncomputable def fx107 : Ctx := fx80.add 107 (inst107.sem run107)
theorem fx107_ok : CtxOK fx107 Tryz.prog := add_ok fx80_ok ok107 Tryz.call107
def inst82 : Inst := { args := [(.val .str)], objs := [], nres := 1, out := [(90000, (.val .bool))], news := 0 }
def hint82 : HC := (.seq (.region []) (.seq (.region []) .leaf))
noncomputable def run82 : Ks.den inst82.args → Ks.den inst82.objs → Option inst82.out.den := fun x _ => chanceryref2_allDigits x.1
theorem ev82 : ∀ x y, evFn fx107 9 (bodyOf Tryz.f82) [.tmp 2] hint82 inst82 x y = run82 x y := by intro x y; kernel_rfl
theorem ok82 : FnOK Tryz.prog fx107.glob 82 (inst82.sem run82) :=
  fn_add fx107_ok feMixed 82 Tryz.f82 [.tmp 2] hint82 inst82 9 run82 Tryz.func82 (by kernel_rfl) Tryz.ntmps82 (by kernel_rfl) (by kernel_rfl) ev82
noncomputable def fx82 : Ctx := fx107.add 82 (inst82.sem run82)
theorem fx82_ok : CtxOK fx82 Tryz.prog := add_ok fx107_ok ok82 Tryz.call82
def inst83 : Inst := { args := [(.val .str)], objs := [], nres := 1, out := [(90000, (.val (.int .i64)))], news := 0 }
def hint83 : HC := (.seq (.region []) (.seq (.region []) (.seq (.seq (.region []) (.block (.loop [(3, (.val (.int .i64))), (7, (.val (.int .i64)))] [((.exit 0), [(3, (.val (.int .i64)))])] (.seq (.region []) (.seq (.cond .leaf .leaf) (.seq (.block (.seq (.region []) (.region []))) (.region []))))))) (.seq (.region []) .leaf))))
noncomputable def run83 : Ks.den inst83.args → Ks.den inst83.objs → Option inst83.out.den := fun x _ => chanceryref2_small x.1
theorem ev83 : ∀ x y, evFn fx82 20 (bodyOf Tryz.f83) [.tmp 2] hint83 inst83 x y = run83 x y := by intro x y; kernel_rfl
theorem ok83 : FnOK Tryz.prog fx82.glob 83 (inst83.sem run83) :=
  fn_add fx82_ok feMixed 83 Tryz.f83 [.tmp 2] hint83 inst83 20 run83 Tryz.func83 (by kernel_rfl) Tryz.ntmps83 (by kernel_rfl) (by kernel_rfl) ev83
noncomputable def fx83 : Ctx := fx82.add 83 (inst83.sem run83)
theorem fx83_ok : CtxOK fx83 Tryz.prog := add_ok fx82_ok ok83 Tryz.call83
def inst37 : Inst := { args := [(.val .str)], objs := [], nres := 2, out := [(90000, (.val (.pair .bool (.pair (.sl (.int .i64)) (.pair (.sl (.int .i64)) .unit))))), (90001, (.val (.int .i64)))], news := 0 }
def hint37 : HC := (.seq (.region [{ new := [10] }]) (.seq (.seq (.region []) (.cond (.seq (.region [{}, { wr := [10] }]) .leaf) .leaf)) (.seq (.region []) (.seq (.cut [(.normal, [(2, (.ptr 11 0)), (4, (.val .str)), (5, (.val .bool)), (100011, (.rcd (.cons (.val .bool) (.cons (.val (.sl (.int .i64))) (.cons (.val (.sl (.int .i64))) .unit)))))])] (.seq (.region []) (.cond (.region []) .leaf))) (.seq (.region []) (.seq (.region []) (.seq (.region []) (.seq (.cut [(.normal, [(2, (.ptr 12 0)), (4, (.val .str)), (8, (.val .str)), (100012, (.rcd (.cons (.val .bool) (.cons (.val (.sl (.int .i64))) (.cons (.val (.sl (.int .i64))) .unit)))))]), (.ret, [(2, (.ptr 13 0)), (3, (.val (.int .i64))), (100013, (.rcd (.cons (.val .bool) (.cons (.val (.sl (.int .i64))) (.cons (.val (.sl (.int .i64))) .unit)))))])] (.seq (.region []) (.cond (.seq (.region []) (.seq (.region []) (.seq (.region []) (.seq (.region []) (.cond (.seq (.region [{}, { wr := [11] }]) .leaf) .leaf))))) .leaf))) (.seq (.region []) (.seq (.cut [(.normal, [(2, (.ptr 19 0)), (9, (.val (.int .i64))), (100019, (.rcd (.cons (.val .bool) (.cons (.val (.sl (.int .i64))) (.cons (.val (.sl (.int .i64))) .unit)))))]), (.ret, [(2, (.ptr 20 0)), (3, (.val (.int .i64))), (100020, (.rcd (.cons (.val .bool) (.cons (.val (.sl (.int .i64))) (.cons (.val (.sl (.int .i64))) .unit)))))])] (.seq (.region []) (.cond (.seq (.region []) (.seq (.seq (.cut [(.normal, [(2, (.ptr 14 0)), (56, (.val .bool)), (100014, (.rcd (.cons (.val .bool) (.cons (.val (.sl (.int .i64))) (.cons (.val (.sl (.int .i64))) .unit)))))])] (.region [])) (.cond (.seq (.region [{}, { wr := [14] }]) .leaf) .leaf)) (.seq (.region []) (.seq (.cut [(.normal, [(2, (.ptr 17 0)), (4, (.val .str)), (10, (.val (.int .i64))), (100017, (.rcd (.cons (.val .bool) (.cons (.val (.sl (.int .i64))) (.cons (.val (.sl (.int .i64))) .unit)))))])] (.seq (.cut [(.normal, [(2, (.ptr 15 0)), (65, (.val .bool)), (100015, (.rcd (.cons (.val .bool) (.cons (.val (.sl (.int .i64))) (.cons (.val (.sl (.int .i64))) .unit)))))])] (.region [])) (.cond (.seq (.cut [(.normal, [(2, (.ptr 16 0)), (10, (.val (.int .i64))), (100016, (.rcd (.cons (.val .bool) (.cons (.val (.sl (.int .i64))) (.cons (.val (.sl (.int .i64))) .unit)))))])] (.seq (.region []) (.cond (.region []) .leaf))) (.region [])) .leaf))) (.seq (.seq (.cut [(.normal, [(2, (.ptr 18 0)), (78, (.val .bool)), (100018, (.rcd (.cons (.val .bool) (.cons (.val (.sl (.int .i64))) (.cons (.val (.sl (.int .i64))) .unit)))))])] (.region [])) (.cond (.seq (.region [{}, { wr := [18] }]) .leaf) .leaf)) (.region [])))))) .leaf))) (.seq (.seq (.region []) (.cond (.seq (.region [{}, { wr := [19] }]) .leaf) .leaf)) (.seq (.region [{}, {}, {}, {}, {}, { new := [21] }, { fz := [(92, 21)] }, {}, {}, {}, {}, {}, { new := [22] }, { wr := [22] }]) (.seq (.region [{ rd := [22] }, {}, {}, {}, {}, { new := [23] }, { wr := [23] }]) (.seq (.region [{ rd := [22] }, {}, { wr := [19] }]) .leaf))))))))))))))
noncomputable def run37 : Ks.den inst37.args → Ks.den inst37.objs → Option inst37.out.den := fun x _ => chanceryref2_ReadDecimal x.1
theorem ev37 : ∀ x y, evFn fx83 106 (bodyOf Tryz.f37) [.cell 2 36, .tmp 3] hint37 inst37 x y = run37 x y := by intro x y; kernel_rfl
theorem ok37 : FnOK Tryz.prog fx83.glob 37 (inst37.sem run37) :=
  fn_add fx83_ok feMixed 37 Tryz.f37 [.cell 2 36, .tmp 3] hint37 inst37 106 run37 Tryz.func37 (by kernel_rfl) Tryz.ntmps37 (by kernel_rfl) (by kernel_rfl) ev37
noncomputable def fx37 : Ctx := fx83.add 37 (inst37.sem run37)
theorem fx37_ok : CtxOK fx37 Tryz.prog := add_ok fx83_ok ok37 Tryz.call37
def inst6 : Inst := { args := [(.val .str)], objs := [], nres := 1, out := [(90000, (.val .bool))], news := 0 }
def hint6 : HC := (.seq (.region []) (.seq (.seq (.region []) (.cond (.seq (.region []) .leaf) .leaf)) (.seq (.region [{}, {}, {}, {}, {}, { new := [10] }, { wr := [10] }]) (.seq (.region [{}, {}, {}, {}, {}, { new := [11] }, { wr := [11] }]) (.seq (.seq (.region []) (.cond (.seq (.region [{ rd := [10] }]) .leaf) .leaf)) (.seq (.region [{ rd := [10] }, {}, { rd := [11] }]) .leaf))))))
noncomputable def run6 : Ks.den inst6.args → Ks.den inst6.objs → Option inst6.out.den := fun x _ => chancerylaw2_ExactParseMatches x.1
theorem ev6 : ∀ x y, evFn fx37 33 (bodyOf Tryz.f6) [.tmp 2] hint6 inst6 x y = run6 x y := by intro x y; kernel_rfl
theorem ok6 : FnOK Tryz.prog fx37.glob 6 (inst6.sem run6) :=
  fn_add fx37_ok feMixed 6 Tryz.f6 [.tmp 2] hint6 inst6 33 run6 Tryz.func6 (by kernel_rfl) Tryz.ntmps6 (by kernel_rfl) (by kernel_rfl) ev6
noncomputable def fx6 : Ctx := fx37.add 6 (inst6.sem run6)
theorem fx6_ok : CtxOK fx6 Tryz.prog := add_ok fx37_ok ok6 Tryz.call6
def inst38 : Inst := { args := [(.val (.pair .str (.pair .str .unit)))], objs := [], nres := 2, out := [(90000, (.val (.pair .str (.pair .str .unit)))), (90001, (.val (.int .i64)))], news := 0 }
def hint38 : HC := (.seq (.region [{ new := [10] }, { new := [11] }]) (.seq (.region [{ rd := [10] }, {}, {}, {}, {}, { new := [12] }, { wr := [12] }]) (.seq (.seq (.region []) (.cond (.seq (.region [{}, {}, { wr := [11] }]) .leaf) .leaf)) (.seq (.region [{ rd := [12] }, { rd := [12] }, { rd := [12] }, { rd := [12] }]) (.seq (.cut [(.normal, [(2, (.ptr 16 0)), (4, (.ptr 17 0)), (6, (.val (.sl (.int .u32)))), (100016, (.rcd (.cons (.val .str) (.cons (.val .str) .unit)))), (100017, (.rcd (.cons (.val .bool) (.cons (.val (.sl (.int .u32))) (.cons (.val (.sl (.int .u32))) .unit)))))])] (.seq (.cut [(.normal, [(2, (.ptr 13 0)), (4, (.ptr 14 0)), (31, (.val .bool)), (100013, (.rcd (.cons (.val .str) (.cons (.val .str) .unit)))), (100014, (.rcd (.cons (.val .bool) (.cons (.val (.sl (.int .u32))) (.cons (.val (.sl (.int .u32))) .unit)))))])] (.region [{ rd := [12] }, { rd := [12] }])) (.cond (.region [{}, { new := [15] }, { fz := [(33, 15)] }]) .leaf))) (.seq (.region [{ rd := [17] }, { rd := [17] }, {}, { new := [18] }, { fz := [(38, 18)] }, {}, {}, {}, { wr := [16] }]) .leaf))))))
noncomputable def run38 : Ks.den inst38.args → Ks.den inst38.objs → Option inst38.out.den := fun x _ => exact_Floor x.1
theorem ev38 : ∀ x y, evFn fx6 43 (bodyOf Tryz.f38) [.cell 2 23, .tmp 3] hint38 inst38 x y = run38 x y := by intro x y; kernel_rfl
theorem ok38 : FnOK Tryz.prog fx6.glob 38 (inst38.sem run38) :=
  fn_add fx6_ok feMixed 38 Tryz.f38 [.cell 2 23, .tmp 3] hint38 inst38 43 run38 Tryz.func38 (by kernel_rfl) Tryz.ntmps38 (by kernel_rfl) (by kernel_rfl) ev38
noncomputable def fx38 : Ctx := fx6.add 38 (inst38.sem run38)
theorem fx38_ok : CtxOK fx38 Tryz.prog := add_ok fx6_ok ok38 Tryz.call38
def inst85 : Inst := { args := [(.val (.pair .bool (.pair (.sl (.int .u32)) (.pair (.sl (.int .u32)) .unit)))), (.val (.int .i64))], objs := [], nres := 1, out := [(90000, (.val (.pair .bool (.pair (.sl (.int .u32)) (.pair (.sl (.int .u32)) .unit)))))], news := 0 }
def hint85 : HC := (.seq (.region [{ new := [10] }, { new := [11] }]) (.seq (.cut [(.normal, [(2, (.ptr 12 0)), (4, (.ptr 13 0)), (100012, (.rcd (.cons (.val .bool) (.cons (.val (.sl (.int .u32))) (.cons (.val (.sl (.int .u32))) .unit))))), (100013, (.rcd (.cons (.val .bool) (.cons (.val (.sl (.int .u32))) (.cons (.val (.sl (.int .u32))) .unit)))))])] (.seq (.region []) (.cond (.region [{ rd := [10] }, { rd := [10] }, {}, {}, {}, {}, { rd := [10] }, { wr := [10] }]) (.region [{ rd := [10] }, { rd := [10] }, {}, {}, {}, { rd := [10] }, { wr := [10] }])))) (.seq (.region [{ rd := [12] }, { wr := [13] }]) .leaf)))
noncomputable def run85 : Ks.den inst85.args → Ks.den inst85.objs → Option inst85.out.den := fun x _ => exact_number__scaled x.1 x.2.1
theorem ev85 : ∀ x y, evFn fx38 21 (bodyOf Tryz.f85) [.cell 4 69] hint85 inst85 x y = run85 x y := by intro x y; kernel_rfl
theorem ok85 : FnOK Tryz.prog fx38.glob 85 (inst85.sem run85) :=
  fn_add fx38_ok feMixed 85 Tryz.f85 [.cell 4 69] hint85 inst85 21 run85 Tryz.func85 (by kernel_rfl) Tryz.ntmps85 (by kernel_rfl) (by kernel_rfl) ev85
noncomputable def fx85 : Ctx := fx38.add 85 (inst85.sem run85)
theorem fx85_ok : CtxOK fx85 Tryz.prog := add_ok fx38_ok ok85 Tryz.call85
def inst86 : Inst := { args := [(.val (.pair .bool (.pair (.sl (.int .u32)) (.pair (.sl (.int .u32)) .unit))))], objs := [], nres := 1, out := [(90000, (.val (.pair .bool (.pair (.sl (.int .u32)) (.pair (.sl (.int .u32)) .unit)))))], news := 0 }
def hint86 : HC := (.seq (.region [{ new := [10] }, { new := [11] }]) (.seq (.region [{ rd := [10] }, { rd := [10] }, { rd := [10] }, { rd := [10] }, {}, { rd := [10] }, { rd := [10] }, {}, { rd := [10] }, { rd := [10] }, { rd := [10] }, { rd := [10] }]) (.seq (.region [{ rd := [10] }, { rd := [10] }, {}, { new := [12] }, { fz := [(25, 12)] }, { wr := [11] }]) .leaf)))
noncomputable def run86 : Ks.den inst86.args → Ks.den inst86.objs → Option inst86.out.den := fun x _ => exact_number__rounded x.1
theorem ev86 : ∀ x y, evFn fx85 27 (bodyOf Tryz.f86) [.cell 2 69] hint86 inst86 x y = run86 x y := by intro x y; kernel_rfl
theorem ok86 : FnOK Tryz.prog fx85.glob 86 (inst86.sem run86) :=
  fn_add fx85_ok feMixed 86 Tryz.f86 [.cell 2 69] hint86 inst86 27 run86 Tryz.func86 (by kernel_rfl) Tryz.ntmps86 (by kernel_rfl) (by kernel_rfl) ev86
noncomputable def fx86 : Ctx := fx85.add 86 (inst86.sem run86)
theorem fx86_ok : CtxOK fx86 Tryz.prog := add_ok fx85_ok ok86 Tryz.call86
def inst39 : Inst := { args := [(.val (.pair .str (.pair .str .unit))), (.val (.int .i64))], objs := [], nres := 2, out := [(90000, (.val (.pair .str (.pair .str .unit)))), (90001, (.val (.int .i64)))], news := 0 }
def hint39 : HC := (.seq (.region [{ new := [10] }, { new := [11] }]) (.seq (.region [{ rd := [10] }, {}, {}, {}, {}, { new := [12] }, { wr := [12] }]) (.seq (.seq (.region []) (.cond (.seq (.region [{}, {}, { wr := [11] }]) .leaf) .leaf)) (.seq (.seq (.cut [(.normal, [(4, (.ptr 13 0)), (6, (.ptr 14 0)), (22, (.val .bool)), (100013, (.rcd (.cons (.val .str) (.cons (.val .str) .unit)))), (100014, (.rcd (.cons (.val .bool) (.cons (.val (.sl (.int .u32))) (.cons (.val (.sl (.int .u32))) .unit)))))])] (.region [])) (.cond (.seq (.region [{}, { wr := [13] }]) .leaf) .leaf)) (.seq (.region [{ rd := [14] }, {}, {}, {}, {}, {}, {}, {}, {}, {}, { wr := [13] }]) .leaf)))))
noncomputable def run39 : Ks.den inst39.args → Ks.den inst39.objs → Option inst39.out.den := fun x _ => exact_Round x.1 x.2.1
theorem ev39 : ∀ x y, evFn fx86 34 (bodyOf Tryz.f39) [.cell 4 23, .tmp 5] hint39 inst39 x y = run39 x y := by intro x y; kernel_rfl
theorem ok39 : FnOK Tryz.prog fx86.glob 39 (inst39.sem run39) :=
  fn_add fx86_ok feMixed 39 Tryz.f39 [.cell 4 23, .tmp 5] hint39 inst39 34 run39 Tryz.func39 (by kernel_rfl) Tryz.ntmps39 (by kernel_rfl) (by kernel_rfl) ev39
noncomputable def fx39 : Ctx := fx86.add 39 (inst39.sem run39)
theorem fx39_ok : CtxOK fx39 Tryz.prog := add_ok fx86_ok ok39 Tryz.call39
def inst87 : Inst := { args := [(.val (.pair .bool (.pair (.sl (.int .u32)) (.pair (.sl (.int .u32)) .unit)))), (.val (.int .i64))], objs := [], nres := 1, out := [(90000, (.val .str))], news := 0 }
def hint87 : HC := (.seq (.region [{ new := [10] }]) (.seq (.region [{ rd := [10] }, { rd := [10] }]) (.seq (.region []) (.seq (.cut [(.normal, [(2, (.ptr 11 0)), (5, (.val .str)), (100011, (.rcd (.cons (.val .bool) (.cons (.val (.sl (.int .u32))) (.cons (.val (.sl (.int .u32))) .unit)))))])] (.seq (.region []) (.cond (.region []) .leaf))) (.seq (.cut [(.normal, [(5, (.val .str))])] (.seq (.cut [(.normal, [(41, (.val .bool))])] (.region [{ rd := [11] }, { rd := [11] }, {}, { rd := [11] }, { rd := [11] }])) (.cond (.region []) .leaf))) (.seq (.region []) .leaf))))))
noncomputable def run87 : Ks.den inst87.args → Ks.den inst87.objs → Option inst87.out.den := fun x _ => exact_number__decimal x.1 x.2.1
theorem ev87 : ∀ x y, evFn fx39 45 (bodyOf Tryz.f87) [.tmp 4] hint87 inst87 x y = run87 x y := by intro x y; kernel_rfl
theorem ok87 : FnOK Tryz.prog fx39.glob 87 (inst87.sem run87) :=
  fn_add fx39_ok feMixed 87 Tryz.f87 [.tmp 4] hint87 inst87 45 run87 Tryz.func87 (by kernel_rfl) Tryz.ntmps87 (by kernel_rfl) (by kernel_rfl) ev87
noncomputable def fx87 : Ctx := fx39.add 87 (inst87.sem run87)
theorem fx87_ok : CtxOK fx87 Tryz.prog := add_ok fx39_ok ok87 Tryz.call87
def inst40 : Inst := { args := [(.val (.pair .str (.pair .str .unit))), (.val (.int .i64))], objs := [], nres := 2, out := [(90000, (.val .str)), (90001, (.val (.int .i64)))], news := 0 }
def hint40 : HC := (.seq (.region [{ new := [10] }]) (.seq (.region [{ rd := [10] }, {}, {}, {}, {}, { new := [11] }, { wr := [11] }]) (.seq (.seq (.region []) (.cond (.seq (.region []) .leaf) .leaf)) (.seq (.seq (.cut [(.normal, [(6, (.ptr 12 0)), (24, (.val .bool)), (100012, (.rcd (.cons (.val .bool) (.cons (.val (.sl (.int .u32))) (.cons (.val (.sl (.int .u32))) .unit)))))])] (.region [])) (.cond (.seq (.region []) .leaf) .leaf)) (.seq (.region [{ rd := [12] }, {}, {}, {}, { new := [13] }, { wr := [13] }]) (.seq (.seq (.region [{ rd := [13] }, {}, {}, {}, {}, {}, {}, {}, { new := [14] }, { wr := [14] }]) (.seq (.region []) (.cond (.seq (.region []) .leaf) .leaf))) (.seq (.region [{ rd := [13] }]) .leaf)))))))
noncomputable def run40 : Ks.den inst40.args → Ks.den inst40.objs → Option inst40.out.den := fun x _ => exact_Fixed x.1 x.2.1
theorem ev40 : ∀ x y, evFn fx87 43 (bodyOf Tryz.f40) [.tmp 4, .tmp 5] hint40 inst40 x y = run40 x y := by intro x y; kernel_rfl
theorem ok40 : FnOK Tryz.prog fx87.glob 40 (inst40.sem run40) :=
  fn_add fx87_ok feMixed 40 Tryz.f40 [.tmp 4, .tmp 5] hint40 inst40 43 run40 Tryz.func40 (by kernel_rfl) Tryz.ntmps40 (by kernel_rfl) (by kernel_rfl) ev40
noncomputable def fx40 : Ctx := fx87.add 40 (inst40.sem run40)
theorem fx40_ok : CtxOK fx40 Tryz.prog := add_ok fx87_ok ok40 Tryz.call40
def inst41 : Inst := { args := [(.val (.pair .str (.pair .str .unit)))], objs := [], nres := 3, out := [(90000, (.val .str)), (90001, (.val .bool)), (90002, (.val (.int .i64)))], news := 0 }
def hint41 : HC := (.seq (.region [{ new := [10] }]) (.seq (.region [{ rd := [10] }, {}, {}, {}, {}, { new := [11] }, { wr := [11] }]) (.seq (.seq (.region []) (.cond (.seq (.region []) .leaf) .leaf)) (.seq (.region []) (.seq (.seq (.region [{ rd := [11] }, { rd := [11] }]) (.block (.loop [(5, (.ptr 12 0)), (7, (.val (.int .i64))), (8, (.val (.sl (.int .u32)))), (100012, (.rcd (.cons (.val .bool) (.cons (.val (.sl (.int .u32))) (.cons (.val (.sl (.int .u32))) .unit)))))] [((.exit 0), [(5, (.ptr 16 0)), (7, (.val (.int .i64))), (100016, (.rcd (.cons (.val .bool) (.cons (.val (.sl (.int .u32))) (.cons (.val (.sl (.int .u32))) .unit)))))]), (.ret, [(2, (.val .str)), (3, (.val .bool)), (4, (.val (.int .i64)))])] (.seq (.seq (.region []) (.cond .leaf .leaf)) (.seq (.block (.seq (.region [{}, { new := [13] }, { fz := [(31, 13)] }]) (.seq (.cut [(.normal, [(5, (.ptr 15 0)), (9, (.val (.sl (.int .u32)))), (100015, (.rcd (.cons (.val .bool) (.cons (.val (.sl (.int .u32))) (.cons (.val (.sl (.int .u32))) .unit)))))]), (.ret, [(2, (.val .str)), (3, (.val .bool)), (4, (.val (.int .i64)))])] (.seq (.region []) (.cond (.seq (.region [{}, { new := [14] }, { fz := [(39, 14)] }]) (.seq (.seq (.region []) (.cond (.seq (.region []) .leaf) .leaf)) (.region []))) .leaf))) (.region [])))) (.region [])))))) (.seq (.region [{ rd := [16] }, { rd := [16] }, {}, {}, {}, { rd := [16] }, { rd := [16] }]) (.seq (.region [{ rd := [16] }, { rd := [16] }, {}, { new := [17] }, { fz := [(64, 17)] }]) .leaf)))))))
noncomputable def run41 : Ks.den inst41.args → Ks.den inst41.objs → Option inst41.out.den := fun x _ => exact_Shortest x.1
theorem ev41 : ∀ x y, evFn fx40 68 (bodyOf Tryz.f41) [.tmp 2, .tmp 3, .tmp 4] hint41 inst41 x y = run41 x y := by intro x y; kernel_rfl
theorem ok41 : FnOK Tryz.prog fx40.glob 41 (inst41.sem run41) :=
  fn_add fx40_ok feMixed 41 Tryz.f41 [.tmp 2, .tmp 3, .tmp 4] hint41 inst41 68 run41 Tryz.func41 (by kernel_rfl) Tryz.ntmps41 (by kernel_rfl) (by kernel_rfl) ev41
noncomputable def fx41 : Ctx := fx40.add 41 (inst41.sem run41)
theorem fx41_ok : CtxOK fx41 Tryz.prog := add_ok fx40_ok ok41 Tryz.call41
def inst42 : Inst := { args := [(.val (.pair .str (.pair .str .unit)))], objs := [], nres := 3, out := [(90000, (.val (.int .i64))), (90001, (.val .bool)), (90002, (.val (.int .i64)))], news := 0 }
def hint42 : HC := (.seq (.region [{ new := [10] }]) (.seq (.seq (.region [{ rd := [10] }]) (.seq (.region []) (.cond (.seq (.region []) .leaf) .leaf))) (.seq (.region [{ rd := [10] }, { rd := [10] }]) (.seq (.seq (.cut [(.normal, [(33, (.val .bool))])] (.region [{ rd := [10] }, { rd := [10] }])) (.cond (.seq (.region []) .leaf) .leaf)) (.seq (.region []) .leaf)))))
noncomputable def run42 : Ks.den inst42.args → Ks.den inst42.objs → Option inst42.out.den := fun x _ => exact_Int x.1
theorem ev42 : ∀ x y, evFn fx41 35 (bodyOf Tryz.f42) [.tmp 2, .tmp 3, .tmp 4] hint42 inst42 x y = run42 x y := by intro x y; kernel_rfl
theorem ok42 : FnOK Tryz.prog fx41.glob 42 (inst42.sem run42) :=
  fn_add fx41_ok feMixed 42 Tryz.f42 [.tmp 2, .tmp 3, .tmp 4] hint42 inst42 35 run42 Tryz.func42 (by kernel_rfl) Tryz.ntmps42 (by kernel_rfl) (by kernel_rfl) ev42
noncomputable def fx42 : Ctx := fx41.add 42 (inst42.sem run42)
theorem fx42_ok : CtxOK fx42 Tryz.prog := add_ok fx41_ok ok42 Tryz.call42
def inst91 : Inst := { args := [(.val .str)], objs := [], nres := 1, out := [(90000, (.val .str))], news := 0 }
def hint91 : HC := (.seq (.region []) (.seq (.seq (.cut [(.normal, [(9, (.val .bool))])] (.region [])) (.cond (.seq (.region []) .leaf) .leaf)) (.seq (.region []) .leaf)))
noncomputable def run91 : Ks.den inst91.args → Ks.den inst91.objs → Option inst91.out.den := fun x _ => chanceryref2_trimSign x.1
theorem ev91 : ∀ x y, evFn fx42 13 (bodyOf Tryz.f91) [.tmp 2] hint91 inst91 x y = run91 x y := by intro x y; kernel_rfl
theorem ok91 : FnOK Tryz.prog fx42.glob 91 (inst91.sem run91) :=
  fn_add fx42_ok feMixed 91 Tryz.f91 [.tmp 2] hint91 inst91 13 run91 Tryz.func91 (by kernel_rfl) Tryz.ntmps91 (by kernel_rfl) (by kernel_rfl) ev91
noncomputable def fx91 : Ctx := fx42.add 91 (inst91.sem run91)
theorem fx91_ok : CtxOK fx91 Tryz.prog := add_ok fx42_ok ok91 Tryz.call91
def inst43 : Inst := { args := [(.val (.pair .bool (.pair (.sl (.int .i64)) (.pair (.sl (.int .i64)) .unit))))], objs := [], nres := 2, out := [(90000, (.val (.int .i64))), (90001, (.val .bool))], news := 0 }
def hint43 : HC := (.seq (.region [{ new := [10] }]) (.seq (.region [{ rd := [10] }, {}, {}, {}, {}, { new := [11] }, { wr := [11] }]) (.seq (.seq (.cut [(.normal, [(4, (.ptr 12 0)), (27, (.val .bool)), (100012, (.rcd (.cons (.val .str) (.cons (.val .str) .unit))))])] (.region [{}, {}, {}, { rd := [11] }, { rd := [11] }, {}, {}, {}, { rd := [11] }, { rd := [11] }])) (.cond (.seq (.region []) .leaf) .leaf)) (.seq (.region []) (.seq (.seq (.region [{ rd := [12] }, { rd := [12] }]) (.cond (.seq (.region []) .leaf) .leaf)) (.seq (.region []) (.seq (.seq (.region [{ rd := [12] }, { rd := [12] }, {}, { new := [13] }, { rd := [13] }]) (.block (.loop [(4, (.ptr 14 0)), (7, (.val (.int .i64))), (40, (.own 15)), (42, (.val (.int .i64))), (100014, (.rcd (.cons (.val .str) (.cons (.val .str) .unit)))), (100015, (.vec none (.int .u8)))] [((.exit 0), [(4, (.ptr 16 0)), (7, (.val (.int .i64))), (100016, (.rcd (.cons (.val .str) (.cons (.val .str) .unit))))])] (.seq (.region []) (.seq (.cond .leaf .leaf) (.seq (.block (.seq (.region [{ rd := [15] }, { rd := [15] }]) (.region []))) (.region []))))))) (.seq (.cut [(.normal, [(7, (.val (.int .i64)))])] (.seq (.region [{ rd := [16] }, { rd := [16] }]) (.cond (.region []) .leaf))) (.seq (.region []) .leaf)))))))))
noncomputable def run43 : Ks.den inst43.args → Ks.den inst43.objs → Option inst43.out.den := fun x _ => chanceryref2_Rat__Int x.1
theorem ev43 : ∀ x y, evFn fx91 60 (bodyOf Tryz.f43) [.tmp 2, .tmp 3] hint43 inst43 x y = run43 x y := by intro x y; kernel_rfl
theorem ok43 : FnOK Tryz.prog fx91.glob 43 (inst43.sem run43) :=
  fn_add fx91_ok feMixed 43 Tryz.f43 [.tmp 2, .tmp 3] hint43 inst43 60 run43 Tryz.func43 (by kernel_rfl) Tryz.ntmps43 (by kernel_rfl) (by kernel_rfl) ev43
noncomputable def fx43 : Ctx := fx91.add 43 (inst43.sem run43)
theorem fx43_ok : CtxOK fx43 Tryz.prog := add_ok fx91_ok ok43 Tryz.call43
def inst44 : Inst := { args := [(.val (.pair .bool (.pair (.sl (.int .i64)) (.pair (.sl (.int .i64)) .unit))))], objs := [], nres := 1, out := [(90000, (.val (.int .i64)))], news := 0 }
def hint44 : HC := (.seq (.region [{ new := [10] }]) (.seq (.region [{ rd := [10] }, {}, {}, {}, {}, { new := [11] }, { wr := [11] }]) (.seq (.seq (.region []) (.cond (.seq (.region []) .leaf) .leaf)) (.seq (.region [{ rd := [11] }, { rd := [11] }]) (.seq (.region []) (.seq (.block (.loop [(5, (.val (.sl (.int .i64)))), (6, (.val (.int .i64)))] [((.exit 0), [(5, (.val (.sl (.int .i64)))), (6, (.val (.int .i64)))])] (.seq (.seq (.region []) (.cond .leaf .leaf)) (.block (.seq (.region []) (.region [])))))) (.seq (.block (.loop [(5, (.val (.sl (.int .i64)))), (7, (.val (.int .i64)))] [((.exit 2), [(5, (.val (.sl (.int .i64)))), (7, (.val (.int .i64)))])] (.block (.seq (.region [{}, { new := [12] }, { fz := [(31, 12)] }]) (.seq (.seq (.region []) (.cond .leaf .leaf)) (.seq (.region []) (.region []))))))) (.seq (.seq (.region []) (.cond (.seq (.region []) .leaf) .leaf)) (.seq (.region []) .leaf)))))))))
noncomputable def run44 : Ks.den inst44.args → Ks.den inst44.objs → Option inst44.out.den := fun x _ => chanceryref2_Rat__Places x.1
theorem ev44 : ∀ x y, evFn fx43 47 (bodyOf Tryz.f44) [.tmp 2] hint44 inst44 x y = run44 x y := by intro x y; kernel_rfl
theorem ok44 : FnOK Tryz.prog fx43.glob 44 (inst44.sem run44) :=
  fn_add fx43_ok feMixed 44 Tryz.f44 [.tmp 2] hint44 inst44 47 run44 Tryz.func44 (by kernel_rfl) Tryz.ntmps44 (by kernel_rfl) (by kernel_rfl) ev44
noncomputable def fx44 : Ctx := fx43.add 44 (inst44.sem run44)
theorem fx44_ok : CtxOK fx44 Tryz.prog := add_ok fx43_ok ok44 Tryz.call44
def inst110 : Inst := { args := [], objs := [], nres := 1, out := [(90000, (.val (.pair .bool (.pair (.sl (.int .i64)) (.pair (.sl (.int .i64)) .unit)))))], news := 0 }
def hint110 : HC := (.seq (.region [{ new := [10] }]) (.seq (.region [{ new := [11] }, { new := [12] }, { fz := [(1, 11), (2, 12)] }, { wr := [10] }]) .leaf))
noncomputable def run110 : Ks.den inst110.args → Ks.den inst110.objs → Option inst110.out.den := fun _ _ => chanceryref2_Half
theorem ev110 : ∀ x y, evFn fx44 4 (bodyOf Tryz.f110) [.cell 0 36] hint110 inst110 x y = run110 x y := by intro x y; kernel_rfl
theorem ok110 : FnOK Tryz.prog fx44.glob 110 (inst110.sem run110) :=
  fn_add fx44_ok feMixed 110 Tryz.f110 [.cell 0 36] hint110 inst110 4 run110 Tryz.func110 (by kernel_rfl) Tryz.ntmps110 (by kernel_rfl) (by kernel_rfl) ev110
noncomputable def fx110 : Ctx := fx44.add 110 (inst110.sem run110)
theorem fx110_ok : CtxOK fx110 Tryz.prog := add_ok fx44_ok ok110 Tryz.call110
def inst93 : Inst := { args := [(.val (.pair .bool (.pair (.sl (.int .i64)) (.pair (.sl (.int .i64)) .unit))))], objs := [], nres := 1, out := [(90000, (.val (.pair .bool (.pair (.sl (.int .i64)) (.pair (.sl (.int .i64)) .unit)))))], news := 0 }
def hint93 : HC := (.seq (.region [{ new := [10] }, { new := [11] }]) (.seq (.seq (.region [{ rd := [10] }, { rd := [10] }]) (.cond (.seq (.region [{ rd := [10] }, {}, {}, {}, { wr := [11] }]) .leaf) .leaf)) (.seq (.region [{ rd := [10] }, {}, {}, {}, { wr := [11] }]) .leaf)))
noncomputable def run93 (m : Nat) : Ks.den inst93.args → Ks.den inst93.objs → Option inst93.out.den := fun x _ => chanceryref2_Rat__Nearest_f m x.1
theorem ev93 : ∀ m x y, evFn (fx110.add 93 (inst93.sem (run93 m))) 13 (bodyOf Tryz.f93) [.cell 2 36] hint93 inst93 x y = run93 (m + 1) x y := by intro m x y; kernel_rfl
theorem ok93 : ∀ m, FnOK Tryz.prog fx110.glob 93 (inst93.sem (run93 m)) :=
  fn_rec fx110_ok feMixed 93 Tryz.f93 [.cell 2 36] hint93 inst93 13 run93 Tryz.func93 (by kernel_rfl) Tryz.ntmps93 (by kernel_rfl) (by kernel_rfl) Tryz.call93 (fun _ _ => rfl) ev93
noncomputable def fx93 : Ctx := fx110.add 93 (inst93.sem (run93 rounds))
theorem fx93_ok : CtxOK fx93 Tryz.prog := add_ok fx110_ok (ok93 rounds) Tryz.call93
def inst45 : Inst := { args := [(.val (.pair .bool (.pair (.sl (.int .i64)) (.pair (.sl (.int .i64)) .unit)))), (.val (.int .i64))], objs := [], nres := 1, out := [(90000, (.val .str))], news := 0 }
def hint45 : HC := (.seq (.region [{ new := [10] }]) (.seq (.region [{ rd := [10] }, {}, {}, {}, { new := [11] }, { wr := [11] }]) (.seq (.region [{ rd := [11] }, { rd := [11] }]) (.seq (.block (.loop [(5, (.ptr 12 0)), (6, (.val .str)), (100012, (.rcd (.cons (.val .bool) (.cons (.val (.sl (.int .i64))) (.cons (.val (.sl (.int .i64))) .unit)))))] [((.exit 0), [(5, (.ptr 13 0)), (6, (.val .str)), (100013, (.rcd (.cons (.val .bool) (.cons (.val (.sl (.int .i64))) (.cons (.val (.sl (.int .i64))) .unit)))))])] (.seq (.seq (.region []) (.cond .leaf .leaf)) (.block (.region []))))) (.seq (.cut [(.normal, [(5, (.ptr 14 0)), (6, (.val .str)), (100014, (.rcd (.cons (.val .bool) (.cons (.val (.sl (.int .i64))) (.cons (.val (.sl (.int .i64))) .unit)))))])] (.seq (.region []) (.cond (.region []) .leaf))) (.seq (.cut [(.normal, [(6, (.val .str))])] (.seq (.region [{ rd := [14] }]) (.cond (.region []) .leaf))) (.seq (.region []) .leaf)))))))
noncomputable def run45 : Ks.den inst45.args → Ks.den inst45.objs → Option inst45.out.den := fun x _ => chanceryref2_Rat__Fixed x.1 x.2.1
theorem ev45 : ∀ x y, evFn fx93 42 (bodyOf Tryz.f45) [.tmp 4] hint45 inst45 x y = run45 x y := by intro x y; kernel_rfl
theorem ok45 : FnOK Tryz.prog fx93.glob 45 (inst45.sem run45) :=
  fn_add fx93_ok feMixed 45 Tryz.f45 [.tmp 4] hint45 inst45 42 run45 Tryz.func45 (by kernel_rfl) Tryz.ntmps45 (by kernel_rfl) (by kernel_rfl) ev45
noncomputable def fx45 : Ctx := fx93.add 45 (inst45.sem run45)
theorem fx45_ok : CtxOK fx45 Tryz.prog := add_ok fx93_ok ok45 Tryz.call45
def inst46 : Inst := { args := [(.val (.pair .bool (.pair (.sl (.int .i64)) (.pair (.sl (.int .i64)) .unit)))), (.val (.int .i64))], objs := [], nres := 1, out := [(90000, (.val (.pair .bool (.pair (.sl (.int .i64)) (.pair (.sl (.int .i64)) .unit)))))], news := 0 }
def hint46 : HC := (.seq (.region [{ new := [10] }, { new := [11] }]) (.seq (.region [{ rd := [10] }, {}, {}, {}, {}, {}, {}, { wr := [11] }]) .leaf))
noncomputable def run46 : Ks.den inst46.args → Ks.den inst46.objs → Option inst46.out.den := fun x _ => chanceryref2_Rat__Round x.1 x.2.1
theorem ev46 : ∀ x y, evFn fx45 12 (bodyOf Tryz.f46) [.cell 4 36] hint46 inst46 x y = run46 x y := by intro x y; kernel_rfl
theorem ok46 : FnOK Tryz.prog fx45.glob 46 (inst46.sem run46) :=
  fn_add fx45_ok feMixed 46 Tryz.f46 [.cell 4 36] hint46 inst46 12 run46 Tryz.func46 (by kernel_rfl) Tryz.ntmps46 (by kernel_rfl) (by kernel_rfl) ev46
noncomputable def fx46 : Ctx := fx45.add 46 (inst46.sem run46)
theorem fx46_ok : CtxOK fx46 Tryz.prog := add_ok fx45_ok ok46 Tryz.call46
def inst7 : Inst := { args := [(.val (.pair .str (.pair .str .unit))), (.val (.int .i64))], objs := [], nres := 1, out := [(90000, (.val .bool))], news := 0 }
def hint7 : HC := (.seq (.region [{ new := [10] }]) (.seq (.seq (.region []) (.cond (.seq (.region []) .leaf) .leaf)) (.seq (.region [{ rd := [10] }, {}, {}, {}, {}, { new := [11] }, { wr := [11] }]) (.seq (.region [{ rd := [10] }, {}, {}, {}, {}, {}, { new := [12] }, { wr := [12] }]) (.seq (.region [{ rd := [10] }]) (.seq (.region [{ rd := [10] }]) (.seq (.region [{ rd := [10] }]) (.seq (.seq (.region [{ rd := [10] }]) (.seq (.region []) (.cond (.seq (.region [{}, {}, {}, {}, {}, {}, {}, {}, {}, {}, {}, {}, {}, {}, {}, {}, {}, {}, {}, {}, {}, {}, {}, {}, { rd := [11] }, {}, {}, {}, {}, { rd := [12] }]) .leaf) .leaf))) (.seq (.region [{ rd := [10] }, {}, { new := [13] }, { wr := [13] }]) (.seq (.region [{ rd := [13] }]) (.seq (.region [{ rd := [13] }]) (.seq (.seq (.cut [(.normal, [(7, (.ptr 14 0)), (18, (.ptr 15 0)), (177, (.val .bool)), (100014, (.rcd (.cons (.val .str) (.cons (.val .str) .unit)))), (100015, (.rcd (.cons (.val .bool) (.cons (.val (.sl (.int .i64))) (.cons (.val (.sl (.int .i64))) .unit)))))])] (.region [{ rd := [11] }, {}, { rd := [13] }, {}, {}, {}, {}, {}, {}, {}, {}, {}, {}, {}, {}, {}, {}, {}, {}, {}, { rd := [13] }])) (.cond (.seq (.region []) .leaf) .leaf)) (.seq (.seq (.cut [(.normal, [(7, (.ptr 16 0)), (18, (.ptr 17 0)), (183, (.val .bool)), (100016, (.rcd (.cons (.val .str) (.cons (.val .str) .unit)))), (100017, (.rcd (.cons (.val .bool) (.cons (.val (.sl (.int .i64))) (.cons (.val (.sl (.int .i64))) .unit)))))])] (.region [])) (.cond (.seq (.region [{ rd := [16] }]) .leaf) .leaf)) (.seq (.seq (.region [{ rd := [16] }, {}, { rd := [17] }]) (.cond (.seq (.region []) .leaf) .leaf)) (.seq (.seq (.region []) (.cond (.seq (.region []) .leaf) .leaf)) (.seq (.seq (.region []) (.cond (.seq (.region []) .leaf) .leaf)) (.seq (.region [{}, {}, {}, {}, { rd := [17] }]) .leaf)))))))))))))))))
noncomputable def run7 : Ks.den inst7.args → Ks.den inst7.objs → Option inst7.out.den := fun x _ => chancerylaw2_ExactRoundingMatches x.1 x.2.1
theorem ev7 : ∀ x y, evFn fx46 232 (bodyOf Tryz.f7) [.tmp 4] hint7 inst7 x y = run7 x y := by intro x y; kernel_rfl
theorem ok7 : FnOK Tryz.prog fx46.glob 7 (inst7.sem run7) :=
  fn_add fx46_ok feMixed 7 Tryz.f7 [.tmp 4] hint7 inst7 232 run7 Tryz.func7 (by kernel_rfl) Tryz.ntmps7 (by kernel_rfl) (by kernel_rfl) ev7
noncomputable def fx7 : Ctx := fx46.add 7 (inst7.sem run7)
theorem fx7_ok : CtxOK fx7 Tryz.prog := add_ok fx46_ok ok7 Tryz.call7
end Go.Proofs.YtmcoedgkmciciaaGreatDoor
