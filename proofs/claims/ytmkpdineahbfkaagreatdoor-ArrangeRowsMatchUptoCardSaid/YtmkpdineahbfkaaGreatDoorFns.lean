/- The contracts that say what the program's functions come to. Printed by a program (fegen.py). -/
import Derived.Test.YtmkpdineahbfkaaGreatDoorFun
import Derived.Test.YtmkpdineahbfkaaGreatDoorShelf
import Derived.WalkKit
import Derived.Lib.Builder
import Derived.BigRegion
import Derived.Test.YtmkpdineahbfkaaGreatDoorProg
namespace Go.Proofs.YtmkpdineahbfkaaGreatDoor
open Go Go.Fe

abbrev YA4 : Ty := (.int .i64)
abbrev KA3 : K := (.val YA4)
abbrev KA5 : K := (.val .bool)
abbrev KA7 : K := (.val (.sl YA4))
abbrev KA8 : K := (.val (.pair .bool (.pair (.sl YA4) (.pair (.sl YA4) .unit))))
abbrev KA9 : K := (.val .str)
abbrev KA11 : K := (.val (.pair .str (.pair .str .unit)))
abbrev KA12 : K := (.rcd (.cons KA9 (.cons KA9 .unit)))
abbrev YA13 : Ty := (.int .u32)
abbrev KA6 : K := (.val (.sl YA13))
abbrev YA10 : Ty := (.pair .bool (.pair (.sl YA13) (.pair (.sl YA13) .unit)))
abbrev YA15 : Ty := (.pair YA4 (.pair YA4 .unit))
abbrev YA1 : Ty := (.mu (.pair YA4 (.pair (.pair .str (.pair .str .unit)) (.pair .str (.pair .bool (.pair YA4 YA15))))))
abbrev KA0 : K := (.rcd (.cons KA3 (.cons KA9 (.cons KA9 (.cons KA9 (.cons KA5 (.cons KA3 (.cons KA3 (.cons KA3 (.cons (.val (.sl YA1)) .unit))))))))))
abbrev KA14 : K := (.val YA1)
abbrev YA16 : Ty := (.pair YA4 (.pair .bool .unit))
abbrev KA2 : K := (.rcd (.cons (.val (.sl YA16)) .unit))
abbrev KA17 : K := (.rcd (.cons KA3 (.cons KA3 .unit)))
abbrev YA18 : Ty := (.int .u8)
abbrev KA19 : K := (.val (.int .u64))
abbrev rd (n : Nat) : OH := { rd := [n] }
abbrev wr (n : Nat) : OH := { wr := [n] }
abbrev nw (n : Nat) : OH := { new := [n] }
abbrev fz (k n : Nat) : OH := { fz := [(k, n)] }
abbrev rz : HC := .region []
abbrev rg := HC.region
abbrev sq := HC.seq
abbrev cn := HC.cond
abbrev bk := HC.block
abbrev lf := HC.leaf
def feTab : List (TypeId × Ty) := [(3, YA4), (4, .bool), (5, YA18), (9, .str), (21, (.int .i32)), (23, (.pair .str (.pair .str .unit))), (24, (.sl YA1)), (26, YA1), (27, (.sl YA16)), (29, (.sl YA4)), (33, (.sl YA15)), (38, YA16), (43, YA15), (54, (.sl YA4)), (56, (.pair .bool (.pair (.sl YA4) (.pair (.sl YA4) .unit)))), (82, (.arr 9 .str)), (89, (.sl YA18)), (91, (.sl YA13)), (93, YA10), (98, (.int .u64)), (99, (.arr 2 YA1)), (120, YA13), (133, (.arr 256 .bool)), (140, (.int .u64))]
noncomputable def fe0 : Ctx := (Ctx.base feTab (globOf [(0, ⟨(.arr 9 .str), some [[], [35, 68, 73, 86, 47, 48, 33], [35, 86, 65, 76, 85, 69, 33], [35, 82, 69, 70, 33], [35, 78, 65, 77, 69, 63], [35, 78, 85, 77, 33], [35, 78, 47, 65], [35, 83, 80, 73, 76, 76, 33], [35, 67, 89, 67, 76, 69, 33]]⟩), (1, ⟨(.arr 9 .str), some [[], [35, 68, 73, 86, 47, 48, 33], [35, 86, 65, 76, 85, 69, 33], [35, 82, 69, 70, 33], [35, 78, 65, 77, 69, 63], [35, 78, 85, 77, 33], [35, 78, 47, 65], [35, 83, 80, 73, 76, 76, 33], [35, 67, 89, 67, 76, 69, 33]]⟩), (2, ⟨(.arr 256 YA18), some runeFirst⟩), (3, ⟨(.arr 16 (.pair YA18 (.pair YA18 .unit))), some runeAccept⟩), (4, ⟨.err, some true⟩), (5, ⟨.err, some true⟩), (6, ⟨YA4, none⟩), (7, ⟨(.arr 20 (.int .u64)), some Lib.pow10Tab⟩)])).eqs [(23, (.pair .str (.pair .str .unit)))]
theorem fe0_ok : CtxOK fe0 Tryz.prog := eqs_ok (base_ok (by kernel_rfl)) (by kernel_rfl)
theorem feMixed : Tryz.prog.follows .mixedOrders = true := by kernel_rfl
noncomputable def fx65 : Ctx := fe0.add 65 (shelfSem [.str] [(.int .i32), YA4] sRune)
theorem fx65_ok : CtxOK fx65 Tryz.prog := add_ok fe0_ok (okRune (g3 := 2) (g4 := 3) rfl rfl Tryz.utf8_DecodeRuneInString) Tryz.call65
noncomputable def fx80 : Ctx := fx65.add 80 (shelfSem [.str, .str] [.str, .bool] sCutPrefix)
theorem fx80_ok : CtxOK fx80 Tryz.prog := add_ok fx65_ok (okCutPrefix Tryz.strings_CutPrefix) Tryz.call80
noncomputable def fx94 : Ctx := fx80.add 94 (shelfSem [.str] [YA4, .err] sAtoi)
theorem fx94_ok : CtxOK fx94 Tryz.prog := add_ok fx80_ok (okAtoi (g1 := 4) (g2 := 5) rfl rfl Tryz.strconv_Atoi_ok Tryz.strconv_Atoi_syntax Tryz.strconv_Atoi_range) Tryz.call94
noncomputable def fx107 : Ctx := fx94.add 107 (shelfSem [.str, .str] [.str] (sNever [Ty.str, Ty.str] [Ty.str]))
theorem fx107_ok : CtxOK fx107 Tryz.prog := add_ok fx94_ok (okNever (l := [.str, .str]) (r := [.str])) Tryz.call107
noncomputable def fx108 : Ctx := fx107.add 108 (shelfSem [.str, .str] [.str] (sNever [Ty.str, Ty.str] [Ty.str]))
theorem fx108_ok : CtxOK fx108 Tryz.prog := add_ok fx107_ok (okNever (l := [.str, .str]) (r := [.str])) Tryz.call108
noncomputable def fx126 : Ctx := fx108.add 126 (shelfSem [YA4] [.str] sItoa)
theorem fx126_ok : CtxOK fx126 Tryz.prog := add_ok fx108_ok (okItoa (g := 7) rfl (by kernel_rfl) Tryz.strconv_Itoa) Tryz.call126
noncomputable def fx127 : Ctx := fx126.add 127 (shelfSem [.str, YA18] [YA4] sIndexByte)
theorem fx127_ok : CtxOK fx127 Tryz.prog := add_ok fx126_ok (okIndexByte Tryz.strings_IndexByte) Tryz.call127
def inst40 : Inst := mk1 [KA3] KA9
def hint40 : HC := (sq rz (sq (sq rz (cn (sq (rg [{}, {}, {}, {}, {}, {}, {}, (nw 10), (rd 10)]) lf) lf)) (sq (sq rz (cn (sq (rg [{}, {}, {}, (nw 11), (rd 11)]) lf) lf)) (sq (sq rz (cn (sq (rg [{}, {}, {}, {}, {}, {}, {}, (nw 12), (rd 12)]) lf) lf)) (sq (rg [{}, {}, {}, (nw 13), (rd 13)]) lf)))))
noncomputable def run40 (m : Nat) : Ks.den inst40.args → Ks.den inst40.objs → Option inst40.out.den := fun x _ => chanceryref2_Decimal_f m x.1
theorem ev40 : ∀ m x y, evFn (fx127.add 40 (inst40.sem (run40 m))) 40 (bodyOf Tryz.f40) [.tmp 2] hint40 inst40 x y = run40 (m + 1) x y := by intro m x y; kernel_rfl
theorem ok40 : ∀ m, FnOK Tryz.prog fx127.glob 40 (inst40.sem (run40 m)) :=
  fn_rec fx127_ok feMixed 40 Tryz.f40 [.tmp 2] hint40 inst40 40 run40 Tryz.func40 (by kernel_rfl) Tryz.ntmps40 (by kernel_rfl) (by kernel_rfl) Tryz.call40 (fun _ _ => rfl) ev40
noncomputable def fx40 : Ctx := fx127.add 40 (inst40.sem (run40 rounds))
theorem fx40_ok : CtxOK fx40 Tryz.prog := add_ok fx127_ok (ok40 rounds) Tryz.call40
def inst39 : Inst := mk1 [KA3] KA9
noncomputable def run39 : inst39.F := fun x _ => chanceryref2_unsigned x.1
noncomputable def fx39 : Ctx := fx40.add 39 (inst39.sem run39)
theorem fx39_ok : CtxOK fx39 Tryz.prog := fn_put fx40_ok feMixed 39 Tryz.f39 [.tmp 2] (sq rz (sq rz lf)) inst39 6 run39 Tryz.func39 (by kernel_rfl) Tryz.ntmps39 (by kernel_rfl) (by intro x y; kernel_rfl) Tryz.call39
def inst63 : Inst := mk1 [KA7] KA7
noncomputable def run63 : inst63.F := fun x _ => chanceryref2_Nat__trim x.1
noncomputable def fx63 : Ctx := fx39.add 63 (inst63.sem run63)
theorem fx63_ok : CtxOK fx63 Tryz.prog := fn_put fx39_ok feMixed 63 Tryz.f63 [.tmp 2] (sq rz (sq (bk (.loop [(0, KA7)] [((.exit 0), [(0, KA7)])] (sq (sq (.cut [(.normal, [(14, KA5)])] rz) (cn lf lf)) (bk rz)))) (sq rz lf))) inst63 21 run63 Tryz.func63 (by kernel_rfl) Tryz.ntmps63 (by kernel_rfl) (by intro x y; kernel_rfl) Tryz.call63
def inst38 : Inst := mk1 [KA9] KA7
noncomputable def run38 : inst38.F := fun x _ => chanceryref2_NatOf x.1
noncomputable def fx38 : Ctx := fx63.add 38 (inst38.sem run38)
theorem fx38_ok : CtxOK fx38 Tryz.prog := fn_put fx63_ok feMixed 38 Tryz.f38 [.tmp 2] (sq rz (sq rz (sq (sq rz (bk (.loop [(3, (.own 12)), (4, KA3), (100012, (.vec none YA4))] [((.exit 0), [(3, (.own 12)), (100012, (.vec none YA4))])] (sq (sq rz (cn lf lf)) (sq (bk (rg [{}, {}, {}, {}, {}, {}, (nw 10), { rd := [10], wr := [12], new := [11] }])) rz))))) (sq (rg [{}, (fz 20 12)]) lf)))) inst38 22 run38 Tryz.func38 (by kernel_rfl) Tryz.ntmps38 (by kernel_rfl) (by intro x y; kernel_rfl) Tryz.call38
def inst23 : Inst := mk1 [KA3] KA8
noncomputable def run23 : inst23.F := fun x _ => chanceryref2_Whole x.1
noncomputable def fx23 : Ctx := fx38.add 23 (inst23.sem run23)
theorem fx23_ok : CtxOK fx23 Tryz.prog := fn_put fx38_ok feMixed 23 Tryz.f23 [.cell 2 56] (sq (rg [(nw 10)]) (sq (sq rz (cn (sq (rg [{}, {}, {}, (nw 11), (fz 8 11), (wr 10)]) lf) lf)) (sq (rg [{}, {}, {}, (nw 12), (fz 13 12), (wr 10)]) lf))) inst23 15 run23 Tryz.func23 (by kernel_rfl) Tryz.ntmps23 (by kernel_rfl) (by intro x y; kernel_rfl) Tryz.call23
def inst73 : Inst := mk1 [KA7] KA7
noncomputable def run73 : inst73.F := fun x _ => chanceryref2_Nat__half x.1
noncomputable def fx73 : Ctx := fx23.add 73 (inst73.sem run73)
theorem fx73_ok : CtxOK fx73 Tryz.prog := fn_put fx23_ok feMixed 73 Tryz.f73 [.tmp 2] (sq rz (sq (rg [{}, {}, (nw 10)]) (sq rz (sq (sq rz (bk (.loop [(3, (.own 10)), (4, KA3), (5, KA3), (100010, (.vec none YA4))] [((.exit 0), [(3, (.own 10)), (100010, (.vec none YA4))])] (sq (sq rz (cn lf lf)) (sq (bk (sq rz (sq (rg [{}, {}, {}, {}, (rd 10), (wr 10)]) rz))) rz))))) (sq (rg [{}, (fz 31 10)]) lf))))) inst73 33 run73 Tryz.func73 (by kernel_rfl) Tryz.ntmps73 (by kernel_rfl) (by intro x y; kernel_rfl) Tryz.call73
def inst74 : Inst := mk1 [KA7, KA7] KA3
noncomputable def run74 : inst74.F := fun x _ => chanceryref2_Nat__Compare x.1 x.2.1
noncomputable def fx74 : Ctx := fx73.add 74 (inst74.sem run74)
theorem fx74_ok : CtxOK fx74 Tryz.prog := fn_put fx73_ok feMixed 74 Tryz.f74 [.tmp 4] (sq rz (sq (sq rz (cn (sq (sq rz (cn (sq rz lf) lf)) (sq rz lf)) lf)) (sq (sq rz (bk (.loop [(5, KA3)] [((.exit 0), []), (.ret, [(4, KA3)])] (sq (sq rz (cn lf lf)) (sq (bk (sq (sq rz (cn (sq rz lf) lf)) (sq rz (cn (sq rz lf) lf)))) rz))))) (sq rz lf)))) inst74 41 run74 Tryz.func74 (by kernel_rfl) Tryz.ntmps74 (by kernel_rfl) (by intro x y; kernel_rfl) Tryz.call74
def inst90 : Inst := mk1 [KA7, KA3] KA3
noncomputable def run90 : inst90.F := fun x _ => chanceryref2_digitAt x.1 x.2.1
noncomputable def fx90 : Ctx := fx74.add 90 (inst90.sem run90)
theorem fx90_ok : CtxOK fx90 Tryz.prog := fn_put fx74_ok feMixed 90 Tryz.f90 [.tmp 4] (sq rz (sq (sq rz (cn (sq rz lf) lf)) (sq rz lf))) inst90 13 run90 Tryz.func90 (by kernel_rfl) Tryz.ntmps90 (by kernel_rfl) (by intro x y; kernel_rfl) Tryz.call90
def inst75 : Inst := mk1 [KA7, KA7] KA7
noncomputable def run75 : inst75.F := fun x _ => chanceryref2_Nat__Less x.1 x.2.1
noncomputable def fx75 : Ctx := fx90.add 75 (inst75.sem run75)
theorem fx75_ok : CtxOK fx75 Tryz.prog := fn_put fx90_ok feMixed 75 Tryz.f75 [.tmp 4] (sq rz (sq rz (sq rz (sq (sq rz (bk (.loop [(5, (.own 12)), (6, KA3), (11, KA3), (100012, (.vec none YA4))] [((.exit 0), [(5, (.own 12)), (100012, (.vec none YA4))])] (sq rz (sq (cn lf lf) (sq (bk (sq rz (sq rz (sq rz (sq (.cut [(.normal, [(5, (.own 12)), (6, KA3), (8, KA3), (100012, (.vec none YA4))])] (sq rz (cn (sq rz rz) lf))) (rg [{}, {}, (nw 10), { rd := [10], wr := [12], new := [11] }])))))) rz)))))) (sq (rg [{}, (fz 33 12)]) lf))))) inst75 35 run75 Tryz.func75 (by kernel_rfl) Tryz.ntmps75 (by kernel_rfl) (by intro x y; kernel_rfl) Tryz.call75
def inst76 : Inst := mk1 [KA7, KA7] KA7
noncomputable def run76 : inst76.F := fun x _ => chanceryref2_Nat__Plus x.1 x.2.1
noncomputable def fx76 : Ctx := fx75.add 76 (inst76.sem run76)
theorem fx76_ok : CtxOK fx76 Tryz.prog := fn_put fx75_ok feMixed 76 Tryz.f76 [.tmp 4] (sq rz (sq rz (sq rz (sq (sq rz (bk (.loop [(5, (.own 12)), (6, KA3), (7, KA3), (100012, (.vec none YA4))] [((.exit 0), [(5, (.own 12)), (100012, (.vec none YA4))])] (sq (sq (.cut [(.normal, [(5, (.own 12)), (22, KA5), (100012, (.vec none YA4))])] rz) (cn lf lf)) (sq (bk (sq rz (sq (rg [{}, {}, {}, (nw 10), { rd := [10], wr := [12], new := [11] }]) rz))) rz))))) (sq rz lf))))) inst76 42 run76 Tryz.func76 (by kernel_rfl) Tryz.ntmps76 (by kernel_rfl) (by intro x y; kernel_rfl) Tryz.call76
def inst55 : Inst := mk1 [KA7, KA7] KA7
noncomputable def run55 : inst55.F := fun x _ => chanceryref2_Gcd x.1 x.2.1
noncomputable def fx55 : Ctx := fx76.add 55 (inst55.sem run55)
theorem fx55_ok : CtxOK fx55 Tryz.prog := fn_put fx76_ok feMixed 55 Tryz.f55 [.tmp 4] (sq rz (sq (sq rz (cn (sq rz lf) lf)) (sq (sq rz (cn (sq rz lf) lf)) (sq rz (sq (bk (.loop [(0, KA7), (1, KA7), (5, KA3)] [((.exit 0), [(0, KA7), (1, KA7), (5, KA3)])] (sq (sq (.cut [(.normal, [(25, KA5)])] rz) (cn lf lf)) (bk (sq rz rz))))) (sq (bk (.loop [(0, KA7), (1, KA7)] [((.exit 2), [(1, KA7)])] (sq (sq rz (cn lf lf)) (bk (sq (bk (.loop [(0, KA7)] [((.exit 4), [(0, KA7)])] (sq (sq (.cut [(.normal, [(44, KA5)])] rz) (cn lf lf)) (bk rz)))) (sq (bk (.loop [(1, KA7)] [((.exit 6), [(1, KA7)])] (sq (sq rz (cn lf lf)) (bk rz)))) (sq (.cut [(.normal, [(0, KA7), (1, KA7)])] (sq rz (cn rz lf))) rz))))))) (sq (sq rz (bk (.loop [(1, KA7), (64, KA3)] [((.exit 8), [(1, KA7)])] (sq rz (sq (cn lf lf) (sq (bk rz) rz)))))) (sq rz lf)))))))) inst55 71 run55 Tryz.func55 (by kernel_rfl) Tryz.ntmps55 (by kernel_rfl) (by intro x y; kernel_rfl) Tryz.call55
def inst62 : Inst := mk2 [KA7, KA7] KA7 KA7
noncomputable def run62 : inst62.F := fun x _ => chanceryref2_Nat__Divide x.1 x.2.1
noncomputable def fx62 : Ctx := fx55.add 62 (inst62.sem run62)
theorem fx62_ok : CtxOK fx62 Tryz.prog := fn_put fx55_ok feMixed 62 Tryz.f62 [.tmp 4, .tmp 5] (sq rz (sq (rg [{}, {}, (nw 10)]) (sq rz (sq (sq rz (bk (.loop [(6, (.own 10)), (7, KA7), (8, KA3), (100010, (.vec none YA4))] [((.exit 0), [(6, (.own 10)), (7, KA7), (100010, (.vec none YA4))])] (sq (sq rz (cn lf lf)) (sq (bk (sq (rg [{}, {}, {}, {}, (nw 11), {}, { wr := [11], new := [12] }, (fz 25 12)]) (bk (.loop [(6, (.own 10)), (7, KA7), (100010, (.vec none YA4))] [((.exit 2), [(6, (.own 10)), (7, KA7), (100010, (.vec none YA4))])] (sq (sq rz (cn lf lf)) (bk (sq rz (rg [{}, {}, (rd 10), (rd 10), {}, (rd 10), (wr 10)])))))))) rz))))) (sq (rg [{}, (fz 40 10)]) lf))))) inst62 43 run62 Tryz.func62 (by kernel_rfl) Tryz.ntmps62 (by kernel_rfl) (by intro x y; kernel_rfl) Tryz.call62
def inst56 : Inst := mk1 [KA7] KA9
noncomputable def run56 : inst56.F := fun x _ => chanceryref2_Nat__Text x.1
noncomputable def fx56 : Ctx := fx62.add 56 (inst56.sem run56)
theorem fx56_ok : CtxOK fx56 Tryz.prog := fn_put fx62_ok feMixed 56 Tryz.f56 [.tmp 2] (sq rz (sq (sq rz (cn (sq rz lf) lf)) (sq rz (sq (sq rz (bk (.loop [(3, (.own 12)), (4, KA3), (100012, (.vec none YA18))] [((.exit 0), [(3, (.own 12)), (100012, (.vec none YA18))])] (sq (sq rz (cn lf lf)) (sq (bk (rg [{}, {}, {}, {}, {}, {}, {}, (nw 10), { rd := [10], wr := [12], new := [11] }])) rz))))) (sq (rg [{}, (rd 12)]) lf))))) inst56 26 run56 Tryz.func56 (by kernel_rfl) Tryz.ntmps56 (by kernel_rfl) (by intro x y; kernel_rfl) Tryz.call56
def inst36 : Inst := mk2 [KA8] KA11 KA3
noncomputable def run36 : inst36.F := fun x _ => chanceryref2_Rat__Frac x.1
noncomputable def fx36 : Ctx := fx56.add 36 (inst36.sem run36)
theorem fx36_ok : CtxOK fx36 Tryz.prog := fn_put fx56_ok feMixed 36 Tryz.f36 [.cell 2 23, .tmp 3] (sq (rg [(nw 10), (nw 11)]) (sq (sq (rg [(rd 10), (rd 10)]) (cn (sq (rg [{}, (wr 11)]) lf) lf)) (sq (rg [(rd 10), (rd 10), (rd 10), (rd 10)]) (sq (rg [(rd 10), (rd 10)]) (sq (rg [(rd 10), (rd 10)]) (sq (sq (.cut [(.normal, [(1, (.ptr 10 0)), (2, (.ptr 11 0)), (41, KA5), (100010, (.rcd (.cons KA5 (.cons KA7 (.cons KA7 .unit))))), (100011, KA12)])] rz) (cn (sq (rg [{}, (wr 11)]) lf) lf)) (sq (rg [{}, {}, {}, {}, {}, (nw 12), (wr 12)]) (sq (.cut [(.normal, [(2, (.ptr 11 0)), (9, (.ptr 12 0)), (100011, KA12), (100012, KA12)])] (sq (rg [(rd 10), (rd 10)]) (cn (rg [(rd 12), (rd 12), {}, (rd 12), (wr 12)]) lf))) (sq (rg [(rd 12), (wr 11)]) lf))))))))) inst36 55 run36 Tryz.func36 (by kernel_rfl) Tryz.ntmps36 (by kernel_rfl) (by intro x y; kernel_rfl) Tryz.call36
def inst37 : Inst := mk1 [KA3] KA14
noncomputable def run37 : inst37.F := fun x _ => chanceryref2_Fault x.1
noncomputable def fx37 : Ctx := fx36.add 37 (inst37.sem run37)
theorem fx37_ok : CtxOK fx37 Tryz.prog := fn_put fx36_ok feMixed 37 Tryz.f37 [.cell 2 26] (sq (rg [(nw 10)]) (sq (rg [{}, {}, (wr 10)]) lf)) inst37 5 run37 Tryz.func37 (by kernel_rfl) Tryz.ntmps37 (by kernel_rfl) (by intro x y; kernel_rfl) Tryz.call37
def inst22 : Inst := mk1 [KA8] KA14
noncomputable def run22 : inst22.F := fun x _ => chanceryref2_Number x.1
noncomputable def fx22 : Ctx := fx37.add 22 (inst22.sem run22)
theorem fx22_ok : CtxOK fx22 Tryz.prog := fn_put fx37_ok feMixed 22 Tryz.f22 [.cell 2 26] (sq (rg [(nw 10), (nw 11)]) (sq (rg [(rd 10), {}, {}, {}, {}, (nw 12), (wr 12)]) (sq (sq rz (cn (sq (rg [{}, (wr 11)]) lf) lf)) (sq (rg [(rd 12), {}, (wr 11)]) lf)))) inst22 15 run22 Tryz.func22 (by kernel_rfl) Tryz.ntmps22 (by kernel_rfl) (by intro x y; kernel_rfl) Tryz.call22
def inst12 : Inst := mk1 [KA3] KA14
noncomputable def run12 : inst12.F := fun x _ => chanceryref2_Int x.1
noncomputable def fx12 : Ctx := fx22.add 12 (inst12.sem run12)
theorem fx12_ok : CtxOK fx12 Tryz.prog := fn_put fx22_ok feMixed 12 Tryz.f12 [.cell 2 26] (sq (rg [(nw 10)]) (sq (rg [{}, {}, {}, (wr 10)]) lf)) inst12 6 run12 Tryz.func12 (by kernel_rfl) Tryz.ntmps12 (by kernel_rfl) (by intro x y; kernel_rfl) Tryz.call12
def inst41 : Inst := mk1 [KA14] KA3
noncomputable def run41 : inst41.F := fun x _ => value_zeros x.1
noncomputable def fx41 : Ctx := fx12.add 41 (inst41.sem run41)
theorem fx41_ok : CtxOK fx41 Tryz.prog := fn_put fx12_ok feMixed 41 Tryz.f41 [.tmp 2] (sq (rg [(nw 10)]) (sq (rg [(rd 10), (rd 10)]) (sq (.cut [(.normal, [(4, KA5)])] (rg [{}, {}, {}, (rd 10), (rd 10), {}, {}, {}, {}, {}, {}, {}, (rd 10), (rd 10), {}, {}, {}, {}, {}, {}, {}, (rd 10), (rd 10), {}, {}, {}, {}, {}, {}, (rd 10), (rd 10), {}, {}, {}, {}, {}, {}, {}, (rd 10), (rd 10), {}, {}, (rd 10), (rd 10), {}, {}, {}, (rd 10), (rd 10)])) (sq (sq rz (cn (sq rz lf) lf)) (sq rz lf))))) inst41 62 run41 Tryz.func41 (by kernel_rfl) Tryz.ntmps41 (by kernel_rfl) (by intro x y; kernel_rfl) Tryz.call41
def inst103 : Inst := mk1 [KA9, (.val YA18)] KA9
noncomputable def run103 : inst103.F := fun x _ => strings_trimRightByte x.1 x.2.1
noncomputable def fx103 : Ctx := fx41.add 103 (inst103.sem run103)
theorem fx103_ok : CtxOK fx103 Tryz.prog := fn_put fx41_ok feMixed 103 Tryz.f103 [.tmp 4] (sq rz (sq (bk (.loop [(0, KA9)] [((.exit 0), [(0, KA9)])] (sq (sq (.cut [(.normal, [(16, KA5)])] rz) (cn lf lf)) (bk rz)))) (sq rz lf))) inst103 23 run103 Tryz.func103 (by kernel_rfl) Tryz.ntmps103 (by kernel_rfl) (by intro x y; kernel_rfl) Tryz.call103
def inst102 : Inst := mk1 [KA9, (.val YA18)] KA9
noncomputable def run102 : inst102.F := fun x _ => strings_trimLeftByte x.1 x.2.1
noncomputable def fx102 : Ctx := fx103.add 102 (inst102.sem run102)
theorem fx102_ok : CtxOK fx102 Tryz.prog := fn_put fx103_ok feMixed 102 Tryz.f102 [.tmp 4] (sq rz (sq (bk (.loop [(0, KA9)] [((.exit 0), [(0, KA9)])] (sq (sq (.cut [(.normal, [(13, KA5)])] rz) (cn lf lf)) (bk rz)))) (sq rz lf))) inst102 17 run102 Tryz.func102 (by kernel_rfl) Tryz.ntmps102 (by kernel_rfl) (by intro x y; kernel_rfl) Tryz.call102
def inst104 : Inst := mk2 [KA9] (.val (.arr 256 .bool)) KA5
noncomputable def run104 : inst104.F := fun x _ => strings_makeASCIISet x.1
noncomputable def fx104 : Ctx := fx102.add 104 (inst104.sem run104)
theorem fx104_ok : CtxOK fx104 Tryz.prog := fn_put fx102_ok feMixed 104 Tryz.f104 [.cell 2 133, .tmp 3] (sq (rg [(nw 10)]) (sq (sq rz (bk (.loop [(2, (.ptr 10 0)), (4, KA3), (100010, (.vec (some 256) .bool))] [((.exit 0), [(2, (.ptr 10 0)), (100010, (.vec (some 256) .bool))]), (.ret, [(2, (.ptr 10 0)), (3, KA5), (100010, (.vec (some 256) .bool))])] (sq (sq rz (cn lf lf)) (sq (bk (sq rz (sq (sq rz (cn (sq (rg [(rd 10), (wr 10)]) lf) lf)) (rg [{}, (rd 10), (wr 10)])))) rz))))) (sq (rg [(rd 10), (wr 10)]) lf))) inst104 21 run104 Tryz.func104 (by kernel_rfl) Tryz.ntmps104 (by kernel_rfl) (by intro x y; kernel_rfl) Tryz.call104
def inst113 : Inst := { args := [(.ptr 0 0), (.val YA18)], objs := [(.vec (some 256) .bool)], nres := 1, out := [(90000, KA5), (0, (.ptr 0 0)), (100000, (.vec (some 256) .bool))], news := 0 }
noncomputable def run113 : inst113.F := fun x y => _strings_asciiSet__contains x.2.1 y.1
noncomputable def fx113 : Ctx := fx104.add 113 (inst113.sem run113)
theorem fx113_ok : CtxOK fx113 Tryz.prog := fn_put fx104_ok feMixed 113 Tryz.f113 [.tmp 4] (sq rz (sq (rg [{}, {}, (rd 0), (rd 0), (rd 0)]) lf)) inst113 10 run113 Tryz.func113 (by kernel_rfl) Tryz.ntmps113 (by kernel_rfl) (by intro x y; kernel_rfl) Tryz.call113
def inst106 : Inst := { args := [KA9, (.ptr 0 0)], objs := [(.vec (some 256) .bool)], nres := 1, out := [(90000, KA9), (1, (.ptr 0 0)), (100000, (.vec (some 256) .bool))], news := 0 }
noncomputable def run106 : inst106.F := fun x y => strings_trimRightASCII x.1 y.1
noncomputable def fx106 : Ctx := fx113.add 106 (inst106.sem run106)
theorem fx106_ok : CtxOK fx106 Tryz.prog := fn_put fx113_ok feMixed 106 Tryz.f106 [.tmp 4] (sq rz (sq (bk (.loop [(0, KA9), (1, (.ptr 0 0)), (100000, (.vec (some 256) .bool))] [((.exit 0), [(0, KA9), (1, (.ptr 0 0)), (100000, (.vec (some 256) .bool))])] (sq (sq rz (cn lf lf)) (bk (sq (sq (rg [{}, {}, {}, {}, {}, {}, (wr 0)]) (cn lf lf)) rz))))) (sq rz lf))) inst106 22 run106 Tryz.func106 (by kernel_rfl) Tryz.ntmps106 (by kernel_rfl) (by intro x y; kernel_rfl) Tryz.call106
def inst105 : Inst := { args := [KA9, (.ptr 0 0)], objs := [(.vec (some 256) .bool)], nres := 1, out := [(90000, KA9), (1, (.ptr 0 0)), (100000, (.vec (some 256) .bool))], news := 0 }
noncomputable def run105 : inst105.F := fun x y => strings_trimLeftASCII x.1 y.1
noncomputable def fx105 : Ctx := fx106.add 105 (inst105.sem run105)
theorem fx105_ok : CtxOK fx105 Tryz.prog := fn_put fx106_ok feMixed 105 Tryz.f105 [.tmp 4] (sq rz (sq (bk (.loop [(0, KA9), (1, (.ptr 0 0)), (100000, (.vec (some 256) .bool))] [((.exit 0), [(0, KA9), (1, (.ptr 0 0)), (100000, (.vec (some 256) .bool))])] (sq (sq rz (cn lf lf)) (bk (sq (sq (rg [{}, {}, {}, (wr 0)]) (cn lf lf)) rz))))) (sq rz lf))) inst105 16 run105 Tryz.func105 (by kernel_rfl) Tryz.ntmps105 (by kernel_rfl) (by intro x y; kernel_rfl) Tryz.call105
def inst93 : Inst := mk1 [KA9, KA9] KA9
noncomputable def run93 : inst93.F := fun x _ => strings_Trim x.1 x.2.1
noncomputable def fx93 : Ctx := fx105.add 93 (inst93.sem run93)
theorem fx93_ok : CtxOK fx93 Tryz.prog := fn_put fx105_ok feMixed 93 Tryz.f93 [.tmp 4] (sq rz (sq (sq (.cut [(.normal, [(12, KA5)])] rz) (cn (sq rz lf) lf)) (sq (sq (.cut [(.normal, [(21, KA5)])] rz) (cn (sq rz lf) lf)) (sq (sq (rg [{}, {}, {}, {}, {}, (nw 10), (wr 10)]) (sq rz (cn (sq (rg [{}, (wr 10), (wr 10)]) lf) lf))) (sq rz lf))))) inst93 43 run93 Tryz.func93 (by kernel_rfl) Tryz.ntmps93 (by kernel_rfl) (by intro x y; kernel_rfl) Tryz.call93
def inst81 : Inst := mk1 [KA9] KA5
noncomputable def run81 : inst81.F := fun x _ => exact_digits x.1
noncomputable def fx81 : Ctx := fx93.add 81 (inst81.sem run81)
theorem fx81_ok : CtxOK fx81 Tryz.prog := fn_put fx93_ok feMixed 81 Tryz.f81 [.tmp 2] (sq rz (sq (sq (.cut [(.normal, [(14, KA5)])] rz) (cn (sq rz lf) lf)) (sq rz lf))) inst81 18 run81 Tryz.func81 (by kernel_rfl) Tryz.ntmps81 (by kernel_rfl) (by intro x y; kernel_rfl) Tryz.call81
def inst95 : Inst := mk1 [KA6] KA6
noncomputable def run95 : inst95.F := fun x _ => exact_nat__trim x.1
noncomputable def fx95 : Ctx := fx81.add 95 (inst95.sem run95)
theorem fx95_ok : CtxOK fx95 Tryz.prog := fn_put fx81_ok feMixed 95 Tryz.f95 [.tmp 2] (sq rz (sq (bk (.loop [(0, KA6)] [((.exit 0), [(0, KA6)])] (sq (sq (.cut [(.normal, [(14, KA5)])] rz) (cn lf lf)) (bk rz)))) (sq rz lf))) inst95 21 run95 Tryz.func95 (by kernel_rfl) Tryz.ntmps95 (by kernel_rfl) (by intro x y; kernel_rfl) Tryz.call95
def inst82 : Inst := mk1 [KA9] KA6
noncomputable def run82 : inst82.F := fun x _ => exact_parse x.1
noncomputable def fx82 : Ctx := fx95.add 82 (inst82.sem run82)
theorem fx82_ok : CtxOK fx82 Tryz.prog := fn_put fx95_ok feMixed 82 Tryz.f82 [.tmp 2] (sq rz (sq rz (sq (bk (.loop [(0, KA9), (3, (.own 12)), (100012, (.vec none YA13))] [((.exit 0), [(3, (.own 12)), (100012, (.vec none YA13))])] (sq (sq rz (cn lf lf)) (bk (sq rz (sq rz (sq (rg [{}, {}, {}, (nw 10), { rd := [10], wr := [12], new := [11] }]) rz))))))) (sq (rg [{}, (fz 29 12)]) lf)))) inst82 31 run82 Tryz.func82 (by kernel_rfl) Tryz.ntmps82 (by kernel_rfl) (by intro x y; kernel_rfl) Tryz.call82
def inst89 : Inst := mk1 [KA6] KA5
noncomputable def run89 : inst89.F := fun x _ => exact_nat__zero x.1
noncomputable def fx89 : Ctx := fx82.add 89 (inst89.sem run89)
theorem fx89_ok : CtxOK fx89 Tryz.prog := fn_put fx82_ok feMixed 89 Tryz.f89 [.tmp 2] (sq rz (sq rz lf)) inst89 6 run89 Tryz.func89 (by kernel_rfl) Tryz.ntmps89 (by kernel_rfl) (by intro x y; kernel_rfl) Tryz.call89
def inst99 : Inst := mk1 [KA6, KA6] KA3
noncomputable def run99 : inst99.F := fun x _ => exact_nat__compare x.1 x.2.1
noncomputable def fx99 : Ctx := fx89.add 99 (inst99.sem run99)
theorem fx99_ok : CtxOK fx99 Tryz.prog := fn_put fx89_ok feMixed 99 Tryz.f99 [.tmp 4] (sq rz (sq (sq rz (cn (sq rz lf) lf)) (sq (sq rz (bk (.loop [(5, KA3)] [((.exit 0), []), (.ret, [(4, KA3)])] (sq (sq rz (cn lf lf)) (sq (bk (sq rz (cn (sq (sq rz (cn (sq rz lf) lf)) (sq rz lf)) lf))) rz))))) (sq rz lf)))) inst99 41 run99 Tryz.func99 (by kernel_rfl) Tryz.ntmps99 (by kernel_rfl) (by intro x y; kernel_rfl) Tryz.call99
def inst97 : Inst := mk1 [KA6, KA6] KA6
noncomputable def run97 : inst97.F := fun x _ => exact_nat__times x.1 x.2.1
noncomputable def fx97 : Ctx := fx99.add 97 (inst97.sem run97)
theorem fx97_ok : CtxOK fx97 Tryz.prog := fn_put fx99_ok feMixed 97 Tryz.f97 [.tmp 4] (sq rz (sq (rg [{}, {}, {}, {}, {}, (nw 10)]) (sq (sq rz (bk (.loop [(5, (.own 10)), (20, KA3), (100010, (.vec none YA13))] [((.exit 0), [(5, (.own 10)), (100010, (.vec none YA13))])] (sq rz (sq (cn lf lf) (sq (bk (sq rz (sq rz (sq (sq rz (bk (.loop [(5, (.own 10)), (8, KA19), (27, KA3), (100010, (.vec none YA13))] [((.exit 2), [(5, (.own 10)), (8, KA19), (100010, (.vec none YA13))])] (sq rz (sq (cn lf lf) (sq (bk (sq rz (sq (rg [{}, {}, {}, {}, {}, {}, {}, {}, {}, (rd 10), (rd 10)]) (sq (rg [{}, {}, {}, {}, {}, {}, {}, (rd 10), (wr 10)]) rz)))) rz)))))) (rg [{}, {}, {}, {}, {}, {}, {}, (rd 10), (wr 10)]))))) rz)))))) (sq (rg [{}, (fz 67 10)]) lf)))) inst97 69 run97 Tryz.func97 (by kernel_rfl) Tryz.ntmps97 (by kernel_rfl) (by intro x y; kernel_rfl) Tryz.call97
def inst111 : Inst := mk1 [KA6, KA6] (.val YA13)
noncomputable def run111 : inst111.F := fun x _ => exact_digit x.1 x.2.1
noncomputable def fx111 : Ctx := fx97.add 111 (inst111.sem run111)
theorem fx111_ok : CtxOK fx111 Tryz.prog := fn_put fx97_ok feMixed 111 Tryz.f111 [.tmp 4] (sq rz (sq (sq rz (cn (sq rz lf) lf)) (sq rz (sq rz (sq (sq rz (bk (.loop [(6, KA19), (7, KA3)] [((.exit 0), [(6, KA19)])] (sq (sq rz (cn lf lf)) (sq (bk rz) rz))))) (sq rz (sq (bk (.loop [(8, KA19), (9, KA19)] [((.exit 2), [(8, KA19)])] (sq (sq rz (cn lf lf)) (bk (sq rz (sq (rg [{}, {}, {}, (nw 10), (fz 61 10)]) (cn rz rz))))))) (sq rz lf)))))))) inst111 72 run111 Tryz.func111 (by kernel_rfl) Tryz.ntmps111 (by kernel_rfl) (by intro x y; kernel_rfl) Tryz.call111
def inst112 : Inst := { args := [KA6], objs := [], nres := 1, out := [(90000, (.own 0)), (100000, (.vec none YA13))], news := 1 }
noncomputable def run112 : inst112.F := fun x _ => exact_nat_uint32_ x.1
noncomputable def fx112 : Ctx := fx111.add 112 (inst112.sem run112)
theorem fx112_ok : CtxOK fx112 Tryz.prog := fn_put fx111_ok feMixed 112 Tryz.f112 [.tmp 2] (sq rz (sq (sq rz (cn (sq rz lf) lf)) (sq (rg [(nw 10), {}, { wr := [10], new := [11] }]) lf))) inst112 8 run112 Tryz.func112 (by kernel_rfl) Tryz.ntmps112 (by kernel_rfl) (by intro x y; kernel_rfl) Tryz.call112
def inst100 : Inst := mk1 [KA6, KA6] KA6
noncomputable def run100 : inst100.F := fun x _ => exact_nat__minus x.1 x.2.1
noncomputable def fx100 : Ctx := fx112.add 100 (inst100.sem run100)
theorem fx100_ok : CtxOK fx100 Tryz.prog := fn_put fx112_ok feMixed 100 Tryz.f100 [.tmp 4] (sq rz (sq (rg [{}, (nw 10)]) (sq rz (sq (sq (rg [{}, (rd 10)]) (bk (.loop [(5, (.own 10)), (6, (.val YA13)), (13, KA3), (100010, (.vec none YA13))] [((.exit 0), [(5, (.own 10)), (100010, (.vec none YA13))])] (sq rz (sq (cn lf lf) (sq (bk (sq rz (sq rz (sq (.cut [(.normal, [(5, (.own 10)), (8, (.val YA13)), (100010, (.vec none YA13))])] (sq rz (cn rz lf))) (sq rz (sq (.cut [(.normal, [(5, (.own 10)), (6, (.val YA13)), (100010, (.vec none YA13))])] (sq (rg [{}, {}, (rd 10), (rd 10)]) (cn (sq (rg [{}, {}, (rd 10), (rd 10), {}, (rd 10), (wr 10)]) rz) lf))) (rg [{}, {}, (rd 10), (rd 10), {}, {}, (rd 10), (wr 10)]))))))) rz)))))) (sq (rg [{}, (fz 47 10)]) lf))))) inst100 49 run100 Tryz.func100 (by kernel_rfl) Tryz.ntmps100 (by kernel_rfl) (by intro x y; kernel_rfl) Tryz.call100
def inst96 : Inst := mk2 [KA6, KA6] KA6 KA6
noncomputable def run96 : inst96.F := fun x _ => exact_divide x.1 x.2.1
noncomputable def fx96 : Ctx := fx100.add 96 (inst96.sem run96)
theorem fx96_ok : CtxOK fx96 Tryz.prog := fn_put fx100_ok feMixed 96 Tryz.f96 [.tmp 4, .tmp 5] (sq rz (sq (rg [{}, {}, (nw 10)]) (sq rz (sq (sq rz (bk (.loop [(6, (.own 10)), (7, KA6), (8, KA3), (100010, (.vec none YA13))] [((.exit 0), [(6, (.own 10)), (7, KA6), (100010, (.vec none YA13))])] (sq (sq rz (cn lf lf)) (sq (bk (sq (rg [{}, {}, {}, {}, (nw 11), {}, { wr := [11], new := [12] }, (fz 25 12)]) (sq (rg [{}, {}, {}, {}, {}, (rd 10), (wr 10)]) (rg [{}, {}, {}, {}, (rd 10), (rd 10), (nw 13), (fz 39 13)])))) rz))))) (sq (rg [{}, (fz 43 10)]) lf))))) inst96 46 run96 Tryz.func96 (by kernel_rfl) Tryz.ntmps96 (by kernel_rfl) (by intro x y; kernel_rfl) Tryz.call96
def inst83 : Inst := mk1 [KA6, KA6] KA6
noncomputable def run83 : inst83.F := fun x _ => exact_common x.1 x.2.1
noncomputable def fx83 : Ctx := fx96.add 83 (inst83.sem run83)
theorem fx83_ok : CtxOK fx83 Tryz.prog := fn_put fx96_ok feMixed 83 Tryz.f83 [.tmp 4] (sq rz (sq (bk (.loop [(0, KA6), (1, KA6)] [((.exit 0), [(0, KA6)])] (sq (sq rz (cn lf lf)) (bk (sq rz rz))))) (sq rz lf))) inst83 19 run83 Tryz.func83 (by kernel_rfl) Tryz.ntmps83 (by kernel_rfl) (by intro x y; kernel_rfl) Tryz.call83
def inst84 : Inst := mk1 [KA6] KA5
noncomputable def run84 : inst84.F := fun x _ => exact_nat__one x.1
noncomputable def fx84 : Ctx := fx83.add 84 (inst84.sem run84)
theorem fx84_ok : CtxOK fx84 Tryz.prog := fn_put fx83_ok feMixed 84 Tryz.f84 [.tmp 2] (sq rz (sq rz lf)) inst84 12 run84 Tryz.func84 (by kernel_rfl) Tryz.ntmps84 (by kernel_rfl) (by intro x y; kernel_rfl) Tryz.call84
def inst64 : Inst := mk2 [KA11] (.val YA10) KA3
noncomputable def run64 : inst64.F := fun x _ => exact_read x.1
noncomputable def fx64 : Ctx := fx84.add 64 (inst64.sem run64)
theorem fx64_ok : CtxOK fx64 Tryz.prog := fn_put fx84_ok feMixed 64 Tryz.f64 [.cell 2 93, .tmp 3] (sq (rg [(nw 10), (nw 11)]) (sq (rg [(rd 10), (rd 10)]) (sq (sq (.cut [(.normal, [(1, (.ptr 10 0)), (2, (.ptr 11 0)), (33, KA5), (100010, KA12), (100011, (.rcd (.cons KA5 (.cons KA6 (.cons KA6 .unit)))))])] (rg [{}, {}, {}, {}, (rd 10), (rd 10), {}, {}, {}, {}, (rd 10), (rd 10)])) (cn (sq (rg [{}, (wr 11)]) lf) lf)) (sq (sq (.cut [(.normal, [(1, (.ptr 10 0)), (2, (.ptr 11 0)), (43, KA5), (100010, KA12), (100011, (.rcd (.cons KA5 (.cons KA6 (.cons KA6 .unit)))))])] (rg [{}, {}, {}, {}, (rd 10), (rd 10)])) (cn (sq (rg [{}, (wr 11)]) lf) lf)) (sq (rg [{}, {}, {}, (rd 10), (rd 10), {}, {}, (nw 12), (wr 12)]) (sq (sq (rg [(rd 12), (rd 12), (rd 12), (rd 12)]) (cn (sq (rg [{}, (wr 11)]) lf) lf)) (sq (rg [(rd 12), (wr 11)]) lf))))))) inst64 61 run64 Tryz.func64 (by kernel_rfl) Tryz.ntmps64 (by kernel_rfl) (by intro x y; kernel_rfl) Tryz.call64
def inst42 : Inst := mk1 [KA11] KA3
noncomputable def run42 : inst42.F := fun x _ => exact_Check x.1
noncomputable def fx42 : Ctx := fx64.add 42 (inst42.sem run42)
theorem fx42_ok : CtxOK fx42 Tryz.prog := fn_put fx64_ok feMixed 42 Tryz.f42 [.tmp 2] (sq (rg [(nw 10)]) (sq (rg [(rd 10), {}, {}, {}, {}, (nw 11), (wr 11)]) (sq rz lf))) inst42 11 run42 Tryz.func42 (by kernel_rfl) Tryz.ntmps42 (by kernel_rfl) (by intro x y; kernel_rfl) Tryz.call42
def inst66 : Inst := mk1 [KA3] KA5
noncomputable def run66 : inst66.F := fun x _ => flow_Char x.1
noncomputable def fx66 : Ctx := fx42.add 66 (inst66.sem run66)
theorem fx66_ok : CtxOK fx66 Tryz.prog := fn_put fx42_ok feMixed 66 Tryz.f66 [.tmp 2] (sq rz (sq rz lf)) inst66 33 run66 Tryz.func66 (by kernel_rfl) Tryz.ntmps66 (by kernel_rfl) (by intro x y; kernel_rfl) Tryz.call66
def inst43 : Inst := mk1 [KA9] KA3
noncomputable def run43 : inst43.F := fun x _ => value_text x.1
noncomputable def fx43 : Ctx := fx66.add 43 (inst43.sem run43)
theorem fx43_ok : CtxOK fx43 Tryz.prog := fn_put fx66_ok feMixed 43 Tryz.f43 [.tmp 2] (sq rz (sq (sq rz (cn (sq rz lf) lf)) (sq (bk (.loop [(0, KA9)] [((.exit 0), []), (.ret, [(2, KA3)])] (sq (sq rz (cn lf lf)) (bk (sq rz (sq (sq (.cut [(.normal, [(26, KA5)])] rz) (cn (sq rz lf) lf)) rz)))))) (sq rz lf)))) inst43 30 run43 Tryz.func43 (by kernel_rfl) Tryz.ntmps43 (by kernel_rfl) (by intro x y; kernel_rfl) Tryz.call43
def inst44 : Inst := mk1 [KA3] KA9
noncomputable def run44 : inst44.F := fun x _ => value_FaultText x.1
noncomputable def fx44 : Ctx := fx43.add 44 (inst44.sem run44)
theorem fx44_ok : CtxOK fx44 Tryz.prog := fn_put fx43_ok feMixed 44 Tryz.f44 [.tmp 2] (sq rz (sq (sq (.cut [(.normal, [(8, KA5)])] rz) (cn (sq rz lf) lf)) (sq rz lf))) inst44 12 run44 Tryz.func44 (by kernel_rfl) Tryz.ntmps44 (by kernel_rfl) (by intro x y; kernel_rfl) Tryz.call44
def inst24 : Inst := mk1 [KA14] KA3
def hint24 : HC := (sq (rg [(nw 10)]) (sq (sq (.cut [(.normal, [(1, (.ptr 10 0)), (11, KA5), (100010, KA0)])] (rg [(rd 10), (rd 10), {}, {}, (rd 10), (rd 10)])) (cn (sq rz lf) lf)) (sq (sq (rg [(rd 10)]) (sq rz (cn (sq rz lf) lf))) (sq (.cut [(.normal, []), (.ret, [(2, KA3)])] (sq (rg [(rd 10), (rd 10)]) (bk (sq rz (cn (sq (rg [(rd 10), (rd 10)]) lf) (sq rz (cn (sq (rg [(rd 10), (rd 10)]) lf) (sq rz (cn (sq (rg [(rd 10), (rd 10)]) (cn (sq rz lf) lf)) (sq rz (cn (sq (rg [(rd 10)]) lf) lf))))))))))) (sq rz lf)))))
noncomputable def run24 (m : Nat) : Ks.den inst24.args → Ks.den inst24.objs → Option inst24.out.den := fun x _ => value_Check_f m x.1
noncomputable def g24 (m : Nat) : Ctx := fx44.add 24 (inst24.sem (run24 m))
theorem g24_ok {m : Nat} (h : FnOK Tryz.prog fx44.glob 24 (inst24.sem (run24 m))) : CtxOK (g24 m) Tryz.prog := add_ok fx44_ok h Tryz.call24
def inst45 : Inst := mk1 [KA14] KA3
def hint45 : HC := (sq (rg [(nw 10)]) (sq (sq (.cut [(.normal, [(1, (.ptr 10 0)), (23, KA5), (100010, KA0)])] (rg [(rd 10), (rd 10), {}, {}, (rd 10), (rd 10), {}, {}, {}, (rd 10), (rd 10), {}, {}, {}, (rd 10), (rd 10)])) (cn (sq rz lf) lf)) (sq (sq (rg [(rd 10), (rd 10), (rd 10), (rd 10)]) (cn (sq rz lf) lf)) (sq (sq (rg [(rd 10), (rd 10), {}, (rd 10), (rd 10), (rd 10), (rd 10)]) (cn (sq rz lf) lf)) (sq (sq (rg [(rd 10), (rd 10)]) (bk (.loop [(42, KA3)] [((.exit 0), []), (.ret, [(2, KA3)])] (sq rz (sq (cn lf lf) (sq (bk (sq (rg [{}, {}, (nw 11), (wr 11)]) (sq (sq (rg [(rd 11), (rd 11)]) (cn (sq rz lf) lf)) (sq (rg [(rd 11)]) (sq rz (cn (sq rz lf) lf)))))) rz)))))) (sq rz lf))))))
noncomputable def run45 (m : Nat) : Ks.den inst45.args → Ks.den inst45.objs → Option inst45.out.den := fun x _ => value_array (value_Check_f m) x.1
theorem ev45 : ∀ m x y, evFn (g24 m) 55 (bodyOf Tryz.f45) [.tmp 2] hint45 inst45 x y = run45 m x y := by intro m x y; kernel_rfl
theorem ok45 {m : Nat} (h : FnOK Tryz.prog fx44.glob 24 (inst24.sem (run24 m))) : FnOK Tryz.prog (g24 m).glob 45 (inst45.sem (run45 m)) :=
  fn_add (g24_ok h) feMixed 45 Tryz.f45 [.tmp 2] hint45 inst45 55 (run45 m) Tryz.func45 (by kernel_rfl) Tryz.ntmps45 (by kernel_rfl) (by kernel_rfl) (ev45 m)
noncomputable def g24_45 (m : Nat) : Ctx := (g24 m).more 45 (inst45.sem (run45 m))
theorem g24_45_ok {m : Nat} (h : FnOK Tryz.prog fx44.glob 24 (inst24.sem (run24 m))) : CtxOK (g24_45 m) Tryz.prog := more_ok (g24_ok h) (ok45 h) Tryz.call45
theorem ev24 : ∀ m x y, evFn (g24_45 m) 39 (bodyOf Tryz.f24) [.tmp 2] hint24 inst24 x y = run24 (m + 1) x y := by intro m x y; kernel_rfl
theorem ok24 : ∀ m, FnOK Tryz.prog fx44.glob 24 (inst24.sem (run24 m)) :=
  fn_recs fx44.glob g24_45 (fun _ => rfl) 24 inst24 run24 (fun _ h => g24_45_ok h) feMixed Tryz.f24 [.tmp 2] hint24 39 Tryz.func24 (by kernel_rfl) Tryz.ntmps24 (by kernel_rfl) (by kernel_rfl) (fun _ _ => rfl) ev24
noncomputable def fx24 : Ctx := fx44.add 24 (inst24.sem (run24 rounds))
theorem fx24_ok : CtxOK fx24 Tryz.prog := add_ok fx44_ok (ok24 rounds) Tryz.call24
def inst14 : Inst := mk1 [KA14] KA3
noncomputable def run14 : inst14.F := fun x _ => arrange_array x.1
noncomputable def fx14 : Ctx := fx24.add 14 (inst14.sem run14)
theorem fx14_ok : CtxOK fx14 Tryz.prog := fn_put fx24_ok feMixed 14 Tryz.f14 [.tmp 2] (sq (rg [(nw 10)]) (sq (sq (rg [(rd 10)]) (sq rz (cn (sq rz lf) lf))) (sq (sq (rg [(rd 10), (rd 10)]) (cn (sq rz lf) lf)) (sq rz lf)))) inst14 12 run14 Tryz.func14 (by kernel_rfl) Tryz.ntmps14 (by kernel_rfl) (by intro x y; kernel_rfl) Tryz.call14
def inst48 : Inst := mk1 [KA14, KA14, KA3] KA3
noncomputable def run48 : inst48.F := fun x _ => value_both x.1 x.2.1 x.2.2.1
noncomputable def fx48 : Ctx := fx14.add 48 (inst48.sem run48)
theorem fx48_ok : CtxOK fx48 Tryz.prog := fn_put fx14_ok feMixed 48 Tryz.f48 [.tmp 6] (sq (rg [(nw 10), (nw 11)]) (sq (sq (rg [(rd 10), (rd 11)]) (bk (.loop [(3, (.ptr 10 0)), (4, (.ptr 11 0)), (13, KA3), (100010, KA0), (100011, KA0)] [((.exit 0), [(3, (.ptr 10 0)), (4, (.ptr 11 0)), (100010, KA0), (100011, KA0)]), (.ret, [(6, KA3)])] (sq rz (sq (cn lf lf) (sq (bk (sq (rg [{}, (nw 12), (wr 12)]) (sq (rg [(rd 12)]) (sq rz (cn (sq rz lf) lf))))) rz)))))) (sq (sq (rg [(rd 10), (rd 10), (rd 11), (rd 11)]) (cn (sq rz lf) lf)) (sq rz lf)))) inst48 29 run48 Tryz.func48 (by kernel_rfl) Tryz.ntmps48 (by kernel_rfl) (by intro x y; kernel_rfl) Tryz.call48
def inst50 : Inst := mk1 [KA14] KA3
noncomputable def run50 : inst50.F := fun x _ => value_rank x.1
noncomputable def fx50 : Ctx := fx48.add 50 (inst50.sem run50)
theorem fx50_ok : CtxOK fx50 Tryz.prog := fn_put fx48_ok feMixed 50 Tryz.f50 [.tmp 2] (sq (rg [(nw 10)]) (sq (sq (rg [(rd 10), (rd 10)]) (bk (sq rz (cn (sq rz lf) (sq rz (cn (sq rz lf) (sq rz (cn (sq rz lf) (sq rz (cn (sq rz lf) lf)))))))))) (sq rz lf))) inst50 13 run50 Tryz.func50 (by kernel_rfl) Tryz.ntmps50 (by kernel_rfl) (by intro x y; kernel_rfl) Tryz.call50
def inst68 : Inst := mk1 [KA3] KA5
noncomputable def run68 : inst68.F := fun x _ => cmp_isNaN_int_ x.1
noncomputable def fx68 : Ctx := fx50.add 68 (inst68.sem run68)
theorem fx68_ok : CtxOK fx68 Tryz.prog := fn_put fx50_ok feMixed 68 Tryz.f68 [.tmp 2] (sq rz (sq rz lf)) inst68 6 run68 Tryz.func68 (by kernel_rfl) Tryz.ntmps68 (by kernel_rfl) (by intro x y; kernel_rfl) Tryz.call68
def inst49 : Inst := mk1 [KA3, KA3] KA3
noncomputable def run49 : inst49.F := fun x _ => cmp_Compare_int_ x.1 x.2.1
noncomputable def fx49 : Ctx := fx68.add 49 (inst49.sem run49)
theorem fx49_ok : CtxOK fx49 Tryz.prog := fn_put fx68_ok feMixed 49 Tryz.f49 [.tmp 4] (sq rz (sq rz (sq rz (sq (sq rz (cn (sq (sq rz (cn (sq rz lf) lf)) (sq rz lf)) lf)) (sq (sq rz (cn (sq rz lf) lf)) (sq (sq rz (cn (sq rz lf) lf)) (sq (sq rz (cn (sq rz lf) lf)) (sq rz lf)))))))) inst49 20 run49 Tryz.func49 (by kernel_rfl) Tryz.ntmps49 (by kernel_rfl) (by intro x y; kernel_rfl) Tryz.call49
def inst87 : Inst := mk3 [KA11, KA11] (.val YA10) (.val YA10) KA3
noncomputable def run87 : inst87.F := fun x _ => exact_both x.1 x.2.1
noncomputable def fx87 : Ctx := fx49.add 87 (inst87.sem run87)
theorem fx87_ok : CtxOK fx87 Tryz.prog := fn_put fx49_ok feMixed 87 Tryz.f87 [.cell 4 93, .cell 5 93, .tmp 6] (sq (rg [(nw 10), (nw 11), (nw 12), (nw 13)]) (sq (rg [(rd 10), {}, {}, {}, {}, (nw 14), (wr 14)]) (sq (sq rz (cn (sq (rg [(rd 14), (rd 14), {}, (wr 12), (wr 13)]) lf) lf)) (sq (rg [(rd 11), {}, {}, {}, {}, (nw 15), (wr 15)]) (sq (rg [(rd 14), (rd 15), {}, (wr 12), (wr 13)]) lf))))) inst87 28 run87 Tryz.func87 (by kernel_rfl) Tryz.ntmps87 (by kernel_rfl) (by intro x y; kernel_rfl) Tryz.call87
def inst98 : Inst := mk1 [KA6, KA6] KA6
noncomputable def run98 : inst98.F := fun x _ => exact_nat__plus x.1 x.2.1
noncomputable def fx98 : Ctx := fx87.add 98 (inst98.sem run98)
theorem fx98_ok : CtxOK fx98 Tryz.prog := fn_put fx87_ok feMixed 98 Tryz.f98 [.tmp 4] (sq rz (sq (rg [{}, {}, {}, {}, {}, {}, (nw 10)]) (sq rz (sq (sq rz (bk (.loop [(5, (.own 13)), (6, (.val YA13)), (7, KA3), (100013, (.vec none YA13))] [((.exit 0), [(5, (.own 13)), (100013, (.vec none YA13))])] (sq (sq (.cut [(.normal, [(5, (.own 13)), (29, KA5), (100013, (.vec none YA13))])] rz) (cn lf lf)) (sq (bk (sq rz (sq (.cut [(.normal, [(5, (.own 13)), (8, (.val YA13)), (100013, (.vec none YA13))])] (sq rz (cn rz lf))) (sq (.cut [(.normal, [(5, (.own 13)), (8, (.val YA13)), (100013, (.vec none YA13))])] (sq rz (cn rz lf))) (sq (rg [{}, {}, {}, (nw 11), { rd := [11], wr := [13], new := [12] }]) rz))))) rz))))) (sq rz lf))))) inst98 61 run98 Tryz.func98 (by kernel_rfl) Tryz.ntmps98 (by kernel_rfl) (by intro x y; kernel_rfl) Tryz.call98
def inst88 : Inst := mk1 [(.val YA10), (.val YA10)] (.val YA10)
noncomputable def run88 : inst88.F := fun x _ => exact_sum x.1 x.2.1
noncomputable def fx88 : Ctx := fx98.add 88 (inst88.sem run88)
theorem fx88_ok : CtxOK fx88 Tryz.prog := fn_put fx98_ok feMixed 88 Tryz.f88 [.cell 4 93] (sq (rg [(nw 10), (nw 11), (nw 12)]) (sq (rg [(rd 10), (rd 10), (rd 11), (rd 11), {}, (rd 11), (rd 11), (rd 10), (rd 10)]) (sq (rg [(rd 10), (rd 10), (rd 11), (rd 11)]) (sq (sq (rg [(rd 10), (rd 10), (rd 11), (rd 11)]) (cn (sq (rg [(rd 10), (rd 10), {}, {}, {}, {}, {}, (wr 12)]) lf) lf)) (sq (sq rz (cn (sq (rg [(rd 10), (rd 10), {}, {}, {}, {}, {}, (wr 12)]) lf) lf)) (sq (rg [(rd 11), (rd 11), {}, {}, {}, {}, {}, (wr 12)]) lf)))))) inst88 53 run88 Tryz.func88 (by kernel_rfl) Tryz.ntmps88 (by kernel_rfl) (by intro x y; kernel_rfl) Tryz.call88
def inst69 : Inst := mk2 [KA11, KA11] KA3 KA3
noncomputable def run69 : inst69.F := fun x _ => exact_Compare x.1 x.2.1
noncomputable def fx69 : Ctx := fx88.add 69 (inst69.sem run69)
theorem fx69_ok : CtxOK fx69 Tryz.prog := fn_put fx88_ok feMixed 69 Tryz.f69 [.tmp 4, .tmp 5] (sq (rg [(nw 10), (nw 11)]) (sq (rg [(rd 10), (rd 11), {}, {}, {}, {}, {}, (nw 12), (nw 13), (wr 12), (wr 13)]) (sq (sq rz (cn (sq rz lf) lf)) (sq (rg [(rd 13), (rd 13), {}, (rd 13), (wr 13)]) (sq (rg [(rd 12), (rd 13), {}, (nw 14), (wr 14)]) (sq (bk (sq (rg [(rd 14), (rd 14)]) (cn (sq rz lf) (sq (rg [(rd 14), (rd 14)]) (cn (sq rz lf) lf))))) (sq rz lf))))))) inst69 34 run69 Tryz.func69 (by kernel_rfl) Tryz.ntmps69 (by kernel_rfl) (by intro x y; kernel_rfl) Tryz.call69
def inst70 : Inst := mk1 [KA9] KA9
noncomputable def run70 : inst70.F := fun x _ => value_Lower x.1
noncomputable def fx70 : Ctx := fx69.add 70 (inst70.sem run70)
theorem fx70_ok : CtxOK fx70 Tryz.prog := fn_put fx69_ok feMixed 70 Tryz.f70 [.tmp 2] (sq rz (sq (rg [{}, (nw 10)]) (sq (sq (rg [{}, (rd 10)]) (bk (.loop [(3, (.own 10)), (8, (.own 10)), (10, KA3), (100010, (.vec none YA18))] [((.exit 0), [(3, (.own 10)), (100010, (.vec none YA18))])] (sq rz (sq (cn lf lf) (sq (.cut [(.normal, [(3, (.own 10)), (8, (.own 10)), (100010, (.vec none YA18))])] (bk (sq (rg [{}, (rd 10), (rd 10)]) (sq (.cut [(.normal, [(3, (.own 10)), (8, (.own 10)), (20, KA5), (100010, (.vec none YA18))])] rz) (cn (rg [{}, {}, (rd 10), (rd 10), {}, (rd 10), (wr 10)]) lf))))) rz)))))) (sq (rg [{}, (rd 10)]) lf)))) inst70 30 run70 Tryz.func70 (by kernel_rfl) Tryz.ntmps70 (by kernel_rfl) (by intro x y; kernel_rfl) Tryz.call70
def inst72 : Inst := mk1 [KA9] KA5
noncomputable def run72 : inst72.F := fun x _ => cmp_isNaN_string_ x.1
noncomputable def fx72 : Ctx := fx70.add 72 (inst72.sem run72)
theorem fx72_ok : CtxOK fx72 Tryz.prog := fn_put fx70_ok feMixed 72 Tryz.f72 [.tmp 2] (sq rz (sq rz lf)) inst72 6 run72 Tryz.func72 (by kernel_rfl) Tryz.ntmps72 (by kernel_rfl) (by intro x y; kernel_rfl) Tryz.call72
def inst53 : Inst := mk1 [KA9, KA9] KA3
noncomputable def run53 : inst53.F := fun x _ => cmp_Compare_string_ x.1 x.2.1
noncomputable def fx53 : Ctx := fx72.add 53 (inst53.sem run53)
theorem fx53_ok : CtxOK fx53 Tryz.prog := fn_put fx72_ok feMixed 53 Tryz.f53 [.tmp 4] (sq rz (sq rz (sq rz (sq (sq rz (cn (sq (sq rz (cn (sq rz lf) lf)) (sq rz lf)) lf)) (sq (sq rz (cn (sq rz lf) lf)) (sq (sq rz (cn (sq rz lf) lf)) (sq (sq rz (cn (sq rz lf) lf)) (sq rz lf)))))))) inst53 20 run53 Tryz.func53 (by kernel_rfl) Tryz.ntmps53 (by kernel_rfl) (by intro x y; kernel_rfl) Tryz.call53
def inst71 : Inst := mk1 [KA5] KA3
noncomputable def run71 : inst71.F := fun x _ => value_flag x.1
noncomputable def fx71 : Ctx := fx53.add 71 (inst71.sem run71)
theorem fx71_ok : CtxOK fx71 Tryz.prog := fn_put fx53_ok feMixed 71 Tryz.f71 [.tmp 2] (sq rz (sq (sq rz (cn (sq rz lf) lf)) (sq rz lf))) inst71 4 run71 Tryz.func71 (by kernel_rfl) Tryz.ntmps71 (by kernel_rfl) (by intro x y; kernel_rfl) Tryz.call71
def inst52 : Inst := mk1 [KA14, KA14] KA3
noncomputable def run52 : inst52.F := fun x _ => value_compared x.1 x.2.1
noncomputable def fx52 : Ctx := fx71.add 52 (inst52.sem run52)
theorem fx52_ok : CtxOK fx52 Tryz.prog := fn_put fx71_ok feMixed 52 Tryz.f52 [.tmp 4] (sq (rg [(nw 10), (nw 11)]) (sq (sq (rg [(rd 10), (rd 10)]) (bk (sq rz (cn (sq (rg [(rd 10), (rd 10), (rd 11), (rd 11)]) (sq rz lf)) (sq rz (cn (sq (rg [(rd 10), (rd 10), {}, (rd 11), (rd 11)]) lf) (sq rz (cn (sq (rg [(rd 10), (rd 10), {}, (rd 11), (rd 11)]) lf) lf)))))))) (sq (rg [(rd 10), (rd 10), (rd 11), (rd 11)]) lf))) inst52 43 run52 Tryz.func52 (by kernel_rfl) Tryz.ntmps52 (by kernel_rfl) (by intro x y; kernel_rfl) Tryz.call52
def inst51 : Inst := mk1 [KA7] KA3
noncomputable def run51 : inst51.F := fun x _ => cmp_Or_int_ x.1
noncomputable def fx51 : Ctx := fx52.add 51 (inst51.sem run51)
theorem fx51_ok : CtxOK fx51 Tryz.prog := fn_put fx52_ok feMixed 51 Tryz.f51 [.tmp 2] (sq rz (sq rz (sq (sq rz (bk (.loop [(8, KA3)] [((.exit 0), []), (.ret, [(2, KA3)])] (sq rz (sq (cn lf lf) (sq (bk (sq rz (sq rz (cn (sq rz lf) lf)))) rz)))))) (sq rz lf)))) inst51 18 run51 Tryz.func51 (by kernel_rfl) Tryz.ntmps51 (by kernel_rfl) (by intro x y; kernel_rfl) Tryz.call51
def inst26 : Inst := mk2 [KA14, KA14] KA3 KA3
noncomputable def run26 : inst26.F := fun x _ => value_Order x.1 x.2.1
noncomputable def fx26 : Ctx := fx51.add 26 (inst26.sem run26)
theorem fx26_ok : CtxOK fx26 Tryz.prog := fn_put fx51_ok feMixed 26 Tryz.f26 [.tmp 4, .tmp 5] (sq (rg [(nw 10), (nw 11)]) (sq (sq (rg [(rd 10), (rd 11)]) (sq rz (cn (sq rz lf) lf))) (sq (sq (rg [(rd 10), (rd 10), (rd 11), (rd 11)]) (cn (sq (rg [(rd 10), {}, (rd 11)]) lf) lf)) (sq (sq (rg [(rd 10), (rd 10)]) (cn (sq rz lf) lf)) (sq (rg [(rd 10), (rd 11), {}, (rd 10), (rd 10), (rd 11), (rd 11), {}, (nw 12), (fz 34 12)]) lf))))) inst26 36 run26 Tryz.func26 (by kernel_rfl) Tryz.ntmps26 (by kernel_rfl) (by intro x y; kernel_rfl) Tryz.call26
def inst17 : Inst := mk1 [KA14, KA14, KA5] KA3
noncomputable def run17 : inst17.F := fun x _ => arrange_order x.1 x.2.1 x.2.2.1
noncomputable def fx17 : Ctx := fx26.add 17 (inst17.sem run17)
theorem fx17_ok : CtxOK fx17 Tryz.prog := fn_put fx26_ok feMixed 17 Tryz.f17 [.tmp 6] (sq (rg [(nw 10), (nw 11)]) (sq (rg [(rd 10), (rd 11)]) (sq (sq (.cut [(.normal, [(25, KA5)])] (rg [{}, {}, (rd 10), (rd 10), {}, {}, {}, (rd 11), (rd 11)])) (cn (sq rz lf) lf)) (sq rz lf)))) inst17 29 run17 Tryz.func17 (by kernel_rfl) Tryz.ntmps17 (by kernel_rfl) (by intro x y; kernel_rfl) Tryz.call17
def inst16 : Inst := { args := [KA3, KA3, (.ptr 0 0), (.ptr 1 0)], objs := [KA2, KA0], nres := 1, out := [(90000, KA3), (2, (.ptr 0 0)), (3, (.ptr 1 0)), (100000, KA2), (100001, KA0)], news := 0 }
noncomputable def run16 : inst16.F := fun x y => arrange_Rows_1 x.1 x.2.1 y.1.1 y.2.1.1 y.2.1.2.1 y.2.1.2.2.1 y.2.1.2.2.2.1 y.2.1.2.2.2.2.1 y.2.1.2.2.2.2.2.1 y.2.1.2.2.2.2.2.2.1 y.2.1.2.2.2.2.2.2.2.1 y.2.1.2.2.2.2.2.2.2.2.1
noncomputable def fx16 : Ctx := fx17.add 16 (inst16.sem run16)
theorem fx16_ok : CtxOK fx16 Tryz.prog := fn_put fx17_ok feMixed 16 Tryz.f16 [.tmp 6] (sq rz (sq (sq (rg [(rd 0)]) (bk (.loop [(2, (.ptr 0 0)), (3, (.ptr 1 0)), (12, KA3), (100000, KA2), (100001, KA0)] [((.exit 0), [(2, (.ptr 0 0)), (3, (.ptr 1 0)), (100000, KA2), (100001, KA0)]), (.ret, [(2, (.ptr 0 0)), (3, (.ptr 1 0)), (6, KA3), (100000, KA2), (100001, KA0)])] (sq rz (sq (cn lf lf) (sq (bk (sq (rg [{}, {}, (nw 12), (wr 12)]) (sq (rg [(rd 1), (rd 1), {}, (rd 1), (rd 1), {}, (rd 12), (rd 12), {}, {}, {}, (rd 1), (rd 1), {}, (rd 1), (rd 1), {}, (rd 12), (rd 12), {}, {}, {}, (rd 12), (rd 12)]) (sq rz (cn (sq rz lf) lf))))) rz)))))) (sq rz lf))) inst16 45 run16 Tryz.func16 (by kernel_rfl) Tryz.ntmps16 (by kernel_rfl) (by intro x y; kernel_rfl) Tryz.call16
def inst46 : Inst := { args := [(.own 0), KA3, KA3, (.fn 16 (.cons (.ptr 1 0) (.cons (.ptr 2 0) .unit)))], objs := [(.vec none YA4), KA2, KA0], nres := 0, out := [(0, (.own 0)), (3, (.fn 16 (.cons (.ptr 1 0) (.cons (.ptr 2 0) .unit)))), (100000, (.vec none YA4)), (100001, KA2), (100002, KA0)], news := 0 }
noncomputable def run46 : inst46.F := fun x y => slices_insertionSortCmpFunc_int__Rows_1 x.2.1 x.2.2.1 y.1 y.2.1.1 y.2.2.1.1 y.2.2.1.2.1 y.2.2.1.2.2.1 y.2.2.1.2.2.2.1 y.2.2.1.2.2.2.2.1 y.2.2.1.2.2.2.2.2.1 y.2.2.1.2.2.2.2.2.2.1 y.2.2.1.2.2.2.2.2.2.2.1 y.2.2.1.2.2.2.2.2.2.2.2.1
noncomputable def fx46 : Ctx := fx16.add 46 (inst46.sem run46)
theorem fx46_ok : CtxOK fx46 Tryz.prog := fn_put fx16_ok feMixed 46 Tryz.f46 [] (sq rz (bk (.loop [(0, (.own 0)), (3, (.fn 16 (.cons (.ptr 1 0) (.cons (.ptr 2 0) .unit)))), (8, KA3), (100000, (.vec none YA4)), (100001, KA2), (100002, KA0)] [((.exit 0), [(0, (.own 0)), (3, (.fn 16 (.cons (.ptr 1 0) (.cons (.ptr 2 0) .unit)))), (100000, (.vec none YA4)), (100001, KA2), (100002, KA0)])] (sq (sq rz (cn lf lf)) (sq (bk (sq rz (bk (.loop [(0, (.own 0)), (3, (.fn 16 (.cons (.ptr 1 0) (.cons (.ptr 2 0) .unit)))), (9, KA3), (100000, (.vec none YA4)), (100001, KA2), (100002, KA0)] [((.exit 2), [(0, (.own 0)), (3, (.fn 16 (.cons (.ptr 1 0) (.cons (.ptr 2 0) .unit)))), (100000, (.vec none YA4)), (100001, KA2), (100002, KA0)])] (sq (sq (.cut [(.normal, [(0, (.own 0)), (3, (.fn 16 (.cons (.ptr 1 0) (.cons (.ptr 2 0) .unit)))), (34, KA5), (100000, (.vec none YA4)), (100001, KA2), (100002, KA0)])] (rg [{}, {}, {}, {}, {}, {}, {}, (rd 0), (rd 0), {}, {}, {}, (rd 0), (rd 0), { wr := [1, 2] }])) (cn lf lf)) (sq (bk (rg [{}, {}, {}, {}, {}, {}, {}, {}, (rd 0), (rd 0), {}, {}, (rd 0), (rd 0), (rd 0), (wr 0), (rd 0), (wr 0)])) rz)))))) rz))))) inst46 53 run46 Tryz.func46 (by kernel_rfl) Tryz.ntmps46 (by kernel_rfl) (by intro x y; kernel_rfl) Tryz.call46
def inst86 : Inst := { args := [(.own 0), KA3, KA3, KA3, (.fn 16 (.cons (.ptr 1 0) (.cons (.ptr 2 0) .unit)))], objs := [(.vec none YA4), KA2, KA0], nres := 0, out := [(0, (.own 0)), (4, (.fn 16 (.cons (.ptr 1 0) (.cons (.ptr 2 0) .unit)))), (100000, (.vec none YA4)), (100001, KA2), (100002, KA0)], news := 0 }
noncomputable def run86 : inst86.F := fun x y => slices_swapRangeCmpFunc_int__Rows_1 x.2.1 x.2.2.1 x.2.2.2.1 y.1 y.2.1.1 y.2.2.1.1 y.2.2.1.2.1 y.2.2.1.2.2.1 y.2.2.1.2.2.2.1 y.2.2.1.2.2.2.2.1 y.2.2.1.2.2.2.2.2.1 y.2.2.1.2.2.2.2.2.2.1 y.2.2.1.2.2.2.2.2.2.2.1 y.2.2.1.2.2.2.2.2.2.2.2.1
noncomputable def fx86 : Ctx := fx46.add 86 (inst86.sem run86)
theorem fx86_ok : CtxOK fx86 Tryz.prog := fn_put fx46_ok feMixed 86 Tryz.f86 [] (sq rz (bk (.loop [(0, (.own 0)), (4, (.fn 16 (.cons (.ptr 1 0) (.cons (.ptr 2 0) .unit)))), (10, KA3), (100000, (.vec none YA4)), (100001, KA2), (100002, KA0)] [((.exit 0), [(0, (.own 0)), (4, (.fn 16 (.cons (.ptr 1 0) (.cons (.ptr 2 0) .unit)))), (100000, (.vec none YA4)), (100001, KA2), (100002, KA0)])] (sq (sq rz (cn lf lf)) (sq (bk (rg [{}, {}, {}, {}, {}, {}, {}, {}, {}, {}, {}, {}, (rd 0), (rd 0), {}, {}, {}, {}, (rd 0), (rd 0), (rd 0), (wr 0), (rd 0), (wr 0)])) rz))))) inst86 38 run86 Tryz.func86 (by kernel_rfl) Tryz.ntmps86 (by kernel_rfl) (by intro x y; kernel_rfl) Tryz.call86
def inst67 : Inst := { args := [(.own 0), KA3, KA3, KA3, (.fn 16 (.cons (.ptr 1 0) (.cons (.ptr 2 0) .unit)))], objs := [(.vec none YA4), KA2, KA0], nres := 0, out := [(0, (.own 0)), (4, (.fn 16 (.cons (.ptr 1 0) (.cons (.ptr 2 0) .unit)))), (100000, (.vec none YA4)), (100001, KA2), (100002, KA0)], news := 0 }
noncomputable def run67 : inst67.F := fun x y => slices_rotateCmpFunc_int__Rows_1 x.2.1 x.2.2.1 x.2.2.2.1 y.1 y.2.1.1 y.2.2.1.1 y.2.2.1.2.1 y.2.2.1.2.2.1 y.2.2.1.2.2.2.1 y.2.2.1.2.2.2.2.1 y.2.2.1.2.2.2.2.2.1 y.2.2.1.2.2.2.2.2.2.1 y.2.2.1.2.2.2.2.2.2.2.1 y.2.2.1.2.2.2.2.2.2.2.2.1
noncomputable def fx67 : Ctx := fx86.add 67 (inst67.sem run67)
theorem fx67_ok : CtxOK fx67 Tryz.prog := fn_put fx86_ok feMixed 67 Tryz.f67 [] (sq rz (sq rz (sq (bk (.loop [(0, (.own 0)), (4, (.fn 16 (.cons (.ptr 1 0) (.cons (.ptr 2 0) .unit)))), (10, KA3), (11, KA3), (100000, (.vec none YA4)), (100001, KA2), (100002, KA0)] [((.exit 0), [(0, (.own 0)), (4, (.fn 16 (.cons (.ptr 1 0) (.cons (.ptr 2 0) .unit)))), (10, KA3), (100000, (.vec none YA4)), (100001, KA2), (100002, KA0)])] (sq (sq rz (cn lf lf)) (bk (sq rz (cn (sq (rg [{}, {}, {}, {}, {}, {}, {}, { wr := [0, 1, 2] }]) rz) (sq (rg [{}, {}, {}, {}, {}, {}, {}, {}, {}, {}, {}, { wr := [0, 1, 2] }]) rz))))))) (rg [{}, {}, {}, {}, {}, {}, {}, { wr := [0, 1, 2] }])))) inst67 58 run67 Tryz.func67 (by kernel_rfl) Tryz.ntmps67 (by kernel_rfl) (by intro x y; kernel_rfl) Tryz.call67
def inst47 : Inst := { args := [(.own 0), KA3, KA3, KA3, (.fn 16 (.cons (.ptr 1 0) (.cons (.ptr 2 0) .unit)))], objs := [(.vec none YA4), KA2, KA0], nres := 0, out := [(0, (.own 0)), (4, (.fn 16 (.cons (.ptr 1 0) (.cons (.ptr 2 0) .unit)))), (100000, (.vec none YA4)), (100001, KA2), (100002, KA0)], news := 0 }
def hint47 : HC := (sq (sq rz (cn (sq rz (sq rz (sq (bk (.loop [(0, (.own 0)), (4, (.fn 16 (.cons (.ptr 1 0) (.cons (.ptr 2 0) .unit)))), (10, KA3), (11, KA3), (100000, (.vec none YA4)), (100001, KA2), (100002, KA0)] [((.exit 0), [(0, (.own 0)), (4, (.fn 16 (.cons (.ptr 1 0) (.cons (.ptr 2 0) .unit)))), (10, KA3), (100000, (.vec none YA4)), (100001, KA2), (100002, KA0)])] (sq (sq rz (cn lf lf)) (bk (sq rz (sq (rg [{}, {}, {}, (rd 0), (rd 0), {}, {}, (rd 0), (rd 0), { wr := [1, 2] }]) (cn rz rz))))))) (sq (sq rz (bk (.loop [(0, (.own 0)), (4, (.fn 16 (.cons (.ptr 1 0) (.cons (.ptr 2 0) .unit)))), (13, KA3), (100000, (.vec none YA4)), (100001, KA2), (100002, KA0)] [((.exit 2), [(0, (.own 0)), (4, (.fn 16 (.cons (.ptr 1 0) (.cons (.ptr 2 0) .unit)))), (100000, (.vec none YA4)), (100001, KA2), (100002, KA0)])] (sq (sq rz (cn lf lf)) (sq (bk (rg [{}, {}, {}, {}, {}, {}, {}, {}, (rd 0), (rd 0), {}, {}, (rd 0), (rd 0), (rd 0), (wr 0), (rd 0), (wr 0)])) rz))))) lf)))) lf)) (sq (sq rz (cn (sq rz (sq rz (sq (bk (.loop [(0, (.own 0)), (4, (.fn 16 (.cons (.ptr 1 0) (.cons (.ptr 2 0) .unit)))), (14, KA3), (15, KA3), (100000, (.vec none YA4)), (100001, KA2), (100002, KA0)] [((.exit 4), [(0, (.own 0)), (4, (.fn 16 (.cons (.ptr 1 0) (.cons (.ptr 2 0) .unit)))), (14, KA3), (100000, (.vec none YA4)), (100001, KA2), (100002, KA0)])] (sq (sq rz (cn lf lf)) (bk (sq rz (sq (rg [{}, {}, {}, (rd 0), (rd 0), {}, {}, (rd 0), (rd 0), { wr := [1, 2] }]) (cn rz rz))))))) (sq (sq rz (bk (.loop [(0, (.own 0)), (4, (.fn 16 (.cons (.ptr 1 0) (.cons (.ptr 2 0) .unit)))), (17, KA3), (100000, (.vec none YA4)), (100001, KA2), (100002, KA0)] [((.exit 6), [(0, (.own 0)), (4, (.fn 16 (.cons (.ptr 1 0) (.cons (.ptr 2 0) .unit)))), (100000, (.vec none YA4)), (100001, KA2), (100002, KA0)])] (sq (sq rz (cn lf lf)) (sq (bk (rg [{}, {}, {}, {}, {}, {}, {}, {}, (rd 0), (rd 0), {}, {}, (rd 0), (rd 0), (rd 0), (wr 0), (rd 0), (wr 0)])) rz))))) lf)))) lf)) (sq rz (sq rz (sq rz (sq (.cut [(.normal, [(0, (.own 0)), (4, (.fn 16 (.cons (.ptr 1 0) (.cons (.ptr 2 0) .unit)))), (20, KA3), (21, KA3), (100000, (.vec none YA4)), (100001, KA2), (100002, KA0)])] (sq rz (cn (sq rz rz) (sq rz rz)))) (sq rz (sq (bk (.loop [(0, (.own 0)), (4, (.fn 16 (.cons (.ptr 1 0) (.cons (.ptr 2 0) .unit)))), (20, KA3), (21, KA3), (100000, (.vec none YA4)), (100001, KA2), (100002, KA0)] [((.exit 8), [(0, (.own 0)), (4, (.fn 16 (.cons (.ptr 1 0) (.cons (.ptr 2 0) .unit)))), (20, KA3), (100000, (.vec none YA4)), (100001, KA2), (100002, KA0)])] (sq (sq rz (cn lf lf)) (bk (sq rz (sq (rg [{}, {}, {}, {}, {}, (rd 0), (rd 0), {}, {}, (rd 0), (rd 0), { wr := [1, 2] }]) (cn rz rz))))))) (sq rz (sq (.cut [(.normal, [(0, (.own 0)), (4, (.fn 16 (.cons (.ptr 1 0) (.cons (.ptr 2 0) .unit)))), (100000, (.vec none YA4)), (100001, KA2), (100002, KA0)])] (sq (.cut [(.normal, [(0, (.own 0)), (4, (.fn 16 (.cons (.ptr 1 0) (.cons (.ptr 2 0) .unit)))), (185, KA5), (100000, (.vec none YA4)), (100001, KA2), (100002, KA0)])] rz) (cn (rg [{}, {}, {}, {}, {}, { wr := [0, 1, 2] }]) lf))) (sq (.cut [(.normal, [(0, (.own 0)), (4, (.fn 16 (.cons (.ptr 1 0) (.cons (.ptr 2 0) .unit)))), (100000, (.vec none YA4)), (100001, KA2), (100002, KA0)])] (sq (.cut [(.normal, [(0, (.own 0)), (4, (.fn 16 (.cons (.ptr 1 0) (.cons (.ptr 2 0) .unit)))), (199, KA5), (100000, (.vec none YA4)), (100001, KA2), (100002, KA0)])] rz) (cn (rg [{}, {}, {}, {}, {}, { wr := [0, 1, 2] }]) lf))) (sq (.cut [(.normal, [(0, (.own 0)), (4, (.fn 16 (.cons (.ptr 1 0) (.cons (.ptr 2 0) .unit)))), (213, KA5), (100000, (.vec none YA4)), (100001, KA2), (100002, KA0)])] rz) (cn (rg [{}, {}, {}, {}, {}, { wr := [0, 1, 2] }]) lf)))))))))))))
noncomputable def run47 (m : Nat) : Ks.den inst47.args → Ks.den inst47.objs → Option inst47.out.den := fun x y => slices_symMergeCmpFunc_int__Rows_1_f m x.2.1 x.2.2.1 x.2.2.2.1 y.1 y.2.1.1 y.2.2.1.1 y.2.2.1.2.1 y.2.2.1.2.2.1 y.2.2.1.2.2.2.1 y.2.2.1.2.2.2.2.1 y.2.2.1.2.2.2.2.2.1 y.2.2.1.2.2.2.2.2.2.1 y.2.2.1.2.2.2.2.2.2.2.1 y.2.2.1.2.2.2.2.2.2.2.2.1
theorem ev47 : ∀ m x y, evFn (fx67.add 47 (inst47.sem (run47 m))) 220 (bodyOf Tryz.f47) [] hint47 inst47 x y = run47 (m + 1) x y := by intro m x y; kernel_rfl
theorem ok47 : ∀ m, FnOK Tryz.prog fx67.glob 47 (inst47.sem (run47 m)) :=
  fn_rec fx67_ok feMixed 47 Tryz.f47 [] hint47 inst47 220 run47 Tryz.func47 (by kernel_rfl) Tryz.ntmps47 (by kernel_rfl) (by kernel_rfl) Tryz.call47 (fun _ _ => rfl) ev47
noncomputable def fx47 : Ctx := fx67.add 47 (inst47.sem (run47 rounds))
theorem fx47_ok : CtxOK fx47 Tryz.prog := add_ok fx67_ok (ok47 rounds) Tryz.call47
def inst25 : Inst := { args := [(.own 0), KA3, (.fn 16 (.cons (.ptr 1 0) (.cons (.ptr 2 0) .unit)))], objs := [(.vec none YA4), KA2, KA0], nres := 0, out := [(0, (.own 0)), (2, (.fn 16 (.cons (.ptr 1 0) (.cons (.ptr 2 0) .unit)))), (100000, (.vec none YA4)), (100001, KA2), (100002, KA0)], news := 0 }
noncomputable def run25 : inst25.F := fun x y => slices_stableCmpFunc_int__Rows_1 x.2.1 y.1 y.2.1.1 y.2.2.1.1 y.2.2.1.2.1 y.2.2.1.2.2.1 y.2.2.1.2.2.2.1 y.2.2.1.2.2.2.2.1 y.2.2.1.2.2.2.2.2.1 y.2.2.1.2.2.2.2.2.2.1 y.2.2.1.2.2.2.2.2.2.2.1 y.2.2.1.2.2.2.2.2.2.2.2.1
noncomputable def fx25 : Ctx := fx47.add 25 (inst25.sem run25)
theorem fx25_ok : CtxOK fx25 Tryz.prog := fn_put fx47_ok feMixed 25 Tryz.f25 [] (sq rz (sq rz (sq (bk (.loop [(0, (.own 0)), (2, (.fn 16 (.cons (.ptr 1 0) (.cons (.ptr 2 0) .unit)))), (7, KA3), (8, KA3), (100000, (.vec none YA4)), (100001, KA2), (100002, KA0)] [((.exit 0), [(0, (.own 0)), (2, (.fn 16 (.cons (.ptr 1 0) (.cons (.ptr 2 0) .unit)))), (7, KA3), (100000, (.vec none YA4)), (100001, KA2), (100002, KA0)])] (sq (sq rz (cn lf lf)) (bk (sq (rg [{}, {}, {}, {}, { wr := [0, 1, 2] }]) (sq rz rz)))))) (sq (rg [{}, {}, {}, {}, { wr := [0, 1, 2] }]) (bk (.loop [(0, (.own 0)), (2, (.fn 16 (.cons (.ptr 1 0) (.cons (.ptr 2 0) .unit)))), (6, KA3), (100000, (.vec none YA4)), (100001, KA2), (100002, KA0)] [((.exit 2), [(0, (.own 0)), (2, (.fn 16 (.cons (.ptr 1 0) (.cons (.ptr 2 0) .unit)))), (100000, (.vec none YA4)), (100001, KA2), (100002, KA0)])] (sq (sq rz (cn lf lf)) (bk (sq rz (sq (bk (.loop [(0, (.own 0)), (2, (.fn 16 (.cons (.ptr 1 0) (.cons (.ptr 2 0) .unit)))), (7, KA3), (8, KA3), (100000, (.vec none YA4)), (100001, KA2), (100002, KA0)] [((.exit 4), [(0, (.own 0)), (2, (.fn 16 (.cons (.ptr 1 0) (.cons (.ptr 2 0) .unit)))), (7, KA3), (100000, (.vec none YA4)), (100001, KA2), (100002, KA0)])] (sq (sq rz (cn lf lf)) (bk (sq (rg [{}, {}, {}, {}, {}, {}, {}, { wr := [0, 1, 2] }]) (sq rz rz)))))) (sq (.cut [(.normal, [(0, (.own 0)), (2, (.fn 16 (.cons (.ptr 1 0) (.cons (.ptr 2 0) .unit)))), (100000, (.vec none YA4)), (100001, KA2), (100002, KA0)])] (sq rz (sq rz (cn (rg [{}, {}, {}, {}, {}, { wr := [0, 1, 2] }]) lf)))) rz))))))))))) inst25 63 run25 Tryz.func25 (by kernel_rfl) Tryz.ntmps25 (by kernel_rfl) (by intro x y; kernel_rfl) Tryz.call25
def inst15 : Inst := { args := [(.own 0), (.fn 16 (.cons (.ptr 1 0) (.cons (.ptr 2 0) .unit)))], objs := [(.vec none YA4), KA2, KA0], nres := 0, out := [(0, (.own 0)), (1, (.fn 16 (.cons (.ptr 1 0) (.cons (.ptr 2 0) .unit)))), (100000, (.vec none YA4)), (100001, KA2), (100002, KA0)], news := 0 }
noncomputable def run15 : inst15.F := fun _ y => slices_SortStableFunc_int_int__Rows_1 y.1 y.2.1.1 y.2.2.1.1 y.2.2.1.2.1 y.2.2.1.2.2.1 y.2.2.1.2.2.2.1 y.2.2.1.2.2.2.2.1 y.2.2.1.2.2.2.2.2.1 y.2.2.1.2.2.2.2.2.2.1 y.2.2.1.2.2.2.2.2.2.2.1 y.2.2.1.2.2.2.2.2.2.2.2.1
noncomputable def fx15 : Ctx := fx25.add 15 (inst15.sem run15)
theorem fx15_ok : CtxOK fx15 Tryz.prog := fn_put fx25_ok feMixed 15 Tryz.f15 [] (rg [{}, {}, (rd 0), {}, { wr := [0, 1, 2] }]) inst15 9 run15 Tryz.func15 (by kernel_rfl) Tryz.ntmps15 (by kernel_rfl) (by intro x y; kernel_rfl) Tryz.call15
def inst5 : Inst := mk2 [KA14, (.val (.sl YA16))] KA7 KA3
noncomputable def run5 : inst5.F := fun x _ => arrange_Rows x.1 x.2.1
noncomputable def fx5 : Ctx := fx15.add 5 (inst5.sem run5)
theorem fx5_ok : CtxOK fx5 Tryz.prog := fn_put fx15_ok feMixed 5 Tryz.f5 [.tmp 4, .tmp 5] (sq (rg [(nw 10), (nw 11)]) (sq (sq (rg [(rd 10)]) (sq rz (cn (sq rz lf) lf))) (sq (sq (rg [(rd 11)]) (cn (sq rz lf) lf)) (sq (sq (rg [(rd 11)]) (bk (.loop [(2, (.ptr 10 0)), (3, (.ptr 11 0)), (21, KA3), (100010, KA0), (100011, KA2)] [((.exit 0), [(2, (.ptr 10 0)), (3, (.ptr 11 0)), (100010, KA0), (100011, KA2)]), (.ret, [(4, .nil), (5, KA3)])] (sq rz (sq (cn lf lf) (sq (bk (sq (rg [{}, {}, (nw 12), (wr 12)]) (sq (.cut [(.normal, [(2, (.ptr 10 0)), (3, (.ptr 11 0)), (34, KA5), (100010, KA0), (100011, KA2)])] (rg [(rd 12), (rd 12), {}, {}, (rd 12), (rd 12), (rd 10), (rd 10)])) (cn (sq rz lf) lf)))) rz)))))) (sq (rg [(rd 10), (rd 10), (nw 13)]) (sq (sq (rg [{}, (rd 13)]) (bk (.loop [(2, (.ptr 10 0)), (3, (.ptr 11 0)), (9, (.own 13)), (41, KA3), (100010, KA0), (100011, KA2), (100013, (.vec none YA4))] [((.exit 2), [(2, (.ptr 10 0)), (3, (.ptr 11 0)), (9, (.own 13)), (100010, KA0), (100011, KA2), (100013, (.vec none YA4))])] (sq rz (sq (cn lf lf) (sq (bk (sq rz (rg [{}, {}, {}, (rd 13), (wr 13)]))) rz)))))) (sq (rg [{}, {}, { wr := [13, 11, 10] }]) (sq rz lf)))))))) inst5 53 run5 Tryz.func5 (by kernel_rfl) Tryz.ntmps5 (by kernel_rfl) (by intro x y; kernel_rfl) Tryz.call5
def inst13 : Inst := mk1 [KA7, KA7] KA5
noncomputable def run13 : inst13.F := fun x _ => slices_Equal_int_int_ x.1 x.2.1
noncomputable def fx13 : Ctx := fx5.add 13 (inst13.sem run13)
theorem fx13_ok : CtxOK fx13 Tryz.prog := fn_put fx5_ok feMixed 13 Tryz.f13 [.tmp 4] (sq rz (sq (sq rz (cn (sq rz lf) lf)) (sq (sq rz (bk (.loop [(13, KA3)] [((.exit 0), []), (.ret, [(4, KA5)])] (sq rz (sq (cn lf lf) (sq (bk (sq rz (sq rz (cn (sq rz lf) lf)))) rz)))))) (sq rz lf)))) inst13 26 run13 Tryz.func13 (by kernel_rfl) Tryz.ntmps13 (by kernel_rfl) (by intro x y; kernel_rfl) Tryz.call13
def inst4 : Inst := mk1 [] KA5
def hint4 : HC := (sq rz (sq (rg [{}, {}, (nw 10), (fz 6 10), {}, (nw 11), (fz 9 11)]) (sq (rg [{}, {}, {}, {}, (nw 12), (fz 17 12)]) lf)))
noncomputable def run4 : inst4.F := fun _ _ => chancerylaw2_sorts
theorem ok4 : FnOK Tryz.prog fx13.glob 4 (inst4.sem run4) :=
  fn_add fx13_ok feMixed 4 Tryz.f4 [.tmp 0] hint4 inst4 20 run4 Tryz.func4 (by kernel_rfl) Tryz.ntmps4 (by kernel_rfl) (by kernel_rfl) (by intro x y; kernel_rfl)
noncomputable def fx4 : Ctx := fx13.add 4 (inst4.sem run4)
theorem fx4_ok : CtxOK fx4 Tryz.prog := add_ok fx13_ok ok4 Tryz.call4
def inst18 : Inst := mk1 [KA14, KA14] KA5
def hint18 : HC := (sq (rg [(nw 10), (nw 11)]) (sq (rg [(rd 10), (rd 11), (nw 12), (nw 13), (wr 12), (wr 13)]) (sq (rg [(rd 12), (wr 12), (rd 13), (wr 13)]) (sq (rg [(rd 12), (rd 12), (rd 13), (rd 13), {}, {}, (rd 12), (rd 12), (rd 13), (rd 13), {}, {}, {}, (rd 12), (rd 12), (rd 13), (rd 13), {}, {}, {}, (rd 12), (rd 12), (rd 13), (rd 13), {}, {}, {}, (rd 12), (rd 12), (rd 13), (rd 13), {}, {}, {}, (rd 12), (rd 12), (rd 13), (rd 13), {}, {}, {}, (rd 12), (rd 12), (rd 13), (rd 13), {}, {}, {}, (rd 10), (rd 10), (rd 11), (rd 11)]) lf))))
noncomputable def run18 (m : Nat) : Ks.den inst18.args → Ks.den inst18.objs → Option inst18.out.den := fun x _ => value_Same_f m x.1 x.2.1
noncomputable def g18 (m : Nat) : Ctx := fx4.add 18 (inst18.sem (run18 m))
theorem g18_ok {m : Nat} (h : FnOK Tryz.prog fx4.glob 18 (inst18.sem (run18 m))) : CtxOK (g18 m) Tryz.prog := add_ok fx4_ok h Tryz.call18
def inst27 : Inst := mk1 [(.val (.sl YA1)), (.val (.sl YA1)), (.fn 18 .unit)] KA5
def hint27 : HC := (sq rz (sq (sq rz (cn (sq rz lf) lf)) (sq (sq rz (bk (.loop [(2, (.fn 18 .unit)), (17, KA3)] [((.exit 0), []), (.ret, [(6, KA5)])] (sq rz (sq (cn lf lf) (sq (bk (sq (rg [{}, {}, {}, (nw 10), {}, (wr 10)]) (sq (rg [{}, {}, {}, {}, (nw 11), (wr 11)]) (sq (rg [{}, (rd 10), (rd 11)]) (cn (sq rz lf) lf))))) rz)))))) (sq rz lf))))
noncomputable def run27 (m : Nat) : Ks.den inst27.args → Ks.den inst27.objs → Option inst27.out.den := fun x _ => api_Value__Same (value_Same_f m) x.1 x.2.1
theorem ev27 : ∀ m x y, evFn (g18 m) 32 (bodyOf Tryz.f27) [.tmp 6] hint27 inst27 x y = run27 m x y := by intro m x y; kernel_rfl
theorem ok27 {m : Nat} (h : FnOK Tryz.prog fx4.glob 18 (inst18.sem (run18 m))) : FnOK Tryz.prog (g18 m).glob 27 (inst27.sem (run27 m)) :=
  fn_add (g18_ok h) feMixed 27 Tryz.f27 [.tmp 6] hint27 inst27 32 (run27 m) Tryz.func27 (by kernel_rfl) Tryz.ntmps27 (by kernel_rfl) (by kernel_rfl) (ev27 m)
noncomputable def g18_27 (m : Nat) : Ctx := (g18 m).more 27 (inst27.sem (run27 m))
theorem g18_27_ok {m : Nat} (h : FnOK Tryz.prog fx4.glob 18 (inst18.sem (run18 m))) : CtxOK (g18_27 m) Tryz.prog := more_ok (g18_ok h) (ok27 h) Tryz.call27
theorem ev18 : ∀ m x y, evFn (g18_27 m) 65 (bodyOf Tryz.f18) [.tmp 4] hint18 inst18 x y = run18 (m + 1) x y := by intro m x y; kernel_rfl
theorem ok18 : ∀ m, FnOK Tryz.prog fx4.glob 18 (inst18.sem (run18 m)) :=
  fn_recs fx4.glob g18_27 (fun _ => rfl) 18 inst18 run18 (fun _ h => g18_27_ok h) feMixed Tryz.f18 [.tmp 4] hint18 65 Tryz.func18 (by kernel_rfl) Tryz.ntmps18 (by kernel_rfl) (by kernel_rfl) (fun _ _ => rfl) ev18
noncomputable def fx18 : Ctx := fx4.add 18 (inst18.sem (run18 rounds))
theorem fx18_ok : CtxOK fx18 Tryz.prog := add_ok fx4_ok (ok18 rounds) Tryz.call18
def inst6 : Inst := mk2 [KA14, KA3] (.val (.sl YA15)) KA3
noncomputable def run6 : inst6.F := fun x _ => arrange_Groups x.1 x.2.1
noncomputable def fx6 : Ctx := fx18.add 6 (inst6.sem run6)
theorem fx6_ok : CtxOK fx6 Tryz.prog := fn_put fx18_ok feMixed 6 Tryz.f6 [.tmp 4, .tmp 5] (sq (rg [(nw 10)]) (sq (sq (rg [(rd 10)]) (sq rz (cn (sq rz lf) lf))) (sq (sq (.cut [(.normal, [(2, (.ptr 10 0)), (21, KA5), (100010, KA0)])] (rg [{}, {}, {}, {}, (rd 10), (rd 10)])) (cn (sq rz lf) lf)) (sq rz (sq (sq (rg [(rd 10), (rd 10)]) (bk (.loop [(2, (.ptr 10 0)), (7, (.own 14)), (24, KA3), (100010, KA0), (100014, (.vec none YA15))] [((.exit 0), [(7, (.own 14)), (100014, (.vec none YA15))])] (sq rz (sq (cn lf lf) (sq (.cut [(.normal, [(2, (.ptr 10 0)), (7, (.own 13)), (100010, KA0), (100013, (.vec none YA15))])] (bk (sq rz (sq (.cut [(.normal, [(2, (.ptr 10 0)), (7, (.own 14)), (52, KA5), (100010, KA0), (100014, (.vec none YA15))])] (rg [{}, {}, {}, (rd 10), (rd 10), {}, (rd 10), (rd 10), {}, {}, {}, {}, {}, (rd 10), (rd 10), {}, {}, (rd 10), (rd 10)])) (cn (rg [{}, {}, (rd 14), {}, {}, {}, (rd 14), (rd 14), (wr 14)]) (rg [{}, {}, {}, {}, {}, (nw 11), { rd := [11], wr := [14], new := [12] }])))))) rz)))))) (sq rz lf)))))) inst6 70 run6 Tryz.func6 (by kernel_rfl) Tryz.ntmps6 (by kernel_rfl) (by intro x y; kernel_rfl) Tryz.call6
def inst28 : Inst := { args := [KA3, KA5, (.ptr 0 0)], objs := [KA0], nres := 1, out := [(90000, KA5), (2, (.ptr 0 0)), (100000, KA0)], news := 0 }
noncomputable def run28 : inst28.F := fun x y => chanceryref2_ValueError_1 x.1 x.2.1 y.1.1 y.1.2.1 y.1.2.2.1 y.1.2.2.2.1 y.1.2.2.2.2.1 y.1.2.2.2.2.2.1 y.1.2.2.2.2.2.2.1 y.1.2.2.2.2.2.2.2.1 y.1.2.2.2.2.2.2.2.2.1
noncomputable def fx28 : Ctx := fx6.add 28 (inst28.sem run28)
theorem fx28_ok : CtxOK fx28 Tryz.prog := fn_put fx6_ok feMixed 28 Tryz.f28 [.tmp 5] (sq rz (sq (rg [(rd 0), (rd 0)]) lf)) inst28 13 run28 Tryz.func28 (by kernel_rfl) Tryz.ntmps28 (by kernel_rfl) (by intro x y; kernel_rfl) Tryz.call28
def inst54 : Inst := mk1 [KA9] KA5
noncomputable def run54 : inst54.F := fun x _ => chanceryref2_Digits x.1
noncomputable def fx54 : Ctx := fx28.add 54 (inst54.sem run54)
theorem fx54_ok : CtxOK fx54 Tryz.prog := fn_put fx28_ok feMixed 54 Tryz.f54 [.tmp 2] (sq rz (sq (sq rz (bk (.loop [(6, KA3)] [((.exit 0), []), (.ret, [(2, KA5)])] (sq rz (sq (cn lf lf) (sq (bk (sq rz (sq (.cut [(.normal, [(18, KA5)])] rz) (cn (sq rz lf) lf)))) rz)))))) (sq rz lf))) inst54 31 run54 Tryz.func54 (by kernel_rfl) Tryz.ntmps54 (by kernel_rfl) (by intro x y; kernel_rfl) Tryz.call54
def inst29 : Inst := mk1 [KA11] KA3
noncomputable def run29 : inst29.F := fun x _ => chanceryref2_FracError x.1
noncomputable def fx29 : Ctx := fx54.add 29 (inst29.sem run29)
theorem fx29_ok : CtxOK fx29 Tryz.prog := fn_put fx54_ok feMixed 29 Tryz.f29 [.tmp 2] (sq (rg [(nw 10)]) (sq (rg [(rd 10), (rd 10)]) (sq (.cut [(.normal, [(1, (.ptr 10 0)), (3, KA9), (4, KA5), (100010, KA12)])] (sq (.cut [(.normal, [(1, (.ptr 10 0)), (13, KA5), (100010, KA12)])] rz) (cn rz lf))) (sq (sq (.cut [(.normal, [(1, (.ptr 10 0)), (36, KA5), (100010, KA12)])] (rg [{}, {}, {}, {}, (rd 10), (rd 10), {}, {}, {}, {}, (rd 10), (rd 10)])) (cn (sq rz lf) lf)) (sq (sq (.cut [(.normal, [(1, (.ptr 10 0)), (45, KA5), (100010, KA12)])] (rg [{}, {}, {}, {}, (rd 10), (rd 10)])) (cn (sq rz lf) lf)) (sq (sq (rg [{}, {}, (rd 10), (rd 10)]) (cn (sq rz lf) lf)) (sq rz lf))))))) inst29 54 run29 Tryz.func29 (by kernel_rfl) Tryz.ntmps29 (by kernel_rfl) (by intro x y; kernel_rfl) Tryz.call29
def inst57 : Inst := mk2 [KA9] KA3 KA3
noncomputable def run57 : inst57.F := fun x _ => chanceryref2_Rune x.1
noncomputable def fx57 : Ctx := fx29.add 57 (inst57.sem run57)
theorem fx57_ok : CtxOK fx57 Tryz.prog := fn_put fx29_ok feMixed 57 Tryz.f57 [.tmp 2, .tmp 3] (sq rz (sq rz (sq rz (sq (.cut [(.normal, [(4, KA3), (5, KA3), (6, KA3)]), (.ret, [(2, KA3), (3, KA3)])] (bk (sq rz (cn (sq rz lf) (sq (.cut [(.normal, [(15, KA5)])] rz) (cn rz (sq (.cut [(.normal, [(24, KA5)])] rz) (cn rz (sq (.cut [(.normal, [(33, KA5)])] rz) (cn rz (sq rz lf))))))))))) (sq (sq rz (cn (sq rz lf) lf)) (sq (sq rz (bk (.loop [(4, KA3), (7, KA3)] [((.exit 1), [(4, KA3)]), (.ret, [(2, KA3), (3, KA3)])] (sq (sq rz (cn lf lf)) (sq (bk (sq (sq rz (cn (sq rz lf) lf)) rz)) rz))))) (sq (sq (.cut [(.normal, [(78, KA5)])] rz) (cn (sq rz lf) lf)) (sq rz lf)))))))) inst57 81 run57 Tryz.func57 (by kernel_rfl) Tryz.ntmps57 (by kernel_rfl) (by intro x y; kernel_rfl) Tryz.call57
def inst58 : Inst := mk1 [KA3] KA5
noncomputable def run58 : inst58.F := fun x _ => chanceryref2_Char x.1
noncomputable def fx58 : Ctx := fx57.add 58 (inst58.sem run58)
theorem fx58_ok : CtxOK fx58 Tryz.prog := fn_put fx57_ok feMixed 58 Tryz.f58 [.tmp 2] (sq rz (sq rz lf)) inst58 33 run58 Tryz.func58 (by kernel_rfl) Tryz.ntmps58 (by kernel_rfl) (by intro x y; kernel_rfl) Tryz.call58
def inst30 : Inst := mk1 [KA9] KA3
noncomputable def run30 : inst30.F := fun x _ => chanceryref2_TextError x.1
noncomputable def fx30 : Ctx := fx58.add 30 (inst30.sem run30)
theorem fx30_ok : CtxOK fx30 Tryz.prog := fn_put fx58_ok feMixed 30 Tryz.f30 [.tmp 2] (sq rz (sq (sq rz (cn (sq rz lf) lf)) (sq (bk (.loop [(0, KA9)] [((.exit 0), []), (.ret, [(2, KA3)])] (sq (sq rz (cn lf lf)) (bk (sq rz (sq (sq (.cut [(.normal, [(21, KA5)])] rz) (cn (sq rz lf) lf)) rz)))))) (sq rz lf)))) inst30 25 run30 Tryz.func30 (by kernel_rfl) Tryz.ntmps30 (by kernel_rfl) (by intro x y; kernel_rfl) Tryz.call30
def inst31 : Inst := mk1 [KA3] KA9
noncomputable def run31 : inst31.F := fun x _ => chanceryref2_FaultText x.1
noncomputable def fx31 : Ctx := fx30.add 31 (inst31.sem run31)
theorem fx31_ok : CtxOK fx31 Tryz.prog := fn_put fx30_ok feMixed 31 Tryz.f31 [.tmp 2] (sq rz (sq (sq (.cut [(.normal, [(8, KA5)])] rz) (cn (sq rz lf) lf)) (sq rz lf))) inst31 12 run31 Tryz.func31 (by kernel_rfl) Tryz.ntmps31 (by kernel_rfl) (by intro x y; kernel_rfl) Tryz.call31
def inst19 : Inst := mk1 [KA14] KA3
def hint19 : HC := (sq (rg [(nw 10)]) (sq (sq (.cut [(.normal, [(1, (.ptr 10 0)), (14, KA5), (100010, KA0)])] (rg [(rd 10), (rd 10), {}, {}, (rd 10), (rd 10)])) (cn (sq rz lf) lf)) (sq rz (sq (sq (.cut [(.normal, [(1, (.ptr 10 0)), (65, KA5), (100010, KA0)])] (rg [{}, (rd 10), (rd 10), {}, {}, (wr 10), {}, {}, {}, (rd 10), (rd 10), {}, (wr 10), {}, {}, {}, {}, (rd 10), (rd 10), {}, (wr 10), {}, {}, {}, {}, (rd 10), (rd 10), {}, (wr 10), {}, {}, {}, {}, (rd 10), (rd 10), {}, {}, (rd 10), (rd 10), {}, {}, {}, (rd 10), (rd 10), {}, {}, {}, (wr 10)])) (cn (sq rz lf) lf)) (sq (bk (sq (rg [(rd 10), (rd 10)]) (cn (sq (rg [(rd 10), (rd 10)]) lf) (sq (rg [(rd 10), (rd 10)]) (cn (sq (rg [(rd 10), (rd 10)]) lf) (sq (.cut [(.normal, [(1, (.ptr 10 0)), (80, KA5), (100010, KA0)])] (rg [(rd 10), (rd 10), {}, {}, (rd 10), (rd 10)])) (cn (sq rz lf) (sq (rg [(rd 10), (rd 10)]) (cn (sq rz lf) (sq (.cut [(.normal, [(1, (.ptr 10 0)), (94, KA5), (100010, KA0)])] (rg [(rd 10), (rd 10), {}, {}, (rd 10), (rd 10), {}, {}, {}, (rd 10), (rd 10), {}, {}, {}, (rd 10), (rd 10)])) (cn (sq rz lf) (sq (rg [(rd 10), (rd 10), (rd 10), (rd 10)]) (cn (sq rz lf) (sq (rg [(rd 10), (rd 10), (rd 10), (rd 10), {}, (rd 10), (rd 10)]) (cn (sq rz lf) lf))))))))))))))) (sq (sq (rg [(rd 10), (rd 10)]) (bk (.loop [(133, KA3)] [((.exit 1), []), (.ret, [(2, KA3)])] (sq rz (sq (cn lf lf) (sq (bk (sq (rg [{}, {}, (nw 11), (wr 11)]) (sq (sq (rg [(rd 11), (rd 11)]) (cn (sq rz lf) lf)) (sq (rg [(rd 11)]) (sq rz (cn (sq rz lf) lf)))))) rz)))))) (sq rz lf)))))))
noncomputable def run19 (m : Nat) : Ks.den inst19.args → Ks.den inst19.objs → Option inst19.out.den := fun x _ => chanceryref2_ValueError_f m x.1
theorem ev19 : ∀ m x y, evFn (fx31.add 19 (inst19.sem (run19 m))) 146 (bodyOf Tryz.f19) [.tmp 2] hint19 inst19 x y = run19 (m + 1) x y := by intro m x y; kernel_rfl
theorem ok19 : ∀ m, FnOK Tryz.prog fx31.glob 19 (inst19.sem (run19 m)) :=
  fn_rec fx31_ok feMixed 19 Tryz.f19 [.tmp 2] hint19 inst19 146 run19 Tryz.func19 (by kernel_rfl) Tryz.ntmps19 (by kernel_rfl) (by kernel_rfl) Tryz.call19 (fun _ _ => rfl) ev19
noncomputable def fx19 : Ctx := fx31.add 19 (inst19.sem (run19 rounds))
theorem fx19_ok : CtxOK fx19 Tryz.prog := add_ok fx31_ok (ok19 rounds) Tryz.call19
def inst7 : Inst := mk1 [KA14] KA3
def hint7 : HC := (sq (rg [(nw 10)]) (sq (sq (rg [(rd 10)]) (sq rz (cn (sq rz lf) lf))) (sq (sq (rg [(rd 10), (rd 10)]) (cn (sq rz lf) lf)) (sq rz lf))))
noncomputable def run7 : inst7.F := fun x _ => chancerylaw2_arrayError x.1
theorem ok7 : FnOK Tryz.prog fx19.glob 7 (inst7.sem run7) :=
  fn_add fx19_ok feMixed 7 Tryz.f7 [.tmp 2] hint7 inst7 12 run7 Tryz.func7 (by kernel_rfl) Tryz.ntmps7 (by kernel_rfl) (by kernel_rfl) (by intro x y; kernel_rfl)
noncomputable def fx7 : Ctx := fx19.add 7 (inst7.sem run7)
theorem fx7_ok : CtxOK fx7 Tryz.prog := add_ok fx19_ok ok7 Tryz.call7
def inst20 : Inst := mk1 [KA7, KA3] KA3
noncomputable def run20 : inst20.F := fun x _ => slices_Index_int_int_ x.1 x.2.1
noncomputable def fx20 : Ctx := fx7.add 20 (inst20.sem run20)
theorem fx20_ok : CtxOK fx20 Tryz.prog := fn_put fx7_ok feMixed 20 Tryz.f20 [.tmp 4] (sq rz (sq (sq rz (bk (.loop [(8, KA3)] [((.exit 0), []), (.ret, [(4, KA3)])] (sq rz (sq (cn lf lf) (sq (bk (sq rz (sq rz (cn (sq rz lf) lf)))) rz)))))) (sq rz lf))) inst20 19 run20 Tryz.func20 (by kernel_rfl) Tryz.ntmps20 (by kernel_rfl) (by intro x y; kernel_rfl) Tryz.call20
def inst9 : Inst := mk1 [KA7, KA3] KA5
noncomputable def run9 : inst9.F := fun x _ => slices_Contains_int_int_ x.1 x.2.1
noncomputable def fx9 : Ctx := fx20.add 9 (inst9.sem run9)
theorem fx9_ok : CtxOK fx9 Tryz.prog := fn_put fx20_ok feMixed 9 Tryz.f9 [.tmp 4] (sq rz (sq rz lf)) inst9 9 run9 Tryz.func9 (by kernel_rfl) Tryz.ntmps9 (by kernel_rfl) (by intro x y; kernel_rfl) Tryz.call9
def inst8 : Inst := { args := [KA3, KA3, (.ptr 0 0)], objs := [KA0], nres := 1, out := [(90000, KA14), (2, (.ptr 0 0)), (100000, KA0)], news := 0 }
def hint8 : HC := (sq (rg [(nw 11)]) (sq (rg [(rd 0), (rd 0), {}, (rd 0), (rd 0), {}, {}, {}, {}, {}, (wr 11)]) lf))
noncomputable def run8 : inst8.F := fun x y => chancerylaw2_ArrangeRowsMatch_1 x.1 x.2.1 y.1.1 y.1.2.1 y.1.2.2.1 y.1.2.2.2.1 y.1.2.2.2.2.1 y.1.2.2.2.2.2.1 y.1.2.2.2.2.2.2.1 y.1.2.2.2.2.2.2.2.1 y.1.2.2.2.2.2.2.2.2.1
theorem ok8 : FnOK Tryz.prog fx9.glob 8 (inst8.sem run8) :=
  fn_add fx9_ok feMixed 8 Tryz.f8 [.cell 5 26] hint8 inst8 16 run8 Tryz.func8 (by kernel_rfl) Tryz.ntmps8 (by kernel_rfl) (by kernel_rfl) (by intro x y; kernel_rfl)
noncomputable def fx8 : Ctx := fx9.add 8 (inst8.sem run8)
theorem fx8_ok : CtxOK fx8 Tryz.prog := add_ok fx9_ok ok8 Tryz.call8
def inst32 : Inst := mk1 [KA14] KA3
noncomputable def run32 : inst32.F := fun x _ => chanceryref2_Order_1 x.1
noncomputable def fx32 : Ctx := fx8.add 32 (inst32.sem run32)
theorem fx32_ok : CtxOK fx32 Tryz.prog := fn_put fx8_ok feMixed 32 Tryz.f32 [.tmp 2] (sq (rg [(nw 10)]) (sq (sq (rg [(rd 10), (rd 10)]) (cn (sq rz lf) lf)) (sq (rg [(rd 10), (rd 10)]) lf))) inst32 8 run32 Tryz.func32 (by kernel_rfl) Tryz.ntmps32 (by kernel_rfl) (by intro x y; kernel_rfl) Tryz.call32
def inst33 : Inst := mk1 [KA3] KA3
noncomputable def run33 : inst33.F := fun x _ => chanceryref2_unit x.1
noncomputable def fx33 : Ctx := fx32.add 33 (inst33.sem run33)
theorem fx33_ok : CtxOK fx33 Tryz.prog := fn_put fx32_ok feMixed 33 Tryz.f33 [.tmp 2] (sq rz (sq (sq rz (cn (sq rz lf) lf)) (sq (sq rz (cn (sq rz lf) lf)) (sq rz lf)))) inst33 7 run33 Tryz.func33 (by kernel_rfl) Tryz.ntmps33 (by kernel_rfl) (by intro x y; kernel_rfl) Tryz.call33
def inst59 : Inst := mk1 [KA11] KA8
noncomputable def run59 : inst59.F := fun x _ => chanceryref2_RatOf x.1
noncomputable def fx59 : Ctx := fx33.add 59 (inst59.sem run59)
theorem fx59_ok : CtxOK fx59 Tryz.prog := fn_put fx33_ok feMixed 59 Tryz.f59 [.cell 2 56] (sq (rg [(nw 10), (nw 11)]) (sq (sq (rg [(rd 10), (rd 10)]) (cn (sq (rg [(rd 10), (rd 10), {}, {}, (rd 10), (rd 10), {}, {}, (wr 11)]) lf) lf)) (sq (rg [(rd 10), (rd 10), {}, (rd 10), (rd 10), {}, {}, (wr 11)]) lf))) inst59 22 run59 Tryz.func59 (by kernel_rfl) Tryz.ntmps59 (by kernel_rfl) (by intro x y; kernel_rfl) Tryz.call59
def inst78 : Inst := mk1 [KA8] KA8
noncomputable def run78 : inst78.F := fun x _ => chanceryref2_Rat__Negative x.1
noncomputable def fx78 : Ctx := fx59.add 78 (inst78.sem run78)
theorem fx78_ok : CtxOK fx78 Tryz.prog := fn_put fx59_ok feMixed 78 Tryz.f78 [.cell 2 56] (sq (rg [(nw 10), (nw 11)]) (sq (rg [(rd 10), (rd 10), {}, (rd 10), (rd 10), (rd 10), (rd 10), {}, (wr 11)]) lf)) inst78 11 run78 Tryz.func78 (by kernel_rfl) Tryz.ntmps78 (by kernel_rfl) (by intro x y; kernel_rfl) Tryz.call78
def inst91 : Inst := mk1 [KA7, KA7] KA7
noncomputable def run91 : inst91.F := fun x _ => chanceryref2_Nat__Times x.1 x.2.1
noncomputable def fx91 : Ctx := fx78.add 91 (inst91.sem run91)
theorem fx91_ok : CtxOK fx91 Tryz.prog := fn_put fx78_ok feMixed 91 Tryz.f91 [.tmp 4] (sq rz (sq (rg [{}, {}, {}, {}, {}, (nw 10)]) (sq (sq rz (bk (.loop [(5, (.own 10)), (19, KA3), (100010, (.vec none YA4))] [((.exit 0), [(5, (.own 10)), (100010, (.vec none YA4))])] (sq rz (sq (cn lf lf) (sq (bk (sq rz (sq (sq rz (bk (.loop [(5, (.own 10)), (24, KA3), (100010, (.vec none YA4))] [((.exit 2), [(5, (.own 10)), (100010, (.vec none YA4))])] (sq rz (sq (cn lf lf) (sq (bk (sq rz (rg [{}, {}, {}, {}, (rd 10), (rd 10), {}, {}, {}, {}, {}, {}, {}, {}, {}, {}, (rd 10), (wr 10)]))) rz)))))) (sq rz (sq rz (bk (.loop [(5, (.own 10)), (8, KA3), (9, KA3), (100010, (.vec none YA4))] [((.exit 4), [(5, (.own 10)), (100010, (.vec none YA4))])] (sq (sq (rg [{}, {}, (rd 10)]) (cn lf lf)) (sq (bk (sq (rg [{}, {}, (rd 10), (rd 10)]) (sq (rg [{}, {}, {}, {}, (rd 10), (wr 10)]) rz))) rz))))))))) rz)))))) (sq (rg [{}, (fz 66 10)]) lf)))) inst91 68 run91 Tryz.func91 (by kernel_rfl) Tryz.ntmps91 (by kernel_rfl) (by intro x y; kernel_rfl) Tryz.call91
def inst77 : Inst := mk1 [KA8, KA8] KA8
noncomputable def run77 : inst77.F := fun x _ => chanceryref2_Rat__Add x.1 x.2.1
noncomputable def fx77 : Ctx := fx91.add 77 (inst77.sem run77)
theorem fx77_ok : CtxOK fx77 Tryz.prog := fn_put fx91_ok feMixed 77 Tryz.f77 [.cell 4 56] (sq (rg [(nw 10), (nw 11), (nw 12)]) (sq (rg [(rd 10), (rd 10), (rd 11), (rd 11), {}, (rd 11), (rd 11), (rd 10), (rd 10)]) (sq (rg [(rd 10), (rd 10), (rd 11), (rd 11), {}, {}, (nw 13), (wr 13)]) (sq (.cut [(.normal, [(4, (.ptr 12 0)), (7, (.ptr 13 0)), (100012, (.rcd (.cons KA5 (.cons KA7 (.cons KA7 .unit))))), (100013, (.rcd (.cons KA5 (.cons KA7 (.cons KA7 .unit)))))])] (bk (sq (rg [(rd 10), (rd 10), (rd 11), (rd 11)]) (cn (rg [(rd 10), (rd 10), {}, {}, {}, (rd 13), (wr 13), (rd 13), (wr 13)]) (sq rz (cn (rg [(rd 10), (rd 10), {}, {}, {}, (rd 13), (wr 13), (rd 13), (wr 13)]) (rg [(rd 11), (rd 11), {}, {}, {}, (rd 13), (wr 13), (rd 13), (wr 13)]))))))) (sq (rg [(rd 13), (wr 12)]) lf))))) inst77 57 run77 Tryz.func77 (by kernel_rfl) Tryz.ntmps77 (by kernel_rfl) (by intro x y; kernel_rfl) Tryz.call77
def inst79 : Inst := mk1 [KA8] KA3
noncomputable def run79 : inst79.F := fun x _ => chanceryref2_Rat__Sign x.1
noncomputable def fx79 : Ctx := fx77.add 79 (inst79.sem run79)
theorem fx79_ok : CtxOK fx79 Tryz.prog := fn_put fx77_ok feMixed 79 Tryz.f79 [.tmp 2] (sq (rg [(nw 10)]) (sq (bk (sq (rg [(rd 10), (rd 10)]) (cn (sq rz lf) (sq (rg [(rd 10), (rd 10)]) (cn (sq rz lf) lf))))) (sq rz lf))) inst79 11 run79 Tryz.func79 (by kernel_rfl) Tryz.ntmps79 (by kernel_rfl) (by intro x y; kernel_rfl) Tryz.call79
def inst60 : Inst := mk1 [KA8, KA8] KA3
noncomputable def run60 : inst60.F := fun x _ => chanceryref2_Rat__Cmp x.1 x.2.1
noncomputable def fx60 : Ctx := fx79.add 60 (inst60.sem run60)
theorem fx60_ok : CtxOK fx60 Tryz.prog := fn_put fx79_ok feMixed 60 Tryz.f60 [.tmp 4] (sq (rg [(nw 10), (nw 11)]) (sq (rg [(rd 10), (rd 11)]) lf)) inst60 10 run60 Tryz.func60 (by kernel_rfl) Tryz.ntmps60 (by kernel_rfl) (by intro x y; kernel_rfl) Tryz.call60
def inst61 : Inst := mk1 [KA9] KA9
noncomputable def run61 : inst61.F := fun x _ => chanceryref2_Lower x.1
noncomputable def fx61 : Ctx := fx60.add 61 (inst61.sem run61)
theorem fx61_ok : CtxOK fx61 Tryz.prog := fn_put fx60_ok feMixed 61 Tryz.f61 [.tmp 2] (sq rz (sq rz (sq (sq rz (bk (.loop [(3, KA9), (8, KA3)] [((.exit 0), [(3, KA9)])] (sq rz (sq (cn lf lf) (sq (bk (sq rz (sq rz (sq (.cut [(.normal, [(5, (.val YA18))])] (sq (.cut [(.normal, [(19, KA5)])] rz) (cn rz lf))) (rg [{}, {}, (nw 10), (rd 10)]))))) rz)))))) (sq rz lf)))) inst61 29 run61 Tryz.func61 (by kernel_rfl) Tryz.ntmps61 (by kernel_rfl) (by intro x y; kernel_rfl) Tryz.call61
def inst35 : Inst := mk1 [KA9, KA9] KA3
noncomputable def run35 : inst35.F := fun x _ => chanceryref2_compareText x.1 x.2.1
noncomputable def fx35 : Ctx := fx61.add 35 (inst35.sem run35)
theorem fx35_ok : CtxOK fx35 Tryz.prog := fn_put fx61_ok feMixed 35 Tryz.f35 [.tmp 4] (sq rz (sq (sq rz (bk (.loop [(5, KA3)] [((.exit 0), []), (.ret, [(4, KA3)])] (sq (sq (.cut [(.normal, [(15, KA5)])] rz) (cn lf lf)) (sq (bk (sq rz (cn (sq rz lf) lf))) rz))))) (sq rz lf))) inst35 39 run35 Tryz.func35 (by kernel_rfl) Tryz.ntmps35 (by kernel_rfl) (by intro x y; kernel_rfl) Tryz.call35
def inst34 : Inst := mk1 [KA14, KA14] KA3
noncomputable def run34 : inst34.F := fun x _ => chanceryref2_oneKind x.1 x.2.1
noncomputable def fx34 : Ctx := fx35.add 34 (inst34.sem run34)
theorem fx34_ok : CtxOK fx34 Tryz.prog := fn_put fx35_ok feMixed 34 Tryz.f34 [.tmp 4] (sq (rg [(nw 10), (nw 11)]) (sq (bk (sq (rg [(rd 10), (rd 10)]) (cn (sq (rg [(rd 10), (rd 10), {}, (rd 11), (rd 11)]) lf) (sq (rg [(rd 10), (rd 10)]) (cn (sq (rg [(rd 10), (rd 10), {}, (rd 11), (rd 11)]) lf) (sq (rg [(rd 10), (rd 10), (rd 11), (rd 11)]) (cn (sq (sq (rg [(rd 10), (rd 10)]) (cn (sq rz lf) lf)) (sq rz lf)) lf))))))) (sq (rg [(rd 10), (rd 10), (rd 11), (rd 11)]) lf))) inst34 42 run34 Tryz.func34 (by kernel_rfl) Tryz.ntmps34 (by kernel_rfl) (by intro x y; kernel_rfl) Tryz.call34
def inst21 : Inst := mk1 [KA14, KA14] KA3
noncomputable def run21 : inst21.F := fun x _ => chanceryref2_Order x.1 x.2.1
noncomputable def fx21 : Ctx := fx34.add 21 (inst21.sem run21)
theorem fx21_ok : CtxOK fx21 Tryz.prog := fn_put fx34_ok feMixed 21 Tryz.f21 [.tmp 4] (sq (rg [(nw 10), (nw 11)]) (sq rz (sq (sq (rg [(rd 10), (rd 10), (rd 11), (rd 11)]) (cn (sq (rg [{}, (rd 10), {}, {}, (rd 11)]) lf) lf)) (sq (sq (rg [(rd 10), (rd 10)]) (cn (sq rz lf) lf)) (sq (sq (rg [(rd 10), (rd 11)]) (sq (.cut [(.normal, [(2, (.ptr 10 0)), (3, (.ptr 11 0)), (32, KA5), (100010, KA0), (100011, KA0)])] (rg [{}, {}, {}, (rd 10), (rd 10)])) (cn (sq rz lf) lf))) (sq (rg [(rd 10), (rd 10), (rd 11), (rd 11)]) lf)))))) inst21 40 run21 Tryz.func21 (by kernel_rfl) Tryz.ntmps21 (by kernel_rfl) (by intro x y; kernel_rfl) Tryz.call21
def inst10 : Inst := { args := [KA3, KA3, (.val (.sl YA16)), (.fn 8 (.cons (.ptr 0 0) .unit))], objs := [KA0], nres := 1, out := [(90000, KA5), (3, (.fn 8 (.cons (.ptr 0 0) .unit))), (100000, KA0)], news := 0 }
def hint10 : HC := (sq rz (sq (sq rz (bk (.loop [(3, (.fn 8 (.cons (.ptr 0 0) .unit))), (16, KA3), (100000, KA0)] [((.exit 0), [(3, (.fn 8 (.cons (.ptr 0 0) .unit))), (100000, KA0)]), (.ret, [(3, (.fn 8 (.cons (.ptr 0 0) .unit))), (8, KA5), (100000, KA0)])] (sq rz (sq (cn lf lf) (sq (bk (sq (rg [{}, {}, (nw 11), (wr 11)]) (sq (rg [{}, {}, (rd 11), (rd 11), (wr 0), {}, {}, (rd 11), (rd 11), (wr 0), (nw 12), (nw 13), (wr 12), (wr 13)]) (sq (rg [(rd 12), (rd 13)]) (sq (.cut [(.normal, [(3, (.fn 8 (.cons (.ptr 0 0) .unit))), (13, KA3), (100000, KA0)])] (sq (.cut [(.normal, [(3, (.fn 8 (.cons (.ptr 0 0) .unit))), (44, KA5), (100000, KA0)])] (rg [(rd 11), (rd 11), {}, (rd 12), (rd 12), {}, {}, {}, (rd 13), (rd 13)])) (cn rz lf))) (sq rz (cn (sq rz lf) lf))))))) rz)))))) (sq rz lf)))
noncomputable def run10 : inst10.F := fun x y => chancerylaw2_ahead_ArrangeRowsMatch_1 x.1 x.2.1 x.2.2.1 y.1.1 y.1.2.1 y.1.2.2.1 y.1.2.2.2.1 y.1.2.2.2.2.1 y.1.2.2.2.2.2.1 y.1.2.2.2.2.2.2.1 y.1.2.2.2.2.2.2.2.1 y.1.2.2.2.2.2.2.2.2.1
theorem ok10 : FnOK Tryz.prog fx21.glob 10 (inst10.sem run10) :=
  fn_add fx21_ok feMixed 10 Tryz.f10 [.tmp 8] hint10 inst10 55 run10 Tryz.func10 (by kernel_rfl) Tryz.ntmps10 (by kernel_rfl) (by kernel_rfl) (by intro x y; kernel_rfl)
noncomputable def fx10 : Ctx := fx21.add 10 (inst10.sem run10)
theorem fx10_ok : CtxOK fx10 Tryz.prog := add_ok fx21_ok ok10 Tryz.call10
def inst11 : Inst := mk1 [KA14, KA14] KA5
def hint11 : HC := (sq (rg [(nw 10), (nw 11)]) (sq (sq (.cut [(.normal, [(2, (.ptr 10 0)), (3, (.ptr 11 0)), (61, KA5), (100010, KA0), (100011, KA0)])] (rg [(rd 10), (rd 10), (rd 11), (rd 11), {}, {}, (rd 10), (rd 10), (rd 11), (rd 11), {}, {}, {}, (rd 10), (rd 10), (rd 11), (rd 11), {}, {}, {}, (rd 10), (rd 10), (rd 11), (rd 11), {}, {}, {}, (rd 10), (rd 10), (rd 11), (rd 11), {}, {}, {}, (rd 10), (rd 10), (rd 11), (rd 11), {}, {}, {}, (rd 10), (rd 10), (rd 11), (rd 11), {}, {}, {}, (rd 10), (rd 10), {}, (rd 11), (rd 11)])) (cn (sq rz lf) lf)) (sq (sq (rg [(rd 10), (rd 10)]) (bk (.loop [(2, (.ptr 10 0)), (3, (.ptr 11 0)), (65, KA3), (100010, KA0), (100011, KA0)] [((.exit 0), []), (.ret, [(4, KA5)])] (sq rz (sq (cn lf lf) (sq (bk (sq rz (sq (rg [(rd 10), (rd 10), {}, {}, {}, (rd 11), (rd 11)]) (cn (sq rz lf) lf)))) rz)))))) (sq rz lf))))
noncomputable def run11 (m : Nat) : Ks.den inst11.args → Ks.den inst11.objs → Option inst11.out.den := fun x _ => chanceryref2_SameValue_f m x.1 x.2.1
theorem ev11 : ∀ m x y, evFn (fx10.add 11 (inst11.sem (run11 m))) 81 (bodyOf Tryz.f11) [.tmp 4] hint11 inst11 x y = run11 (m + 1) x y := by intro m x y; kernel_rfl
theorem ok11 : ∀ m, FnOK Tryz.prog fx10.glob 11 (inst11.sem (run11 m)) :=
  fn_rec fx10_ok feMixed 11 Tryz.f11 [.tmp 4] hint11 inst11 81 run11 Tryz.func11 (by kernel_rfl) Tryz.ntmps11 (by kernel_rfl) (by kernel_rfl) Tryz.call11 (fun _ _ => rfl) ev11
noncomputable def fx11 : Ctx := fx10.add 11 (inst11.sem (run11 rounds))
theorem fx11_ok : CtxOK fx11 Tryz.prog := add_ok fx10_ok (ok11 rounds) Tryz.call11
def inst3 : Inst := mk1 [KA14, (.val (.sl YA16)), KA3] KA5
def hint3 : HC := (sq (rg [(nw 10)]) (sq (sq rz (cn (sq rz lf) lf)) (sq (sq (.cut [(.normal, [(3, (.ptr 10 0)), (31, KA5), (100010, KA0)])] (rg [(rd 10), (rd 10)])) (cn (sq rz lf) lf)) (sq (rg [(rd 10)]) (sq (rg [(rd 10)]) (sq (rg [(rd 10)]) (sq rz (sq (.cut [(.normal, [(3, (.ptr 10 0)), (11, KA3), (100010, KA0)])] (sq (.cut [(.normal, [(3, (.ptr 10 0)), (53, KA5), (100010, KA0)])] rz) (cn rz lf))) (sq (sq rz (bk (.loop [(3, (.ptr 10 0)), (11, KA3), (13, KA3), (100010, KA0)] [((.exit 0), [(3, (.ptr 10 0)), (11, KA3), (100010, KA0)])] (sq (sq (.cut [(.normal, [(3, (.ptr 10 0)), (61, KA5), (100010, KA0)])] rz) (cn lf lf)) (sq (.cut [(.normal, [(3, (.ptr 10 0)), (11, KA3), (100010, KA0)])] (bk (sq (.cut [(.normal, [(3, (.ptr 10 0)), (79, KA5), (100010, KA0)])] (rg [{}, {}, {}, {}, {}, {}, {}, {}, {}, {}, {}, {}, (rd 10), (rd 10)])) (cn rz lf)))) rz))))) (sq (.cut [(.normal, [(3, (.ptr 10 0)), (12, KA3), (100010, KA0)])] (sq (.cut [(.normal, [(3, (.ptr 10 0)), (91, KA5), (100010, KA0)])] (rg [{}, {}, {}, {}, {}, {}, {}, (rd 10), (rd 10)])) (cn rz lf))) (sq (sq (.cut [(.normal, [(3, (.ptr 10 0)), (117, KA5), (100010, KA0)])] rz) (cn (sq rz lf) lf)) (sq rz (sq (.cut [(.normal, [(3, (.ptr 10 0)), (14, (.fn 8 (.cons (.ptr 10 0) .unit))), (100010, KA0)]), (.ret, [(6, KA5)])] (sq rz (cn (sq (sq (rg [{}, {}, (rd 10), (rd 10)]) (cn (sq rz lf) lf)) (sq rz (bk (.loop [(3, (.ptr 10 0)), (14, (.fn 8 (.cons (.ptr 10 0) .unit))), (128, KA3), (100010, KA0)] [((.exit 2), [(3, (.ptr 10 0)), (14, (.fn 8 (.cons (.ptr 10 0) .unit))), (100010, KA0)]), (.ret, [(6, KA5)])] (sq rz (sq (cn lf lf) (sq (bk (sq rz (sq (.cut [(.normal, [(3, (.ptr 10 0)), (14, (.fn 8 (.cons (.ptr 10 0) .unit))), (163, KA5), (100010, KA0)])] (rg [{}, {}, {}, {}, (rd 10), (rd 10), {}, {}, {}, {}, {}, {}, {}, {}, {}, {}, {}, {}, {}, {}, {}, {}, {}, {}, {}, {}, {}, (wr 10)])) (cn (sq rz lf) lf)))) rz))))))) lf))) (sq (sq rz (cn (sq rz lf) lf)) (sq rz (sq (sq rz (bk (.loop [(3, (.ptr 10 0)), (14, (.fn 8 (.cons (.ptr 10 0) .unit))), (17, KA3), (169, KA3), (100010, KA0)] [((.exit 4), [(3, (.ptr 10 0)), (17, KA3), (100010, KA0)]), (.ret, [(6, KA5)])] (sq rz (sq (cn lf lf) (sq (bk (sq (rg [{}, {}, {}, (nw 11), {}, (wr 11)]) (sq (sq (.cut [(.normal, [(3, (.ptr 10 0)), (14, (.fn 8 (.cons (.ptr 10 0) .unit))), (19, (.ptr 11 0)), (191, KA5), (100010, KA0), (100011, KA17)])] (rg [(rd 11), (rd 11), {}, {}, {}, (rd 11), (rd 11), (rd 11), (rd 11), {}, {}, {}, (rd 11), (rd 11), (rd 10), (rd 10)])) (cn (sq rz lf) lf)) (sq (sq (rg [(rd 11), (rd 11)]) (bk (.loop [(3, (.ptr 10 0)), (14, (.fn 8 (.cons (.ptr 10 0) .unit))), (19, (.ptr 11 0)), (20, KA3), (100010, KA0), (100011, KA17)] [((.exit 6), [(3, (.ptr 10 0)), (14, (.fn 8 (.cons (.ptr 10 0) .unit))), (19, (.ptr 11 0)), (100010, KA0), (100011, KA17)]), (.ret, [(6, KA5)])] (sq (sq (rg [{}, (rd 11), (rd 11)]) (cn lf lf)) (sq (bk (sq (rg [{}, {}, {}, (wr 10), {}, (rd 11), (rd 11), {}, (wr 10)]) (cn (sq rz lf) lf))) rz))))) (sq (sq (.cut [(.normal, [(3, (.ptr 10 0)), (14, (.fn 8 (.cons (.ptr 10 0) .unit))), (19, (.ptr 11 0)), (227, KA5), (100010, KA0), (100011, KA17)])] (rg [{}, {}, {}, {}, (rd 11), (rd 11), {}, (wr 10), {}, (rd 11), (rd 11), {}, {}, (wr 10)])) (cn (sq rz lf) lf)) (rg [(rd 11), (rd 11)])))))) rz)))))) (sq (rg [{}, (rd 10), (rd 10)]) lf)))))))))))))))))
noncomputable def run3 : inst3.F := fun x _ => chancerylaw2_ArrangeRowsMatch x.1 x.2.1 x.2.2.1
theorem ok3 : FnOK Tryz.prog fx11.glob 3 (inst3.sem run3) :=
  fn_add fx11_ok feMixed 3 Tryz.f3 [.tmp 6] hint3 inst3 235 run3 Tryz.func3 (by kernel_rfl) Tryz.ntmps3 (by kernel_rfl) (by kernel_rfl) (by intro x y; kernel_rfl)
noncomputable def fx3 : Ctx := fx11.add 3 (inst3.sem run3)
theorem fx3_ok : CtxOK fx3 Tryz.prog := add_ok fx11_ok ok3 Tryz.call3
end Go.Proofs.YtmkpdineahbfkaaGreatDoor
