/- The contracts that say what the program's functions come to. Printed by a program (fegen.py). -/
import Derived.Test.YthkpkdaeblgbdaaDoorFun
import Derived.Test.YthkpkdaeblgbdaaDoorShelf
import Derived.Test.YthkpkdaeblgbdaaDoorRunOk
import Derived.WalkKit
import Derived.Lib.Builder
import Derived.BigRegion
import Derived.Test.YthkpkdaeblgbdaaDoorProg
namespace Go.Proofs.YthkpkdaeblgbdaaDoor
open Go Go.Fe

abbrev YA0 : Ty := (.pair (.int .i32) (.pair .bool (.pair .bool .unit)))
abbrev KA1 : K := (.val (.int .i64))
abbrev KA2 : K := (.val .bool)
abbrev KA3 : K := (.val .str)
abbrev rd (n : Nat) : OH := { rd := [n] }
abbrev wr (n : Nat) : OH := { wr := [n] }
abbrev nw (n : Nat) : OH := { new := [n] }
abbrev fz (k n : Nat) : OH := { fz := [(k, n)] }
abbrev rz : HC := .region []
abbrev rg := HC.region
abbrev sq := HC.seq
abbrev cn := HC.cond
abbrev bk := HC.block
abbrev lf := HC.leaf
def feTab : List (TypeId × Ty) := [(3, (.int .i64)), (4, .bool), (5, (.int .u8)), (9, .str), (21, (.int .i32)), (24, (.sl YA0)), (27, (.sl .str)), (35, YA0), (36, (.sl .bool)), (39, (.sl (.int .u8)))]
noncomputable def fe0 : Ctx := (Ctx.base feTab (globOf [(0, ⟨(.arr 256 (.int .u8)), some runeFirst⟩), (1, ⟨(.arr 16 (.pair (.int .u8) (.pair (.int .u8) .unit))), some runeAccept⟩)])).eqs []
theorem fe0_ok : CtxOK fe0 Tryd.prog := eqs_ok (base_ok (by kernel_rfl)) (by kernel_rfl)
theorem feMixed : Tryd.prog.follows .mixedOrders = true := by kernel_rfl
noncomputable def fx13 : Ctx := fe0.add 13 (shelfSem [.str] [(.int .i32), (.int .i64)] sRune)
theorem fx13_ok : CtxOK fx13 Tryd.prog := add_ok fe0_ok (okRune (g3 := 0) (g4 := 1) rfl rfl Tryd.utf8_DecodeRuneInString) Tryd.call13
def inst11 : Inst := mk1 [KA3] KA3
noncomputable def run11 : inst11.F := fun x _ => value_Lower x.1
noncomputable def fx11 : Ctx := fx13.add 11 (inst11.sem run11)
theorem fx11_ok : CtxOK fx11 Tryd.prog := fn_put fx13_ok feMixed 11 Tryd.f11 [.tmp 2] (sq rz (sq (rg [{}, (nw 10)]) (sq (sq (rg [{}, (rd 10)]) (bk (.loop [(3, (.own 11)), (8, (.own 11)), (10, KA1), (100011, (.vec none (.int .u8)))] [((.exit 0), [(3, (.own 14)), (100014, (.vec none (.int .u8)))])] (sq rz (sq (cn lf lf) (sq (.cut [(.normal, [(3, (.own 13)), (8, (.own 13)), (100013, (.vec none (.int .u8)))])] (bk (sq (rg [{}, (rd 11), (rd 11)]) (sq (.cut [(.normal, [(3, (.own 12)), (8, (.own 12)), (20, KA2), (100012, (.vec none (.int .u8)))])] rz) (cn (rg [{}, {}, (rd 12), (rd 12), {}, (rd 12), (wr 12)]) lf))))) rz)))))) (sq (rg [{}, (rd 14)]) lf)))) inst11 30 run11 Tryd.func11 (by kernel_rfl) Tryd.ntmps11 (by kernel_rfl) (by intro x y; kernel_rfl) Tryd.call11
noncomputable def fx6 : Ctx := fx11.add 6 (shelfSem [(.sl YA0), .str, .bool] [.bool] (sRun value_Lower))
theorem fx6_ok : CtxOK fx6 Tryd.prog := add_ok fx11_ok (Tryd.okRun fx11_ok rfl rfl (fun _ => ⟨_, rfl, fun _ => rfl⟩)) Tryd.call6
def inst7 : Inst := mk1 [KA3] (.val (.sl YA0))
noncomputable def run7 : inst7.F := fun x _ => ftext_pieces x.1
noncomputable def fx7 : Ctx := fx6.add 7 (inst7.sem run7)
theorem fx7_ok : CtxOK fx7 Tryd.prog := fn_put fx6_ok feMixed 7 Tryd.f7 [.tmp 2] (sq rz (sq rz (sq (sq rz (bk (.loop [(3, (.own 15)), (4, KA3), (100015, (.vec none YA0))] [((.exit 0), [(3, (.own 20)), (100020, (.vec none YA0))])] (sq (sq rz (cn lf lf)) (bk (sq rz (sq (.cut [(.normal, [(3, (.own 17)), (5, (.val (.int .i32))), (100017, (.vec none YA0))])] (sq (.cut [(.normal, [(3, (.own 16)), (22, KA2), (100016, (.vec none YA0))])] rz) (cn rz lf))) (sq rz (sq (rg [{}, {}, {}, {}, {}, {}, (nw 10), (wr 10)]) (sq (.cut [(.normal, [(3, (.own 12)), (4, KA3), (7, (.ptr 19 0)), (100012, (.vec none YA0)), (100019, (.rcd (.cons (.val (.int .i32)) (.cons KA2 (.cons KA2 .unit)))))])] (sq (.cut [(.normal, [(3, (.own 11)), (7, (.ptr 18 0)), (56, KA2), (100011, (.vec none YA0)), (100018, (.rcd (.cons (.val (.int .i32)) (.cons KA2 (.cons KA2 .unit)))))])] rz) (cn (rg [{}, {}, {}, {}, {}, {}, (wr 18)]) lf))) (rg [{}, (rd 19), (nw 13), { rd := [13], wr := [12], new := [14] }]))))))))))) (sq rz lf)))) inst7 68 run7 Tryd.func7 (by kernel_rfl) Tryd.ntmps7 (by kernel_rfl) (by intro x y; kernel_rfl) Tryd.call7
def inst4 : Inst := mk1 [KA3, KA3] KA2
noncomputable def run4 : inst4.F := fun x _ => ftext_Matches x.1 x.2.1
noncomputable def fx4 : Ctx := fx7.add 4 (inst4.sem run4)
theorem fx4_ok : CtxOK fx4 Tryd.prog := fn_put fx7_ok feMixed 4 Tryd.f4 [.tmp 4] (sq rz (sq rz lf)) inst4 9 run4 Tryd.func4 (by kernel_rfl) Tryd.ntmps4 (by kernel_rfl) (by intro x y; kernel_rfl) Tryd.call4
def inst10 : Inst := mk1 [KA3] KA3
noncomputable def run10 : inst10.F := fun x _ => chanceryref2_Lower x.1
noncomputable def fx10 : Ctx := fx4.add 10 (inst10.sem run10)
theorem fx10_ok : CtxOK fx10 Tryd.prog := fn_put fx4_ok feMixed 10 Tryd.f10 [.tmp 2] (sq rz (sq rz (sq (sq rz (bk (.loop [(3, KA3), (8, KA1)] [((.exit 0), [(3, KA3)])] (sq rz (sq (cn lf lf) (sq (bk (sq rz (sq rz (sq (.cut [(.normal, [(5, (.val (.int .u8)))])] (sq (.cut [(.normal, [(19, KA2)])] rz) (cn rz lf))) (rg [{}, {}, (nw 10), (rd 10)]))))) rz)))))) (sq rz lf)))) inst10 29 run10 Tryd.func10 (by kernel_rfl) Tryd.ntmps10 (by kernel_rfl) (by intro x y; kernel_rfl) Tryd.call10
def inst14 : Inst := mk2 [KA3] KA1 KA1
noncomputable def run14 : inst14.F := fun x _ => chanceryref2_Rune x.1
noncomputable def fx14 : Ctx := fx10.add 14 (inst14.sem run14)
theorem fx14_ok : CtxOK fx14 Tryd.prog := fn_put fx10_ok feMixed 14 Tryd.f14 [.tmp 2, .tmp 3] (sq rz (sq rz (sq rz (sq (.cut [(.normal, [(4, KA1), (5, KA1), (6, KA1)]), (.ret, [(2, KA1), (3, KA1)])] (bk (sq rz (cn (sq rz lf) (sq (.cut [(.normal, [(15, KA2)])] rz) (cn rz (sq (.cut [(.normal, [(24, KA2)])] rz) (cn rz (sq (.cut [(.normal, [(33, KA2)])] rz) (cn rz (sq rz lf))))))))))) (sq (sq rz (cn (sq rz lf) lf)) (sq (sq rz (bk (.loop [(4, KA1), (7, KA1)] [((.exit 1), [(4, KA1)]), (.ret, [(2, KA1), (3, KA1)])] (sq (sq rz (cn lf lf)) (sq (bk (sq (sq rz (cn (sq rz lf) lf)) rz)) rz))))) (sq (sq (.cut [(.normal, [(78, KA2)])] rz) (cn (sq rz lf) lf)) (sq rz lf)))))))) inst14 81 run14 Tryd.func14 (by kernel_rfl) Tryd.ntmps14 (by kernel_rfl) (by intro x y; kernel_rfl) Tryd.call14
def inst9 : Inst := mk1 [KA3] (.val (.sl .str))
noncomputable def run9 : inst9.F := fun x _ => chanceryref2_Runes x.1
noncomputable def fx9 : Ctx := fx14.add 9 (inst9.sem run9)
theorem fx9_ok : CtxOK fx9 Tryd.prog := fn_put fx14_ok feMixed 9 Tryd.f9 [.tmp 2] (sq rz (sq rz (sq (bk (.loop [(0, KA3), (3, (.own 12)), (100012, (.vec none .str))] [((.exit 0), [(3, (.own 14)), (100014, (.vec none .str))])] (sq (sq rz (cn lf lf)) (bk (sq rz (sq (.cut [(.normal, [(3, (.own 13)), (5, KA1), (100013, (.vec none .str))])] (sq rz (cn rz lf))) (sq (rg [{}, {}, {}, {}, (nw 10), { rd := [10], wr := [13], new := [11] }]) rz))))))) (sq rz lf)))) inst9 25 run9 Tryd.func9 (by kernel_rfl) Tryd.ntmps9 (by kernel_rfl) (by intro x y; kernel_rfl) Tryd.call9
def inst8 : Inst := mk1 [(.val (.sl .str)), (.val (.sl .str))] KA2
noncomputable def run8 : inst8.F := fun x _ => chanceryref2_matches x.1 x.2.1
noncomputable def fx8 : Ctx := fx9.add 8 (inst8.sem run8)
theorem fx8_ok : CtxOK fx8 Tryd.prog := fn_put fx9_ok feMixed 8 Tryd.f8 [.tmp 4] (sq rz (sq (rg [{}, {}, {}, (nw 10)]) (sq (rg [{}, (rd 10), (wr 10)]) (sq (bk (.loop [(0, (.val (.sl .str))), (5, (.own 11)), (100011, (.vec none .bool))] [((.exit 0), [(5, (.own 32)), (100032, (.vec none .bool))])] (sq (sq rz (cn lf lf)) (bk (sq (rg [{}, {}, {}, (nw 12)]) (sq rz (sq rz (sq (.cut [(.normal, [(5, (.own 13)), (6, (.own 14)), (8, KA2), (100013, (.vec none .bool)), (100014, (.vec none .bool))])] rz) (sq (.cut [(.normal, [(0, (.val (.sl .str))), (5, (.own 15)), (6, (.own 16)), (7, KA3), (100015, (.vec none .bool)), (100016, (.vec none .bool))])] (sq rz (cn (sq rz rz) lf))) (sq (.cut [(.normal, [(6, (.own 31)), (100031, (.vec none .bool))])] (sq (.cut [(.normal, [(5, (.own 17)), (6, (.own 18)), (66, KA2), (100017, (.vec none .bool)), (100018, (.vec none .bool))])] rz) (cn (sq rz (sq (rg [{}, (rd 18)]) (bk (.loop [(5, (.own 19)), (6, (.own 20)), (9, KA2), (69, KA1), (100019, (.vec none .bool)), (100020, (.vec none .bool))] [((.exit 2), [(6, (.own 23)), (100023, (.vec none .bool))])] (sq rz (sq (cn lf lf) (sq (bk (sq rz (sq (.cut [(.normal, [(5, (.own 21)), (6, (.own 22)), (9, KA2), (100021, (.vec none .bool)), (100022, (.vec none .bool))])] (rg [{}, {}, {}, {}, (rd 19), (rd 19)])) (rg [{}, {}, {}, (rd 22), (wr 22)])))) rz))))))) (sq rz (bk (.loop [(5, (.own 24)), (6, (.own 25)), (86, KA1), (100024, (.vec none .bool)), (100025, (.vec none .bool))] [((.exit 4), [(6, (.own 30)), (100030, (.vec none .bool))])] (sq rz (sq (cn lf lf) (sq (.cut [(.normal, [(5, (.own 28)), (6, (.own 29)), (100028, (.vec none .bool)), (100029, (.vec none .bool))])] (bk (sq rz (sq (.cut [(.normal, [(5, (.own 26)), (6, (.own 27)), (108, KA2), (100026, (.vec none .bool)), (100027, (.vec none .bool))])] (rg [{}, {}, (rd 24), (rd 24)])) (cn (rg [{}, {}, {}, (rd 27), (wr 27)]) lf))))) rz))))))))) rz)))))))))) (sq (rg [{}, {}, {}, (rd 32), (rd 32)]) lf))))) inst8 120 run8 Tryd.func8 (by kernel_rfl) Tryd.ntmps8 (by kernel_rfl) (by intro x y; kernel_rfl) Tryd.call8
def inst5 : Inst := mk1 [KA3, KA3] KA2
noncomputable def run5 : inst5.F := fun x _ => chanceryref2_Matches x.1 x.2.1
noncomputable def fx5 : Ctx := fx8.add 5 (inst5.sem run5)
theorem fx5_ok : CtxOK fx5 Tryd.prog := fn_put fx8_ok feMixed 5 Tryd.f5 [.tmp 4] (sq rz (sq rz lf)) inst5 12 run5 Tryd.func5 (by kernel_rfl) Tryd.ntmps5 (by kernel_rfl) (by intro x y; kernel_rfl) Tryd.call5
def inst3 : Inst := mk1 [KA3, KA3] KA2
def hint3 : HC := (sq rz (sq (sq (.cut [(.normal, [(9, KA2)])] rz) (cn (sq rz lf) lf)) (sq rz (sq rz lf))))
noncomputable def run3 : inst3.F := fun x _ => chancerylaw2_FtextPatternsMatch x.1 x.2.1
theorem ok3 : FnOK Tryd.prog fx5.glob 3 (inst3.sem run3) :=
  fn_add fx5_ok feMixed 3 Tryd.f3 [.tmp 4] hint3 inst3 27 run3 Tryd.func3 (by kernel_rfl) Tryd.ntmps3 (by kernel_rfl) (by kernel_rfl) (by intro x y; kernel_rfl)
noncomputable def fx3 : Ctx := fx5.add 3 (inst3.sem run3)
theorem fx3_ok : CtxOK fx3 Tryd.prog := add_ok fx5_ok ok3 Tryd.call3
end Go.Proofs.YthkpkdaeblgbdaaDoor
