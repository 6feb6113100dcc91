/- The row and the card of MarkupRefuses (its second form), out of the law of its plain function. Printed by a program. -/
import Derived.Test.YtmnpchoocaiegaaGreatDoorRowBase
namespace Go.Proofs.YtmnpchoocaiegaaGreatDoor.MarkupRefuses
open Go Go.Fe Go.ChangeShapes Go.WideShapes Go.ChangeAt Go.RowKit

/-- What the initialisers lay, and the library's own table. -/
noncomputable def world (os : Os) : World :=
  let w0 := World.doorLaid Tryz.prog 400 os
  { w0 with heap := w0.heap.modify 1 fun
      | .cells _ t frozen => .cells (Go.Pinned.utf8FirstZ.map fun z => Value.int .u8 (z : Nat)).toArray t frozen
      | o => o }
theorem laid_met (os : Os) (args : Array Value) : laidMet Tryz.prog Rows.markupRefusesUptoRow.laid ((world os).forCall (fun _ _ => 0) ⟨#[], args, []⟩).memory :=
  laidMet_of_run' 8 (by kernel_rfl) (by kernel_rfl)
theorem plainLaid : (Rows.markupRefusesUptoRow.laid.all fun x => x.2.handleName?.isNone) = true := by kernel_rfl
theorem globs {W : World} (hL : laidMetH Tryz.prog Rows.markupRefusesUptoRow.laid W) (hS : W.ShapedOpen Tryz.prog) : GlobF fe0.glob (heapF W) := by
  show GlobF (globOf [(1, ⟨(.arr 256 (.int .u8)), some runeFirst⟩), (2, ⟨(.arr 16 (.pair (.int .u8) (.pair (.int .u8) .unit))), some runeAccept⟩), (3, ⟨(.arr 20 (.int .u64)), some Lib.pow10Tab⟩), (4, ⟨(.int .i64), none⟩), (5, ⟨.err, some true⟩), (6, ⟨.err, some true⟩)]) (heapF W)
  exact globOf_ok ⟨glob_laid plainLaid hL "unicode/utf8.first" Rows.laid_unicode_utf8_first (by kernel_rfl) (g := 1) (t := (.arr 256 (.int .u8))) (T := 307) (runeFirst) (by kernel_rfl) (by kernel_rfl) (by kernel_rfl) (by kernel_rfl), glob_laid plainLaid hL "unicode/utf8.acceptRanges" Rows.laid_unicode_utf8_acceptRanges (by kernel_rfl) (g := 2) (t := (.arr 16 (.pair (.int .u8) (.pair (.int .u8) .unit)))) (T := 310) (runeAccept) (by kernel_rfl) (by kernel_rfl) (by kernel_rfl) (by kernel_rfl), glob_laid plainLaid hL "internal/strconv.uint64pow10" Rows.laid_internal_strconv_uint64pow10 (by kernel_rfl) (g := 3) (t := (.arr 20 (.int .u64))) (T := 321) (Lib.pow10Tab) (by kernel_rfl) (by kernel_rfl) (by kernel_rfl) (by kernel_rfl), glob_int hS (g := 4) (t := 3) (k := .i64) (zero := #[.int .i64 0]) (of_decide_eq_true (by kernel_rfl)) (by kernel_rfl) rfl (by kernel_rfl) (by kernel_rfl) (by kernel_rfl), glob_laid plainLaid hL "strconv.ErrSyntax" Rows.laid_strconv_ErrSyntax (by kernel_rfl) (g := 5) (t := .err) (T := 104) (true) (by kernel_rfl) (by kernel_rfl) (by kernel_rfl) (by kernel_rfl), glob_laid plainLaid hL "strconv.ErrRange" Rows.laid_strconv_ErrRange (by kernel_rfl) (g := 6) (t := .err) (T := 104) (true) (by kernel_rfl) (by kernel_rfl) (by kernel_rfl) (by kernel_rfl), trivial⟩

/-- What the plain function must answer. -/
def Law : Prop := ∀ x : Tys.den [(.int .i64)], Tys.has _ x → Tys.bulk _ x ≤ 1048576 → run3 x () = some (true, ())

set_option maxRecDepth 100000 in
theorem lifted (law : Law) (os : Os) (started : os.Started) (H : Type) (enc : TypeId × Value → H) (F : Stop.Interp) :
    ReturnsInHanded {} Tryz.checked os 3 .any ((Rows.OpenSpec.upto Rows.markupRefusesSpec).preRow enc Tryz.prog Tryz.f3 Rows.markupRefusesUptoRow.domain false Rows.markupRefusesUptoRow.laid) (((Rows.OpenSpec.upto Rows.markupRefusesSpec).at F).post enc Tryz.prog Tryz.f3 false true false false) := by
  have hw : (DataW.whole enc Tryz.prog ((world os).forCall (fun _ _ => 0) ⟨#[], #[.int .i64 0], []⟩).memory Tryz.f3.params.toList Rows.markupRefusesSpec.vars false (#[.int .i64 0] : Array Value).toList 8).map (fun x => (x.1, x.2.1)) =
      some ([.lit (.int .i64 0)], []) := by kernel_rfl
  obtain ⟨⟨x1, x2, x3⟩, hx, hx1⟩ := Option.map_eq_some_iff.1 hw
  simp only [Prod.mk.injEq] at hx1
  obtain ⟨rfl, rfl⟩ := hx1
  refine returnsInHanded_of_row (C := Tryz.checked) (s := Rows.OpenSpec.upto Rows.markupRefusesSpec) own started (by kernel_rfl) Tryz.func3
    (witness_row_atRef (enc := enc) (C := Tryz.checked) false (world os) #[.int .i64 0] rfl (by kernel_rfl) (by kernel_rfl) (by kernel_rfl)
      (OpenSpec.preRow_of_cond 8 hx (by kernel_rfl) (fun k hk => by cases hk; kernel_rfl) (by kernel_rfl) (laid_met os _))) ?_
  intro W base args ds gs before hval hW _ hcond _ hL hS _
  have hb : Rows.uptoBulkAll (ds ++ gs) ≤ 1048576 := of_decide_eq_true (hcond _ rfl)
  have hb : Rows.uptoBulkAll ds ≤ 1048576 := Nat.le_trans (bulk_front bulk ds gs) hb
  exact law_calls (P := Tryz.prog) rfl ok3 [((.int .i64), 3)] (by kernel_rfl) (by kernel_rfl) laidOut (B := 4) (by kernel_rfl) (by kernel_rfl)
    (fun ds h => by
      match ds, h with
      | [_], _ => rfl)
    (globs hL hS)
    (fun x hx ht => ⟨_, _, _, _, _, rfl, law x hx (Nat.le_trans (told_bulk bulk _ _ _ ht) hb), rfl⟩)
    hval hW

theorem said (law : Law) : Rows.MarkupRefusesUptoSaid :=
  OpenClaim.holds_of_cond 3 Tryz.f3 rfl rfl rfl rfl rfl rfl rfl ⟨rfl, rfl, rfl, rfl, rfl⟩ rfl rfl rfl rfl rfl (by kernel_rfl) Tryz.func3 (by kernel_rfl)
    (of_decide_eq_true (by kernel_rfl)) (by unfold Func.isWrapper; first | (rw [if_pos (by decide +kernel)]; kernel_rfl) | (rw [if_neg (by decide +kernel)]; exact ⟨rfl, rfl⟩))
    (fun os started H enc _ F => by rw [OpenClaim.pre_eq_preRow]; exact lifted law os started H enc F)

theorem plain (f : FuncId) (fn : Func) (hf : Tryz.pinned.checked.prog.funcNamed "chancery/chancerylaw2.MarkupRefuses" = some f) (hfn : Tryz.pinned.checked.prog.funcs[f]? = some fn) :
    true = Tryz.pinned.checked.prog.looks [] ∧ ∀ (j : Nat) t, fn.params[j]? = some t → Tryz.pinned.checked.prog.wantsStandIn t = false := by
  obtain rfl : f = 3 := Option.some.inj ((show Tryz.prog.funcNamed "chancery/chancerylaw2.MarkupRefuses" = some 3 by kernel_rfl).symm.trans hf) |>.symm
  obtain rfl : fn = Tryz.f3 := (Option.some.inj (Tryz.func3.symm.trans hfn)).symm
  refine ⟨by kernel_rfl, fun j t ht => ?_⟩
  have hm : t ∈ Tryz.f3.params.toList := by simpa using Array.mem_of_getElem? ht
  have hall : (Tryz.f3.params.toList.all fun u => !Tryz.prog.wantsStandIn u) = true := by kernel_rfl
  exact (show Tryz.prog.wantsStandIn t = false by simpa using List.all_eq_true.1 hall t hm)

theorem card (law : Law) : Rows.MarkupRefusesUptoCardSaid :=
  Claim7.holds_tied_plain_at .later [] _ _ _ _ (said law) (fun _ h => by cases h) (by kernel_rfl) (fun _ h => by cases h) markupRefusesUpto_row_tie rfl ⟨rfl, rfl⟩ (by kernel_rfl) rfl plain (by kernel_rfl)
end Go.Proofs.YtmnpchoocaiegaaGreatDoor.MarkupRefuses
