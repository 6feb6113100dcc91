/- The row and the card of MarkedImportMatches (its second form), out of the law of its plain function. Printed by a program. -/
import Derived.Test.YtkjkjebmkmkgfaaDoorRowBase
namespace Go.Proofs.YtkjkjebmkmkgfaaDoor.MarkedImportMatches
open Go Go.Fe Go.ChangeShapes Go.WideShapes Go.ChangeAt Go.RowKit

/-- What the initialisers lay, and the library's own table. -/
noncomputable def world (os : Os) : World :=
  let w0 := World.doorLaid Tryd.prog 400 os
  { w0 with heap := w0.heap.modify 2 fun
      | .cells _ t frozen => .cells (Go.Pinned.utf8FirstZ.map fun z => Value.int .u8 (z : Nat)).toArray t frozen
      | o => o }
theorem laid_met (os : Os) (args : Array Value) : laidMet Tryd.prog Rows.markedImportMatchesUptoRow.laid ((world os).forCall (fun _ _ => 0) ⟨#[], args, []⟩).memory :=
  laidMet_of_run' 8 (by kernel_rfl) (by kernel_rfl)
theorem plainLaid : (Rows.markedImportMatchesUptoRow.laid.all fun x => x.2.handleName?.isNone) = true := by kernel_rfl
theorem globs {W : World} (hL : laidMetH Tryd.prog Rows.markedImportMatchesUptoRow.laid W) (hS : W.ShapedOpen Tryd.prog) : GlobF fe0.glob (heapF W) := by
  show GlobF (globOf [(0, ⟨(.arr 4 (.pair .str (.pair .str .unit))), some [([42, 42], [98, 111, 108, 100], ()), ([42], [105, 116, 97, 108, 105, 99], ()), ([126, 126], [115, 116, 114, 105, 107, 101], ()), ([96], [102, 105, 120, 101, 100], ())]⟩), (1, ⟨(.int .i64), none⟩), (2, ⟨(.arr 256 (.int .u8)), some runeFirst⟩), (3, ⟨(.arr 16 (.pair (.int .u8) (.pair (.int .u8) .unit))), some runeAccept⟩)]) (heapF W)
  exact globOf_ok ⟨glob_laid plainLaid hL "chancery/marked.toggles" Rows.laid_chancery_marked_toggles (by kernel_rfl) (g := 0) (t := (.arr 4 (.pair .str (.pair .str .unit)))) (T := 84) ([([42, 42], [98, 111, 108, 100], ()), ([42], [105, 116, 97, 108, 105, 99], ()), ([126, 126], [115, 116, 114, 105, 107, 101], ()), ([96], [102, 105, 120, 101, 100], ())]) (by kernel_rfl) (by kernel_rfl) (by kernel_rfl) (by kernel_rfl), glob_int hS (g := 1) (t := 3) (k := .i64) (zero := #[.int .i64 0]) (of_decide_eq_true (by kernel_rfl)) (by kernel_rfl) rfl (by kernel_rfl) (by kernel_rfl) (by kernel_rfl), glob_laid plainLaid hL "unicode/utf8.first" Rows.laid_unicode_utf8_first (by kernel_rfl) (g := 2) (t := (.arr 256 (.int .u8))) (T := 103) (runeFirst) (by kernel_rfl) (by kernel_rfl) (by kernel_rfl) (by kernel_rfl), glob_laid plainLaid hL "unicode/utf8.acceptRanges" Rows.laid_unicode_utf8_acceptRanges (by kernel_rfl) (g := 3) (t := (.arr 16 (.pair (.int .u8) (.pair (.int .u8) .unit)))) (T := 106) (runeAccept) (by kernel_rfl) (by kernel_rfl) (by kernel_rfl) (by kernel_rfl), trivial⟩

/-- What the plain function must answer. -/
def Law : Prop := ∀ x : Tys.den [.str], Tys.has _ x → Tys.bulk _ x ≤ 1048576 → run3 x () = some (true, ())

set_option maxRecDepth 100000 in
theorem lifted (law : Law) (os : Os) (started : os.Started) (H : Type) (enc : TypeId × Value → H) (F : Stop.Interp) :
    ReturnsInHanded {} Tryd.checked os 3 .any ((Rows.OpenSpec.upto Rows.markedImportMatchesSpec).preRow enc Tryd.prog Tryd.f3 Rows.markedImportMatchesUptoRow.domain false Rows.markedImportMatchesUptoRow.laid) (((Rows.OpenSpec.upto Rows.markedImportMatchesSpec).at F).post enc Tryd.prog Tryd.f3 false true false false) := by
  have hw : (DataW.whole enc Tryd.prog ((world os).forCall (fun _ _ => 0) ⟨#[], #[.string ⟨#[]⟩], []⟩).memory Tryd.f3.params.toList Rows.markedImportMatchesSpec.vars false (#[.string ⟨#[]⟩] : Array Value).toList 8).map (fun x => (x.1, x.2.1)) =
      some ([.lit (.string [])], []) := by kernel_rfl
  obtain ⟨⟨x1, x2, x3⟩, hx, hx1⟩ := Option.map_eq_some_iff.1 hw
  simp only [Prod.mk.injEq] at hx1
  obtain ⟨rfl, rfl⟩ := hx1
  refine returnsInHanded_of_row (C := Tryd.checked) (s := Rows.OpenSpec.upto Rows.markedImportMatchesSpec) own started (by kernel_rfl) Tryd.func3
    (witness_row_atRef (enc := enc) (C := Tryd.checked) false (world os) #[.string ⟨#[]⟩] rfl (by kernel_rfl) (by kernel_rfl) (by kernel_rfl)
      (OpenSpec.preRow_of_cond 8 hx (by kernel_rfl) (fun k hk => by cases hk; kernel_rfl) (by kernel_rfl) (laid_met os _))) ?_
  intro W base args ds gs before hval hW _ hcond _ hL hS _
  have hb : Rows.uptoBulkAll (ds ++ gs) ≤ 1048576 := of_decide_eq_true (hcond _ rfl)
  have hb : Rows.uptoBulkAll ds ≤ 1048576 := Nat.le_trans (bulk_front bulk ds gs) hb
  exact law_calls (P := Tryd.prog) rfl ok3 [(.str, 9)] (by kernel_rfl) (by kernel_rfl) laidOut (B := 4) (by kernel_rfl) (by kernel_rfl)
    (fun ds h => by
      match ds, h with
      | [_], _ => rfl)
    (globs hL hS)
    (fun x hx ht => ⟨_, _, _, _, _, rfl, law x hx (Nat.le_trans (told_bulk bulk _ _ _ ht) hb), rfl⟩)
    hval hW

theorem said (law : Law) : Rows.MarkedImportMatchesUptoSaid :=
  OpenClaim.holds_of_cond 3 Tryd.f3 rfl rfl rfl rfl rfl rfl rfl ⟨rfl, rfl, rfl, rfl, rfl⟩ rfl rfl rfl rfl rfl (by kernel_rfl) Tryd.func3 (by kernel_rfl)
    (of_decide_eq_true (by kernel_rfl)) (by unfold Func.isWrapper; first | (rw [if_pos (by decide +kernel)]; kernel_rfl) | (rw [if_neg (by decide +kernel)]; exact ⟨rfl, rfl⟩))
    (fun os started H enc _ F => by rw [OpenClaim.pre_eq_preRow]; exact lifted law os started H enc F)

theorem plain (f : FuncId) (fn : Func) (hf : Tryd.pinned.checked.prog.funcNamed "chancery/chancerylaw2.MarkedImportMatches" = some f) (hfn : Tryd.pinned.checked.prog.funcs[f]? = some fn) :
    false = Tryd.pinned.checked.prog.looks [] ∧ ∀ (j : Nat) t, fn.params[j]? = some t → Tryd.pinned.checked.prog.wantsStandIn t = false := by
  obtain rfl : f = 3 := Option.some.inj ((show Tryd.prog.funcNamed "chancery/chancerylaw2.MarkedImportMatches" = some 3 by kernel_rfl).symm.trans hf) |>.symm
  obtain rfl : fn = Tryd.f3 := (Option.some.inj (Tryd.func3.symm.trans hfn)).symm
  refine ⟨by kernel_rfl, fun j t ht => ?_⟩
  have hm : t ∈ Tryd.f3.params.toList := by simpa using Array.mem_of_getElem? ht
  have hall : (Tryd.f3.params.toList.all fun u => !Tryd.prog.wantsStandIn u) = true := by kernel_rfl
  exact (show Tryd.prog.wantsStandIn t = false by simpa using List.all_eq_true.1 hall t hm)

theorem card (law : Law) : Rows.MarkedImportMatchesUptoCardSaid :=
  Claim7.holds_tied_plain_at .later [] _ _ _ _ (said law) (fun _ h => by cases h) (by kernel_rfl) (fun _ h => by cases h) markedImportMatchesUpto_row_tie rfl ⟨rfl, rfl⟩ (by kernel_rfl) rfl plain (by kernel_rfl)
end Go.Proofs.YtkjkjebmkmkgfaaDoor.MarkedImportMatches
