/- The law of the checksum holds of the program for every input: no condition. -/
import Derived.Test.YtmnegopgidckoaaLaw
import Derived.Test.YtmnegopgidckoaaRows
namespace Go.Proofs.Ytmnegopgidckoaa
open Go Go.Fe Go.ChangeShapes Go.WideShapes Go.ChangeAt Go.RowKit

theorem Try.own : ownKnob Try.prog.godebug = none := by kernel_rfl
theorem Try.laidOut : laidOutB Try.prog = true := by kernel_rfl

set_option maxRecDepth 100000 in
theorem lifted (os : Os) (started : os.Started) (H : Type) (enc : TypeId × Value → H) :
    ReturnsInHanded {} Try.checked os 3 .any (Rows.parcelSumMatchesSpec.pre6 enc Try.prog Try.f3 Rows.parcelSumMatchesRow.domain false) (Rows.parcelSumMatchesSpec.post enc Try.prog Try.f3 false true false false) := by
  refine returnsInHanded_of_change (C := Try.checked) Try.own started (by kernel_rfl) Try.func3
    (ChangeSpec.witness6 (enc := enc) (C := Try.checked) false ⟨#[], #[.string ⟨#[]⟩], []⟩ 8 (by kernel_rfl) (by kernel_rfl) (by kernel_rfl) (by kernel_rfl)) ?_
  intro W base args ds gs before hval0 hW hcnd _
  exact law_calls (P := Try.prog) rfl ok3 [(.str, 9)] (by kernel_rfl) (by kernel_rfl) Try.laidOut (B := 4) (by kernel_rfl) (by kernel_rfl)
    (fun ds h => by
      match ds, h with
      | [d], _ => rfl)
    (fun _ _ h => by cases h)
    (fun x hx => ⟨_, _, _, _, _, rfl, law x.1 hx.1, rfl⟩)
    hval0 hW

theorem ParcelSumMatches_holds : Rows.ParcelSumMatchesSaid :=
  OpenClaim.holds_of_wide 3 Try.f3 rfl rfl rfl rfl rfl rfl rfl ⟨rfl, rfl, rfl, rfl, rfl⟩ rfl rfl rfl rfl rfl (by kernel_rfl) Try.func3 (by kernel_rfl)
    (of_decide_eq_true (by kernel_rfl)) (by unfold Func.isWrapper; first | (rw [if_pos (by decide +kernel)]; kernel_rfl) | (rw [if_neg (by decide +kernel)]; exact ⟨rfl, rfl⟩))
    (fun os started H enc _ => lifted os started H enc)
#print axioms ParcelSumMatches_holds
end Go.Proofs.Ytmnegopgidckoaa
