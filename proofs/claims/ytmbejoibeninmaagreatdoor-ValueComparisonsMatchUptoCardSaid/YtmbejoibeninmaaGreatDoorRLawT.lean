import Derived.Test.YtmbejoibeninmaaGreatDoorRLawR
namespace Go.Proofs.YtmbejoibeninmaaGreatDoor
open Go Go.Fe

/-! ### Whole numbers -/
theorem itoa_abs (p : Int) : Lib.itoa p = bif decide (p < 0) then 45 :: txt p.natAbs else txt p.natAbs := by
  unfold Lib.itoa
  by_cases h : p < 0
  · rw [if_pos h, decide_eq_true h]
    rfl
  · rw [if_neg h, decide_eq_false h, show p.toNat = p.natAbs by omega]
    rfl
theorem sItoa_eq {p : Int} (h : -9223372036854775808 ≤ p) (h' : p ≤ 9223372036854775807) : sItoa (no_index (p, ())) = some (Lib.itoa p, ()) := by
  unfold sItoa
  rw [if_pos ⟨h, h'⟩]
theorem dl_i64 {p : Int} (h : -9223372036854775808 ≤ p) (h' : p ≤ 9223372036854775807) : dl p.natAbs ≤ 19 := dl_le.2 (by omega)
theorem Of_eq {p : Int} (h1 : -9223372036854775808 ≤ p) (h2 : p ≤ 9223372036854775807) : exact_Of p = some ((fracOut (decide (p < 0)) p.natAbs 1).1, ()) ∧ (fracOut (decide (p < 0)) p.natAbs 1).2.1 = 0 := by
  have dp := dl_i64 h1 h2
  have d1 : dl 1 = 1 := dl_ten 0
  unfold exact_Of fracOut
  rw [sItoa_eq h1 h2, Option.bind_some]
  dsimp only
  by_cases h0 : p.natAbs = 0
  · have : p = 0 := by omega
    subst this
    rw [if_pos h0, itoa_abs]
    refine ⟨?_, rfl⟩
    rw [decide_eq_false (by omega), cond_false, txt, decDigits_small (by omega)]
    rfl
  · rw [if_neg h0, Nat.gcd_one_right, Nat.div_one, Nat.div_one, if_neg (by omega), itoa_abs]
    refine ⟨?_, rfl⟩
    rw [show txt 1 = [49] from (txt_one_iff 1).2 rfl]
/-! ### Powers -/
end Go.Proofs.YtmbejoibeninmaaGreatDoor
