import Derived.Test.YtfbnnjmhlkafiaaDoorLawB
namespace Go.Proofs.YtfbnnjmhlkafiaaDoor
open Go Go.Fe

theorem columnLetters_law (a0 : Int) (a1 : Str) (h : a1.length ≤ 1048576) : chancerylaw2_RefColumnLetters a0 a1 = some (true, ()) := by
  have hl : a1.length < 1099511627776 := by omega
  have h7 : ((7 : Int) < (a1.length : Int)) ↔ 7 < a1.length := by omega
  have hcol : a1 ≠ [] → a1.length ≤ 7 → a1.all isLetter = true → chanceryref2_Column a1 = some ((number a1 : Int) - 1, ()) := RColumn_eq
  have hnum : (1073741824 ≤ (number a1 : Int) - 1) ↔ 1073741824 < number a1 := by omega
  have ha : (0 ≤ a0 ∧ a0 < 1073741824) ∨ (¬ (0 ≤ a0 ∧ a0 < 1073741824) ∧ (a0 < 0 ∨ 1073741824 ≤ a0)) := by omega
  simp only [chancerylaw2_RefColumnLetters, refs_true, Letters_eq, Column_eq, Plain_eq hl, RPlain_eq hl, RAll_eq hl, Option.bind_some, Bool.not_true, cond_false]
  generalize isPlain a1 = pl
  rcases ha with h0 | ⟨h0, h1⟩
  · obtain ⟨n, rfl⟩ := Int.eq_ofNat_of_zero_le h0.1
    have e := RLetters_eq (n := n) (by omega)
    have b1 : ¬ ((n : Int) < 0) := by omega
    have b2 : ¬ ((1073741824 : Int) ≤ (n : Int)) := by omega
    by_cases c0 : a1 = []
    · simp [h0, b1, b2, e, c0]
    by_cases c8 : 7 < a1.length
    · simp [h0, b1, b2, e, c0, h7, c8]
    cases hal : a1.all isLetter with
    | false => simp [h0, b1, b2, e, c0, h7, c8]
    | true =>
      rw [hcol c0 (by omega) hal]
      by_cases hb : 1073741824 < number a1 <;> simp [h0, b1, b2, e, c0, h7, c8, hnum, hb]
  · have b : (a0 < 0 ∧ a0 < 0) ∨ (¬ a0 < 0 ∧ 1073741824 ≤ a0) := by omega
    rcases b with ⟨b, b'⟩ | ⟨b, b'⟩
    all_goals
      by_cases c0 : a1 = []
      · simp [h0, b, b', c0]
      by_cases c8 : 7 < a1.length
      · simp [h0, b, b', c0, h7, c8]
      cases hal : a1.all isLetter with
      | false => simp [h0, b, b', c0, h7, c8]
      | true =>
        rw [hcol c0 (by omega) hal]
        by_cases hb : 1073741824 < number a1 <;> simp [h0, b, b', c0, h7, c8, hnum, hb]
end Go.Proofs.YtfbnnjmhlkafiaaDoor
