import Derived.Test.YtmbejoibeninmaaGreatDoorLawD
import Derived.Test.YtmbejoibeninmaaGreatDoorRLawS
namespace Go.Proofs.YtmbejoibeninmaaGreatDoor
open Go Go.Fe

/-! ### Texts -/
def okC (c : Int) : Bool := decide (c = 9 ∨ c = 10 ∨ (32 ≤ c ∧ c ≤ 126) ∨ (160 ≤ c ∧ c < 55296) ∨ (57344 ≤ c ∧ c ≤ 1114111))
theorem rChar_eq (c : Int) : chanceryref2_Char c = some (okC c, ()) := by
  unfold chanceryref2_Char okC
  by_cases h1 : c = 9
  · simp [h1]
  by_cases h2 : c = 10
  · simp [h2]
  by_cases h3 : 32 ≤ c <;> by_cases h4 : c ≤ 126 <;> by_cases h5 : 160 ≤ c <;> by_cases h6 : c < 55296 <;> by_cases h7 : 57344 ≤ c <;> by_cases h8 : c ≤ 1114111 <;> simp [h1, h2, h3, h4, h5, h6, h7, h8] <;> omega
theorem Char_eq (c : Int) : flow_Char c = some (okC c, ()) := by
  rw [← rChar_eq]
  unfold flow_Char chanceryref2_Char
  have e1 : decide (c < 127) = decide (c ≤ 126) := by simp; omega
  have e2 : decide (57343 < c) = decide (57344 ≤ c) := by simp; omega
  rw [e1, e2]
theorem rune_n {s : Str} (h : s ≠ []) : 1 ≤ (runeOf s).2 ∧ (runeOf s).2 ≤ s.length ∧ (runeOf s).1 ≤ 1114111 := by
  rw [runeOf_eq h]
  have hl : 0 < s.length := List.length_pos_iff.2 h
  unfold Lib.decodeN
  repeat' split
  all_goals (simp only; omega)
def badRune (s : Str) : Bool := decide (runeOf s = (65533, 1)) || !okC ((runeOf s).1 : Nat)
theorem text_step {s : Str} (h : s ≠ []) : value_text_l1 (s, ()) = some (bif badRune s then .inr (.inr (23, ())) else .inl (s.drop (runeOf s).2, ())) := by
  obtain ⟨h1, h2, h3⟩ := rune_n h
  unfold value_text_l1 badRune sRune
  have hc : cut s ((runeOf s).2 : Nat) (s.length : Int) = some (s.drop (runeOf s).2) := by
    rw [cut_nat h2 (Nat.le_refl _), List.take_length]
  rw [decide_eq_false h, Bool.not_false, cond_true, Option.bind_some]
  simp only [Char_eq, hc, wrap_i64 (by omega : (-9223372036854775808 : Int) ≤ ((runeOf s).1 : Nat)) (by omega), Option.bind_some]
  by_cases a : (runeOf s).1 = 65533
  · by_cases b : (runeOf s).2 = 1
    · rw [decide_eq_true (by rw [a]; rfl), cond_true, decide_eq_true (by rw [b]; rfl), cond_true, Option.bind_some, cond_true, decide_eq_true (Prod.ext a b), Bool.true_or, cond_true]
    · rw [decide_eq_true (by rw [a]; rfl), cond_true, decide_eq_false (show ¬ (((runeOf s).2 : Nat) : Int) = 1 from by omega), cond_false, Option.bind_some, decide_eq_false (fun e => b (congrArg Prod.snd e)), Bool.false_or, cond_some']
  · rw [decide_eq_false (show ¬ (((runeOf s).1 : Nat) : Int) = 65533 from by omega), cond_false, Option.bind_some, decide_eq_false (fun e => a (congrArg Prod.fst e)), Bool.false_or, cond_some']
theorem rtext_step {s : Str} (h : s ≠ []) : chanceryref2_TextError_l1 (s, ()) = some (bif badRune s then .inr (.inr (23, ())) else .inl (s.drop (runeOf s).2, ())) := by
  obtain ⟨h1, h2, h3⟩ := rune_n h
  unfold chanceryref2_TextError_l1 badRune
  have hc : cut s ((runeOf s).2 : Nat) (s.length : Int) = some (s.drop (runeOf s).2) := by
    rw [cut_nat h2 (Nat.le_refl _), List.take_length]
  rw [decide_eq_false h, Bool.not_false, cond_true, Rune_eq h, Option.bind_some]
  unfold runeR
  by_cases a : runeOf s = (65533, 1)
  · rw [if_pos a, decide_eq_true a, Bool.true_or, cond_true]
    rfl
  · rw [if_neg a, decide_eq_false a, Bool.false_or]
    simp only [rChar_eq, hc, Option.bind_some]
    rw [decide_eq_false (by omega), cond_false, Option.bind_some, cond_some']
def txtG : Nat → Str → Bool
  | 0, _ => true
  | k + 1, s => if s = [] then true else !badRune s && txtG k (s.drop (runeOf s).2)
def textErr (s : Str) : Int := if 32767 < s.length then 3 else if txtG s.length s = true then 0 else 23
theorem txt_halts {f : (Str × Unit) → Option ((Str × Unit) ⊕ (Unit ⊕ (Int × Unit)))} (hf : ∀ s, s ≠ [] → f (s, ()) = some (bif badRune s then .inr (.inr (23, ())) else .inl (s.drop (runeOf s).2, ())))
    (h0 : f ([], ()) = some (.inr (.inl ()))) : ∀ (k : Nat) (s : Str), s.length ≤ k → Halts f (k + 1) (s, ()) (bif txtG k s then .inl () else .inr (23, ()))
  | 0, s, hk => by
    have : s = [] := List.eq_nil_of_length_eq_zero (by omega)
    subst this
    exact Halts.done h0
  | k + 1, s, hk => by
    by_cases h : s = []
    · subst h
      exact Halts.done h0
    · have hs := hf s h
      have hn := rune_n h
      simp only [txtG, if_neg h]
      cases hb : badRune s
      · rw [hb, cond_false] at hs
        rw [Bool.not_false, Bool.true_and]
        exact Halts.step hs (txt_halts hf h0 k _ (by rw [List.length_drop]; omega))
      · rw [hb, cond_true] at hs
        exact Halts.done hs
theorem TextErr_eq (s : Str) : value_text s = some (textErr s, ()) := by
  unfold value_text textErr
  by_cases h : 32767 < s.length
  · rw [decide_eq_true (by omega), cond_true, if_pos h]
  · rw [decide_eq_false (by omega), cond_false, if_neg h, (txt_halts (fun s hs => text_step hs) rfl s.length s (Nat.le_refl _)).loop (by omega), Option.bind_some]
    cases txtG s.length s <;> rfl
theorem rTextErr_eq (s : Str) : chanceryref2_TextError s = some (textErr s, ()) := by
  unfold chanceryref2_TextError textErr
  by_cases h : 32767 < s.length
  · rw [decide_eq_true (by omega), cond_true, if_pos h]
  · rw [decide_eq_false (by omega), cond_false, if_neg h, (txt_halts (fun s hs => rtext_step hs) rfl s.length s (Nat.le_refl _)).loop (by omega), Option.bind_some]
    cases txtG s.length s <;> rfl

/-! ### Error values -/
def fts : List Str := [[], [35, 68, 73, 86, 47, 48, 33], [35, 86, 65, 76, 85, 69, 33], [35, 82, 69, 70, 33], [35, 78, 65, 77, 69, 63], [35, 78, 85, 77, 33], [35, 78, 47, 65], [35, 83, 80, 73, 76, 76, 33], [35, 67, 89, 67, 76, 69, 33]]
def ftext (c : Int) : Str := if c < 1 ∨ 8 < c then [] else fts.getD c.toNat []
theorem rFaultText_eq (c : Int) : chanceryref2_FaultText c = some (ftext c, ()) := by
  unfold chanceryref2_FaultText ftext
  by_cases h : c < 1
  · simp [h]
  by_cases h' : 8 < c
  · simp [h, h']
  · have : c = 1 ∨ c = 2 ∨ c = 3 ∨ c = 4 ∨ c = 5 ∨ c = 6 ∨ c = 7 ∨ c = 8 := by omega
    rcases this with rfl | rfl | rfl | rfl | rfl | rfl | rfl | rfl <;> rfl
theorem FaultText_eq (c : Int) : value_FaultText c = some (ftext c, ()) := by
  rw [← rFaultText_eq]
  unfold value_FaultText chanceryref2_FaultText
  have e2 : decide (9 ≤ c) = decide (8 < c) := by simp; omega
  rw [e2]
end Go.Proofs.YtmbejoibeninmaaGreatDoor
