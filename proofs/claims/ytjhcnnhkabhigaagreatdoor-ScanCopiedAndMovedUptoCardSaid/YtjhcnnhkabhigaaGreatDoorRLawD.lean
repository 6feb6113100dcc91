import Derived.Test.YtjhcnnhkabhigaaGreatDoorRLawC
namespace Go.Proofs.YtjhcnnhkabhigaaGreatDoor
open Go Go.Fe

/-! ### Words -/
def brk (s : Str) (n : Nat) : Nat := brkP (s.drop n) (s.drop n).length 0 0
theorem brk_le {s : Str} {n : Nat} (h : n ≤ s.length) : n + brk s n ≤ s.length := by
  have := brkP_le (s.drop n) (s.drop n).length 0 0
  unfold brk
  simp at *
  omega
def dollarP (name : Str) : Bool := decide (0 ≤ Lib.indexByte name 36)
noncomputable def tailG (s : Str) (n : Nat) : Nat × Nat := if 0 < areaP s n then (4, areaP s n) else (5, if dollarP (s.take n) = true then 0 else n)
noncomputable def wordG (s : Str) (n : Nat) : Nat × Nat :=
  if n < s.length ∧ s.getD n 0 = 33 ∧ isPlain (s.take n) = true then (4, sheetedP s n)
  else if n < s.length ∧ s.getD n 0 = 40 ∧ dollarP (s.take n) = false then (6, n)
  else if n < s.length ∧ s.getD n 0 = 91 ∧ dollarP (s.take n) = false then (7, if brk s n = 0 then 0 else n + brk s n)
  else tailG s n
noncomputable def wordP (s : Str) : Nat × Nat := wordG s (runP isWordly s)
theorem tailG_le {s : Str} {n : Nat} (h : n ≤ s.length) : (tailG s n).2 ≤ s.length := by
  have := areaP_le h
  unfold tailG
  split
  · exact this
  · dsimp only
    split <;> omega
theorem wordP_le (s : Str) : (wordP s).2 ≤ s.length := by
  have r1 := runP_le isWordly s
  have := brk_le r1
  have := tailG_le r1
  have := sheetedP_le (s := s) (n := runP isWordly s)
  unfold wordP wordG
  split
  · assumption
  · split
    · exact r1
    · split
      · dsimp only
        split <;> omega
      · assumption
abbrev out2 (p : Nat × Nat) : Option (Int × (Int × Unit)) := some ((p.1 : Int), (p.2 : Int), ())

theorem fword_eq {s : Str} (hs : s.length ≤ 1000000) : fscan_word s = out2 (wordP s) := by
  have hl : s.length < 1099511627776 := by omega
  have r1 := runP_le isWordly s
  unfold fscan_word wordP
  rw [run_wordly_eq hl, Option.bind_some]
  dsimp only
  generalize runP isWordly s = n at *
  rw [cut_to r1, Option.bind_some]
  have hC : strings_Contains (s.take n) [36] = some (dollarP (s.take n), ()) := rfl
  have ht : (s.take n).length < 1099511627776 := by simp; omega
  have hd : (s.drop n).length ≤ 1000000 := by simp; omega
  have hT : ((fscan_area s (n : Int)).bind fun v13 =>
  cond (decide (0 < v13.1))
  (some (4, v13.1, ()))
  (cond (!dollarP (s.take n))
  (some (5, (n : Int), ()))
  (some (5, 0, ()))) : Option (Int × (Int × Unit))) = out2 (tailG s n) := by
    rw [area_eq hs r1, Option.bind_some]
    unfold tailG
    by_cases h : 0 < areaP s n
    · rw [if_pos h]
      have c : (0 : Int) < (areaP s n : Int) := by omega
      simp only [c, decide_true, cond_true]
      rfl
    · rw [if_neg h]
      have c : ¬(0 : Int) < (areaP s n : Int) := by omega
      simp only [c, decide_false, cond_false]
      cases dollarP (s.take n) <;> rfl
  by_cases h : n < s.length
  · have c : (n : Int) < (s.length : Int) := by omega
    have e1 : decide (ofByte (s.getD n 0) = 33) = decide (s.getD n 0 = 33) := byte_dec _ 33 (by omega)
    have e2 : decide (ofByte (s.getD n 0) = 40) = decide (s.getD n 0 = 40) := byte_dec _ 40 (by omega)
    have e3 : decide (ofByte (s.getD n 0) = 91) = decide (s.getD n 0 = 91) := byte_dec _ 91 (by omega)
    simp only [c, decide_true, cond_true, idx_get h, Option.bind_some, hC, Plain_eq ht, e1, e2, e3]
    by_cases g1 : s.getD n 0 = 33
    · have g2 : ¬s.getD n 0 = 40 := by rw [g1]; decide
      have g3 : ¬s.getD n 0 = 91 := by rw [g1]; decide
      simp only [decide_eq_true g1, decide_eq_false g2, decide_eq_false g3, cond_true, cond_false, Option.bind_some]
      cases gp : isPlain (s.take n) with
      | true =>
        rw [cond_true, sheeted_eq hs n (by omega), Option.bind_some, wordG, if_pos ⟨h, g1, gp⟩]
        rfl
      | false =>
        rw [cond_false, hT, wordG, if_neg (fun g => by rw [gp] at g; exact Bool.noConfusion g.2.2), if_neg (fun g => g2 g.2.1), if_neg (fun g => g3 g.2.1)]
    · have w1 : ¬(n < s.length ∧ s.getD n 0 = 33 ∧ isPlain (s.take n) = true) := fun g => g1 g.2.1
      by_cases g2 : s.getD n 0 = 40
      · have g3 : ¬s.getD n 0 = 91 := by rw [g2]; decide
        simp only [decide_eq_false g1, decide_eq_true g2, decide_eq_false g3, cond_true, cond_false, Option.bind_some]
        cases gd : dollarP (s.take n) with
        | true =>
          rw [gd] at hT
          rw [Bool.not_true, cond_false]
          rw [Bool.not_true] at hT
          rw [hT, wordG, if_neg w1, if_neg (fun g => by rw [gd] at g; exact Bool.noConfusion g.2.2), if_neg (fun g => g3 g.2.1)]
        | false =>
          rw [Bool.not_false, cond_true, wordG, if_neg w1, if_pos ⟨h, g2, gd⟩]
          rfl
      · have w2 : ¬(n < s.length ∧ s.getD n 0 = 40 ∧ dollarP (s.take n) = false) := fun g => g2 g.2.1
        by_cases g3 : s.getD n 0 = 91
        · simp only [decide_eq_false g1, decide_eq_false g2, decide_eq_true g3, cond_true, cond_false, Option.bind_some]
          cases gd : dollarP (s.take n) with
          | true =>
            rw [gd] at hT
            rw [Bool.not_true, cond_false]
            rw [Bool.not_true] at hT
            rw [hT, wordG, if_neg w1, if_neg w2, if_neg (fun g => by rw [gd] at g; exact Bool.noConfusion g.2.2)]
          | false =>
            rw [Bool.not_false, cond_true, cut_from r1, Option.bind_some, brackets_eq hd, Option.bind_some, wordG, if_neg w1, if_neg w2, if_pos ⟨h, g3, gd⟩]
            have hb := brk_le r1
            unfold brk at *
            generalize brkP (s.drop n) (s.drop n).length 0 0 = k at *
            by_cases hk : k = 0
            · subst hk
              rfl
            · have ck : (0 : Int) < (k : Int) := by omega
              simp only [ck, decide_true, cond_true, wadd (show n + k < 9223372036854775808 by omega), if_neg hk]
              rfl
        · simp only [decide_eq_false g1, decide_eq_false g2, decide_eq_false g3, cond_false, Option.bind_some]
          rw [hT, wordG, if_neg w1, if_neg w2, if_neg (fun g => g3 g.2.1)]
  · have c : ¬(n : Int) < (s.length : Int) := by omega
    simp only [c, decide_false, cond_false, Option.bind_some, hC, show decide ((0 : Int) = 33) = false from by decide, show decide ((0 : Int) = 40) = false from by decide, show decide ((0 : Int) = 91) = false from by decide]
    rw [hT, wordG, if_neg (fun g => h g.1), if_neg (fun g => h g.1), if_neg (fun g => h g.1)]

theorem rword_eq {s : Str} (hs : s.length ≤ 1000000) : chanceryref2_wordToken s = out2 (wordP s) := by
  have hl : s.length < 1099511627776 := by omega
  have r1 := runP_le isWordly s
  unfold chanceryref2_wordToken wordP
  rw [span_wordToken_1_eq hl, Option.bind_some]
  dsimp only
  generalize runP isWordly s = n at *
  rw [cut_to r1, Option.bind_some, cut_from r1, Option.bind_some]
  have ht : (s.take n).length < 1099511627776 := by simp; omega
  have hd : (s.drop n).length ≤ 1000000 := by simp; omega
  have hI : chanceryref2_Index (s.take n) 36 = some (Lib.indexByte (s.take n) 36, ()) := Index_eq ht 36
  rw [hI, Option.bind_some]
  dsimp only
  have hdl : decide (0 ≤ Lib.indexByte (s.take n) 36) = dollarP (s.take n) := rfl
  have hT : ((chanceryref2_longRef s (n : Int)).bind fun v22 =>
  cond (decide (0 < v22.1))
  (some (4, v22.1, ()))
  (cond (dollarP (s.take n))
  (some (5, 0, ()))
  (some (5, (n : Int), ()))) : Option (Int × (Int × Unit))) = out2 (tailG s n) := by
    rw [longRef_eq hs r1, Option.bind_some]
    unfold tailG
    by_cases h : 0 < areaP s n
    · rw [if_pos h]
      have c : (0 : Int) < (areaP s n : Int) := by omega
      simp only [c, decide_true, cond_true]
      rfl
    · rw [if_neg h]
      have c : ¬(0 : Int) < (areaP s n : Int) := by omega
      simp only [c, decide_false, cond_false]
      cases dollarP (s.take n) <;> rfl
  simp only [Has_eq, hit_one r1, Option.bind_some, RPlain_eq ht, hdl]
  by_cases h1 : n < s.length ∧ s.getD n 0 = 33
  · have h2 : ¬(n < s.length ∧ s.getD n 0 = 40) := fun g => by rw [h1.2] at g; exact absurd g.2 (by decide)
    have h3 : ¬(n < s.length ∧ s.getD n 0 = 91) := fun g => by rw [h1.2] at g; exact absurd g.2 (by decide)
    simp only [decide_eq_true h1, decide_eq_false h2, decide_eq_false h3, cond_true, cond_false, Option.bind_some]
    cases gp : isPlain (s.take n) with
    | true =>
      have hdr : ((s.drop n).drop 1).length < 1099511627776 := by simp; omega
      have hc : cut (s.drop n) 1 ((s.drop n).length : Int) = some ((s.drop n).drop 1) := cut_from (i := 1) (by simp; omega)
      have e : (s.drop n).drop 1 = s.drop (n + 1) := by rw [List.drop_drop]
      rw [cond_true, hc, Option.bind_some, span_refByte_eq hdr, Option.bind_some, e]
      dsimp only
      rw [second_eq hs h1.1, longRef_eq hs (side2_le h1.1), Option.bind_some, wordG, if_pos ⟨h1.1, h1.2, gp⟩, sheetedP, if_pos h1]
      rfl
    | false =>
      rw [cond_false, hT, wordG, if_neg (fun g => by rw [gp] at g; exact Bool.noConfusion g.2.2), if_neg (fun g => h2 ⟨g.1, g.2.1⟩), if_neg (fun g => h3 ⟨g.1, g.2.1⟩)]
  · have w1 : ¬(n < s.length ∧ s.getD n 0 = 33 ∧ isPlain (s.take n) = true) := fun g => h1 ⟨g.1, g.2.1⟩
    by_cases h2 : n < s.length ∧ s.getD n 0 = 40
    · have h3 : ¬(n < s.length ∧ s.getD n 0 = 91) := fun g => by rw [h2.2] at g; exact absurd g.2 (by decide)
      simp only [decide_eq_false h1, decide_eq_true h2, decide_eq_false h3, cond_true, cond_false, Option.bind_some]
      cases gd : dollarP (s.take n) with
      | true =>
        rw [gd] at hT
        rw [Bool.not_true, cond_false, hT, wordG, if_neg w1, if_neg (fun g => by rw [gd] at g; exact Bool.noConfusion g.2.2), if_neg (fun g => h3 ⟨g.1, g.2.1⟩)]
      | false =>
        rw [Bool.not_false, cond_true, wordG, if_neg w1, if_pos ⟨h2.1, h2.2, gd⟩]
        rfl
    · have w2 : ¬(n < s.length ∧ s.getD n 0 = 40 ∧ dollarP (s.take n) = false) := fun g => h2 ⟨g.1, g.2.1⟩
      by_cases h3 : n < s.length ∧ s.getD n 0 = 91
      · simp only [decide_eq_false h1, decide_eq_false h2, decide_eq_true h3, cond_true, cond_false, Option.bind_some]
        cases gd : dollarP (s.take n) with
        | true =>
          rw [gd] at hT
          rw [Bool.not_true, cond_false, hT, wordG, if_neg w1, if_neg w2, if_neg (fun g => by rw [gd] at g; exact Bool.noConfusion g.2.2)]
        | false =>
          have hb := (rbrackets_loop (s := s.drop n) hd (n := n) (by omega) (s.drop n).length 0 0 (by omega) (by omega) (by omega) (by omega)).loop (by omega)
          have hw : wordG s n = (7, if brk s n = 0 then 0 else n + brk s n) := by rw [wordG, if_neg w1, if_neg w2, if_pos ⟨h3.1, h3.2, gd⟩]
          rw [Bool.not_false, cond_true, hw]
          unfold brk
          by_cases hk : brkP (s.drop n) (s.drop n).length 0 0 = 0
          · rw [if_pos hk] at hb
            erw [hb]
            rw [if_pos hk]
            rfl
          · rw [if_neg hk] at hb
            erw [hb]
            rw [if_neg hk]
            rfl
      · simp only [decide_eq_false h1, decide_eq_false h2, decide_eq_false h3, cond_false, Option.bind_some]
        rw [hT, wordG, if_neg w1, if_neg w2, if_neg (fun g => h3 ⟨g.1, g.2.1⟩)]
end Go.Proofs.YtjhcnnhkabhigaaGreatDoor
