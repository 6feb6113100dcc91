import Derived.Test.YtjhcnnhkabhigaaGreatDoorRLawG
namespace Go.Proofs.YtjhcnnhkabhigaaGreatDoor
open Go Go.Fe

/-! ### What a token that is a reference holds -/
theorem areaP_good {s : Str} {n : Nat} (h : areaP s n ≠ 0) : isR (s.take (areaP s n)) = true := by
  unfold areaP at h ⊢
  split
  · rename_i g; exact g.2.2
  · rename_i g
    rw [if_neg g] at h
    split
    · assumption
    · rename_i g'
      rw [if_neg g'] at h
      exact absurd rfl h
theorem sheetedP_good {s : Str} {n : Nat} (h : sheetedP s n ≠ 0) : isR (s.take (sheetedP s n)) = true := by
  unfold sheetedP at h ⊢
  split
  · rename_i g
    rw [if_pos g] at h
    exact areaP_good h
  · rename_i g
    rw [if_neg g] at h
    exact absurd rfl h
theorem rowsP_good {s : Str} (h : rowsP s ≠ 0) : isR (s.take (rowsP s)) = true := by
  unfold rowsP at h ⊢
  split
  · rename_i g; exact g.2.2
  · rename_i g
    rw [if_neg g] at h
    exact absurd rfl h
theorem kRef_good : isR kRef = true := by
  have h : cellref_Parse kRef = some (Gone, 0, ()) := by kernel_rfl
  rw [isR, parseD, h]
  rfl
theorem wordP_good {s : Str} (h4 : (wordP s).1 = 4) (h : (wordP s).2 ≠ 0) : isR (s.take (wordP s).2) = true := by
  have ht : ∀ n, (tailG s n).1 = 4 → (tailG s n).2 ≠ 0 → isR (s.take (tailG s n).2) = true := by
    intro n h4 h
    unfold tailG at h4 h ⊢
    split
    · rename_i g
      exact areaP_good (by omega)
    · rename_i g
      rw [if_neg g] at h4
      exact absurd h4 (show ¬(5 : Nat) = 4 by decide)
  unfold wordP wordG at h4 h ⊢
  generalize runP isWordly s = n at *
  split
  · rename_i g
    rw [if_pos g] at h
    exact sheetedP_good h
  · rename_i g
    rw [if_neg g] at h h4
    split
    · rename_i g'
      rw [if_pos g'] at h4
      exact absurd h4 (show ¬(6 : Nat) = 4 by decide)
    · rename_i g'
      rw [if_neg g'] at h h4
      split
      · rename_i g2
        rw [if_pos g2] at h4
        exact absurd h4 (show ¬(7 : Nat) = 4 by decide)
      · rename_i g2
        rw [if_neg g2] at h h4
        exact ht _ h4 h
theorem tokP_good {s : Str} (h4 : (tokP s).1 = 4) (h : (tokP s).2 ≠ 0) : isR (s.take (tokP s).2) = true := by
  unfold tokP tokC at h4 h ⊢
  generalize s.getD 0 0 = c at *
  by_cases g1 : isBlank c = true
  · rw [if_pos g1] at h4
    exact absurd h4 (show ¬(0 : Nat) = 4 by decide)
  rw [if_neg g1] at h4 h ⊢
  by_cases g2 : c = 34
  · rw [if_pos g2] at h4
    exact absurd h4 (show ¬(2 : Nat) = 4 by decide)
  rw [if_neg g2] at h4 h ⊢
  by_cases g3 : c = 35
  · rw [if_pos g3] at h4 h ⊢
    unfold faultP at h4 h ⊢
    by_cases k : pre s kRef = true
    · rw [if_pos k]
      have e : s.take 5 = kRef := by
        obtain ⟨t, rfl⟩ := List.isPrefixOf_iff_prefix.1 k
        rfl
      dsimp only
      rw [e]
      exact kRef_good
    · rw [if_neg k] at h4
      cases hh : headF s with
      | some n => rw [hh] at h4; exact absurd h4 (show ¬(3 : Nat) = 4 by decide)
      | none => rw [hh] at h4; exact absurd h4 (show ¬(8 : Nat) = 4 by decide)
  rw [if_neg g3] at h4 h ⊢
  by_cases g4 : c = 39
  · rw [if_pos g4] at h4 h ⊢
    dsimp only at h ⊢
    by_cases k : sideP s = 0
    · rw [if_pos k] at h
      exact absurd rfl h
    · rw [if_neg k] at h ⊢
      exact sheetedP_good h
  rw [if_neg g4] at h4 h ⊢
  by_cases g5 : isDigit c = true
  · rw [if_pos g5] at h4 h ⊢
    by_cases k : 0 < rowsP s
    · rw [if_pos k]
      exact rowsP_good (by omega)
    · rw [if_neg k] at h4
      exact absurd h4 (show ¬(1 : Nat) = 4 by decide)
  rw [if_neg g5] at h4 h ⊢
  by_cases g6 : (isLetter c || (decide (c = 95) || decide (c = 36))) = true
  · rw [if_pos g6] at h4 h ⊢
    exact wordP_good h4 h
  rw [if_neg g6] at h4 h ⊢
  by_cases g7 : (pre s [60, 61] || (pre s [62, 61] || pre s [60, 62])) = true
  · rw [if_pos g7] at h4
    exact absurd h4 (show ¬(8 : Nat) = 4 by decide)
  rw [if_neg g7] at h4 h ⊢
  by_cases g8 : 0 ≤ Lib.indexByte opsS c
  · rw [if_pos g8] at h4
    exact absurd h4 (show ¬(8 : Nat) = 4 by decide)
  · rw [if_neg g8] at h4
    exact absurd h4 (show ¬(8 : Nat) = 4 by decide)

/-- What a token that is a name, or a part of a table, holds. -/
def More (t : Tok) : Prop := (t.1 = 5 → t.2.1.all isWordly = true) ∧ (t.1 = 7 → ∃ n : Nat, Lib.indexByte t.2.1 91 = (n : Int) ∧ n ≤ t.2.1.length ∧ (t.2.1.take n).all isWordly = true)
theorem run_all (p : UInt8 → Bool) : ∀ s : Str, (s.take (runP p s)).all p = true
  | [] => rfl
  | c :: r => by
    unfold runP
    rw [List.takeWhile_cons]
    cases h : p c with
    | true =>
      have ih := run_all p r
      unfold runP at ih
      simp [h]
      simpa using ih
    | false => simp
theorem more_other {k : Nat} {s : Str} (h5 : k ≠ 5) (h7 : k ≠ 7) : More ((k : Int), s, ()) := ⟨fun h => absurd (show k = 5 by dsimp only at h; omega) h5, fun h => absurd (show k = 7 by dsimp only at h; omega) h7⟩
theorem wordP_more {s : Str} (h : (wordP s).2 ≠ 0) : More (((wordP s).1 : Int), s.take (wordP s).2, ()) := by
  have hr := runP_le isWordly s
  have ha := run_all isWordly s
  unfold wordP wordG at h ⊢
  generalize runP isWordly s = n at *
  by_cases g1 : n < s.length ∧ s.getD n 0 = 33 ∧ isPlain (s.take n) = true
  · rw [if_pos g1]
    exact more_other (by dsimp only; decide) (by dsimp only; decide)
  rw [if_neg g1] at h ⊢
  by_cases g2 : n < s.length ∧ s.getD n 0 = 40 ∧ dollarP (s.take n) = false
  · rw [if_pos g2]
    exact more_other (by dsimp only; decide) (by dsimp only; decide)
  rw [if_neg g2] at h ⊢
  by_cases g3 : n < s.length ∧ s.getD n 0 = 91 ∧ dollarP (s.take n) = false
  · rw [if_pos g3] at h ⊢
    dsimp only at h ⊢
    have hb := brk_le hr
    by_cases hk : brk s n = 0
    · rw [if_pos hk] at h
      exact absurd rfl h
    rw [if_neg hk]
    refine ⟨fun h => absurd h (show ¬(7 : Int) = 5 by decide), fun _ => ⟨n, ?_, ?_, ?_⟩⟩
    · refine indexByte_at ?_ ?_
      · have : s[n]? = some 91 := by
          have h2 := g3.2.1
          rw [List.getElem?_eq_getElem g3.1]
          simpa [List.getD, g3.1] using h2
        dsimp only
        rw [List.getElem?_take, if_pos (by omega), this]
      · intro k hk' hc
        dsimp only at hc
        rw [List.getElem?_take, if_pos (by omega)] at hc
        have h2 : (s.take n)[k]? = some 91 := by rw [List.getElem?_take, if_pos hk', hc]
        have h3 := List.all_eq_true.1 ha 91 (List.mem_of_getElem? h2)
        exact absurd h3 (by decide)
    · simp
      omega
    · dsimp only
      rw [List.take_take, Nat.min_eq_left (by omega)]
      exact ha
  rw [if_neg g3] at h ⊢
  unfold tailG at h ⊢
  by_cases g4 : 0 < areaP s n
  · rw [if_pos g4]
    exact more_other (by dsimp only; decide) (by dsimp only; decide)
  rw [if_neg g4] at h ⊢
  dsimp only at h ⊢
  by_cases g5 : dollarP (s.take n) = true
  · rw [if_pos g5] at h
    exact absurd rfl h
  rw [if_neg g5]
  exact ⟨fun _ => ha, fun h => absurd h (show ¬(5 : Int) = 7 by decide)⟩
theorem tokP_more {s : Str} (h : (tokP s).2 ≠ 0) : More (((tokP s).1 : Int), s.take (tokP s).2, ()) := by
  unfold tokP tokC at h ⊢
  generalize s.getD 0 0 = c at *
  by_cases g1 : isBlank c = true
  · rw [if_pos g1]
    exact more_other (by dsimp only; decide) (by dsimp only; decide)
  rw [if_neg g1] at h ⊢
  by_cases g2 : c = 34
  · rw [if_pos g2]
    exact more_other (by dsimp only; decide) (by dsimp only; decide)
  rw [if_neg g2] at h ⊢
  by_cases g3 : c = 35
  · rw [if_pos g3]
    unfold faultP
    by_cases k : pre s kRef = true
    · rw [if_pos k]
      exact more_other (by dsimp only; decide) (by dsimp only; decide)
    · rw [if_neg k]
      cases headF s with
      | some n => exact more_other (k := 3) (by decide) (by decide)
      | none => exact more_other (k := 8) (by decide) (by decide)
  rw [if_neg g3] at h ⊢
  by_cases g4 : c = 39
  · rw [if_pos g4]
    exact more_other (by dsimp only; decide) (by dsimp only; decide)
  rw [if_neg g4] at h ⊢
  by_cases g5 : isDigit c = true
  · rw [if_pos g5]
    by_cases k : 0 < rowsP s
    · rw [if_pos k]
      exact more_other (by dsimp only; decide) (by dsimp only; decide)
    · rw [if_neg k]
      exact more_other (by dsimp only; decide) (by dsimp only; decide)
  rw [if_neg g5] at h ⊢
  by_cases g6 : (isLetter c || (decide (c = 95) || decide (c = 36))) = true
  · rw [if_pos g6] at h ⊢
    exact wordP_more h
  rw [if_neg g6] at h ⊢
  by_cases g7 : (pre s [60, 61] || (pre s [62, 61] || pre s [60, 62])) = true
  · rw [if_pos g7]
    exact more_other (by dsimp only; decide) (by dsimp only; decide)
  rw [if_neg g7] at h ⊢
  by_cases g8 : 0 ≤ Lib.indexByte opsS c
  · rw [if_pos g8]
    exact more_other (by dsimp only; decide) (by dsimp only; decide)
  · rw [if_neg g8]
    exact more_other (by dsimp only; decide) (by dsimp only; decide)

/-- A token's text is short, and a reference or a name where the kind says so. -/
def Good (n : Nat) (t : Tok) : Prop := t.2.1.length ≤ n ∧ (t.1 = 4 → isR t.2.1 = true) ∧ More t
theorem scan_bothG {s : Str} (hs : s.length ≤ 1000000) : ∀ f i (acc : List Tok), s.length ≤ i + f → acc.length ≤ i → i ≤ s.length → (∀ t ∈ acc, Good s.length t) →
    (∃ a : List Tok, (a.length ≤ s.length ∧ ∀ t ∈ a, Good s.length t) ∧ Halts (fscan_Scan_l1 s) f ((), (i : Int), acc, ()) (.inl ((), a, ())) ∧ Halts (chanceryref2_Scan_l1 s) f ((), (i : Int), acc, ()) (.inl ((), a, ()))) ∨
    ∃ j : Nat, Halts (fscan_Scan_l1 s) f ((), (i : Int), acc, ()) (.inr ((), (j : Int), 10, ())) ∧ Halts (chanceryref2_Scan_l1 s) f ((), (i : Int), acc, ()) (.inr ((), (j : Int), ()))
  | 0, i, acc, h1, h2, h3, hA => by
    have c : ¬(i : Int) < (s.length : Int) := by omega
    refine .inl ⟨acc, ⟨by omega, hA⟩, .done ?_, .done ?_⟩
    · simp only [fscan_Scan_l1, c, decide_false, cond_false]
    · simp only [chanceryref2_Scan_l1, c, decide_false, cond_false]
  | f + 1, i, acc, h1, h2, h3, hA => by
    by_cases h : i < s.length
    · have c : (i : Int) < (s.length : Int) := by omega
      have hd : (s.drop i).length ≤ 1000000 := by simp; omega
      have h0 : 0 < (s.drop i).length := by simp; omega
      have hk := tokP_le h0
      have hn := next_eq hd h0
      have ht := Token_eq hd h0
      have hg := tokP_good (s := s.drop i)
      have hm := tokP_more (s := s.drop i)
      generalize tokP (s.drop i) = k at *
      rw [List.length_drop] at hk
      by_cases hz : k.2 = 0
      · have z : ((k.2 : Nat) : Int) = 0 := by omega
        refine .inr ⟨i, .done ?_, .done ?_⟩
        · simp only [fscan_Scan_l1, c, decide_true, cond_true, cut_from h3, Option.bind_some, hn, z]
        · simp only [chanceryref2_Scan_l1, c, decide_true, cond_true, cut_from h3, Option.bind_some, ht, z]
      · have z : ¬((k.2 : Nat) : Int) = 0 := by omega
        have w : IntKind.i64.wrap ((i : Int) + (k.2 : Int)) = ((i + k.2 : Nat) : Int) := wadd (by omega)
        have hc : cut s (i : Int) ((i + k.2 : Nat) : Int) = some ((s.take (i + k.2)).drop i) := cut_nat (by omega) (by omega)
        have ha : cat acc [((k.1 : Int), (s.take (i + k.2)).drop i, ())] = some (acc ++ [((k.1 : Int), (s.take (i + k.2)).drop i, ())]) := cat_ok (by simp; omega)
        have f1 : fscan_Scan_l1 s ((), (i : Int), acc, ()) = some (.inl ((), ((i + k.2 : Nat) : Int), acc ++ [((k.1 : Int), (s.take (i + k.2)).drop i, ())], ())) := by
          simp only [fscan_Scan_l1, c, decide_true, cond_true, cut_from h3, Option.bind_some, hn, z, decide_false, cond_false, w, hc, ha]
        have f2 : chanceryref2_Scan_l1 s ((), (i : Int), acc, ()) = some (.inl ((), ((i + k.2 : Nat) : Int), acc ++ [((k.1 : Int), (s.take (i + k.2)).drop i, ())], ())) := by
          simp only [chanceryref2_Scan_l1, c, decide_true, cond_true, cut_from h3, Option.bind_some, ht, z, decide_false, cond_false, w, hc, ha]
        have hA' : ∀ t ∈ acc ++ [((k.1 : Int), (s.take (i + k.2)).drop i, ())], Good s.length t := by
          intro t ht
          rcases List.mem_append.1 ht with ht | ht
          · exact hA t ht
          · rw [List.mem_singleton] at ht
            subst ht
            have e : (s.take (i + k.2)).drop i = (s.drop i).take k.2 := by rw [List.drop_take, Nat.add_sub_cancel_left]
            rw [e]
            refine ⟨by simp; omega, fun h4 => ?_, hm hz⟩
            dsimp only at h4 ⊢
            exact hg (by omega) hz
        rcases scan_bothG hs f (i + k.2) (acc ++ [((k.1 : Int), (s.take (i + k.2)).drop i, ())]) (by omega) (by simp; omega) (by omega) hA' with ⟨a, q1, q2, q3⟩ | ⟨j, q2, q3⟩
        · exact .inl ⟨a, q1, .step f1 q2, .step f2 q3⟩
        · exact .inr ⟨j, .step f1 q2, .step f2 q3⟩
    · have c : ¬(i : Int) < (s.length : Int) := by omega
      refine .inl ⟨acc, ⟨by omega, hA⟩, .done ?_, .done ?_⟩
      · simp only [fscan_Scan_l1, c, decide_false, cond_false]
      · simp only [chanceryref2_Scan_l1, c, decide_false, cond_false]

theorem Scan_bothG {s : Str} (hs : s.length ≤ 1000000) :
    (∃ a : List Tok, (a.length ≤ s.length ∧ ∀ t ∈ a, Good s.length t) ∧ fscan_Scan s = some (a, 0, 0, ()) ∧ chanceryref2_Scan s = some (a, -1, ())) ∨
    ∃ j : Nat, fscan_Scan s = some ([], (j : Int), 10, ()) ∧ chanceryref2_Scan s = some ([], (j : Int), ()) := by
  unfold fscan_Scan chanceryref2_Scan
  rw [Has_eq, HasPrefix_eq, Option.bind_some, Option.bind_some]
  dsimp only
  cases h : Lib.hasPrefix s [61] with
  | false => exact .inr ⟨0, rfl, rfl⟩
  | true =>
    have h1 : 1 ≤ s.length := pre_len (p := [61]) h
    rw [Bool.not_true, cond_false, cond_false]
    rcases scan_bothG hs s.length 1 [] (by omega) (by simp) h1 (by simp) with ⟨a, q1, q2, q3⟩ | ⟨j, q2, q3⟩
    · refine .inl ⟨a, q1, ?_, ?_⟩
      · have := q2.loop (by omega)
        erw [this]
        rfl
      · have := q3.loop (by omega)
        erw [this]
        rfl
    · refine .inr ⟨j, ?_, ?_⟩
      · have := q2.loop (by omega)
        erw [this]
        rfl
      · have := q3.loop (by omega)
        erw [this]
        rfl

/-! ### What is read is valid -/
theorem parse_valid {s : Str} {x : RefD} (h : cellref_Parse s = some (x, 0, ())) : errD x = 0 := by
  unfold cellref_Parse at h
  by_cases h5 : (500 : Int) < (s.length : Int)
  · rw [decide_eq_true h5, cond_true] at h
    cases h
  rw [decide_eq_false h5, cond_false] at h
  by_cases hR : s = [35, 82, 69, 70, 33]
  · rw [decide_eq_true hR, cond_true] at h
    cases h
    rfl
  rw [decide_eq_false hR, cond_false] at h
  obtain ⟨v1, _, h⟩ := Option.bind_eq_some_iff.1 h
  obtain ⟨v2, _, h⟩ := Option.bind_eq_some_iff.1 h
  obtain ⟨v3, _, h⟩ := Option.bind_eq_some_iff.1 h
  obtain ⟨r5, _, h⟩ := Option.bind_eq_some_iff.1 h
  obtain ⟨r6, _, h⟩ := Option.bind_eq_some_iff.1 h
  obtain ⟨r9, _, h⟩ := Option.bind_eq_some_iff.1 h
  cases h9 : r9.2.2.2.1 with
  | true =>
    rw [h9, cond_true] at h
    cases h
  | false =>
    rw [h9, cond_false] at h
    obtain ⟨v12, _, h⟩ := Option.bind_eq_some_iff.1 h
    by_cases g : v12.2.2.1 = 0
    · rw [decide_eq_true g, Bool.not_true, cond_false] at h
      obtain ⟨r15, h15, h⟩ := Option.bind_eq_some_iff.1 h
      cases r15 with
      | inl z =>
        simp only [ordered_eq, CheckD, Option.bind_some] at h
        generalize (cond (decide (z.2.2.2.1.2.1 = 0)) z.2.2.2.1 (sortR z.2.2.2.1)) = y at h
        by_cases gy : errD y = 0
        · rw [decide_eq_true gy, Bool.not_true, cond_false] at h
          cases h
          exact gy
        · rw [decide_eq_false gy, Bool.not_false, cond_true] at h
          simp only [Option.some.injEq, Prod.mk.injEq] at h
          exact absurd h.2.1 gy
      | inr z =>
        simp only [Option.some.injEq, Prod.mk.injEq] at h
        cases h2 : v2.2.2.1 with
        | true =>
          rw [h2, cond_true] at h15
          obtain ⟨v14, _, h15⟩ := Option.bind_eq_some_iff.1 h15
          by_cases g2 : v14.2.2.1 = 0
          · rw [decide_eq_true g2, Bool.not_true, cond_false] at h15
            cases hc : (!r6.2.2.2.1) with
            | true =>
              rw [hc, cond_true] at h15
              cases hd : decide (r9.2.2.2.2.2.1.2.1 = []) with
              | true => rw [hd, cond_true] at h15; cases h15
              | false => rw [hd, cond_false] at h15; cases h15
            | false => rw [hc, cond_false] at h15; cases h15
          · rw [decide_eq_false g2, Bool.not_false, cond_true] at h15
            cases h15
            exact absurd h.2.1 g2
        | false =>
          rw [h2, cond_false] at h15
          cases h15
    · rw [decide_eq_false g, Bool.not_false, cond_true] at h
      simp only [Option.some.injEq, Prod.mk.injEq] at h
      exact absurd h.2.1 g
theorem isR_valid {s : Str} (h : isR s = true) : errD (parseD s).1 = 0 := by
  have hp := Parse_is s
  have e : (parseD s).2 = 0 := of_decide_eq_true h
  rw [e] at hp
  exact parse_valid hp
end Go.Proofs.YtjhcnnhkabhigaaGreatDoor
