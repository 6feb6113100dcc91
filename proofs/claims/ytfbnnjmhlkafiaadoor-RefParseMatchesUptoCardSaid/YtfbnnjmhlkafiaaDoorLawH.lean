import Derived.Test.YtfbnnjmhlkafiaaDoorLawG
namespace Go.Proofs.YtfbnnjmhlkafiaaDoor
open Go Go.Fe

/-! ### One side of a reference -/
def stripD : Str → Str × Bool
  | [] => ([], false)
  | x :: r => if x = 36 then (r, true) else (x :: r, false)
theorem stripD_eq (s : Str) : sCutPrefix (no_index (s, [36], ())) = some ((stripD s).1, (stripD s).2, ()) := by
  cases s with
  | nil => rfl
  | cons x r =>
    by_cases h : x = 36
    · subst h
      simp [sCutPrefix, stripD, Lib.trimPrefix, Lib.hasPrefix, List.isPrefixOf]
    · simp [sCutPrefix, stripD, Lib.trimPrefix, Lib.hasPrefix, List.isPrefixOf, h, Ne.symm h]
theorem stripD_len (s : Str) : (stripD s).1.length ≤ s.length := by
  cases s with
  | nil => simp [stripD]
  | cons x r =>
    simp only [stripD]
    split <;> simp

theorem dropWhile_len (p : UInt8 → Bool) (s : Str) : (s.dropWhile p).length ≤ s.length := by
  have := congrArg List.length (List.takeWhile_append_dropWhile (p := p) (l := s))
  rw [List.length_append] at this
  omega
theorem takeWhile_len (p : UInt8 → Bool) (s : Str) : (s.takeWhile p).length ≤ s.length := by
  have := congrArg List.length (List.takeWhile_append_dropWhile (p := p) (l := s))
  rw [List.length_append] at this
  omega
theorem drop_takeWhile (p : UInt8 → Bool) : ∀ s : Str, s.drop (s.takeWhile p).length = s.dropWhile p
  | [] => rfl
  | x :: r => by
    cases h : p x with
    | true => simp [h, drop_takeWhile p r]
    | false => simp [h]

/-- The letters, what follows them, the row's mark and what follows it. -/
def sdL (s : Str) : Str := (stripD s).1.takeWhile isLetter
def sdU (s : Str) : Str := (stripD s).1.dropWhile isLetter
def sdE (s : Str) : Str × Bool := if sdL s = [] then (sdU s, (stripD s).2) else stripD (sdU s)
def sdN (s : Str) : Str := (sdE s).1.takeWhile isDigit
def sdV (s : Str) : Str := (sdE s).1.dropWhile isDigit
def sdC (s : Str) : Bool := !decide (sdL s = []) && (stripD s).2
def sdR (s : Str) : Bool := (sdE s).2
def sdFine (s : Str) : Bool := decide (sdV s = []) && (decide ((sdL s).length ≤ 7) && (decide ((sdN s).length ≤ 10) && (!Lib.hasPrefix (sdN s) [48] && (!decide (sdN s = []) || (!decide (sdL s = []) && !sdR s)))))

theorem sd_len (s : Str) : (sdL s).length ≤ s.length ∧ (sdU s).length ≤ s.length ∧ (sdE s).1.length ≤ s.length ∧ (sdN s).length ≤ s.length := by
  have h1 := stripD_len s
  have h2 := takeWhile_len isLetter (stripD s).1
  have h3 := dropWhile_len isLetter (stripD s).1
  have h4 := stripD_len (sdU s)
  have h5 : (sdU s).length ≤ s.length := Nat.le_trans h3 h1
  have h6 : (sdE s).1.length ≤ s.length := by
    unfold sdE
    split
    · exact h5
    · exact Nat.le_trans h4 h5
  exact ⟨Nat.le_trans h2 h1, h5, h6, Nat.le_trans (takeWhile_len _ _) h6⟩

theorem place_loop1 (z : Str × (Str × (Bool × (Bool × Unit)))) (q : Str × (Bool × (Bool × Unit))) : ∀ (s acc : Str), acc.length + s.length ≤ 1000 →
    Halts cellref_place_l1484 s.length (s, (), (), z, (acc, q), ()) (s.dropWhile isLetter, (), (), z, (acc ++ s.takeWhile isLetter, q), ())
  | [], acc, h => .done (by simp [cellref_place_l1484])
  | c :: r, acc, h => by
    have i0 : idx (c :: r) 0 = some c := rfl
    have e : decide ((c :: r : Str) = []) = false := by simp
    cases hl : isLetter c with
    | false =>
      refine .done ?_
      simp only [cellref_place_l1484, e, Bool.not_false, cond_true, i0, Option.bind_some, letter_eq, hl, cond_false]
      simp [hl]
    | true =>
      have c1 : cut (c :: r) 0 1 = some [c] := by
        have := cut_nat (xs := c :: r) (a := 0) (b := 1) (by omega) (by simp)
        simpa using this
      have c2 : cut (c :: r) 1 ((c :: r).length : Int) = some r := by
        have := cut_nat (xs := c :: r) (a := 1) (b := (c :: r).length) (by simp) (by simp)
        simpa using this
      have ih := place_loop1 z q r (acc ++ [c]) (by simp at h ⊢; omega)
      have e1 : (c :: r).dropWhile isLetter = r.dropWhile isLetter := by simp [hl]
      have e2 : acc ++ (c :: r).takeWhile isLetter = acc ++ [c] ++ r.takeWhile isLetter := by simp [hl]
      rw [e1, e2]
      refine .step ?_ ih
      have c3 : cat acc [c] = some (acc ++ [c]) := cat_ok (by simp at h ⊢; omega)
      simp only [cellref_place_l1484, e, Bool.not_false, cond_true, i0, Option.bind_some, letter_eq, hl, c1, c2, c3]
theorem place_loop2 (z : Str × (Str × (Bool × (Bool × Unit)))) (a : Str) (q : Bool × (Bool × Unit)) : ∀ (s acc : Str), acc.length + s.length ≤ 1000 →
    Halts cellref_place_l1503 s.length (s, (), (), z, (a, acc, q), ()) (s.dropWhile isDigit, (), (), z, (a, acc ++ s.takeWhile isDigit, q), ())
  | [], acc, h => .done (by simp [cellref_place_l1503])
  | c :: r, acc, h => by
    have i0 : idx (c :: r) 0 = some c := rfl
    have e : decide ((c :: r : Str) = []) = false := by simp
    cases hl : isDigit c with
    | false =>
      refine .done ?_
      simp only [cellref_place_l1503, e, Bool.not_false, cond_true, i0, Option.bind_some, digit_eq, hl, cond_false]
      simp [hl]
    | true =>
      have c1 : cut (c :: r) 0 1 = some [c] := by
        have := cut_nat (xs := c :: r) (a := 0) (b := 1) (by omega) (by simp)
        simpa using this
      have c2 : cut (c :: r) 1 ((c :: r).length : Int) = some r := by
        have := cut_nat (xs := c :: r) (a := 1) (b := (c :: r).length) (by simp) (by simp)
        simpa using this
      have ih := place_loop2 z a q r (acc ++ [c]) (by simp at h ⊢; omega)
      have e1 : (c :: r).dropWhile isDigit = r.dropWhile isDigit := by simp [hl]
      have e2 : acc ++ (c :: r).takeWhile isDigit = acc ++ [c] ++ r.takeWhile isDigit := by simp [hl]
      rw [e1, e2]
      refine .step ?_ ih
      have c3 : cat acc [c] = some (acc ++ [c]) := cat_ok (by simp at h ⊢; omega)
      simp only [cellref_place_l1503, e, Bool.not_false, cond_true, i0, Option.bind_some, digit_eq, hl, c1, c2, c3]

theorem place_eq {s : Str} (hs : s.length ≤ 500) : cellref_place s = some ((sdL s, sdN s, sdC s, sdR s, ()), sdFine s, ()) := by
  have hl := sd_len s
  have h1 := stripD_len s
  have l1 := (place_loop1 ([], ([], (false, (false, ())))) ([], ((stripD s).2, (false, ()))) (stripD s).1 [] (by simp; omega)).loop (by omega)
  simp only [List.nil_append] at l1
  have l1' : loop cellref_place_l1484 ((stripD s).1, (), (), ([], ([], (false, (false, ())))), ([], ([], ((stripD s).2, (false, ())))), ()) = some (sdU s, (), (), ([], ([], (false, (false, ())))), (sdL s, ([], ((stripD s).2, (false, ())))), ()) := l1
  have mid : (cond (decide (sdL s = []))
      (some (sdU s, (), (), ([], ([], (false, (false, ())))), (sdL s, ([], (false, ((stripD s).2, ())))), ()))
      (cond (!decide (sdU s = []))
      (some ((stripD (sdU s)).1, (), (), ([], ([], (false, (false, ())))), (sdL s, ([], ((stripD s).2, ((stripD (sdU s)).2, ())))), ()))
      (some (sdU s, (), (), ([], ([], (false, (false, ())))), (sdL s, ([], ((stripD s).2, (false, ())))), ()))) : Option (Str × (Unit × (Unit × ((Str × (Str × (Bool × (Bool × Unit)))) × ((Str × (Str × (Bool × (Bool × Unit)))) × Unit)))))) =
      some ((sdE s).1, (), (), ([], ([], (false, (false, ())))), (sdL s, ([], (sdC s, (sdR s, ())))), ()) := by
    by_cases e : sdL s = []
    · simp [e, sdE, sdC, sdR]
    · by_cases e' : sdU s = []
      · simp [e, e', sdE, sdC, sdR, stripD]
      · simp only [e, e', decide_false, cond_false, Bool.not_false, cond_true, sdE, if_false, sdC, sdR, Bool.true_and]
  have l2 := (place_loop2 ([], ([], (false, (false, ())))) (sdL s) (sdC s, (sdR s, ())) (sdE s).1 [] (by simp; omega)).loop (by omega)
  simp only [List.nil_append] at l2
  have l2' : loop cellref_place_l1503 ((sdE s).1, (), (), ([], ([], (false, (false, ())))), (sdL s, ([], (sdC s, (sdR s, ())))), ()) = some (sdV s, (), (), ([], ([], (false, (false, ())))), (sdL s, (sdN s, (sdC s, (sdR s, ())))), ()) := l2
  simp only [cellref_place, stripD_eq, Option.bind_some, l1']
  rw [mid]
  simp only [Option.bind_some, l2', sHasPrefix]
  have b7 : decide (((sdL s).length : Int) ≤ 7) = decide ((sdL s).length ≤ 7) := by simp only [decide_eq_decide]; omega
  have b10 : decide (((sdN s).length : Int) ≤ 10) = decide ((sdN s).length ≤ 10) := by simp only [decide_eq_decide]; omega
  rw [b7, b10]
  simp only [sdFine]
  cases decide ((sdL s).length ≤ 7) <;> cases decide ((sdN s).length ≤ 10) <;> cases Lib.hasPrefix (sdN s) [48] <;> cases decide (sdN s = []) <;> cases decide (sdL s = []) <;> cases decide (sdV s = []) <;> simp
end Go.Proofs.YtfbnnjmhlkafiaaDoor
