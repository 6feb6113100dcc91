import Derived.Test.YtfbnnjmhlkafiaaDoorLawE
namespace Go.Proofs.YtfbnnjmhlkafiaaDoor
open Go Go.Fe

theorem RefText_loop {s : Str} (rest : Int × (Int × (Int × (Int × (Int × (Bool × (Bool × (Bool × (Bool × Unit))))))))) (hs : s.length ≤ 200) :
    loop (chanceryref2_RefText_l1279 (s, rest)) ((), [39], 0, (s, rest), ()) = some ((), 39 :: dup s, (s, rest), ()) := by
  have key : ∀ i, i < s.length → chanceryref2_RefText_l1279 (s, rest) ((), 39 :: dup (s.take i), (i : Int), (s, rest), ()) = some (.inl ((), 39 :: dup (s.take (i + 1)), ((i + 1 : Nat) : Int), (s, rest), ())) := fun i hi => by
    have hg : ((i : Int) < (s.length : Int)) := by omega
    have hd := dup_len (s.take i)
    have hl : (s.take i).length ≤ 200 := by simp; omega
    have a3 : cut s (i : Int) ((i + 1 : Nat) : Int) = some [s[i]] := by
      rw [cut_nat (by omega) (by omega)]
      congr 1
      rw [List.take_succ_eq_append_getElem hi, List.drop_append_of_le_length (by simp; omega)]
      simp
    have a4 : (ofByte s[i] = 39) ↔ (s[i] = 39) := by
      rw [ofByte_eq]
      constructor
      · intro h
        have : s[i].toNat = (39 : UInt8).toNat := by simp; omega
        exact UInt8.toNat.inj this
      · intro h; rw [h]; rfl
    have c1 : cat (39 :: dup (s.take i)) [s[i]] = some (39 :: dup (s.take i) ++ [s[i]]) := cat_ok (by simp only [List.length_cons, List.length_nil]; omega)
    have c2 : cat (39 :: dup (s.take i) ++ [s[i]]) [39] = some (39 :: dup (s.take i) ++ [s[i]] ++ [39]) := cat_ok (by simp only [List.length_append, List.length_cons, List.length_nil]; omega)
    rw [dup_take hi]
    simp only [chanceryref2_RefText_l1279, hg, decide_true, cond_true, wrap_succ (i := i) (by omega), a3, Option.bind_some, c1, idx_lt hi, a4]
    by_cases h : s[i] = 39
    · rw [h] at c2 ⊢
      simp only [c2, if_true, decide_true, cond_true, Option.bind_some]
      simp
    · simp only [h, decide_false, cond_false, Option.bind_some]
      simp
  have := (Halts.along (n := 0) (f := chanceryref2_RefText_l1279 (s, rest)) (fun i : Nat => ((), 39 :: dup (s.take i), (i : Int), (s, rest), ())) (r := ((), 39 :: dup s, (s, rest), ())) s.length key (.done (by simp [chanceryref2_RefText_l1279]))).loop (by omega)
  exact this

theorem RefText_eq {s : Str} {k r c r2 c2 : Int} {ar ac ar2 ac2 : Bool} (he : refErr s k r c r2 c2 ar ac ar2 ac2 = 0) : chanceryref2_RefText (s, k, r, c, r2, c2, ar, ac, ar2, ac2, ()) =
    some (refText s k r.toNat c.toNat r2.toNat c2.toNat ar ac ar2 ac2, ()) := by
  obtain ⟨h1, h2, h3, h4, h5, h6, h7, h8, h9⟩ := valid he
  obtain ⟨r, rfl⟩ := Int.eq_ofNat_of_zero_le h5.1
  obtain ⟨c, rfl⟩ := Int.eq_ofNat_of_zero_le h6.1
  obtain ⟨r2, rfl⟩ := Int.eq_ofNat_of_zero_le h7.1
  obtain ⟨c2, rfl⟩ := Int.eq_ofNat_of_zero_le h8.1
  have hs := name_small h3
  have hd := dup_len s
  have ht := sheetText_len s
  have l1 := rowText_len (n := r) ar (by omega)
  have l2 := rowText_len (n := r2) ar2 (by omega)
  have l3 := colText_len (n := c) ac (by omega)
  have l4 := colText_len (n := c2) ac2 (by omega)
  have m1 : chanceryref2_mark (letters (c + 1)) ac = some (colText c ac, ()) := mark_eq (by have := letters_len 7 (c + 1) (by omega); omega)
  have m2 : chanceryref2_mark (letters (c2 + 1)) ac2 = some (colText c2 ac2, ()) := mark_eq (by have := letters_len 7 (c2 + 1) (by omega); omega)
  have m3 : chanceryref2_mark (Lib.decDigits (r + 1)) ar = some (rowText r ar, ()) := mark_eq (by have := decDigits_len 9 (r + 1) (by omega); omega)
  have m4 : chanceryref2_mark (Lib.decDigits (r2 + 1)) ar2 = some (rowText r2 ar2, ()) := mark_eq (by have := decDigits_len 9 (r2 + 1) (by omega); omega)
  have n1 := RLetters_eq (n := c) (by omega)
  have n2 := RLetters_eq (n := c2) (by omega)
  have n3 := Decimal_eq (n := r + 1) (by omega)
  have n4 := Decimal_eq (n := r2 + 1) (by omega)
  have w1 := wrap_succ (i := r) (by omega)
  have w2 := wrap_succ (i := r2) (by omega)
  have cats : ∀ (x y : Str), x.length + y.length ≤ 1000 → cat x y = some (x ++ y) := fun x y h => cat_ok (by omega)
  have i0 : inb 0 2 = true := rfl
  have i1 : inb 1 2 = true := rfl
  have hk : k = 0 ∨ k = 1 ∨ k = 2 ∨ k = 3 ∨ k = 4 := by omega
  by_cases e4 : k = 4
  · subst e4
    simp [chanceryref2_RefText, refText]
  have first : (cond (!decide (s = []))
      (((chanceryref2_Plain s).bind fun v1 =>
      cond (!v1.1)
      ((loop (chanceryref2_RefText_l1279 (s, k, (r : Int), (c : Int), (r2 : Int), (c2 : Int), ar, ac, ar2, ac2, ())) ((), [39], 0, (s, k, (r : Int), (c : Int), (r2 : Int), (c2 : Int), ar, ac, ar2, ac2, ()), ())).bind fun r7 =>
      (cat r7.2.1 [39]).bind fun v8 =>
      some ((), v8, (r7.2.2.1.1, (r7.2.2.1.2.1, (r7.2.2.1.2.2.1, (r7.2.2.1.2.2.2.1, (r7.2.2.1.2.2.2.2.1, (r7.2.2.1.2.2.2.2.2.1, (r7.2.2.1.2.2.2.2.2.2.1, (r7.2.2.1.2.2.2.2.2.2.2.1, (r7.2.2.1.2.2.2.2.2.2.2.2.1, (r7.2.2.1.2.2.2.2.2.2.2.2.2.1, ())))))))))), ()))
      (some ((), s, (s, k, (r : Int), (c : Int), (r2 : Int), (c2 : Int), ar, ac, ar2, ac2, ()), ())) : Option (Unit × (Str × ((Str × (Int × (Int × (Int × (Int × (Int × (Bool × (Bool × (Bool × (Bool × Unit)))))))))) × Unit)))).bind fun r9 =>
      (cat r9.2.1 [33]).bind fun v10 =>
      some ((), v10, (r9.2.2.1.1, (r9.2.2.1.2.1, (r9.2.2.1.2.2.1, (r9.2.2.1.2.2.2.1, (r9.2.2.1.2.2.2.2.1, (r9.2.2.1.2.2.2.2.2.1, (r9.2.2.1.2.2.2.2.2.2.1, (r9.2.2.1.2.2.2.2.2.2.2.1, (r9.2.2.1.2.2.2.2.2.2.2.2.1, (r9.2.2.1.2.2.2.2.2.2.2.2.2.1, ())))))))))), ()))
      (some ((), [], (s, k, (r : Int), (c : Int), (r2 : Int), (c2 : Int), ar, ac, ar2, ac2, ()), ())) : Option (Unit × (Str × ((Str × (Int × (Int × (Int × (Int × (Int × (Bool × (Bool × (Bool × (Bool × Unit)))))))))) × Unit)))) =
      some ((), sheetText s, (s, k, (r : Int), (c : Int), (r2 : Int), (c2 : Int), ar, ac, ar2, ac2, ()), ()) := by
    by_cases e : s = []
    · simp [e, sheetText]
    · simp only [e, decide_false, Bool.not_false, cond_true, sheetText, if_false, RPlain_eq (s := s) (by omega), Option.bind_some, RefText_loop _ hs]
      cases hp : isPlain s with
      | true =>
        simp only [Bool.not_true, cond_false, Option.bind_some]
        rw [cats _ _ (by simp only [List.length_cons, List.length_nil]; omega)]
        simp
      | false =>
        simp only [Bool.not_false, cond_true]
        rw [cats _ _ (by simp only [List.length_cons, List.length_nil]; omega)]
        simp only [Option.bind_some]
        rw [cats _ _ (by simp only [List.length_append, List.length_cons, List.length_nil]; omega)]
        simp
  simp only [chanceryref2_RefText, e4, decide_false, cond_false]
  rw [first]
  simp only [Option.bind_some, Int.toNat_natCast, refText]
  rcases hk with rfl | rfl | rfl | rfl | rfl
  all_goals try omega
  all_goals
    simp only [Int.reduceEq, decide_true, decide_false, Bool.not_true, Bool.not_false, cond_true, cond_false, Option.bind_some, n1, n2, n3, n4, m1, m2, m3, m4, w1, w2, i0, i1, chk_t, if_true, if_false]
    simp (disch := (first | omega | (simp only [List.length_append, List.length_cons, List.length_nil]; omega))) [cats, List.replicate]

theorem refCheck_law (s : Str) (k r c r2 c2 : Int) (ar ac ar2 ac2 : Bool) : chancerylaw2_RefCheckMatches (s, k, r, c, r2, c2, ar, ac, ar2, ac2, ()) = some (true, ()) := by
  simp only [chancerylaw2_RefCheckMatches, refs_true, RefError_eq, Print_eq, Check_eq, Option.bind_some]
  by_cases he : refErr s k r c r2 c2 ar ac ar2 ac2 = 0
  · simp [he, RefText_eq he]
  · simp [he]
end Go.Proofs.YtfbnnjmhlkafiaaDoor
