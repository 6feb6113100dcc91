import Derived.Test.YtfbnnjmhlkafiaaDoorLawD
namespace Go.Proofs.YtfbnnjmhlkafiaaDoor
open Go Go.Fe

abbrev RefD := Str × (Int × (Int × (Int × (Int × (Int × (Bool × (Bool × (Bool × (Bool × Unit)))))))))
def Z0 : RefD := ([], 0, 0, 0, 0, 0, false, false, false, false, ())

/-! ### Decimal numbers -/
theorem itoa_nat (n : Nat) : Lib.itoa (n : Int) = Lib.decDigits n := by
  unfold Lib.itoa
  rw [if_neg (by omega)]
  simp
theorem decDigits_small {n : Nat} (h : n < 10) : Lib.decDigits n = [UInt8.ofNat (48 + n)] := by rw [Lib.decDigits, dif_pos h]
theorem decDigits_big {n : Nat} (h : ¬ n < 10) : Lib.decDigits n = Lib.decDigits (n / 10) ++ [UInt8.ofNat (48 + n % 10)] := by rw [Lib.decDigits, dif_neg h]
theorem decDigits_len : ∀ (k n : Nat), n < 10 ^ (k + 1) → (Lib.decDigits n).length ≤ k + 1
  | 0, n, h => by rw [decDigits_small (by simpa using h)]; simp
  | k + 1, n, h => by
    by_cases h1 : n < 10
    · rw [decDigits_small h1]; simp
    · rw [decDigits_big h1]
      have := decDigits_len k (n / 10) (by rw [Nat.div_lt_iff_lt_mul (by omega)]; rw [Nat.pow_succ] at h; omega)
      simp; omega
theorem sItoa_nat {n : Nat} (h : n < 9223372036854775808) : sItoa ((n : Int), ()) = some (Lib.decDigits n, ()) := by
  unfold sItoa
  rw [if_pos ⟨show (-9223372036854775808 : Int) ≤ (n : Int) by omega, show (n : Int) ≤ 9223372036854775807 by omega⟩]
  simp only [itoa_nat]

theorem decimal_f : ∀ (k n m : Nat), n < 10 ^ (k + 1) → n < 9223372036854775808 → k ≤ 100 → k < m → chanceryref2_Decimal_f m (n : Int) = some (Lib.decDigits n, ())
  | k, n, 0, _, _, _, hm => by omega
  | k, n, m + 1, h, hn, hk, hm => by
    have a1 : ¬ (n : Int) ≤ -10 := by omega
    have a2 : ¬ (n : Int) < 0 := by omega
    by_cases h1 : n < 10
    · have a3 : ¬ (10 : Int) ≤ (n : Int) := by omega
      have a4 : IntKind.u8.wrap (IntKind.i64.wrap (48 + (n : Int))) = ((48 + n : Nat) : Int) := by rw [wrap_i64 (by omega) (by omega), wrap_u8i (by omega) (by omega)]; omega
      simp only [chanceryref2_Decimal_f, chanceryref2_Decimal_s, a1, a2, a3, a4, decide_false, cond_false, bytesStr_one]
      rw [decDigits_small h1]
    · have a3 : (10 : Int) ≤ (n : Int) := by omega
      cases k with
      | zero => simp at h; omega
      | succ k =>
        have ih := decimal_f k (n / 10) m (by rw [Nat.div_lt_iff_lt_mul (by omega)]; rw [Nat.pow_succ] at h; omega) (by omega) (by omega) (by omega)
        have a4 : IntKind.u8.wrap (IntKind.i64.wrap (48 + ((n % 10 : Nat) : Int))) = ((48 + n % 10 : Nat) : Int) := by rw [wrap_i64 (by omega) (by omega), wrap_u8i (by omega) (by omega)]; omega
        have hl := decDigits_len k (n / 10) (by rw [Nat.div_lt_iff_lt_mul (by omega)]; rw [Nat.pow_succ] at h; omega)
        simp only [chanceryref2_Decimal_f, chanceryref2_Decimal_s, a1, a2, a3, decide_false, cond_false, decide_true, cond_true]
        rw [show (10 : Int) = ((10 : Nat) : Int) from rfl, quo_nat (by omega) (by omega), rem_nat (by omega)]
        simp only [Option.bind_some, ih, a4, bytesStr_one]
        rw [cat_ok (by simp; omega)]
        simp only [Option.bind_some]
        rw [decDigits_big h1]
theorem Decimal_eq {n : Nat} (h : n < 9223372036854775808) : chanceryref2_Decimal (n : Int) = some (Lib.decDigits n, ()) :=
  decimal_f 20 n rounds (by omega) h (by omega) (by decide)

/-! ### Apostrophes twice -/
def dup (s : Str) : Str := s.flatMap fun c => if c = 39 then [39, 39] else [c]
theorem dup_len (s : Str) : (dup s).length ≤ 2 * s.length := by
  induction s with
  | nil => simp [dup]
  | cons c r ih =>
    simp only [dup, List.flatMap_cons, List.length_append, List.length_cons] at ih ⊢
    split <;> simp only [List.length_cons, List.length_nil] <;> omega

theorem indexByte_hit (c : UInt8) (r : Str) : Lib.indexByte (c :: r) c = 0 := by simp [Lib.indexByte]
theorem indexByte_miss {c x : UInt8} {r : Str} {i : Nat} (h : x ≠ c) (hi : Lib.indexByte r c = i) : Lib.indexByte (x :: r) c = ((i + 1 : Nat) : Int) := by
  have e : ¬ ((i : Int) == -1) = true := by simp
  simp only [Lib.indexByte, hi, beq_eq_false_iff_ne.2 h, Bool.false_eq_true, if_false, if_neg e]
  omega

theorem replaceK_one (c : UInt8) (new : Str) : ∀ s : Str, Lib.replaceK [c] new (s.count c) s = s.flatMap fun x => if x = c then new else [x]
  | [] => rfl
  | x :: r => by
    have ih := replaceK_one c new r
    by_cases hx : x = c
    · subst hx
      rw [List.count_cons_self, Lib.replaceK_hit [x] new _ _ 0 (by rw [Lib.index_one]; exact indexByte_hit x r)]
      simp [ih]
    · rw [List.count_cons_of_ne hx]
      cases hk : r.count c with
      | zero =>
        rw [hk] at ih
        simp only [Lib.replaceK] at ih ⊢
        simp [hx, ← ih]
      | succ k =>
        rw [hk] at ih
        obtain ⟨i, hi⟩ := Lib.index_of_count (s := r) (old := [c]) (by rw [Lib.count_one]; omega)
        have hi' : Lib.index (x :: r) [c] = ((i + 1 : Nat) : Int) := by rw [Lib.index_one]; exact indexByte_miss hx (by rw [← Lib.index_one]; exact hi)
        rw [Lib.replaceK_hit [c] new k _ i hi] at ih
        rw [Lib.replaceK_hit [c] new k _ (i + 1) hi']
        simp [hx, ← ih]

theorem replaceAll_dup (s : Str) : Lib.replaceAll s [39] [39, 39] = dup s := by
  have e : ([39] == ([39, 39] : List UInt8)) = false := by decide
  simp only [Lib.replaceAll, Lib.replace, e, Bool.false_eq_true, if_false, Lib.replaceNum]
  rw [if_pos (by omega), Lib.count_one]
  exact replaceK_one 39 [39, 39] s

theorem sReplaceAll_dup {s : Str} (h : s.length ≤ 1000000) : sReplaceAll (s, [39], [39, 39], ()) = some (dup s, ()) := by
  have hc := Lib.countB_le ⟨#[39]⟩ (by decide) _ ⟨s.toArray⟩ (Nat.le_refl _)
  have hs : (⟨s.toArray⟩ : ByteArray).size = s.length := by simp [ByteArray.size]
  rw [hs] at hc
  unfold sReplaceAll
  rw [if_pos ⟨by simp only; omega, by simp, by simp only [List.length_cons, List.length_nil]; omega⟩]
  simp only [replaceAll_dup]
theorem dup_take {s : Str} {i : Nat} (h : i < s.length) : dup (s.take (i + 1)) = dup (s.take i) ++ (if s[i] = 39 then [39, 39] else [s[i]]) := by
  rw [List.take_succ_eq_append_getElem h]
  simp only [dup, List.flatMap_append, List.flatMap_cons, List.flatMap_nil, List.append_nil]

/-! ### The text of a reference -/
def mark (b : Bool) (s : Str) : Str := if b = true then 36 :: s else s
theorem mark_len (b : Bool) (s : Str) : (mark b s).length ≤ s.length + 1 := by
  unfold mark
  split <;> simp
theorem dollar_eq {b : Bool} {s : Str} (h : s.length ≤ 1000) : cellref_dollar b s = some (mark b s, ()) := by
  cases b
  · rfl
  · simp only [cellref_dollar, cond_true]
    rw [cat_ok (by simp; omega)]
    rfl
theorem mark_eq {b : Bool} {s : Str} (h : s.length ≤ 1000) : chanceryref2_mark s b = some (mark b s, ()) := by
  cases b
  · rfl
  · simp only [chanceryref2_mark, cond_true]
    rw [cat_ok (by simp; omega)]
    rfl
def colText (n : Nat) (b : Bool) : Str := mark b (letters (n + 1))
def rowText (n : Nat) (b : Bool) : Str := mark b (Lib.decDigits (n + 1))
theorem colText_len {n : Nat} (b : Bool) (h : n < 1073741824) : (colText n b).length ≤ 8 := by
  have := letters_len 7 (n + 1) (by omega)
  have := mark_len b (letters (n + 1))
  unfold colText
  omega
theorem rowText_len {n : Nat} (b : Bool) (h : n < 1073741824) : (rowText n b).length ≤ 11 := by
  have := decDigits_len 9 (n + 1) (by omega)
  have := mark_len b (Lib.decDigits (n + 1))
  unfold rowText
  omega
theorem col_eq {n : Nat} (b : Bool) (h : n < 1073741824) : cellref_col (n : Int) b = some (colText n b, ()) := by
  have := letters_len 7 (n + 1) (by omega)
  simp only [cellref_col, cellref_letters_eq (n := n) (by omega), Option.bind_some, dollar_eq (b := b) (s := letters (n + 1)) (by omega)]
  rfl
theorem row_eq {n : Nat} (b : Bool) (h : n < 1073741824) : cellref_row (n : Int) b = some (rowText n b, ()) := by
  have := decDigits_len 9 (n + 1) (by omega)
  simp only [cellref_row, wrap_succ (i := n) (by omega), sItoa_nat (n := n + 1) (by omega), Option.bind_some, dollar_eq (b := b) (s := Lib.decDigits (n + 1)) (by omega)]
  rfl

/-- The sheet's part. -/
def sheetText (s : Str) : Str := if s = [] then [] else if isPlain s = true then s ++ [33] else 39 :: dup s ++ [39, 33]
theorem sheetText_len (s : Str) : (sheetText s).length ≤ 2 * s.length + 3 := by
  have := dup_len s
  unfold sheetText
  split
  · simp
  · split <;> simp <;> omega
/-- The text of a valid reference. -/
def refText (s : Str) (k : Int) (r c r2 c2 : Nat) (ar ac ar2 ac2 : Bool) : Str :=
  if k = 0 then sheetText s ++ colText c ac ++ rowText r ar
  else if k = 1 then sheetText s ++ colText c ac ++ rowText r ar ++ [58] ++ colText c2 ac2 ++ rowText r2 ar2
  else if k = 2 then sheetText s ++ rowText r ar ++ [58] ++ rowText r2 ar2
  else if k = 3 then sheetText s ++ colText c ac ++ [58] ++ colText c2 ac2
  else [35, 82, 69, 70, 33]

/-- What a valid reference is. -/
theorem valid {s : Str} {k r c r2 c2 : Int} {ar ac ar2 ac2 : Bool} (h : refErr s k r c r2 c2 ar ac ar2 ac2 = 0) :
    0 ≤ k ∧ k ≤ 4 ∧ nameErr s = 0 ∧ badForm s k r c r2 c2 ar ac ar2 ac2 = false ∧ (0 ≤ r ∧ r < 1073741824) ∧ (0 ≤ c ∧ c < 1073741824) ∧ (0 ≤ r2 ∧ r2 < 1073741824) ∧ (0 ≤ c2 ∧ c2 < 1073741824) ∧ (k = 0 ∨ r ≤ r2 ∧ c ≤ c2) := by
  unfold refErr at h
  split at h
  · omega
  rename_i h1
  split at h
  · omega
  rename_i h2
  cases h3 : badForm s k r c r2 c2 ar ac ar2 ac2 with
  | true => simp [h3] at h
  | false =>
    rw [h3] at h
    cases h4 : (ins r && ins c && ins r2 && ins c2) with
    | false => simp [h4] at h
    | true =>
      simp only [ins, Bool.and_eq_true, decide_eq_true_eq] at h4
      refine ⟨by omega, by omega, by omega, rfl, h4.1.1.1, h4.1.1.2, h4.1.2, h4.2, ?_⟩
      simp only [cond_false, ins, h4, and_self, decide_true, Bool.and_self, Bool.not_true] at h
      by_cases h5 : k = 0
      · exact .inl h5
      · simp [h5] at h
        by_cases h6 : r2 < r <;> by_cases h7 : c2 < c <;> simp [h6, h7] at h
        exact .inr ⟨by omega, by omega⟩
theorem name_small {s : Str} (h : nameErr s = 0) : s.length ≤ 200 := by
  unfold nameErr at h
  split at h
  · omega
  · omega

theorem Print_eq (s : Str) (k r c r2 c2 : Int) (ar ac ar2 ac2 : Bool) : cellref_Print (s, k, r, c, r2, c2, ar, ac, ar2, ac2, ()) =
    some (if refErr s k r c r2 c2 ar ac ar2 ac2 = 0 then (refText s k r.toNat c.toNat r2.toNat c2.toNat ar ac ar2 ac2, 0, ()) else ([], refErr s k r c r2 c2 ar ac ar2 ac2, ())) := by
  by_cases he : refErr s k r c r2 c2 ar ac ar2 ac2 = 0
  · obtain ⟨h1, h2, h3, h4, h5, h6, h7, h8, h9⟩ := valid he
    obtain ⟨r, rfl⟩ := Int.eq_ofNat_of_zero_le h5.1
    obtain ⟨c, rfl⟩ := Int.eq_ofNat_of_zero_le h6.1
    obtain ⟨r2, rfl⟩ := Int.eq_ofNat_of_zero_le h7.1
    obtain ⟨c2, rfl⟩ := Int.eq_ofNat_of_zero_le h8.1
    have hs := name_small h3
    have hd := dup_len s
    have ht := sheetText_len s
    have l1 := rowText_len (n := r) ar (by omega)
    have l2 := rowText_len (n := r2) ar2 (by omega)
    have l3 := colText_len (n := c) ac (by omega)
    have l4 := colText_len (n := c2) ac2 (by omega)
    rw [if_pos he]
    have first : (cond (!decide (s = [])) ((cat s [33]).bind fun v3 => (cellref_Plain s).bind fun v4 => cond (!v4.1)
        ((sReplaceAll (s, [39], [39, 39], ())).bind fun v5 => (cat [39] v5.1).bind fun v6 => (cat v6 [39, 33]).bind fun v7 => some ((), v7, (s, (k, ((r : Int), ((c : Int), ((r2 : Int), ((c2 : Int), (ar, (ac, (ar2, (ac2, ())))))))))), ()))
        (some ((), v3, (s, (k, ((r : Int), ((c : Int), ((r2 : Int), ((c2 : Int), (ar, (ac, (ar2, (ac2, ())))))))))), ())))
        (some ((), [], (s, (k, ((r : Int), ((c : Int), ((r2 : Int), ((c2 : Int), (ar, (ac, (ar2, (ac2, ())))))))))), ())) : Option (Unit × (Str × ((Str × (Int × (Int × (Int × (Int × (Int × (Bool × (Bool × (Bool × (Bool × Unit)))))))))) × Unit)))) =
        some ((), sheetText s, (s, (k, ((r : Int), ((c : Int), ((r2 : Int), ((c2 : Int), (ar, (ac, (ar2, (ac2, ())))))))))), ()) := by
      by_cases e : s = []
      · simp [e, sheetText]
      · simp only [e, decide_false, Bool.not_false, cond_true, sheetText, if_false, Plain_eq (s := s) (by omega), Option.bind_some]
        rw [cat_ok (by simp; omega)]
        cases hp : isPlain s with
        | true => simp
        | false =>
          simp only [Bool.not_false, cond_true, sReplaceAll_dup (s := s) (by omega), Option.bind_some]
          rw [cat_ok (by simp; omega)]
          simp only [Option.bind_some]
          rw [cat_ok (by simp; omega)]
          simp
    simp only [cellref_Print, Check_eq, he, Option.bind_some, decide_true, Bool.not_true, cond_false]
    rw [first]
    have cats : ∀ (x y : Str), x.length + y.length ≤ 1000 → cat x y = some (x ++ y) := fun x y h => cat_ok (by omega)
    simp only [Option.bind_some, Int.toNat_natCast, refText]
    have hk : k = 0 ∨ k = 1 ∨ k = 2 ∨ k = 3 ∨ k = 4 := by omega
    rcases hk with rfl | rfl | rfl | rfl | rfl <;> simp (disch := (first | omega | (simp only [List.length_append, List.length_cons, List.length_nil]; omega))) [col_eq, row_eq, cats]
  · simp [cellref_Print, Check_eq, he]

end Go.Proofs.YtfbnnjmhlkafiaaDoor
