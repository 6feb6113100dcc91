import Derived.Test.YtfbnnjmhlkafiaaDoorLawH
namespace Go.Proofs.YtfbnnjmhlkafiaaDoor
open Go Go.Fe

/-! ### The reference's sides -/
abbrev TakeS := Unit × (Unit × (Unit × ((Int × Unit) × ((Str × Unit) × Unit))))
abbrev TakeR := Unit × (Unit × ((Int × Unit) × ((Str × Unit) × Unit)))
/-- The loop of a closure that takes bytes. -/
theorem take_loop {f : TakeS → Option (TakeS ⊕ TakeR)} {s : Str} {p : UInt8 → Bool}
    (hf : ∀ i : Nat, f ((), (), (), ((i : Int), ()), (s, ()), ()) = some (if (s[i]?).any p = true then .inl ((), (), (), (IntKind.i64.wrap ((i : Int) + 1), ()), (s, ()), ()) else .inr ((), (), ((i : Int), ()), (s, ()), ()))) (hs : s.length < 1000000) :
    ∀ (r : Str) (i : Nat), s.drop i = r → i ≤ s.length → Halts f r.length ((), (), (), ((i : Int), ()), (s, ()), ()) ((), (), (((i + (r.takeWhile p).length : Nat) : Int), ()), (s, ()), ())
  | [], i, hd, hi => by
    have hl : s.length ≤ i := by
      have := congrArg List.length hd
      simp at this
      omega
    refine .done ?_
    rw [hf, List.getElem?_eq_none hl]
    simp
  | x :: r, i, hd, hi => by
    obtain ⟨hl, hx, hr⟩ := drop_eq hd
    cases hp : p x with
    | false =>
      refine .done ?_
      rw [hf, hx]
      simp [hp]
    | true =>
      have ih := take_loop hf hs r (i + 1) hr (by omega)
      have e : i + ((x :: r).takeWhile p).length = i + 1 + (r.takeWhile p).length := by simp [hp]; omega
      rw [e]
      refine .step ?_ ih
      rw [hf, hx, wrap_succ (by omega)]
      simp [hp]

theorem cut_take {s : Str} {p : UInt8 → Bool} {i : Nat} (hi : i ≤ s.length) : cut s (i : Int) ((i + ((s.drop i).takeWhile p).length : Nat) : Int) = some ((s.drop i).takeWhile p) := by
  have h1 := takeWhile_len p (s.drop i)
  rw [List.length_drop] at h1
  rw [cut_nat (by omega) (by omega), List.drop_take]
  congr 1
  rw [Nat.add_sub_cancel_left]
  have : ∀ l : Str, l.take (l.takeWhile p).length = l.takeWhile p := by
    intro l
    induction l with
    | nil => rfl
    | cons x r ih =>
      cases h : p x with
      | true => simp [h, ih]
      | false => simp [h]
  exact this _

def is36 (c : UInt8) : Bool := decide (c = 36)
theorem is36_eq (c : UInt8) : decide (ofByte c = 36) = is36 c := by
  have := byteIs c 36 (by omega)
  simp only [is36, decide_eq_decide]
  exact this

theorem take1 {s : Str} {i : Nat} (hi : i ≤ s.length) (hs : s.length < 1000000) : chanceryref2_readSide_1 (i : Int) s = some ((s.drop i).takeWhile is36, (), (), (((i + ((s.drop i).takeWhile is36).length : Nat) : Int), ()), (s, ()), ()) := by
  have h := take_loop (f := chanceryref2_readSide_1_l2108) (s := s) (p := is36) (fun j => by
    by_cases hj : j < s.length
    · have hg : ((j : Int) < (s.length : Int)) := by omega
      simp only [chanceryref2_readSide_1_l2108, hg, decide_true, cond_true, idx_lt hj, Option.bind_some, chanceryref2_readSide_2, is36_eq, List.getElem?_eq_getElem hj, Option.any_some]
      cases is36 s[j] <;> rfl
    · have hg : ¬ ((j : Int) < (s.length : Int)) := by omega
      simp only [chanceryref2_readSide_1_l2108, hg, decide_false, cond_false, Option.bind_some, List.getElem?_eq_none (Nat.le_of_not_lt hj), Option.any_none]
      rfl) hs (s.drop i) i rfl hi
  simp only [chanceryref2_readSide_1]
  rw [h.loop (by rw [List.length_drop]; omega)]
  simp only [Option.bind_some, cut_take hi]
theorem take2 {s : Str} {i : Nat} (hi : i ≤ s.length) (hs : s.length < 1000000) : chanceryref2_readSide_1x (i : Int) s = some ((s.drop i).takeWhile isLetter, (), (), (((i + ((s.drop i).takeWhile isLetter).length : Nat) : Int), ()), (s, ()), ()) := by
  have h := take_loop (f := chanceryref2_readSide_1x_l2108) (s := s) (p := isLetter) (fun j => by
    by_cases hj : j < s.length
    · have hg : ((j : Int) < (s.length : Int)) := by omega
      simp only [chanceryref2_readSide_1x_l2108, hg, decide_true, cond_true, idx_lt hj, Option.bind_some, rletter_eq, List.getElem?_eq_getElem hj, Option.any_some]
      cases isLetter s[j] <;> rfl
    · have hg : ¬ ((j : Int) < (s.length : Int)) := by omega
      simp only [chanceryref2_readSide_1x_l2108, hg, decide_false, cond_false, Option.bind_some, List.getElem?_eq_none (Nat.le_of_not_lt hj), Option.any_none]
      rfl) hs (s.drop i) i rfl hi
  simp only [chanceryref2_readSide_1x]
  rw [h.loop (by rw [List.length_drop]; omega)]
  simp only [Option.bind_some, cut_take hi]
theorem take3 {s : Str} {i : Nat} (hi : i ≤ s.length) (hs : s.length < 1000000) : chanceryref2_readSide_1xx (i : Int) s = some ((s.drop i).takeWhile isDigit, (), (), (((i + ((s.drop i).takeWhile isDigit).length : Nat) : Int), ()), (s, ()), ()) := by
  have h := take_loop (f := chanceryref2_readSide_1xx_l2108) (s := s) (p := isDigit) (fun j => by
    by_cases hj : j < s.length
    · have hg : ((j : Int) < (s.length : Int)) := by omega
      simp only [chanceryref2_readSide_1xx_l2108, hg, decide_true, cond_true, idx_lt hj, Option.bind_some, rdigit_eq, List.getElem?_eq_getElem hj, Option.any_some]
      cases isDigit s[j] <;> rfl
    · have hg : ¬ ((j : Int) < (s.length : Int)) := by omega
      simp only [chanceryref2_readSide_1xx_l2108, hg, decide_false, cond_false, Option.bind_some, List.getElem?_eq_none (Nat.le_of_not_lt hj), Option.any_none]
      rfl) hs (s.drop i) i rfl hi
  simp only [chanceryref2_readSide_1xx]
  rw [h.loop (by rw [List.length_drop]; omega)]
  simp only [Option.bind_some, cut_take hi]
theorem take4 {s : Str} {i : Nat} (hi : i ≤ s.length) (hs : s.length < 1000000) : chanceryref2_readSide_1xxx (i : Int) s = some ((s.drop i).takeWhile is36, (), (), (((i + ((s.drop i).takeWhile is36).length : Nat) : Int), ()), (s, ()), ()) := by
  have h := take_loop (f := chanceryref2_readSide_1xxx_l2108) (s := s) (p := is36) (fun j => by
    by_cases hj : j < s.length
    · have hg : ((j : Int) < (s.length : Int)) := by omega
      simp only [chanceryref2_readSide_1xxx_l2108, hg, decide_true, cond_true, idx_lt hj, Option.bind_some, chanceryref2_readSide_3, is36_eq, List.getElem?_eq_getElem hj, Option.any_some]
      cases is36 s[j] <;> rfl
    · have hg : ¬ ((j : Int) < (s.length : Int)) := by omega
      simp only [chanceryref2_readSide_1xxx_l2108, hg, decide_false, cond_false, Option.bind_some, List.getElem?_eq_none (Nat.le_of_not_lt hj), Option.any_none]
      rfl) hs (s.drop i) i rfl hi
  simp only [chanceryref2_readSide_1xxx]
  rw [h.loop (by rw [List.length_drop]; omega)]
  simp only [Option.bind_some, cut_take hi]

/-! ### Decimal numerals -/
def dec (s : Str) : Nat := s.foldl (fun n c => 10 * n + (c.toNat - 48)) 0
theorem dec_snoc (s : Str) (c : UInt8) : dec (s ++ [c]) = 10 * dec s + (c.toNat - 48) := by simp [dec]
theorem dec_lt : ∀ (k : Nat) (s : Str), s.length = k → s.all isDigit = true → dec s + 1 ≤ 10 ^ k
  | 0, s, h, _ => by
    have : s = [] := List.eq_nil_of_length_eq_zero h
    subst this
    simp [dec]
  | k + 1, s, h, ha => by
    obtain ⟨t, c, rfl⟩ : ∃ t c, s = t ++ [c] := ⟨s.dropLast, s.getLast (by intro e; subst e; simp at h), (List.dropLast_concat_getLast _).symm⟩
    simp only [List.all_append, Bool.and_eq_true] at ha
    have h1 := dec_lt k t (by simpa using h) ha.1
    have h2 : isDigit c = true := by simpa using ha.2
    simp only [isDigit, decide_eq_true_eq] at h2
    rw [dec_snoc, Nat.pow_succ]
    omega
theorem dec_small {s : Str} (h : s.length ≤ 10) (ha : s.all isDigit = true) : dec s < 10000000000 := by
  have h1 := dec_lt _ s rfl ha
  have h2 : 10 ^ s.length ≤ 10 ^ 10 := Nat.pow_le_pow_right (by omega) h
  omega
theorem dec_take {s : Str} {i : Nat} (h : i < s.length) : dec (s.take (i + 1)) = 10 * dec (s.take i) + (s[i].toNat - 48) := by
  rw [List.take_succ_eq_append_getElem h, dec_snoc]

theorem parse_digits : ∀ (s : Str) (acc : Nat), s.all isDigit = true → (acc + 1) * 10 ^ s.length ≤ 10000000000 → Lib.parseUint10 acc s = .ok (s.foldl (fun n c => 10 * n + (c.toNat - 48)) acc)
  | [], acc, _, _ => rfl
  | c :: r, acc, ha, hb => by
    simp only [List.all_cons, Bool.and_eq_true] at ha
    have h1 := ha.1
    simp only [isDigit, decide_eq_true_eq] at h1
    have hp : 1 ≤ 10 ^ r.length := Nat.pow_pos (by omega)
    have hb' : (10 * acc + (c.toNat - 48) + 1) * 10 ^ r.length ≤ 10000000000 := by
      rw [List.length_cons, Nat.pow_succ] at hb
      have : (10 * acc + (c.toNat - 48) + 1) * 10 ^ r.length ≤ ((acc + 1) * 10) * 10 ^ r.length := Nat.mul_le_mul_right _ (by omega)
      have e : (acc + 1) * (10 ^ r.length * 10) = ((acc + 1) * 10) * 10 ^ r.length := by rw [Nat.mul_comm (10 ^ r.length) 10, Nat.mul_assoc]
      omega
    have hacc : 10 * acc + (c.toNat - 48) + 1 ≤ 10000000000 := Nat.le_trans (Nat.le_mul_of_pos_right _ hp) hb'
    have ih := parse_digits r (10 * acc + (c.toNat - 48)) ha.2 hb'
    simp only [Lib.parseUint10]
    rw [if_pos h1, if_neg (by omega), if_neg (by omega), show acc * 10 + (c.toNat - 48) = 10 * acc + (c.toNat - 48) by omega]
    exact ih

theorem sAtoi_digits {s : Str} (h0 : s ≠ []) (h : s.length ≤ 10) (ha : s.all isDigit = true) : sAtoi (no_index (s, ())) = some ((dec s : Int), false, ()) := by
  have hp : 10 ^ s.length ≤ 10 ^ 10 := Nat.pow_le_pow_right (by omega) h
  have hu := parse_digits s 0 ha (by omega)
  have hd := dec_small h ha
  have e : Lib.atoiAll s = .ok (dec s : Int) := by
    cases s with
    | nil => exact absurd rfl h0
    | cons c r =>
      have h1 : isDigit c = true := by simp only [List.all_cons, Bool.and_eq_true] at ha; exact ha.1
      simp only [isDigit, decide_eq_true_eq] at h1
      have n1 : ¬ c.toNat = 43 := by omega
      have n2 : ¬ c.toNat = 45 := by omega
      have n3 : ¬ 9223372036854775808 ≤ dec (c :: r) := by omega
      have hu' : Lib.parseUint10 0 (c :: r) = .ok (dec (c :: r)) := hu
      simp [Lib.atoiAll, n1, n2, Lib.parseMag, hu', n3]
  unfold sAtoi
  rw [if_pos (by show s.length ≤ 281474976710656; omega)]
  simp only [e]
end Go.Proofs.YtfbnnjmhlkafiaaDoor
