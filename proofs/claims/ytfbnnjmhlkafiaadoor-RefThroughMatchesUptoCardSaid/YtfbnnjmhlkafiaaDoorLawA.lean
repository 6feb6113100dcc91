import Derived.Test.YtfbnnjmhlkafiaaDoorFun
import Derived.Test.YtfbnnjmhlkafiaaDoorFeRun
namespace Go.Proofs.YtfbnnjmhlkafiaaDoor
open Go Go.Fe
theorem refs_true : chancerylaw2_refs = some (true, ()) := by kernel_rfl

/-! ### Bytes -/
def isLetter (c : UInt8) : Bool := decide (65 ≤ c.toNat ∧ c.toNat ≤ 90 ∨ 97 ≤ c.toNat ∧ c.toNat ≤ 122)
def isDigit (c : UInt8) : Bool := decide (48 ≤ c.toNat ∧ c.toNat ≤ 57)

theorem letter_eq (c : UInt8) : cellref_letter (ofByte c) = some (isLetter c, ()) := by
  have := byte_lt c
  simp only [cellref_letter, ofByte_eq, isLetter]
  by_cases h1 : 65 ≤ c.toNat <;> by_cases h2 : c.toNat ≤ 90 <;> by_cases h3 : 97 ≤ c.toNat <;> by_cases h4 : c.toNat ≤ 122 <;>
    simp [h1, h2, h3, h4, show ((65 : Int) ≤ (c.toNat : Int)) ↔ 65 ≤ c.toNat by omega, show ((c.toNat : Int) ≤ 90) ↔ c.toNat ≤ 90 by omega, show ((97 : Int) ≤ (c.toNat : Int)) ↔ 97 ≤ c.toNat by omega, show ((c.toNat : Int) ≤ 122) ↔ c.toNat ≤ 122 by omega]
theorem rletter_eq (c : UInt8) : chanceryref2_Letter (ofByte c) = some (isLetter c, ()) := letter_eq c
theorem digit_eq (c : UInt8) : cellref_digit (ofByte c) = some (isDigit c, ()) := by
  have := byte_lt c
  simp only [cellref_digit, ofByte_eq, isDigit]
  by_cases h1 : 48 ≤ c.toNat <;> by_cases h2 : c.toNat ≤ 57 <;>
    simp [h1, h2, show ((48 : Int) ≤ (c.toNat : Int)) ↔ 48 ≤ c.toNat by omega, show ((c.toNat : Int) ≤ 57) ↔ c.toNat ≤ 57 by omega]
theorem rdigit_eq (c : UInt8) : chanceryref2_Digit (ofByte c) = some (isDigit c, ()) := digit_eq c

/-! ### Letters -/
/-- The letters of the n-th column, counted from 1. -/
def letters (n : Nat) : Str := if _h : n = 0 then [] else letters ((n - 1) / 26) ++ [UInt8.ofNat (65 + (n - 1) % 26)]
termination_by n
decreasing_by have := Nat.div_le_self (n - 1) 26; omega

theorem letters_zero : letters 0 = [] := by rw [letters]; rfl
theorem letters_pos {n : Nat} (h : n ≠ 0) : letters n = letters ((n - 1) / 26) ++ [UInt8.ofNat (65 + (n - 1) % 26)] := by rw [letters, dif_neg h]

theorem letters_len : ∀ (k n : Nat), n < 26 ^ k → (letters n).length ≤ k
  | 0, n, h => by
    have : n = 0 := by simpa using h
    subst this; rw [letters_zero]; simp
  | k + 1, n, h => by
    by_cases e : n = 0
    · subst e; rw [letters_zero]; simp
    · rw [letters_pos e]
      have := letters_len k ((n - 1) / 26) (by rw [Nat.div_lt_iff_lt_mul (by omega)]; rw [Nat.pow_succ] at h; omega)
      simp; omega

theorem bytesStr_one (n : Nat) : bytesStr [(n : Int)] = [UInt8.ofNat n] := by simp [bytesStr, byteOfInt_nat]

theorem letters_ends : ∀ (k n : Nat) (s : Str), n < 26 ^ k → n < 2147483648 → s.length + k ≤ 1000 → Halts cellref_letters_l1345 k (s, (n : Int), ()) (letters n ++ s, ())
  | 0, n, s, h, _, _ => by
    have : n = 0 := by simpa using h
    subst this
    rw [letters_zero]
    exact .done (by simp [cellref_letters_l1345])
  | k + 1, n, s, h, hn, hs => by
    by_cases e : n = 0
    · subst e
      rw [letters_zero]
      exact .done (by simp [cellref_letters_l1345])
    · have ih := letters_ends k ((n - 1) / 26) (UInt8.ofNat (65 + (n - 1) % 26) :: s) (by rw [Nat.div_lt_iff_lt_mul (by omega)]; rw [Nat.pow_succ] at h; omega) (by omega) (by simp; omega)
      rw [letters_pos e, List.append_assoc]
      refine .step ?_ ih
      have e1 : IntKind.i64.wrap ((n : Int) - 1) = ((n - 1 : Nat) : Int) := by rw [wrap_i64 (by omega) (by omega)]; omega
      have e2 : IntKind.u8.wrap (((n - 1) % 26 : Nat) : Int) = (((n - 1) % 26 : Nat) : Int) := wrap_u8i (by omega) (by omega)
      have e3 : IntKind.u8.wrap (65 + (((n - 1) % 26 : Nat) : Int)) = ((65 + (n - 1) % 26 : Nat) : Int) := by rw [wrap_u8i (by omega) (by omega)]; omega
      simp only [cellref_letters_l1345, e1]
      rw [show (26 : Int) = ((26 : Nat) : Int) from rfl, rem_nat (by omega), quo_nat (by omega) (by omega)]
      simp only [Option.bind_some, e2, e3, bytesStr_one]
      rw [cat_ok (by simp; omega)]
      simp [show 0 < n by omega]

theorem cellref_letters_eq {n : Nat} (h : n < 2147483647) : cellref_letters (n : Int) = some (letters (n + 1), ()) := by
  have e : IntKind.i64.wrap ((n : Int) + 1) = ((n + 1 : Nat) : Int) := by rw [wrap_i64 (by omega) (by omega)]; omega
  simp only [cellref_letters, e]
  rw [(letters_ends 10 (n + 1) [] (by omega) (by omega) (by simp)).loop (by omega)]
  simp

theorem permitted_eq (n : Int) : cellref_permitted n = some (decide (0 ≤ n ∧ n < 1073741824), ()) := by
  simp only [cellref_permitted]
  by_cases h1 : 0 ≤ n <;> by_cases h2 : n < 1073741824 <;> simp [h1, h2]

theorem Letters_eq (n : Int) : cellref_Letters n = some (if 0 ≤ n ∧ n < 1073741824 then (letters (n.toNat + 1), 0, ()) else ([], 2, ())) := by
  simp only [cellref_Letters, permitted_eq, Option.bind_some]
  by_cases h : 0 ≤ n ∧ n < 1073741824
  · obtain ⟨m, rfl⟩ := Int.eq_ofNat_of_zero_le h.1
    rw [cellref_letters_eq (by omega)]
    simp [h]
  · simp [h]

/-- n letters, of x. -/
def digits : Nat → Nat → Str
  | 0, _ => []
  | n + 1, x => digits n (x / 26) ++ [UInt8.ofNat (65 + x % 26)]
/-- How many columns have 1 to n - 1 letters. -/
def fewer : Nat → Nat
  | 0 => 0
  | 1 => 0
  | n + 2 => 26 * (fewer (n + 1) + 1)

theorem letters_digits : ∀ (n x : Nat), x < 26 ^ (n + 1) → letters (fewer (n + 1) + x + 1) = digits (n + 1) x
  | 0, x, h => by
    rw [letters_pos (by omega)]
    have : (fewer (0 + 1) + x + 1 - 1) / 26 = 0 := by simp [fewer] at h ⊢; omega
    rw [this, letters_zero]
    simp [digits, fewer]
  | n + 1, x, h => by
    rw [letters_pos (by omega)]
    have e : fewer (n + 1 + 1) = 26 * (fewer (n + 1) + 1) := rfl
    have e1 : (fewer (n + 1 + 1) + x + 1 - 1) / 26 = fewer (n + 1) + x / 26 + 1 := by rw [e]; omega
    have e2 : (fewer (n + 1 + 1) + x + 1 - 1) % 26 = x % 26 := by rw [e]; omega
    rw [e1, e2, letters_digits n (x / 26) (by rw [Nat.div_lt_iff_lt_mul (by omega)]; rw [Nat.pow_succ] at h; omega)]
    rfl

theorem digits_len : ∀ n x, (digits n x).length = n
  | 0, _ => rfl
  | n + 1, x => by simp [digits, digits_len n]

/-- The first loop of the reference: how many letters. -/
theorem rletters_ends1 : ∀ (k n c : Nat), c < 2147483648 → n + k ≤ 7 → c < 26 ^ (n + k) → 1 ≤ n → ∃ m x : Nat, Halts chanceryref2_Letters_l221 k ((c : Int), (n : Int), ((26 ^ n : Nat) : Int), ()) ((x : Int), (m : Int), ()) ∧ fewer m + x = fewer n + c ∧ x < 26 ^ m ∧ 1 ≤ m ∧ m ≤ 7
  | k, n, c, hc, hk, hck, hn => by
    by_cases h : 26 ^ n ≤ c
    · cases k with
      | zero => simp at hck; omega
      | succ k =>
        have hp : 26 ^ (n + 1) ≤ 26 ^ 7 := Nat.pow_le_pow_right (by omega) (by omega)
        have hp' : 26 ^ n ≤ 26 ^ 7 := Nat.pow_le_pow_right (by omega) (by omega)
        have hq : (26 : Nat) ^ 7 = 8031810176 := by decide
        rw [hq] at hp hp'
        have hpos : 1 ≤ 26 ^ n := Nat.pow_pos (by omega)
        obtain ⟨m, x, h1, h2, h3, h4, h5⟩ := rletters_ends1 k (n + 1) (c - 26 ^ n) (by omega) (by omega) (by rw [show n + 1 + k = n + (k + 1) by omega]; omega) (by omega)
        refine ⟨m, x, .step ?_ h1, ?_, h3, h4, h5⟩
        · have a1 : ((26 ^ n : Nat) : Int) ≤ (c : Int) := by omega
          have a2 : IntKind.i64.wrap ((c : Int) - ((26 ^ n : Nat) : Int)) = ((c - 26 ^ n : Nat) : Int) := by rw [wrap_i64 (by omega) (by omega)]; omega
          have a3 : IntKind.i64.wrap ((n : Int) + 1) = ((n + 1 : Nat) : Int) := by rw [wrap_i64 (by omega) (by omega)]; omega
          have a4 : IntKind.i64.wrap (((26 ^ n : Nat) : Int) * 26) = ((26 ^ (n + 1) : Nat) : Int) := by rw [Nat.pow_succ] at hp ⊢; rw [wrap_i64 (by omega) (by omega)]; omega
          simp only [chanceryref2_Letters_l221, a1, a2, a3, a4, decide_true, cond_true]
        · have e : fewer (n + 1) = fewer n + 26 ^ n := by
            have : ∀ n, 1 ≤ n → fewer (n + 1) = fewer n + 26 ^ n := by
              intro n hn
              induction n with
              | zero => omega
              | succ n ih =>
                by_cases e : n = 0
                · subst e; rfl
                · have := ih (by omega)
                  show 26 * (fewer (n + 1) + 1) = fewer (n + 1) + 26 ^ (n + 1)
                  have e2 : fewer (n + 1) = 26 * (fewer n + 1) := by
                    cases n with
                    | zero => omega
                    | succ n => rfl
                  rw [Nat.pow_succ]
                  omega
            exact this n hn
          omega
    · refine ⟨n, c, .done ?_, rfl, by omega, hn, by omega⟩
      have a1 : ¬ ((26 ^ n : Nat) : Int) ≤ (c : Int) := by omega
      simp only [chanceryref2_Letters_l221, a1, decide_false, cond_false]

/-- The second: the letters from the last. -/
theorem rletters_ends2 : ∀ (k x : Nat) (out tail : List Int), x < 2147483648 → out.length = k → k ≤ 100 → Halts chanceryref2_Letters_l237 k ((x : Int), (), (k : Int) - 1, out ++ tail, ()) ((), (digits k x).map (fun c => (c.toNat : Int)) ++ tail, ())
  | 0, x, out, tail, hx, ho, hk => by
    have : out = [] := List.eq_nil_of_length_eq_zero ho
    subst this
    exact .done (by simp [chanceryref2_Letters_l237, digits])
  | k + 1, x, out, tail, hx, ho, hk => by
    obtain ⟨o', a, rfl⟩ : ∃ o' a, out = o' ++ [a] := ⟨out.dropLast, out.getLast (by intro e; subst e; simp at ho), (List.dropLast_concat_getLast _).symm⟩
    have ho' : o'.length = k := by simpa using ho
    have ih := rletters_ends2 k (x / 26) o' ((65 + x % 26 : Nat) :: tail) (by omega) ho' (by omega)
    have e0 : (digits (k + 1) x).map (fun c => (c.toNat : Int)) ++ tail = (digits k (x / 26)).map (fun c => (c.toNat : Int)) ++ ((65 + x % 26 : Nat) : Int) :: tail := by
      simp only [digits, List.map_append, List.map_cons, List.map_nil, List.append_assoc, List.cons_append, List.nil_append]
      have : (UInt8.ofNat (65 + x % 26)).toNat = 65 + x % 26 := by
        rw [UInt8.toNat_ofNat']
        omega
      rw [this]
    rw [e0]
    refine .step ?_ ih
    have a1 : ((k + 1 : Nat) : Int) - 1 = (k : Int) := by omega
    have a2 : IntKind.i64.wrap ((k : Int) - 1) = (k : Int) - 1 := by rw [wrap_i64 (by omega) (by omega)]
    have a3 : IntKind.u8.wrap (IntKind.i64.wrap (65 + ((x % 26 : Nat) : Int))) = ((65 + x % 26 : Nat) : Int) := by
      rw [wrap_i64 (by omega) (by omega), wrap_u8i (by omega) (by omega)]; omega
    have a4 : inb (k : Int) (o' ++ [a] ++ tail).length = true := inb_nat (by simp; omega)
    have a5 : ((o' ++ [a] ++ tail).set k ((65 + x % 26 : Nat) : Int)) = o' ++ ((65 + x % 26 : Nat) : Int) :: tail := by
      rw [List.append_assoc, List.set_append_right _ _ (by omega), ho', Nat.sub_self]
      rfl
    simp only [chanceryref2_Letters_l237, a1]
    rw [show (26 : Int) = ((26 : Nat) : Int) from rfl, rem_nat (by omega), quo_nat (by omega) (by omega)]
    simp only [Option.bind_some, a2, a3, a4, chk_t, Int.toNat_natCast, a5]
    simp

theorem RLetters_eq {n : Nat} (h : n < 2147483647) : chanceryref2_Letters (n : Int) = some (letters (n + 1), ()) := by
  obtain ⟨m, x, h1, h2, h3, h4, h5⟩ := rletters_ends1 6 1 n (by omega) (by omega) (by simp; omega) (by omega)
  have a1 : ((26 ^ 1 : Nat) : Int) = 26 := rfl
  rw [a1] at h1
  have hp : 26 ^ m ≤ 26 ^ 7 := Nat.pow_le_pow_right (by omega) (by omega)
  have f1 : fewer 1 = 0 := rfl
  rw [f1] at h2
  have e2 := rletters_ends2 m x (List.replicate m 0) [] (by omega) (by simp) (by omega)
  simp only [List.append_nil] at e2
  have a2 : IntKind.i64.wrap ((m : Int) - 1) = (m : Int) - 1 := by rw [wrap_i64 (by omega) (by omega)]
  simp only [chanceryref2_Letters]
  have h1' := h1.loop (by omega)
  rw [show ((1 : Nat) : Int) = 1 from rfl] at h1'
  rw [h1']
  simp only [Option.bind_some]
  rw [mk_nat (by omega)]
  simp only [Option.bind_some, a2]
  rw [e2.loop (by omega)]
  simp only [Option.bind_some]
  have e3 : bytesStr ((digits m x).map fun c => (c.toNat : Int)) = digits m x := by
    simp only [bytesStr, List.map_map]
    have : (byteOfInt ∘ fun c : UInt8 => (c.toNat : Int)) = id := by
      funext c
      simp [byteOfInt]
    rw [this, List.map_id]
  rw [e3]
  obtain ⟨m, rfl⟩ : ∃ m', m = m' + 1 := ⟨m - 1, by omega⟩
  rw [← letters_digits m x h3]
  congr 3
  omega

/-! ### All, Plain -/
theorem all_none {s : Str} {p : UInt8 → Bool} (h : ∀ i, i < s.length → (fun i => (s[i]?).all p) i = true) : s.all p = true := by
  rw [List.all_eq_true]
  intro x hx
  obtain ⟨i, hi, rfl⟩ := List.mem_iff_getElem.1 hx
  have := h i hi
  simpa [List.getElem?_eq_getElem hi] using this
theorem all_some {s : Str} {p : UInt8 → Bool} {i : Nat} (h : i < s.length) (h' : (s[i]?).all p = false) : s.all p = false := by
  rw [List.getElem?_eq_getElem h] at h'
  rw [List.all_eq_false]
  exact ⟨s[i], List.getElem_mem h, by simpa using h'⟩

theorem wrap_succ {i : Nat} (h : i < 4611686018427387904) : IntKind.i64.wrap ((i : Int) + 1) = ((i + 1 : Nat) : Int) := by rw [wrap_i64 (by omega) (by omega)]; omega

theorem RAll_eq {s : Str} (h : s.length < 1099511627776) : chanceryref2_All s = some (s.all isLetter, ()) := by
  have hs : ∀ i, i < s.length → (s[i]?).all isLetter = true → chanceryref2_All_l316 s ((), (i : Int), ()) = some (.inl ((), ((i + 1 : Nat) : Int), ())) := fun i hi hp => by
    rw [List.getElem?_eq_getElem hi, Option.all_some] at hp
    simp [chanceryref2_All_l316, idx_lt hi, rletter_eq, hp, wrap_succ (i := i) (by omega), hi]
  have hq : ∀ i, i < s.length → (s[i]?).all isLetter = false → chanceryref2_All_l316 s ((), (i : Int), ()) = some (.inr (.inr (false, ()))) := fun i hi hp => by
    rw [List.getElem?_eq_getElem hi, Option.all_some] at hp
    simp [chanceryref2_All_l316, idx_lt hi, rletter_eq, hp, hi]
  have he : chanceryref2_All_l316 s ((), (s.length : Int), ()) = some (.inr (.inl ())) := by simp [chanceryref2_All_l316]
  rcases Halts.all (fun i : Nat => ((), (i : Int), ())) (fun i => (s[i]?).all isLetter) s.length hs hq he with ⟨h1, h2⟩ | ⟨i, hi, h1, _, h2⟩
  · simp only [chanceryref2_All]
    rw [show ((0 : Nat) : Int) = 0 from rfl] at h2
    rw [h2.loop h, all_none h1]
    rfl
  · simp only [chanceryref2_All]
    rw [show ((0 : Nat) : Int) = 0 from rfl] at h2
    rw [h2.loop h, all_some hi h1]
    rfl

def isWord (c : UInt8) : Bool := isLetter c || isDigit c || decide (c.toNat = 95)
def isPlain (s : Str) : Bool := match s with
  | [] => false
  | c :: r => isLetter c && r.all isWord

theorem word_eq (c : UInt8) : chanceryref2_Plain_1 (ofByte c) = some (isWord c, ()) := by
  simp only [chanceryref2_Plain_1, rletter_eq, rdigit_eq, Option.bind_some, isWord]
  have h5 : ((c.toNat : Int) = 95) ↔ (c.toNat = 95) := by omega
  cases isLetter c <;> cases isDigit c <;> simp [ofByte_eq, h5]

theorem RAllx_eq {s : Str} (h : s.length < 1099511627776) : chanceryref2_Allx s = some (s.all isWord, ()) := by
  have hs : ∀ i, i < s.length → (s[i]?).all isWord = true → chanceryref2_Allx_l316 s ((), (i : Int), ()) = some (.inl ((), ((i + 1 : Nat) : Int), ())) := fun i hi hp => by
    rw [List.getElem?_eq_getElem hi, Option.all_some] at hp
    simp [chanceryref2_Allx_l316, idx_lt hi, word_eq, hp, wrap_succ (i := i) (by omega), hi]
  have hq : ∀ i, i < s.length → (s[i]?).all isWord = false → chanceryref2_Allx_l316 s ((), (i : Int), ()) = some (.inr (.inr (false, ()))) := fun i hi hp => by
    rw [List.getElem?_eq_getElem hi, Option.all_some] at hp
    simp [chanceryref2_Allx_l316, idx_lt hi, word_eq, hp, hi]
  have he : chanceryref2_Allx_l316 s ((), (s.length : Int), ()) = some (.inr (.inl ())) := by simp [chanceryref2_Allx_l316]
  rcases Halts.all (fun i : Nat => ((), (i : Int), ())) (fun i => (s[i]?).all isWord) s.length hs hq he with ⟨h1, h2⟩ | ⟨i, hi, h1, _, h2⟩
  · simp only [chanceryref2_Allx]
    rw [show ((0 : Nat) : Int) = 0 from rfl] at h2
    rw [h2.loop h, all_none h1]
    rfl
  · simp only [chanceryref2_Allx]
    rw [show ((0 : Nat) : Int) = 0 from rfl] at h2
    rw [h2.loop h, all_some hi h1]
    rfl

theorem RPlain_eq {s : Str} (h : s.length < 1099511627776) : chanceryref2_Plain s = some (isPlain s, ()) := by
  cases s with
  | nil => simp [chanceryref2_Plain, isPlain]
  | cons c r =>
    simp only [chanceryref2_Plain, isPlain, RAllx_eq h, idx_zero, List.getElem?_cons_zero, Option.bind_some, rletter_eq]
    cases hc : isLetter c <;> simp [hc, isWord]

/-- What is wanted of the i-th byte of a plain name. -/
def plainAt (s : Str) (i : Nat) : Bool := (s[i]?).all fun c => isLetter c || (decide (i ≠ 0) && isWord c)

theorem Plain_eq {s : Str} (h : s.length < 1099511627776) : cellref_Plain s = some (isPlain s, ()) := by
  have key : ∀ i (hi : i < s.length), cellref_Plain_l392 s ((i : Int), ()) = some (if plainAt s i = true then .inl (((i + 1 : Nat) : Int), ()) else .inr (.inr (false, ()))) := fun i hi => by
    have hg : ((i : Int) < (s.length : Int)) := by omega
    have h3 : ((i : Int) = 0) ↔ i = 0 := by omega
    simp only [plainAt, List.getElem?_eq_getElem hi, Option.all_some, isWord]
    simp only [cellref_Plain_l392, idx_lt hi, letter_eq, digit_eq, Option.bind_some, wrap_succ (i := i) (by omega), hg, decide_true, cond_true]
    generalize s[i] = c
    have h5 : ((c.toNat : Int) = 95) ↔ (c.toNat = 95) := by omega
    simp only [ofByte_eq, h5, h3]
    cases isLetter c <;> cases isDigit c <;> by_cases h3 : i = 0 <;> by_cases h4 : c.toNat = 95 <;> simp [h3, h4]
  have hs : ∀ i, i < s.length → plainAt s i = true → cellref_Plain_l392 s ((i : Int), ()) = some (.inl (((i + 1 : Nat) : Int), ())) := fun i hi hp => by rw [key i hi, if_pos hp]
  have hq : ∀ i, i < s.length → plainAt s i = false → cellref_Plain_l392 s ((i : Int), ()) = some (.inr (.inr (false, ()))) := fun i hi hp => by rw [key i hi, if_neg (by rw [hp]; decide)]
  have he : cellref_Plain_l392 s ((s.length : Int), ()) = some (.inr (.inl ())) := by simp [cellref_Plain_l392]
  rcases Halts.all (fun i : Nat => ((i : Int), ())) (plainAt s) s.length hs hq he with ⟨h1, h2⟩ | ⟨i, hi, h1, _, h2⟩
  · simp only [cellref_Plain]
    rw [show ((0 : Nat) : Int) = 0 from rfl] at h2
    rw [h2.loop h]
    cases s with
    | nil => simp [isPlain]
    | cons c r =>
      have h0 := h1 0 (by simp)
      simp [plainAt] at h0
      have : r.all isWord = true := by
        rw [List.all_eq_true]
        intro x hx
        obtain ⟨i, hi, rfl⟩ := List.mem_iff_getElem.1 hx
        have := h1 (i + 1) (by simp; omega)
        simp [plainAt, List.getElem?_eq_getElem hi, isWord] at this
        simp [isWord]
        rcases this with h | h
        · exact .inl (.inl h)
        · exact h
      simp [isPlain, h0, this]
  · simp only [cellref_Plain]
    rw [show ((0 : Nat) : Int) = 0 from rfl] at h2
    rw [h2.loop h]
    cases s with
    | nil => simp at hi
    | cons c r =>
      cases i with
      | zero =>
        simp [plainAt] at h1
        simp [isPlain, h1]
      | succ i =>
        have hi' : i < r.length := by simpa using hi
        simp [plainAt, List.getElem?_eq_getElem hi'] at h1
        have : r.all isWord = false := by
          rw [List.all_eq_false]
          exact ⟨r[i], List.getElem_mem hi', by simp [h1]⟩
        simp [isPlain, this]

end Go.Proofs.YtfbnnjmhlkafiaaDoor
