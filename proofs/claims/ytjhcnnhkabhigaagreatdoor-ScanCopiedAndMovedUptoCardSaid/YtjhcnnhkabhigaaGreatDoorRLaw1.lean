import Derived.Test.YtjhcnnhkabhigaaGreatDoorFun
import Derived.Test.YtjhcnnhkabhigaaGreatDoorFeRun
namespace Go.Proofs.YtjhcnnhkabhigaaGreatDoor
open Go Go.Fe
/-! ### Bytes -/
def isLetter (c : UInt8) : Bool := decide (65 ≤ c.toNat ∧ c.toNat ≤ 90 ∨ 97 ≤ c.toNat ∧ c.toNat ≤ 122)
def isDigit (c : UInt8) : Bool := decide (48 ≤ c.toNat ∧ c.toNat ≤ 57)

theorem letter_eq (c : UInt8) : cellref_letter (ofByte c) = some (isLetter c, ()) := by
  have := byte_lt c
  simp only [cellref_letter, ofByte_eq, isLetter]
  by_cases h1 : 65 ≤ c.toNat <;> by_cases h2 : c.toNat ≤ 90 <;> by_cases h3 : 97 ≤ c.toNat <;> by_cases h4 : c.toNat ≤ 122 <;>
    simp [h1, h2, h3, h4, show ((65 : Int) ≤ (c.toNat : Int)) ↔ 65 ≤ c.toNat by omega, show ((c.toNat : Int) ≤ 90) ↔ c.toNat ≤ 90 by omega, show ((97 : Int) ≤ (c.toNat : Int)) ↔ 97 ≤ c.toNat by omega, show ((c.toNat : Int) ≤ 122) ↔ c.toNat ≤ 122 by omega]
theorem rletter_eq (c : UInt8) : chanceryref2_Letter (ofByte c) = some (isLetter c, ()) := letter_eq c
theorem digit_eq (c : UInt8) : cellref_digit (ofByte c) = some (isDigit c, ()) := by
  have := byte_lt c
  simp only [cellref_digit, ofByte_eq, isDigit]
  by_cases h1 : 48 ≤ c.toNat <;> by_cases h2 : c.toNat ≤ 57 <;>
    simp [h1, h2, show ((48 : Int) ≤ (c.toNat : Int)) ↔ 48 ≤ c.toNat by omega, show ((c.toNat : Int) ≤ 57) ↔ c.toNat ≤ 57 by omega]
theorem rdigit_eq (c : UInt8) : chanceryref2_Digit (ofByte c) = some (isDigit c, ()) := digit_eq c

/-! ### Letters -/
/-- The letters of the n-th column, counted from 1. -/
def letters (n : Nat) : Str := if _h : n = 0 then [] else letters ((n - 1) / 26) ++ [UInt8.ofNat (65 + (n - 1) % 26)]
termination_by n
decreasing_by have := Nat.div_le_self (n - 1) 26; omega

theorem letters_zero : letters 0 = [] := by rw [letters]; rfl
theorem letters_pos {n : Nat} (h : n ≠ 0) : letters n = letters ((n - 1) / 26) ++ [UInt8.ofNat (65 + (n - 1) % 26)] := by rw [letters, dif_neg h]

theorem letters_len : ∀ (k n : Nat), n < 26 ^ k → (letters n).length ≤ k
  | 0, n, h => by
    have : n = 0 := by simpa using h
    subst this; rw [letters_zero]; simp
  | k + 1, n, h => by
    by_cases e : n = 0
    · subst e; rw [letters_zero]; simp
    · rw [letters_pos e]
      have := letters_len k ((n - 1) / 26) (by rw [Nat.div_lt_iff_lt_mul (by omega)]; rw [Nat.pow_succ] at h; omega)
      simp; omega

theorem bytesStr_one (n : Nat) : bytesStr [(n : Int)] = [UInt8.ofNat n] := by simp [bytesStr, byteOfInt_nat]

theorem letters_ends : ∀ (k n : Nat) (s : Str), n < 26 ^ k → n < 2147483648 → s.length + k ≤ 1000 → Halts cellref_letters_l1 k (s, (n : Int), ()) (letters n ++ s, ())
  | 0, n, s, h, _, _ => by
    have : n = 0 := by simpa using h
    subst this
    rw [letters_zero]
    exact .done (by simp [cellref_letters_l1])
  | k + 1, n, s, h, hn, hs => by
    by_cases e : n = 0
    · subst e
      rw [letters_zero]
      exact .done (by simp [cellref_letters_l1])
    · have ih := letters_ends k ((n - 1) / 26) (UInt8.ofNat (65 + (n - 1) % 26) :: s) (by rw [Nat.div_lt_iff_lt_mul (by omega)]; rw [Nat.pow_succ] at h; omega) (by omega) (by simp; omega)
      rw [letters_pos e, List.append_assoc]
      refine .step ?_ ih
      have e1 : IntKind.i64.wrap ((n : Int) - 1) = ((n - 1 : Nat) : Int) := by rw [wrap_i64 (by omega) (by omega)]; omega
      have e2 : IntKind.u8.wrap (((n - 1) % 26 : Nat) : Int) = (((n - 1) % 26 : Nat) : Int) := wrap_u8i (by omega) (by omega)
      have e3 : IntKind.u8.wrap (65 + (((n - 1) % 26 : Nat) : Int)) = ((65 + (n - 1) % 26 : Nat) : Int) := by rw [wrap_u8i (by omega) (by omega)]; omega
      simp only [cellref_letters_l1, e1]
      rw [show (26 : Int) = ((26 : Nat) : Int) from rfl, rem_nat (by omega), quo_nat (by omega) (by omega)]
      simp only [Option.bind_some, e2, e3, bytesStr_one]
      rw [cat_ok (by simp; omega)]
      simp [show 0 < n by omega]

theorem cellref_letters_eq {n : Nat} (h : n < 2147483647) : cellref_letters (n : Int) = some (letters (n + 1), ()) := by
  have e : IntKind.i64.wrap ((n : Int) + 1) = ((n + 1 : Nat) : Int) := by rw [wrap_i64 (by omega) (by omega)]; omega
  simp only [cellref_letters, e]
  rw [(letters_ends 10 (n + 1) [] (by omega) (by omega) (by simp)).loop (by omega)]
  simp

theorem permitted_eq (n : Int) : cellref_permitted n = some (decide (0 ≤ n ∧ n < 1073741824), ()) := by
  simp only [cellref_permitted]
  by_cases h1 : 0 ≤ n <;> by_cases h2 : n < 1073741824 <;> simp [h1, h2]

/-- n letters, of x. -/
def digits : Nat → Nat → Str
  | 0, _ => []
  | n + 1, x => digits n (x / 26) ++ [UInt8.ofNat (65 + x % 26)]
/-- How many columns have 1 to n - 1 letters. -/
def fewer : Nat → Nat
  | 0 => 0
  | 1 => 0
  | n + 2 => 26 * (fewer (n + 1) + 1)

theorem letters_digits : ∀ (n x : Nat), x < 26 ^ (n + 1) → letters (fewer (n + 1) + x + 1) = digits (n + 1) x
  | 0, x, h => by
    rw [letters_pos (by omega)]
    have : (fewer (0 + 1) + x + 1 - 1) / 26 = 0 := by simp [fewer] at h ⊢; omega
    rw [this, letters_zero]
    simp [digits, fewer]
  | n + 1, x, h => by
    rw [letters_pos (by omega)]
    have e : fewer (n + 1 + 1) = 26 * (fewer (n + 1) + 1) := rfl
    have e1 : (fewer (n + 1 + 1) + x + 1 - 1) / 26 = fewer (n + 1) + x / 26 + 1 := by rw [e]; omega
    have e2 : (fewer (n + 1 + 1) + x + 1 - 1) % 26 = x % 26 := by rw [e]; omega
    rw [e1, e2, letters_digits n (x / 26) (by rw [Nat.div_lt_iff_lt_mul (by omega)]; rw [Nat.pow_succ] at h; omega)]
    rfl

theorem digits_len : ∀ n x, (digits n x).length = n
  | 0, _ => rfl
  | n + 1, x => by simp [digits, digits_len n]

/-- The first loop of the reference: how many letters. -/
theorem rletters_ends1 : ∀ (k n c : Nat), c < 2147483648 → n + k ≤ 7 → c < 26 ^ (n + k) → 1 ≤ n → ∃ m x : Nat, Halts chanceryref2_Letters_l1 k ((c : Int), (n : Int), ((26 ^ n : Nat) : Int), ()) ((x : Int), (m : Int), ()) ∧ fewer m + x = fewer n + c ∧ x < 26 ^ m ∧ 1 ≤ m ∧ m ≤ 7
  | k, n, c, hc, hk, hck, hn => by
    by_cases h : 26 ^ n ≤ c
    · cases k with
      | zero => simp at hck; omega
      | succ k =>
        have hp : 26 ^ (n + 1) ≤ 26 ^ 7 := Nat.pow_le_pow_right (by omega) (by omega)
        have hp' : 26 ^ n ≤ 26 ^ 7 := Nat.pow_le_pow_right (by omega) (by omega)
        have hq : (26 : Nat) ^ 7 = 8031810176 := by decide
        rw [hq] at hp hp'
        have hpos : 1 ≤ 26 ^ n := Nat.pow_pos (by omega)
        obtain ⟨m, x, h1, h2, h3, h4, h5⟩ := rletters_ends1 k (n + 1) (c - 26 ^ n) (by omega) (by omega) (by rw [show n + 1 + k = n + (k + 1) by omega]; omega) (by omega)
        refine ⟨m, x, .step ?_ h1, ?_, h3, h4, h5⟩
        · have a1 : ((26 ^ n : Nat) : Int) ≤ (c : Int) := by omega
          have a2 : IntKind.i64.wrap ((c : Int) - ((26 ^ n : Nat) : Int)) = ((c - 26 ^ n : Nat) : Int) := by rw [wrap_i64 (by omega) (by omega)]; omega
          have a3 : IntKind.i64.wrap ((n : Int) + 1) = ((n + 1 : Nat) : Int) := by rw [wrap_i64 (by omega) (by omega)]; omega
          have a4 : IntKind.i64.wrap (((26 ^ n : Nat) : Int) * 26) = ((26 ^ (n + 1) : Nat) : Int) := by rw [Nat.pow_succ] at hp ⊢; rw [wrap_i64 (by omega) (by omega)]; omega
          simp only [chanceryref2_Letters_l1, a1, a2, a3, a4, decide_true, cond_true]
        · have e : fewer (n + 1) = fewer n + 26 ^ n := by
            have : ∀ n, 1 ≤ n → fewer (n + 1) = fewer n + 26 ^ n := by
              intro n hn
              induction n with
              | zero => omega
              | succ n ih =>
                by_cases e : n = 0
                · subst e; rfl
                · have := ih (by omega)
                  show 26 * (fewer (n + 1) + 1) = fewer (n + 1) + 26 ^ (n + 1)
                  have e2 : fewer (n + 1) = 26 * (fewer n + 1) := by
                    cases n with
                    | zero => omega
                    | succ n => rfl
                  rw [Nat.pow_succ]
                  omega
            exact this n hn
          omega
    · refine ⟨n, c, .done ?_, rfl, by omega, hn, by omega⟩
      have a1 : ¬ ((26 ^ n : Nat) : Int) ≤ (c : Int) := by omega
      simp only [chanceryref2_Letters_l1, a1, decide_false, cond_false]

/-- The second: the letters from the last. -/
theorem rletters_ends2 : ∀ (k x : Nat) (out tail : List Int), x < 2147483648 → out.length = k → k ≤ 100 → Halts chanceryref2_Letters_l2 k ((x : Int), (), (k : Int) - 1, out ++ tail, ()) ((), (digits k x).map (fun c => (c.toNat : Int)) ++ tail, ())
  | 0, x, out, tail, hx, ho, hk => by
    have : out = [] := List.eq_nil_of_length_eq_zero ho
    subst this
    exact .done (by simp [chanceryref2_Letters_l2, digits])
  | k + 1, x, out, tail, hx, ho, hk => by
    obtain ⟨o', a, rfl⟩ : ∃ o' a, out = o' ++ [a] := ⟨out.dropLast, out.getLast (by intro e; subst e; simp at ho), (List.dropLast_concat_getLast _).symm⟩
    have ho' : o'.length = k := by simpa using ho
    have ih := rletters_ends2 k (x / 26) o' ((65 + x % 26 : Nat) :: tail) (by omega) ho' (by omega)
    have e0 : (digits (k + 1) x).map (fun c => (c.toNat : Int)) ++ tail = (digits k (x / 26)).map (fun c => (c.toNat : Int)) ++ ((65 + x % 26 : Nat) : Int) :: tail := by
      simp only [digits, List.map_append, List.map_cons, List.map_nil, List.append_assoc, List.cons_append, List.nil_append]
      have : (UInt8.ofNat (65 + x % 26)).toNat = 65 + x % 26 := by
        rw [UInt8.toNat_ofNat']
        omega
      rw [this]
    rw [e0]
    refine .step ?_ ih
    have a1 : ((k + 1 : Nat) : Int) - 1 = (k : Int) := by omega
    have a2 : IntKind.i64.wrap ((k : Int) - 1) = (k : Int) - 1 := by rw [wrap_i64 (by omega) (by omega)]
    have a3 : IntKind.u8.wrap (IntKind.i64.wrap (65 + ((x % 26 : Nat) : Int))) = ((65 + x % 26 : Nat) : Int) := by
      rw [wrap_i64 (by omega) (by omega), wrap_u8i (by omega) (by omega)]; omega
    have a4 : inb (k : Int) (o' ++ [a] ++ tail).length = true := inb_nat (by simp; omega)
    have a5 : ((o' ++ [a] ++ tail).set k ((65 + x % 26 : Nat) : Int)) = o' ++ ((65 + x % 26 : Nat) : Int) :: tail := by
      rw [List.append_assoc, List.set_append_right _ _ (by omega), ho', Nat.sub_self]
      rfl
    simp only [chanceryref2_Letters_l2, a1]
    rw [show (26 : Int) = ((26 : Nat) : Int) from rfl, rem_nat (by omega), quo_nat (by omega) (by omega)]
    simp only [Option.bind_some, a2, a3, a4, chk_t, Int.toNat_natCast, a5]
    simp

theorem RLetters_eq {n : Nat} (h : n < 2147483647) : chanceryref2_Letters (n : Int) = some (letters (n + 1), ()) := by
  obtain ⟨m, x, h1, h2, h3, h4, h5⟩ := rletters_ends1 6 1 n (by omega) (by omega) (by simp; omega) (by omega)
  have a1 : ((26 ^ 1 : Nat) : Int) = 26 := rfl
  rw [a1] at h1
  have hp : 26 ^ m ≤ 26 ^ 7 := Nat.pow_le_pow_right (by omega) (by omega)
  have f1 : fewer 1 = 0 := rfl
  rw [f1] at h2
  have e2 := rletters_ends2 m x (List.replicate m 0) [] (by omega) (by simp) (by omega)
  simp only [List.append_nil] at e2
  have a2 : IntKind.i64.wrap ((m : Int) - 1) = (m : Int) - 1 := by rw [wrap_i64 (by omega) (by omega)]
  simp only [chanceryref2_Letters]
  have h1' := h1.loop (by omega)
  rw [show ((1 : Nat) : Int) = 1 from rfl] at h1'
  rw [h1']
  simp only [Option.bind_some]
  rw [mk_nat (by omega)]
  simp only [Option.bind_some, a2]
  rw [e2.loop (by omega)]
  simp only [Option.bind_some]
  have e3 : bytesStr ((digits m x).map fun c => (c.toNat : Int)) = digits m x := by
    simp only [bytesStr, List.map_map]
    have : (byteOfInt ∘ fun c : UInt8 => (c.toNat : Int)) = id := by
      funext c
      simp [byteOfInt]
    rw [this, List.map_id]
  rw [e3]
  obtain ⟨m, rfl⟩ : ∃ m', m = m' + 1 := ⟨m - 1, by omega⟩
  rw [← letters_digits m x h3]
  congr 3
  omega

/-! ### All, Plain -/
theorem all_none {s : Str} {p : UInt8 → Bool} (h : ∀ i, i < s.length → (fun i => (s[i]?).all p) i = true) : s.all p = true := by
  rw [List.all_eq_true]
  intro x hx
  obtain ⟨i, hi, rfl⟩ := List.mem_iff_getElem.1 hx
  have := h i hi
  simpa [List.getElem?_eq_getElem hi] using this
theorem all_some {s : Str} {p : UInt8 → Bool} {i : Nat} (h : i < s.length) (h' : (s[i]?).all p = false) : s.all p = false := by
  rw [List.getElem?_eq_getElem h] at h'
  rw [List.all_eq_false]
  exact ⟨s[i], List.getElem_mem h, by simpa using h'⟩

theorem wrap_succ {i : Nat} (h : i < 4611686018427387904) : IntKind.i64.wrap ((i : Int) + 1) = ((i + 1 : Nat) : Int) := by rw [wrap_i64 (by omega) (by omega)]; omega

def isWord (c : UInt8) : Bool := isLetter c || isDigit c || decide (c.toNat = 95)
def isPlain (s : Str) : Bool := match s with
  | [] => false
  | c :: r => isLetter c && r.all isWord

theorem word_eq (c : UInt8) : chanceryref2_Plain_1 (ofByte c) = some (isWord c, ()) := by
  simp only [chanceryref2_Plain_1, rletter_eq, rdigit_eq, Option.bind_some, isWord]
  have h5 : ((c.toNat : Int) = 95) ↔ (c.toNat = 95) := by omega
  cases isLetter c <;> cases isDigit c <;> simp [ofByte_eq, h5]

theorem RAllx_eq {s : Str} (h : s.length < 1099511627776) : chanceryref2_All_Plain_1 s = some (s.all isWord, ()) := by
  have hs : ∀ i, i < s.length → (s[i]?).all isWord = true → chanceryref2_All_Plain_1_l1 s ((), (i : Int), ()) = some (.inl ((), ((i + 1 : Nat) : Int), ())) := fun i hi hp => by
    rw [List.getElem?_eq_getElem hi, Option.all_some] at hp
    simp [chanceryref2_All_Plain_1_l1, idx_lt hi, word_eq, hp, wrap_succ (i := i) (by omega), hi]
  have hq : ∀ i, i < s.length → (s[i]?).all isWord = false → chanceryref2_All_Plain_1_l1 s ((), (i : Int), ()) = some (.inr (.inr (false, ()))) := fun i hi hp => by
    rw [List.getElem?_eq_getElem hi, Option.all_some] at hp
    simp [chanceryref2_All_Plain_1_l1, idx_lt hi, word_eq, hp, hi]
  have he : chanceryref2_All_Plain_1_l1 s ((), (s.length : Int), ()) = some (.inr (.inl ())) := by simp [chanceryref2_All_Plain_1_l1]
  rcases Halts.all (fun i : Nat => ((), (i : Int), ())) (fun i => (s[i]?).all isWord) s.length hs hq he with ⟨h1, h2⟩ | ⟨i, hi, h1, _, h2⟩
  · simp only [chanceryref2_All_Plain_1]
    rw [show ((0 : Nat) : Int) = 0 from rfl] at h2
    rw [h2.loop h, all_none h1]
    rfl
  · simp only [chanceryref2_All_Plain_1]
    rw [show ((0 : Nat) : Int) = 0 from rfl] at h2
    rw [h2.loop h, all_some hi h1]
    rfl

theorem RPlain_eq {s : Str} (h : s.length < 1099511627776) : chanceryref2_Plain s = some (isPlain s, ()) := by
  cases s with
  | nil => simp [chanceryref2_Plain, isPlain]
  | cons c r =>
    simp only [chanceryref2_Plain, isPlain, RAllx_eq h, idx_zero, List.getElem?_cons_zero, Option.bind_some, rletter_eq]
    cases hc : isLetter c <;> simp [hc, isWord]

/-- What is wanted of the i-th byte of a plain name. -/
def plainAt (s : Str) (i : Nat) : Bool := (s[i]?).all fun c => isLetter c || (decide (i ≠ 0) && isWord c)

theorem Plain_eq {s : Str} (h : s.length < 1099511627776) : cellref_Plain s = some (isPlain s, ()) := by
  have key : ∀ i (hi : i < s.length), cellref_Plain_l1 s ((i : Int), ()) = some (if plainAt s i = true then .inl (((i + 1 : Nat) : Int), ()) else .inr (.inr (false, ()))) := fun i hi => by
    have hg : ((i : Int) < (s.length : Int)) := by omega
    have h3 : ((i : Int) = 0) ↔ i = 0 := by omega
    simp only [plainAt, List.getElem?_eq_getElem hi, Option.all_some, isWord]
    simp only [cellref_Plain_l1, idx_lt hi, letter_eq, digit_eq, Option.bind_some, wrap_succ (i := i) (by omega), hg, decide_true, cond_true]
    generalize s[i] = c
    have h5 : ((c.toNat : Int) = 95) ↔ (c.toNat = 95) := by omega
    simp only [ofByte_eq, h5, h3]
    cases isLetter c <;> cases isDigit c <;> by_cases h3 : i = 0 <;> by_cases h4 : c.toNat = 95 <;> simp [h3, h4]
  have hs : ∀ i, i < s.length → plainAt s i = true → cellref_Plain_l1 s ((i : Int), ()) = some (.inl (((i + 1 : Nat) : Int), ())) := fun i hi hp => by rw [key i hi, if_pos hp]
  have hq : ∀ i, i < s.length → plainAt s i = false → cellref_Plain_l1 s ((i : Int), ()) = some (.inr (.inr (false, ()))) := fun i hi hp => by rw [key i hi, if_neg (by rw [hp]; decide)]
  have he : cellref_Plain_l1 s ((s.length : Int), ()) = some (.inr (.inl ())) := by simp [cellref_Plain_l1]
  rcases Halts.all (fun i : Nat => ((i : Int), ())) (plainAt s) s.length hs hq he with ⟨h1, h2⟩ | ⟨i, hi, h1, _, h2⟩
  · simp only [cellref_Plain]
    rw [show ((0 : Nat) : Int) = 0 from rfl] at h2
    rw [h2.loop h]
    cases s with
    | nil => simp [isPlain]
    | cons c r =>
      have h0 := h1 0 (by simp)
      simp [plainAt] at h0
      have : r.all isWord = true := by
        rw [List.all_eq_true]
        intro x hx
        obtain ⟨i, hi, rfl⟩ := List.mem_iff_getElem.1 hx
        have := h1 (i + 1) (by simp; omega)
        simp [plainAt, List.getElem?_eq_getElem hi, isWord] at this
        simp [isWord]
        rcases this with h | h
        · exact .inl (.inl h)
        · exact h
      simp [isPlain, h0, this]
  · simp only [cellref_Plain]
    rw [show ((0 : Nat) : Int) = 0 from rfl] at h2
    rw [h2.loop h]
    cases s with
    | nil => simp at hi
    | cons c r =>
      cases i with
      | zero =>
        simp [plainAt] at h1
        simp [isPlain, h1]
      | succ i =>
        have hi' : i < r.length := by simpa using hi
        simp [plainAt, List.getElem?_eq_getElem hi'] at h1
        have : r.all isWord = false := by
          rw [List.all_eq_false]
          exact ⟨r[i], List.getElem_mem hi', by simp [h1]⟩
        simp [isPlain, this]

end Go.Proofs.YtjhcnnhkabhigaaGreatDoor

namespace Go.Proofs.YtjhcnnhkabhigaaGreatDoor
open Go Go.Fe

/-- A letter's number: 1 to 26. -/
def rank (c : UInt8) : Nat := if 97 ≤ c.toNat then c.toNat - 96 else c.toNat - 64
theorem rank_bounds {c : UInt8} (h : isLetter c = true) : 1 ≤ rank c ∧ rank c ≤ 26 := by
  simp only [isLetter, decide_eq_true_eq] at h
  unfold rank
  split <;> omega
theorem band31 : ∀ n : Fin 256, (65 ≤ n.val ∧ n.val ≤ 90 ∨ 97 ≤ n.val ∧ n.val ≤ 122) → band .u8 (n.val : Int) 31 = ((if 97 ≤ n.val then n.val - 96 else n.val - 64 : Nat) : Int) := by decide +kernel
theorem band_rank {c : UInt8} (h : isLetter c = true) : band .u8 (ofByte c) 31 = (rank c : Int) := by
  simp only [isLetter, decide_eq_true_eq] at h
  exact band31 ⟨c.toNat, byte_lt c⟩ h

/-- The number that letters stand for. -/
def number (s : Str) : Nat := s.foldl (fun n c => 26 * n + rank c) 0
theorem number_snoc (s : Str) (c : UInt8) : number (s ++ [c]) = 26 * number s + rank c := by simp [number]
theorem number_take {s : Str} {i : Nat} (h : i < s.length) : number (s.take (i + 1)) = 26 * number (s.take i) + rank s[i] := by
  rw [List.take_succ_eq_append_getElem h, number_snoc]
theorem number_lt : ∀ (k : Nat) (s : Str), s.length = k → s.all isLetter = true → 25 * number s + 26 ≤ 26 * 26 ^ k
  | 0, s, h, _ => by
    have : s = [] := List.eq_nil_of_length_eq_zero h
    subst this
    simp [number]
  | k + 1, s, h, ha => by
    obtain ⟨t, c, rfl⟩ : ∃ t c, s = t ++ [c] := ⟨s.dropLast, s.getLast (by intro e; subst e; simp at h), (List.dropLast_concat_getLast _).symm⟩
    simp only [List.all_append, Bool.and_eq_true] at ha
    have h1 := number_lt k t (by simpa using h) ha.1
    have h2 := rank_bounds (c := c) (by simpa using ha.2)
    rw [number_snoc, Nat.pow_succ]
    omega
theorem number_small {s : Str} (h : s.length ≤ 7) (ha : s.all isLetter = true) : number s < 17179869184 := by
  have h1 := number_lt _ s rfl ha
  have h2 : 26 ^ s.length ≤ 26 ^ 7 := Nat.pow_le_pow_right (by omega) h
  have : (26 : Nat) ^ 7 = 8031810176 := by decide
  omega
theorem number_pos {s : Str} (h : s ≠ []) (ha : s.all isLetter = true) : 1 ≤ number s := by
  obtain ⟨t, c, rfl⟩ : ∃ t c, s = t ++ [c] := ⟨s.dropLast, s.getLast h, (List.dropLast_concat_getLast _).symm⟩
  simp only [List.all_append, Bool.and_eq_true] at ha
  have h2 := rank_bounds (c := c) (by simpa using ha.2)
  rw [number_snoc]
  omega

theorem all_take {s : Str} {p : UInt8 → Bool} {i : Nat} (h : ∀ j, j < i → (s[j]?).all p = true) : (s.take i).all p = true := by
  rw [List.all_eq_true]
  intro x hx
  obtain ⟨j, hj, rfl⟩ := List.mem_iff_getElem.1 hx
  have hj' : j < i ∧ j < s.length := by rw [List.length_take] at hj; omega
  have := h j hj'.1
  simpa [List.getElem?_eq_getElem hj'.2] using this

theorem Column_eq (s : Str) : cellref_Column s = some (if s = [] ∨ 7 < s.length ∨ s.all isLetter = false then (0, 10, ()) else if 1073741824 < number s then (0, 2, ()) else ((number s : Int) - 1, 0, ())) := by
  by_cases h0 : s = []
  · simp [cellref_Column, h0]
  by_cases h7 : 7 < s.length
  · simp [cellref_Column, h0, h7, show (7 : Int) < (s.length : Int) by omega]
  have h7' : ¬ (7 : Int) < (s.length : Int) := by omega
  have key : ∀ i (hi : i < s.length), (s.take i).all isLetter = true → cellref_Column_l1 s ((number (s.take i) : Int), (i : Int), ()) = some (if isLetter s[i] = true then .inl ((number (s.take (i + 1)) : Int), ((i + 1 : Nat) : Int), ()) else .inr (.inr (0, 10, ()))) := fun i hi ha => by
    have hg : ((i : Int) < (s.length : Int)) := by omega
    have hn := number_small (s := s.take i) (by simp; omega) ha
    rw [number_take hi]
    generalize hm : number (s.take i) = m at *
    simp only [cellref_Column_l1, idx_lt hi, letter_eq, Option.bind_some, wrap_succ (i := i) (by omega), hg, decide_true, cond_true]
    cases hl : isLetter s[i] with
    | false => simp
    | true =>
      have hr := rank_bounds hl
      rw [band_rank hl]
      rw [wrap_i64 (n := (26 : Int) * (m : Int)) (by omega) (by omega), wrap_i64 (n := (rank s[i] : Int)) (by omega) (by omega), wrap_i64 (by omega) (by omega)]
      simp
  have hloop : loop (cellref_Column_l1 s) (0, 0, ()) = some (if s.all isLetter = true then .inl ((number s : Int), ()) else .inr (0, 10, ())) := by
    rcases Halts.scan (f := cellref_Column_l1 s) (fun i => ((number (s.take i) : Int), (i : Int), ())) (fun i => (s[i]?).all isLetter) s.length (r := .inl ((number s : Int), ())) (fun _ => .inr (0, 10, ()))
      (fun i hi hj => by simp only [List.getElem?_eq_getElem hi, Option.all_some]; exact key i hi (all_take hj)) (fun _ => by simp [cellref_Column_l1]) with ⟨h1, h2⟩ | ⟨i, hi, h1, _, h2⟩
    · rw [if_pos (all_none h1)]
      exact h2.loop (by omega)
    · rw [if_neg (by rw [all_some hi h1]; decide)]
      exact h2.loop (by omega)
  simp only [cellref_Column, h0, h7', decide_false, cond_false, Option.bind_some, hloop]
  cases hal : s.all isLetter with
  | false => simp
  | true =>
    have hn := number_small (s := s) (by omega) hal
    have hp := number_pos h0 hal
    simp only [if_true]
    rw [wrap_i64 (by omega) (by omega)]
    by_cases hb : 1073741824 < number s
    · simp [h7, hb, show (1073741824 : Int) < (number s : Int) by omega]
    · simp [h7, hb, show ¬ (1073741824 : Int) < (number s : Int) by omega]

/-! ### The reference's column -/
/-- How many columns have fewer letters. -/
theorem upper_eq (c : UInt8) : chanceryref2_Upper [c] = some ([if 97 ≤ c.toNat ∧ c.toNat ≤ 122 then UInt8.ofNat (c.toNat - 32) else c], ()) := by
  have h1 : chanceryref2_Upper_l1 [c] ([], 0, ()) = some (.inl ([if 97 ≤ c.toNat ∧ c.toNat ≤ 122 then UInt8.ofNat (c.toNat - 32) else c], 1, ())) := by
    have := byte_lt c
    simp only [chanceryref2_Upper_l1, ofByte_eq]
    by_cases h1 : 97 ≤ c.toNat <;> by_cases h2 : c.toNat ≤ 122
    · have e : IntKind.u8.wrap ((c.toNat : Int) - 32) = ((c.toNat - 32 : Nat) : Int) := by rw [wrap_u8i (by omega) (by omega)]; omega
      simp [h1, h2, show (97 : Int) ≤ (c.toNat : Int) by omega, show (c.toNat : Int) ≤ 122 by omega, e, bytesStr_one, cat, lim, wrap_i64]
    · simp [h1, h2, show (97 : Int) ≤ (c.toNat : Int) by omega, show ¬ (c.toNat : Int) ≤ 122 by omega, bytesStr_one, cat, lim, wrap_i64]
    · simp [h1, h2, show ¬ (97 : Int) ≤ (c.toNat : Int) by omega, show (c.toNat : Int) ≤ 122 by omega, bytesStr_one, cat, lim, wrap_i64]
    · omega
  have h2 : ∀ x, chanceryref2_Upper_l1 [c] (x, 1, ()) = some (.inr (x, ())) := fun x => by simp [chanceryref2_Upper_l1]
  simp only [chanceryref2_Upper]
  rw [(Halts.step h1 (Halts.done (n := 0) (h2 _))).loop (by omega)]
  rfl

def geom : Nat → Nat
  | 0 => 0
  | n + 1 => 26 * geom n + 1

theorem ofNat_toNat {n : Nat} (h : n < 256) : (UInt8.ofNat n).toNat = n := by
  rw [UInt8.toNat_ofNat']
  omega

theorem rcolumn_ends1 {s : Str} (ha : s.all isLetter = true) : ∀ (i n p : Nat), i ≤ s.length → i ≤ 7 → n + p * number (s.take i) < 1099511627776 → p * 26 ^ i < 1099511627776 →
    ∃ m : Nat, Halts (chanceryref2_Column_l1 s) i ((n : Int), (p : Int), (i : Int) - 1, ()) ((m : Int), ()) ∧ m + p * geom i = n + p * number (s.take i)
  | 0, n, p, _, _, _, _ => by
    refine ⟨n, .done ?_, by simp [geom, number]⟩
    simp [chanceryref2_Column_l1]
  | i + 1, n, p, hi, h7, hn, hp => by
    have hi' : i < s.length := by omega
    have hl : isLetter s[i] = true := List.all_eq_true.1 ha _ (List.getElem_mem hi')
    have hr := rank_bounds hl
    have en := number_take hi'
    have e1 : p * number (s.take (i + 1)) = 26 * p * number (s.take i) + p * rank s[i] := by
      rw [en, Nat.mul_add, ← Nat.mul_assoc, Nat.mul_comm p 26]
    have e2 : p * geom (i + 1) = 26 * p * geom i + p := by
      show p * (26 * geom i + 1) = _
      rw [Nat.mul_add, ← Nat.mul_assoc, Nat.mul_comm p 26, Nat.mul_one]
    have e3 : p * 26 ^ (i + 1) = 26 * p * 26 ^ i := by rw [Nat.pow_succ, Nat.mul_comm (26 ^ i), ← Nat.mul_assoc, Nat.mul_comm p 26]
    have e4 : p * rank s[i] = p * (rank s[i] - 1) + p := by
      obtain ⟨r, hr⟩ : ∃ r, rank s[i] = r + 1 := ⟨rank s[i] - 1, by omega⟩
      rw [hr, Nat.mul_add]
      simp
    have e5 : p ≤ p * 26 ^ (i + 1) := Nat.le_mul_of_pos_right _ (Nat.pow_pos (by omega))
    obtain ⟨m, h1, h2⟩ := rcolumn_ends1 ha i (n + p * (rank s[i] - 1)) (26 * p) (by omega) (by omega) (by omega) (by omega)
    refine ⟨m, .step ?_ h1, by omega⟩
    have a1 : ((i + 1 : Nat) : Int) - 1 = (i : Int) := by omega
    have a2 : IntKind.i64.wrap ((i : Int) - 1) = (i : Int) - 1 := by rw [wrap_i64 (by omega) (by omega)]
    have a3 : cut s (i : Int) ((i + 1 : Nat) : Int) = some [s[i]] := by
      rw [cut_nat (by omega) (by omega)]
      congr 1
      rw [List.take_succ_eq_append_getElem hi', List.drop_append_of_le_length (by simp; omega)]
      simp
    have hc := byte_lt s[i]
    have a4 : IntKind.u8.wrap ((ofByte (if 97 ≤ s[i].toNat ∧ s[i].toNat ≤ 122 then UInt8.ofNat (s[i].toNat - 32) else s[i])) - 65) = ((rank s[i] - 1 : Nat) : Int) := by
      simp only [isLetter, decide_eq_true_eq] at hl
      simp only [ofByte_eq, rank]
      by_cases h : 97 ≤ s[i].toNat
      · have : s[i].toNat ≤ 122 := by omega
        simp only [h, this, and_self, if_true]
        rw [ofNat_toNat (by omega), wrap_u8i (by omega) (by omega)]
        omega
      · simp only [h, false_and, if_false]
        rw [wrap_u8i (by omega) (by omega)]
        omega
    have a5 : IntKind.i64.wrap ((rank s[i] - 1 : Nat) : Int) = ((rank s[i] - 1 : Nat) : Int) := wrap_i64 (by omega) (by omega)
    have a6 : IntKind.i64.wrap ((p : Int) * ((rank s[i] - 1 : Nat) : Int)) = ((p * (rank s[i] - 1) : Nat) : Int) := by
      rw [show (p : Int) * ((rank s[i] - 1 : Nat) : Int) = ((p * (rank s[i] - 1) : Nat) : Int) from rfl]
      exact wrap_i64 (by omega) (by omega)
    have a7 : IntKind.i64.wrap ((n : Int) + ((p * (rank s[i] - 1) : Nat) : Int)) = ((n + p * (rank s[i] - 1) : Nat) : Int) := by rw [wrap_i64 (by omega) (by omega)]; omega
    have a8 : IntKind.i64.wrap ((p : Int) * 26) = ((26 * p : Nat) : Int) := by rw [wrap_i64 (by omega) (by omega)]; omega
    simp only [chanceryref2_Column_l1, a1, wrap_succ (i := i) (by omega), a3, Option.bind_some, upper_eq, idx_zero, List.getElem?_cons_zero, a4, a5, a6, a7, a8, a2]
    simp

theorem rcolumn_ends2 : ∀ (k : Nat) (s : Str) (n p : Nat), s.length = k + 1 → k ≤ 7 → n + p * geom k < 1099511627776 → p * 26 ^ k < 1099511627776 →
    Halts chanceryref2_Column_l2 k (s, (n : Int), (p : Int), ()) (((n + p * geom k : Nat) : Int), ())
  | 0, s, n, p, hs, _, _, _ => .done (by simp [chanceryref2_Column_l2, hs, geom])
  | k + 1, s, n, p, hs, hk, hn, hp => by
    have e2 : p * geom (k + 1) = 26 * p * geom k + p := by
      show p * (26 * geom k + 1) = _
      rw [Nat.mul_add, ← Nat.mul_assoc, Nat.mul_comm p 26, Nat.mul_one]
    have e3 : p * 26 ^ (k + 1) = 26 * p * 26 ^ k := by rw [Nat.pow_succ, Nat.mul_comm (26 ^ k), ← Nat.mul_assoc, Nat.mul_comm p 26]
    have e5 : p ≤ p * 26 ^ (k + 1) := Nat.le_mul_of_pos_right _ (Nat.pow_pos (by omega))
    have e6 : 26 * p ≤ 26 * p * 26 ^ k := Nat.le_mul_of_pos_right _ (Nat.pow_pos (by omega))
    have ih := rcolumn_ends2 k (s.drop 1) (n + p) (26 * p) (by simp; omega) (by omega) (by omega) (by omega)
    have e4 : n + p * geom (k + 1) = n + p + 26 * p * geom k := by omega
    rw [e4]
    refine .step ?_ ih
    have a1 : cut s 1 (s.length : Int) = some (s.drop 1) := by
      rw [show (1 : Int) = ((1 : Nat) : Int) from rfl, cut_nat (by omega) (by omega), List.take_length]
    have a2 : IntKind.i64.wrap ((n : Int) + (p : Int)) = ((n + p : Nat) : Int) := by rw [wrap_i64 (by omega) (by omega)]; omega
    have a3 : IntKind.i64.wrap ((p : Int) * 26) = ((26 * p : Nat) : Int) := by rw [wrap_i64 (by omega) (by omega)]; omega
    have hg : (1 : Int) < (s.length : Int) := by omega
    simp only [chanceryref2_Column_l2, a1, a2, a3, hg, decide_true, cond_true, Option.bind_some]

theorem geom_le : ∀ k, 25 * geom k + 1 = 26 ^ k
  | 0 => rfl
  | k + 1 => by
    have := geom_le k
    rw [Nat.pow_succ]
    show 25 * (26 * geom k + 1) + 1 = _
    omega

theorem RColumn_eq {s : Str} (h0 : s ≠ []) (h7 : s.length ≤ 7) (ha : s.all isLetter = true) : chanceryref2_Column s = some ((number s : Int) - 1, ()) := by
  have hl : 1 ≤ s.length := by
    cases s with
    | nil => exact absurd rfl h0
    | cons c r => simp
  have h26 : 26 ^ s.length ≤ 26 ^ 7 := Nat.pow_le_pow_right (by omega) h7
  have hq : (26 : Nat) ^ 7 = 8031810176 := by decide
  have hn := number_small h7 ha
  obtain ⟨m, h1, h2⟩ := rcolumn_ends1 ha s.length 0 1 (Nat.le_refl _) h7 (by simp; omega) (by omega)
  simp only [List.take_length, Nat.one_mul, Nat.zero_add] at h2
  obtain ⟨k, hk⟩ : ∃ k, s.length = k + 1 := ⟨s.length - 1, by omega⟩
  have hg := geom_le k
  have hk7 : 26 ^ k ≤ 26 ^ 7 := Nat.pow_le_pow_right (by omega) (by omega)
  have h3 := rcolumn_ends2 k s m 26 hk (by omega) (by omega) (by omega)
  have e : geom s.length = 26 * geom k + 1 := by rw [hk]; rfl
  have a1 : IntKind.i64.wrap ((s.length : Int) - 1) = (s.length : Int) - 1 := by rw [wrap_i64 (by omega) (by omega)]
  simp only [chanceryref2_Column, a1]
  rw [show ((0 : Nat) : Int) = 0 from rfl, show ((1 : Nat) : Int) = 1 from rfl] at h1
  rw [h1.loop (by omega)]
  simp only [Option.bind_some]
  rw [show ((26 : Nat) : Int) = 26 from rfl] at h3
  rw [h3.loop (by omega)]
  simp only [Option.bind_some]
  congr 2
  omega

end Go.Proofs.YtjhcnnhkabhigaaGreatDoor

namespace Go.Proofs.YtjhcnnhkabhigaaGreatDoor
open Go Go.Fe

end Go.Proofs.YtjhcnnhkabhigaaGreatDoor

namespace Go.Proofs.YtjhcnnhkabhigaaGreatDoor
open Go Go.Fe

def isPrint (c : UInt8) : Bool := decide (32 ≤ c.toNat ∧ c.toNat ≤ 126)
def nameErr (s : Str) : Int := if 200 < s.length then 3 else if s.all isPrint = true then 0 else 9

theorem name_eq (s : Str) : cellref_name s = some (nameErr s, ()) := by
  by_cases h : 200 < s.length
  · simp [cellref_name, nameErr, h, show (200 : Int) < (s.length : Int) by omega]
  have h' : ¬ (200 : Int) < (s.length : Int) := by omega
  have key : ∀ i (hi : i < s.length), cellref_name_l1 s ((i : Int), ()) = some (if isPrint s[i] = true then .inl (((i + 1 : Nat) : Int), ()) else .inr (.inr (9, ()))) := fun i hi => by
    have hg : ((i : Int) < (s.length : Int)) := by omega
    simp only [cellref_name_l1, idx_lt hi, Option.bind_some, wrap_succ (i := i) (by omega), hg, decide_true, cond_true]
    generalize s[i] = c
    have h5 : ((c.toNat : Int) < 32) ↔ (c.toNat < 32) := by omega
    have h6 : ((126 : Int) < (c.toNat : Int)) ↔ (126 < c.toNat) := by omega
    simp only [ofByte_eq, h5, h6, isPrint]
    by_cases h1 : c.toNat < 32 <;> by_cases h2 : 126 < c.toNat <;> simp [h1, h2, show 32 ≤ c.toNat ↔ ¬ c.toNat < 32 by omega, show c.toNat ≤ 126 ↔ ¬ 126 < c.toNat by omega]
  simp only [cellref_name, nameErr, h, h', decide_false, cond_false, if_false]
  rcases Halts.scan (f := cellref_name_l1 s) (fun i => ((i : Int), ())) (fun i => (s[i]?).all isPrint) s.length (r := .inl ()) (fun _ => .inr (9, ()))
      (fun i hi hj => by simp only [List.getElem?_eq_getElem hi, Option.all_some]; exact key i hi) (fun _ => by simp [cellref_name_l1]) with ⟨h1, h2⟩ | ⟨i, hi, h1, _, h2⟩
  · have := h2.loop (by omega)
    rw [show ((0 : Nat) : Int) = 0 from rfl] at this
    rw [this, all_none h1]
    rfl
  · have := h2.loop (by omega)
    rw [show ((0 : Nat) : Int) = 0 from rfl] at this
    rw [this, all_some hi h1]
    rfl

theorem rprint_eq (c : UInt8) : chanceryref2_SheetError_1 (ofByte c) = some (isPrint c, ()) := by
  have h5 : ((32 : Int) ≤ (c.toNat : Int)) ↔ (32 ≤ c.toNat) := by omega
  have h6 : ((c.toNat : Int) ≤ 126) ↔ (c.toNat ≤ 126) := by omega
  simp only [chanceryref2_SheetError_1, ofByte_eq, h5, h6, isPrint]
  by_cases h1 : 32 ≤ c.toNat <;> by_cases h2 : c.toNat ≤ 126 <;> simp [h1, h2]

theorem rname_eq {s : Str} : chanceryref2_SheetError s = some (nameErr s, ()) := by
  by_cases h : 200 < s.length
  · simp [chanceryref2_SheetError, nameErr, h, show (200 : Int) < (s.length : Int) by omega]
  have h' : ¬ (200 : Int) < (s.length : Int) := by omega
  have key : ∀ i (hi : i < s.length), chanceryref2_All_SheetError_1_l1 s ((), (i : Int), ()) = some (if isPrint s[i] = true then .inl ((), ((i + 1 : Nat) : Int), ()) else .inr (.inr (false, ()))) := fun i hi => by
    have hg : ((i : Int) < (s.length : Int)) := by omega
    simp only [chanceryref2_All_SheetError_1_l1, idx_lt hi, Option.bind_some, wrap_succ (i := i) (by omega), hg, decide_true, cond_true, rprint_eq]
    cases isPrint s[i] <;> rfl
  have hall : chanceryref2_All_SheetError_1 s = some (s.all isPrint, ()) := by
    simp only [chanceryref2_All_SheetError_1]
    rcases Halts.scan (f := chanceryref2_All_SheetError_1_l1 s) (fun i => ((), (i : Int), ())) (fun i => (s[i]?).all isPrint) s.length (r := .inl ()) (fun _ => .inr (false, ()))
      (fun i hi hj => by simp only [List.getElem?_eq_getElem hi, Option.all_some]; exact key i hi) (fun _ => by simp [chanceryref2_All_SheetError_1_l1]) with ⟨h1, h2⟩ | ⟨i, hi, h1, _, h2⟩
    · have := h2.loop (by omega)
      rw [show ((0 : Nat) : Int) = 0 from rfl] at this
      rw [this, all_none h1]
      rfl
    · have := h2.loop (by omega)
      rw [show ((0 : Nat) : Int) = 0 from rfl] at this
      rw [this, all_some hi h1]
      rfl
  simp only [chanceryref2_SheetError, nameErr, h, h', decide_false, cond_false, if_false, hall, Option.bind_some]
  cases s.all isPrint <;> rfl

def ins (n : Int) : Bool := decide (0 ≤ n ∧ n < 1073741824)
theorem permitted_ins (n : Int) : cellref_permitted n = some (ins n, ()) := permitted_eq n
theorem inside_ins (n : Int) : chanceryref2_inside n = some (ins n, ()) := permitted_eq n

/-- Fields to which the kind gives no meaning are not zero. -/
def badForm (s : Str) (k r c r2 c2 : Int) (ar ac ar2 ac2 : Bool) : Bool :=
  (decide (k = 0) && !(decide (r2 = 0) && decide (c2 = 0) && !ar2 && !ac2)) || (decide (k = 2) && !(decide (c = 0) && decide (c2 = 0) && !ac && !ac2)) || (decide (k = 3) && !(decide (r = 0) && decide (r2 = 0) && !ar && !ar2)) ||
    (decide (k = 4) && !(decide (s = []) && decide (r = 0) && decide (c = 0) && decide (r2 = 0) && decide (c2 = 0) && !ar && !ac && !ar2 && !ac2))
/-- The error of a reference. -/
def refErr (s : Str) (k r c r2 c2 : Int) (ar ac ar2 ac2 : Bool) : Int :=
  if k < 0 ∨ 4 < k then 8 else if nameErr s ≠ 0 then nameErr s
  else cond (badForm s k r c r2 c2 ar ac ar2 ac2) 4 (cond (!(ins r && ins c && ins r2 && ins c2)) 2 (cond (!decide (k = 0) && (decide (r2 < r) || decide (c2 < c))) 5 0))

theorem Check_eq (s : Str) (k r c r2 c2 : Int) (ar ac ar2 ac2 : Bool) : cellref_Check (s, k, r, c, r2, c2, ar, ac, ar2, ac2, ()) = some (refErr s k r c r2 c2 ar ac ar2 ac2, ()) := by
  by_cases h0 : k < 0
  · simp [cellref_Check, refErr, h0]
  by_cases h4 : 4 < k
  · simp [cellref_Check, refErr, h0, h4]
  have hk : k = 0 ∨ k = 1 ∨ k = 2 ∨ k = 3 ∨ k = 4 := by omega
  by_cases hn : nameErr s = 0
  · simp only [cellref_Check, refErr, h0, h4, name_eq, permitted_ins, hn, decide_false, decide_true, cond_false, Option.bind_some, Bool.not_true, false_or, if_false, ne_eq, not_true_eq_false, cellref_meaning]
    generalize ins r = i1
    generalize ins c = i2
    generalize ins r2 = i3
    generalize ins c2 = i4
    rcases hk with rfl | rfl | rfl | rfl | rfl
    all_goals
      simp [Ty.beq, badForm, Bool.and_assoc]
      cases i1 <;> cases i2 <;> cases i3 <;> cases i4 <;> simp [cond_some', cond_pair]
  · simp [cellref_Check, refErr, h0, h4, name_eq, hn]
theorem RefError_eq (s : Str) (k r c r2 c2 : Int) (ar ac ar2 ac2 : Bool) : chanceryref2_RefError (s, k, r, c, r2, c2, ar, ac, ar2, ac2, ()) = some (refErr s k r c r2 c2 ar ac ar2 ac2, ()) := by
  by_cases h0 : k < 0
  · simp [chanceryref2_RefError, refErr, h0]
  by_cases h4 : 4 < k
  · simp [chanceryref2_RefError, refErr, h0, h4]
  have hk : k = 0 ∨ k = 1 ∨ k = 2 ∨ k = 3 ∨ k = 4 := by omega
  by_cases hn : nameErr s = 0
  · simp only [chanceryref2_RefError, refErr, h0, h4, rname_eq, inside_ins, hn, decide_false, decide_true, cond_false, Option.bind_some, Bool.not_true, false_or, if_false, ne_eq, not_true_eq_false]
    rcases hk with rfl | rfl | rfl | rfl | rfl
    all_goals simp [badForm, Bool.or_assoc, Bool.and_assoc, cond_some', cond_pair]
    all_goals try simp only [Bool.or_assoc, Bool.or_comm, Bool.or_left_comm]
    by_cases a1 : r = 0 <;> by_cases a2 : r2 = 0 <;> by_cases a3 : c = 0 <;> by_cases a4 : c2 = 0 <;> simp [a1, a2, a3, a4]
  · simp [chanceryref2_RefError, refErr, h0, h4, rname_eq, hn]
end Go.Proofs.YtjhcnnhkabhigaaGreatDoor

namespace Go.Proofs.YtjhcnnhkabhigaaGreatDoor
open Go Go.Fe

abbrev RefD := Str × (Int × (Int × (Int × (Int × (Int × (Bool × (Bool × (Bool × (Bool × Unit)))))))))
def Z0 : RefD := ([], 0, 0, 0, 0, 0, false, false, false, false, ())

/-! ### Decimal numbers -/
theorem itoa_nat (n : Nat) : Lib.itoa (n : Int) = Lib.decDigits n := by
  unfold Lib.itoa
  rw [if_neg (by omega)]
  simp
theorem decDigits_small {n : Nat} (h : n < 10) : Lib.decDigits n = [UInt8.ofNat (48 + n)] := by rw [Lib.decDigits, dif_pos h]
theorem decDigits_big {n : Nat} (h : ¬ n < 10) : Lib.decDigits n = Lib.decDigits (n / 10) ++ [UInt8.ofNat (48 + n % 10)] := by rw [Lib.decDigits, dif_neg h]
theorem decDigits_len : ∀ (k n : Nat), n < 10 ^ (k + 1) → (Lib.decDigits n).length ≤ k + 1
  | 0, n, h => by rw [decDigits_small (by simpa using h)]; simp
  | k + 1, n, h => by
    by_cases h1 : n < 10
    · rw [decDigits_small h1]; simp
    · rw [decDigits_big h1]
      have := decDigits_len k (n / 10) (by rw [Nat.div_lt_iff_lt_mul (by omega)]; rw [Nat.pow_succ] at h; omega)
      simp; omega
theorem sItoa_nat {n : Nat} (h : n < 9223372036854775808) : sItoa ((n : Int), ()) = some (Lib.decDigits n, ()) := by
  unfold sItoa
  rw [if_pos ⟨show (-9223372036854775808 : Int) ≤ (n : Int) by omega, show (n : Int) ≤ 9223372036854775807 by omega⟩]
  simp only [itoa_nat]

theorem decimal_f : ∀ (k n m : Nat), n < 10 ^ (k + 1) → n < 9223372036854775808 → k ≤ 100 → k < m → chanceryref2_Decimal_f m (n : Int) = some (Lib.decDigits n, ())
  | k, n, 0, _, _, _, hm => by omega
  | k, n, m + 1, h, hn, hk, hm => by
    have a1 : ¬ (n : Int) ≤ -10 := by omega
    have a2 : ¬ (n : Int) < 0 := by omega
    by_cases h1 : n < 10
    · have a3 : ¬ (10 : Int) ≤ (n : Int) := by omega
      have a4 : IntKind.u8.wrap (IntKind.i64.wrap (48 + (n : Int))) = ((48 + n : Nat) : Int) := by rw [wrap_i64 (by omega) (by omega), wrap_u8i (by omega) (by omega)]; omega
      simp only [chanceryref2_Decimal_f, chanceryref2_Decimal_s, a1, a2, a3, a4, decide_false, cond_false, bytesStr_one]
      rw [decDigits_small h1]
    · have a3 : (10 : Int) ≤ (n : Int) := by omega
      cases k with
      | zero => simp at h; omega
      | succ k =>
        have ih := decimal_f k (n / 10) m (by rw [Nat.div_lt_iff_lt_mul (by omega)]; rw [Nat.pow_succ] at h; omega) (by omega) (by omega) (by omega)
        have a4 : IntKind.u8.wrap (IntKind.i64.wrap (48 + ((n % 10 : Nat) : Int))) = ((48 + n % 10 : Nat) : Int) := by rw [wrap_i64 (by omega) (by omega), wrap_u8i (by omega) (by omega)]; omega
        have hl := decDigits_len k (n / 10) (by rw [Nat.div_lt_iff_lt_mul (by omega)]; rw [Nat.pow_succ] at h; omega)
        simp only [chanceryref2_Decimal_f, chanceryref2_Decimal_s, a1, a2, a3, decide_false, cond_false, decide_true, cond_true]
        rw [show (10 : Int) = ((10 : Nat) : Int) from rfl, quo_nat (by omega) (by omega), rem_nat (by omega)]
        simp only [Option.bind_some, ih, a4, bytesStr_one]
        rw [cat_ok (by simp; omega)]
        simp only [Option.bind_some]
        rw [decDigits_big h1]
theorem Decimal_eq {n : Nat} (h : n < 9223372036854775808) : chanceryref2_Decimal (n : Int) = some (Lib.decDigits n, ()) :=
  decimal_f 20 n rounds (by omega) h (by omega) (by decide)

/-! ### Apostrophes twice -/
def dup (s : Str) : Str := s.flatMap fun c => if c = 39 then [39, 39] else [c]
theorem dup_len (s : Str) : (dup s).length ≤ 2 * s.length := by
  induction s with
  | nil => simp [dup]
  | cons c r ih =>
    simp only [dup, List.flatMap_cons, List.length_append, List.length_cons] at ih ⊢
    split <;> simp only [List.length_cons, List.length_nil] <;> omega

theorem indexByte_hit (c : UInt8) (r : Str) : Lib.indexByte (c :: r) c = 0 := by simp [Lib.indexByte]
theorem indexByte_miss {c x : UInt8} {r : Str} {i : Nat} (h : x ≠ c) (hi : Lib.indexByte r c = i) : Lib.indexByte (x :: r) c = ((i + 1 : Nat) : Int) := by
  have e : ¬ ((i : Int) == -1) = true := by simp
  simp only [Lib.indexByte, hi, beq_eq_false_iff_ne.2 h, Bool.false_eq_true, if_false, if_neg e]
  omega

theorem replaceK_one (c : UInt8) (new : Str) : ∀ s : Str, Lib.replaceK [c] new (s.count c) s = s.flatMap fun x => if x = c then new else [x]
  | [] => rfl
  | x :: r => by
    have ih := replaceK_one c new r
    by_cases hx : x = c
    · subst hx
      rw [List.count_cons_self, Lib.replaceK_hit [x] new _ _ 0 (by rw [Lib.index_one]; exact indexByte_hit x r)]
      simp [ih]
    · rw [List.count_cons_of_ne hx]
      cases hk : r.count c with
      | zero =>
        rw [hk] at ih
        simp only [Lib.replaceK] at ih ⊢
        simp [hx, ← ih]
      | succ k =>
        rw [hk] at ih
        obtain ⟨i, hi⟩ := Lib.index_of_count (s := r) (old := [c]) (by rw [Lib.count_one]; omega)
        have hi' : Lib.index (x :: r) [c] = ((i + 1 : Nat) : Int) := by rw [Lib.index_one]; exact indexByte_miss hx (by rw [← Lib.index_one]; exact hi)
        rw [Lib.replaceK_hit [c] new k _ i hi] at ih
        rw [Lib.replaceK_hit [c] new k _ (i + 1) hi']
        simp [hx, ← ih]

theorem replaceAll_dup (s : Str) : Lib.replaceAll s [39] [39, 39] = dup s := by
  have e : ([39] == ([39, 39] : List UInt8)) = false := by decide
  simp only [Lib.replaceAll, Lib.replace, e, Bool.false_eq_true, if_false, Lib.replaceNum]
  rw [if_pos (by omega), Lib.count_one]
  exact replaceK_one 39 [39, 39] s

theorem sReplaceAll_dup {s : Str} (h : s.length ≤ 1000000) : sReplaceAll (s, [39], [39, 39], ()) = some (dup s, ()) := by
  have hc := Lib.countB_le ⟨#[39]⟩ (by decide) _ ⟨s.toArray⟩ (Nat.le_refl _)
  have hs : (⟨s.toArray⟩ : ByteArray).size = s.length := by simp [ByteArray.size]
  rw [hs] at hc
  unfold sReplaceAll
  rw [if_pos ⟨by simp only; omega, by simp, by simp only [List.length_cons, List.length_nil]; omega⟩]
  simp only [replaceAll_dup]
theorem dup_take {s : Str} {i : Nat} (h : i < s.length) : dup (s.take (i + 1)) = dup (s.take i) ++ (if s[i] = 39 then [39, 39] else [s[i]]) := by
  rw [List.take_succ_eq_append_getElem h]
  simp only [dup, List.flatMap_append, List.flatMap_cons, List.flatMap_nil, List.append_nil]

/-! ### The text of a reference -/
def mark (b : Bool) (s : Str) : Str := if b = true then 36 :: s else s
theorem mark_len (b : Bool) (s : Str) : (mark b s).length ≤ s.length + 1 := by
  unfold mark
  split <;> simp
theorem dollar_eq {b : Bool} {s : Str} (h : s.length ≤ 1000) : cellref_dollar b s = some (mark b s, ()) := by
  cases b
  · rfl
  · simp only [cellref_dollar, cond_true]
    rw [cat_ok (by simp; omega)]
    rfl
theorem mark_eq {b : Bool} {s : Str} (h : s.length ≤ 1000) : chanceryref2_mark s b = some (mark b s, ()) := by
  cases b
  · rfl
  · simp only [chanceryref2_mark, cond_true]
    rw [cat_ok (by simp; omega)]
    rfl
def colText (n : Nat) (b : Bool) : Str := mark b (letters (n + 1))
def rowText (n : Nat) (b : Bool) : Str := mark b (Lib.decDigits (n + 1))
theorem colText_len {n : Nat} (b : Bool) (h : n < 1073741824) : (colText n b).length ≤ 8 := by
  have := letters_len 7 (n + 1) (by omega)
  have := mark_len b (letters (n + 1))
  unfold colText
  omega
theorem rowText_len {n : Nat} (b : Bool) (h : n < 1073741824) : (rowText n b).length ≤ 11 := by
  have := decDigits_len 9 (n + 1) (by omega)
  have := mark_len b (Lib.decDigits (n + 1))
  unfold rowText
  omega
theorem col_eq {n : Nat} (b : Bool) (h : n < 1073741824) : cellref_col (n : Int) b = some (colText n b, ()) := by
  have := letters_len 7 (n + 1) (by omega)
  simp only [cellref_col, cellref_letters_eq (n := n) (by omega), Option.bind_some, dollar_eq (b := b) (s := letters (n + 1)) (by omega)]
  rfl
theorem row_eq {n : Nat} (b : Bool) (h : n < 1073741824) : cellref_row (n : Int) b = some (rowText n b, ()) := by
  have := decDigits_len 9 (n + 1) (by omega)
  simp only [cellref_row, wrap_succ (i := n) (by omega), sItoa_nat (n := n + 1) (by omega), Option.bind_some, dollar_eq (b := b) (s := Lib.decDigits (n + 1)) (by omega)]
  rfl

/-- The sheet's part. -/
def sheetText (s : Str) : Str := if s = [] then [] else if isPlain s = true then s ++ [33] else 39 :: dup s ++ [39, 33]
theorem sheetText_len (s : Str) : (sheetText s).length ≤ 2 * s.length + 3 := by
  have := dup_len s
  unfold sheetText
  split
  · simp
  · split <;> simp <;> omega
/-- The text of a valid reference. -/
def refText (s : Str) (k : Int) (r c r2 c2 : Nat) (ar ac ar2 ac2 : Bool) : Str :=
  if k = 0 then sheetText s ++ colText c ac ++ rowText r ar
  else if k = 1 then sheetText s ++ colText c ac ++ rowText r ar ++ [58] ++ colText c2 ac2 ++ rowText r2 ar2
  else if k = 2 then sheetText s ++ rowText r ar ++ [58] ++ rowText r2 ar2
  else if k = 3 then sheetText s ++ colText c ac ++ [58] ++ colText c2 ac2
  else [35, 82, 69, 70, 33]

/-- What a valid reference is. -/
theorem valid {s : Str} {k r c r2 c2 : Int} {ar ac ar2 ac2 : Bool} (h : refErr s k r c r2 c2 ar ac ar2 ac2 = 0) :
    0 ≤ k ∧ k ≤ 4 ∧ nameErr s = 0 ∧ badForm s k r c r2 c2 ar ac ar2 ac2 = false ∧ (0 ≤ r ∧ r < 1073741824) ∧ (0 ≤ c ∧ c < 1073741824) ∧ (0 ≤ r2 ∧ r2 < 1073741824) ∧ (0 ≤ c2 ∧ c2 < 1073741824) ∧ (k = 0 ∨ r ≤ r2 ∧ c ≤ c2) := by
  unfold refErr at h
  split at h
  · omega
  rename_i h1
  split at h
  · omega
  rename_i h2
  cases h3 : badForm s k r c r2 c2 ar ac ar2 ac2 with
  | true => simp [h3] at h
  | false =>
    rw [h3] at h
    cases h4 : (ins r && ins c && ins r2 && ins c2) with
    | false => simp [h4] at h
    | true =>
      simp only [ins, Bool.and_eq_true, decide_eq_true_eq] at h4
      refine ⟨by omega, by omega, by omega, rfl, h4.1.1.1, h4.1.1.2, h4.1.2, h4.2, ?_⟩
      simp only [cond_false, ins, h4, and_self, decide_true, Bool.and_self, Bool.not_true] at h
      by_cases h5 : k = 0
      · exact .inl h5
      · simp [h5] at h
        by_cases h6 : r2 < r <;> by_cases h7 : c2 < c <;> simp [h6, h7] at h
        exact .inr ⟨by omega, by omega⟩
theorem name_small {s : Str} (h : nameErr s = 0) : s.length ≤ 200 := by
  unfold nameErr at h
  split at h
  · omega
  · omega

theorem Print_eq (s : Str) (k r c r2 c2 : Int) (ar ac ar2 ac2 : Bool) : cellref_Print (s, k, r, c, r2, c2, ar, ac, ar2, ac2, ()) =
    some (if refErr s k r c r2 c2 ar ac ar2 ac2 = 0 then (refText s k r.toNat c.toNat r2.toNat c2.toNat ar ac ar2 ac2, 0, ()) else ([], refErr s k r c r2 c2 ar ac ar2 ac2, ())) := by
  by_cases he : refErr s k r c r2 c2 ar ac ar2 ac2 = 0
  · obtain ⟨h1, h2, h3, h4, h5, h6, h7, h8, h9⟩ := valid he
    obtain ⟨r, rfl⟩ := Int.eq_ofNat_of_zero_le h5.1
    obtain ⟨c, rfl⟩ := Int.eq_ofNat_of_zero_le h6.1
    obtain ⟨r2, rfl⟩ := Int.eq_ofNat_of_zero_le h7.1
    obtain ⟨c2, rfl⟩ := Int.eq_ofNat_of_zero_le h8.1
    have hs := name_small h3
    have hd := dup_len s
    have ht := sheetText_len s
    have l1 := rowText_len (n := r) ar (by omega)
    have l2 := rowText_len (n := r2) ar2 (by omega)
    have l3 := colText_len (n := c) ac (by omega)
    have l4 := colText_len (n := c2) ac2 (by omega)
    rw [if_pos he]
    have first : (cond (!decide (s = [])) ((cat s [33]).bind fun v3 => (cellref_Plain s).bind fun v4 => cond (!v4.1)
        ((sReplaceAll (s, [39], [39, 39], ())).bind fun v5 => (cat [39] v5.1).bind fun v6 => (cat v6 [39, 33]).bind fun v7 => some ((), v7, (s, (k, ((r : Int), ((c : Int), ((r2 : Int), ((c2 : Int), (ar, (ac, (ar2, (ac2, ())))))))))), ()))
        (some ((), v3, (s, (k, ((r : Int), ((c : Int), ((r2 : Int), ((c2 : Int), (ar, (ac, (ar2, (ac2, ())))))))))), ())))
        (some ((), [], (s, (k, ((r : Int), ((c : Int), ((r2 : Int), ((c2 : Int), (ar, (ac, (ar2, (ac2, ())))))))))), ())) : Option (Unit × (Str × ((Str × (Int × (Int × (Int × (Int × (Int × (Bool × (Bool × (Bool × (Bool × Unit)))))))))) × Unit)))) =
        some ((), sheetText s, (s, (k, ((r : Int), ((c : Int), ((r2 : Int), ((c2 : Int), (ar, (ac, (ar2, (ac2, ())))))))))), ()) := by
      by_cases e : s = []
      · simp [e, sheetText]
      · simp only [e, decide_false, Bool.not_false, cond_true, sheetText, if_false, Plain_eq (s := s) (by omega), Option.bind_some]
        rw [cat_ok (by simp; omega)]
        cases hp : isPlain s with
        | true => simp
        | false =>
          simp only [Bool.not_false, cond_true, sReplaceAll_dup (s := s) (by omega), Option.bind_some]
          rw [cat_ok (by simp; omega)]
          simp only [Option.bind_some]
          rw [cat_ok (by simp; omega)]
          simp
    simp only [cellref_Print, Check_eq, he, Option.bind_some, decide_true, Bool.not_true, cond_false]
    rw [first]
    have cats : ∀ (x y : Str), x.length + y.length ≤ 1000 → cat x y = some (x ++ y) := fun x y h => cat_ok (by omega)
    simp only [Option.bind_some, Int.toNat_natCast, refText]
    have hk : k = 0 ∨ k = 1 ∨ k = 2 ∨ k = 3 ∨ k = 4 := by omega
    rcases hk with rfl | rfl | rfl | rfl | rfl <;> simp (disch := (first | omega | (simp only [List.length_append, List.length_cons, List.length_nil]; omega))) [col_eq, row_eq, cats]
  · simp [cellref_Print, Check_eq, he]

end Go.Proofs.YtjhcnnhkabhigaaGreatDoor

namespace Go.Proofs.YtjhcnnhkabhigaaGreatDoor
open Go Go.Fe

theorem RefText_loop {s : Str} (rest : Int × (Int × (Int × (Int × (Int × (Bool × (Bool × (Bool × (Bool × Unit))))))))) (hs : s.length ≤ 200) :
    loop (chanceryref2_RefText_l1 (s, rest)) ((), [39], 0, (s, rest), ()) = some ((), 39 :: dup s, (s, rest), ()) := by
  have key : ∀ i, i < s.length → chanceryref2_RefText_l1 (s, rest) ((), 39 :: dup (s.take i), (i : Int), (s, rest), ()) = some (.inl ((), 39 :: dup (s.take (i + 1)), ((i + 1 : Nat) : Int), (s, rest), ())) := fun i hi => by
    have hg : ((i : Int) < (s.length : Int)) := by omega
    have hd := dup_len (s.take i)
    have hl : (s.take i).length ≤ 200 := by simp; omega
    have a3 : cut s (i : Int) ((i + 1 : Nat) : Int) = some [s[i]] := by
      rw [cut_nat (by omega) (by omega)]
      congr 1
      rw [List.take_succ_eq_append_getElem hi, List.drop_append_of_le_length (by simp; omega)]
      simp
    have a4 : (ofByte s[i] = 39) ↔ (s[i] = 39) := by
      rw [ofByte_eq]
      constructor
      · intro h
        have : s[i].toNat = (39 : UInt8).toNat := by simp; omega
        exact UInt8.toNat.inj this
      · intro h; rw [h]; rfl
    have c1 : cat (39 :: dup (s.take i)) [s[i]] = some (39 :: dup (s.take i) ++ [s[i]]) := cat_ok (by simp only [List.length_cons, List.length_nil]; omega)
    have c2 : cat (39 :: dup (s.take i) ++ [s[i]]) [39] = some (39 :: dup (s.take i) ++ [s[i]] ++ [39]) := cat_ok (by simp only [List.length_append, List.length_cons, List.length_nil]; omega)
    rw [dup_take hi]
    simp only [chanceryref2_RefText_l1, hg, decide_true, cond_true, wrap_succ (i := i) (by omega), a3, Option.bind_some, c1, idx_lt hi, a4]
    by_cases h : s[i] = 39
    · rw [h] at c2 ⊢
      simp only [c2, if_true, decide_true, cond_true, Option.bind_some]
      simp
    · simp only [h, decide_false, cond_false, Option.bind_some]
      simp
  have := (Halts.along (n := 0) (f := chanceryref2_RefText_l1 (s, rest)) (fun i : Nat => ((), 39 :: dup (s.take i), (i : Int), (s, rest), ())) (r := ((), 39 :: dup s, (s, rest), ())) s.length key (.done (by simp [chanceryref2_RefText_l1]))).loop (by omega)
  exact this

theorem RefText_eq {s : Str} {k r c r2 c2 : Int} {ar ac ar2 ac2 : Bool} (he : refErr s k r c r2 c2 ar ac ar2 ac2 = 0) : chanceryref2_RefText (s, k, r, c, r2, c2, ar, ac, ar2, ac2, ()) =
    some (refText s k r.toNat c.toNat r2.toNat c2.toNat ar ac ar2 ac2, ()) := by
  obtain ⟨h1, h2, h3, h4, h5, h6, h7, h8, h9⟩ := valid he
  obtain ⟨r, rfl⟩ := Int.eq_ofNat_of_zero_le h5.1
  obtain ⟨c, rfl⟩ := Int.eq_ofNat_of_zero_le h6.1
  obtain ⟨r2, rfl⟩ := Int.eq_ofNat_of_zero_le h7.1
  obtain ⟨c2, rfl⟩ := Int.eq_ofNat_of_zero_le h8.1
  have hs := name_small h3
  have hd := dup_len s
  have ht := sheetText_len s
  have l1 := rowText_len (n := r) ar (by omega)
  have l2 := rowText_len (n := r2) ar2 (by omega)
  have l3 := colText_len (n := c) ac (by omega)
  have l4 := colText_len (n := c2) ac2 (by omega)
  have m1 : chanceryref2_mark (letters (c + 1)) ac = some (colText c ac, ()) := mark_eq (by have := letters_len 7 (c + 1) (by omega); omega)
  have m2 : chanceryref2_mark (letters (c2 + 1)) ac2 = some (colText c2 ac2, ()) := mark_eq (by have := letters_len 7 (c2 + 1) (by omega); omega)
  have m3 : chanceryref2_mark (Lib.decDigits (r + 1)) ar = some (rowText r ar, ()) := mark_eq (by have := decDigits_len 9 (r + 1) (by omega); omega)
  have m4 : chanceryref2_mark (Lib.decDigits (r2 + 1)) ar2 = some (rowText r2 ar2, ()) := mark_eq (by have := decDigits_len 9 (r2 + 1) (by omega); omega)
  have n1 := RLetters_eq (n := c) (by omega)
  have n2 := RLetters_eq (n := c2) (by omega)
  have n3 := Decimal_eq (n := r + 1) (by omega)
  have n4 := Decimal_eq (n := r2 + 1) (by omega)
  have w1 := wrap_succ (i := r) (by omega)
  have w2 := wrap_succ (i := r2) (by omega)
  have cats : ∀ (x y : Str), x.length + y.length ≤ 1000 → cat x y = some (x ++ y) := fun x y h => cat_ok (by omega)
  have i0 : inb 0 2 = true := rfl
  have i1 : inb 1 2 = true := rfl
  have hk : k = 0 ∨ k = 1 ∨ k = 2 ∨ k = 3 ∨ k = 4 := by omega
  by_cases e4 : k = 4
  · subst e4
    simp [chanceryref2_RefText, refText]
  have first : (cond (!decide (s = []))
      (((chanceryref2_Plain s).bind fun v1 =>
      cond (!v1.1)
      ((loop (chanceryref2_RefText_l1 (s, k, (r : Int), (c : Int), (r2 : Int), (c2 : Int), ar, ac, ar2, ac2, ())) ((), [39], 0, (s, k, (r : Int), (c : Int), (r2 : Int), (c2 : Int), ar, ac, ar2, ac2, ()), ())).bind fun r7 =>
      (cat r7.2.1 [39]).bind fun v8 =>
      some ((), v8, (r7.2.2.1.1, (r7.2.2.1.2.1, (r7.2.2.1.2.2.1, (r7.2.2.1.2.2.2.1, (r7.2.2.1.2.2.2.2.1, (r7.2.2.1.2.2.2.2.2.1, (r7.2.2.1.2.2.2.2.2.2.1, (r7.2.2.1.2.2.2.2.2.2.2.1, (r7.2.2.1.2.2.2.2.2.2.2.2.1, (r7.2.2.1.2.2.2.2.2.2.2.2.2.1, ())))))))))), ()))
      (some ((), s, (s, k, (r : Int), (c : Int), (r2 : Int), (c2 : Int), ar, ac, ar2, ac2, ()), ())) : Option (Unit × (Str × ((Str × (Int × (Int × (Int × (Int × (Int × (Bool × (Bool × (Bool × (Bool × Unit)))))))))) × Unit)))).bind fun r9 =>
      (cat r9.2.1 [33]).bind fun v10 =>
      some ((), v10, (r9.2.2.1.1, (r9.2.2.1.2.1, (r9.2.2.1.2.2.1, (r9.2.2.1.2.2.2.1, (r9.2.2.1.2.2.2.2.1, (r9.2.2.1.2.2.2.2.2.1, (r9.2.2.1.2.2.2.2.2.2.1, (r9.2.2.1.2.2.2.2.2.2.2.1, (r9.2.2.1.2.2.2.2.2.2.2.2.1, (r9.2.2.1.2.2.2.2.2.2.2.2.2.1, ())))))))))), ()))
      (some ((), [], (s, k, (r : Int), (c : Int), (r2 : Int), (c2 : Int), ar, ac, ar2, ac2, ()), ())) : Option (Unit × (Str × ((Str × (Int × (Int × (Int × (Int × (Int × (Bool × (Bool × (Bool × (Bool × Unit)))))))))) × Unit)))) =
      some ((), sheetText s, (s, k, (r : Int), (c : Int), (r2 : Int), (c2 : Int), ar, ac, ar2, ac2, ()), ()) := by
    by_cases e : s = []
    · simp [e, sheetText]
    · simp only [e, decide_false, Bool.not_false, cond_true, sheetText, if_false, RPlain_eq (s := s) (by omega), Option.bind_some, RefText_loop _ hs]
      cases hp : isPlain s with
      | true =>
        simp only [Bool.not_true, cond_false, Option.bind_some]
        rw [cats _ _ (by simp only [List.length_cons, List.length_nil]; omega)]
        simp
      | false =>
        simp only [Bool.not_false, cond_true]
        rw [cats _ _ (by simp only [List.length_cons, List.length_nil]; omega)]
        simp only [Option.bind_some]
        rw [cats _ _ (by simp only [List.length_append, List.length_cons, List.length_nil]; omega)]
        simp
  simp only [chanceryref2_RefText, e4, decide_false, cond_false]
  rw [first]
  simp only [Option.bind_some, Int.toNat_natCast, refText]
  rcases hk with rfl | rfl | rfl | rfl | rfl
  all_goals try omega
  all_goals
    simp only [Int.reduceEq, decide_true, decide_false, Bool.not_true, Bool.not_false, cond_true, cond_false, Option.bind_some, n1, n2, n3, n4, m1, m2, m3, m4, w1, w2, i0, i1, chk_t, if_true, if_false]
    simp (disch := (first | omega | (simp only [List.length_append, List.length_cons, List.length_nil]; omega))) [cats, List.replicate]

end Go.Proofs.YtjhcnnhkabhigaaGreatDoor

