import Derived.Test.YtmcoedgkmciciaaGreatDoorLawY
import Derived.Lib.AtoiAllCases
namespace Go.Proofs.YtmcoedgkmciciaaGreatDoor
open Go Go.Fe

/-! ### The least number of places -/
theorem ten9 : ([10] : List Int) = rep B9 10 := rfl
theorem five10 : ([5] : List Int) = rep 10 5 := rfl
theorem factor25 : ∀ n d, d ≤ n → 0 < d → ∃ a b c, d = 2 ^ a * 5 ^ b * c ∧ c % 2 ≠ 0 ∧ c % 5 ≠ 0
  | 0, d, h, h0 => by omega
  | n + 1, d, h, h0 => by
    by_cases h2 : d % 2 = 0
    · obtain ⟨a, b, c, h3, h4⟩ := factor25 n (d / 2) (by omega) (by omega)
      refine ⟨a + 1, b, c, ?_, h4⟩
      have : d = 2 * (d / 2) := by omega
      rw [this, h3, Nat.pow_succ]
      grind
    · by_cases h5 : d % 5 = 0
      · obtain ⟨a, b, c, h3, h4⟩ := factor25 n (d / 5) (by omega) (by omega)
        refine ⟨a, b + 1, c, ?_, h4⟩
        have : d = 5 * (d / 5) := by omega
        rw [this, h3, Nat.pow_succ]
        grind
      · exact ⟨0, 0, d, by simp, h2, h5⟩
theorem five_two (b : Nat) : 5 ^ b % 2 = 1 := by
  induction b with
  | zero => rfl
  | succ b ih => rw [Nat.pow_succ]; omega
theorem two_five (a : Nat) : 2 ^ a % 5 ≠ 0 := by
  induction a with
  | zero => decide
  | succ a ih => rw [Nat.pow_succ]; omega
theorem mul_mod_ne {x y p : Nat} (hp : p = 2 ∨ p = 5) (hx : x % p ≠ 0) (hy : y % p ≠ 0) : x * y % p ≠ 0 := by
  rw [Nat.mul_mod]
  rcases hp with rfl | rfl
  · have h1 : x % 2 = 1 := by omega
    have h2 : y % 2 = 1 := by omega
    rw [h1, h2]
    decide
  · have h1 : x % 5 = 1 ∨ x % 5 = 2 ∨ x % 5 = 3 ∨ x % 5 = 4 := by omega
    have h2 : y % 5 = 1 ∨ y % 5 = 2 ∨ y % 5 = 3 ∨ y % 5 = 4 := by omega
    rcases h1 with h1 | h1 | h1 | h1 <;> rcases h2 with h2 | h2 | h2 | h2 <;> rw [h1, h2] <;> decide
theorem gcd10 (d : Nat) : d.gcd 10 = if d % 2 = 0 then (if d % 5 = 0 then 10 else 2) else (if d % 5 = 0 then 5 else 1) := by
  rw [Nat.gcd_comm, Nat.gcd_rec]
  have h := Nat.mod_lt d (show 10 > 0 by omega)
  have e2 : d % 2 = d % 10 % 2 := by omega
  have e5 : d % 5 = d % 10 % 5 := by omega
  rw [e2, e5]
  generalize d % 10 = r at *
  have : r = 0 ∨ r = 1 ∨ r = 2 ∨ r = 3 ∨ r = 4 ∨ r = 5 ∨ r = 6 ∨ r = 7 ∨ r = 8 ∨ r = 9 := by omega
  rcases this with h | h | h | h | h | h | h | h | h | h <;> subst h <;> rfl
theorem pow_split2 {a b c : Nat} : 2 ^ (a + 1) * 5 ^ b * c / 2 = 2 ^ a * 5 ^ b * c ∧ 2 ^ (a + 1) * 5 ^ b * c % 2 = 0 := by
  have e : 2 ^ (a + 1) * 5 ^ b * c = 2 * (2 ^ a * 5 ^ b * c) := by rw [Nat.pow_succ]; grind
  rw [e]
  omega
theorem pow_split5 {a b c : Nat} : 2 ^ a * 5 ^ (b + 1) * c / 5 = 2 ^ a * 5 ^ b * c ∧ 2 ^ a * 5 ^ (b + 1) * c % 5 = 0 := by
  have e : 2 ^ a * 5 ^ (b + 1) * c = 5 * (2 ^ a * 5 ^ b * c) := by rw [Nat.pow_succ]; grind
  rw [e]
  omega
theorem pow_split10 {a b c : Nat} : 2 ^ (a + 1) * 5 ^ (b + 1) * c / 10 = 2 ^ a * 5 ^ b * c ∧ 2 ^ (a + 1) * 5 ^ (b + 1) * c % 10 = 0 := by
  have e : 2 ^ (a + 1) * 5 ^ (b + 1) * c = 10 * (2 ^ a * 5 ^ b * c) := by rw [Nat.pow_succ, Nat.pow_succ]; grind
  rw [e]
  omega
theorem short_step {d i : Nat} {z : NumD} (hd : 0 < d) (dd : dl d < 5000) (hi : i < 100000) : exact_Shortest_l1 ((), (i : Int), rep B9 d, z, ()) =
    if d = 1 then some (.inr (.inl ((), (i : Int), z, ()))) else if d % 10 = 0 then some (.inl ((), ((i + 1 : Nat) : Int), rep B9 (d / 10), z, ())) else if d.gcd 10 = 1 then some (.inr (.inr ([], false, 0, ()))) else some (.inl ((), ((i + 1 : Nat) : Int), rep B9 (d / d.gcd 10), z, ())) := by
  have d10 : dl 10 = 2 := dl_ten 1
  have hg0 : 0 < d.gcd 10 := Nat.gcd_pos_of_pos_left 10 hd
  have hg := dl_mono (Nat.gcd_le_right d (show 0 < 10 by omega))
  unfold exact_Shortest_l1
  dsimp only
  rw [one_eq, Option.bind_some]
  dsimp only
  by_cases h1 : d = 1
  · rw [if_pos h1, decide_eq_true h1]
    rfl
  · rw [if_neg h1, decide_eq_false h1, Bool.not_false, cond_true, ten9, divide_eq (by omega) (by omega) (by omega), Option.bind_some]
    dsimp only
    rw [zero_eq, Option.bind_some]
    dsimp only
    by_cases h2 : d % 10 = 0
    · rw [if_pos h2, decide_eq_true h2, Bool.not_true, cond_false, Option.bind_some]
      dsimp only
      rw [wrapI1 (by omega)]
    · rw [if_neg h2, decide_eq_false h2, Bool.not_false, cond_true, common_eq (by omega) (by omega), Option.bind_some]
      dsimp only
      rw [one_eq, Option.bind_some]
      dsimp only
      by_cases h3 : d.gcd 10 = 1
      · rw [if_pos h3, decide_eq_true h3]
        rfl
      · rw [if_neg h3, decide_eq_false h3, cond_false, divide_eq hg0 (by omega) (by omega), Option.bind_some, Option.bind_some]
        dsimp only
        rw [wrapI1 (by omega)]
theorem short_halts {z : NumD} {c : Nat} (hc : 0 < c) (hc2 : c % 2 ≠ 0) (hc5 : c % 5 ≠ 0) : ∀ (f a b i : Nat), max a b = f → dl (2 ^ a * 5 ^ b * c) < 5000 → i + f < 100000 →
    Halts exact_Shortest_l1 f ((), (i : Int), rep B9 (2 ^ a * 5 ^ b * c), z, ()) (if c = 1 then .inl ((), ((i + f : Nat) : Int), z, ()) else .inr ([], false, 0, ()))
  | f, a, b, i, hf, hd, hi => by
    have hpos : 0 < 2 ^ a * 5 ^ b * c := Nat.mul_pos (Nat.mul_pos (Nat.pow_pos (by omega)) (Nat.pow_pos (by omega))) hc
    have hst := short_step (z := z) hpos hd (show i < 100000 by omega)
    have m2 : (2 ^ a * 5 ^ b * c) % 2 = 0 ↔ a ≠ 0 := by
      constructor
      · intro h e
        subst e
        rw [Nat.pow_zero, Nat.one_mul] at h
        exact mul_mod_ne (.inl rfl) (by rw [five_two]; decide) hc2 h
      · intro h
        obtain ⟨a', rfl⟩ : ∃ a', a = a' + 1 := ⟨a - 1, by omega⟩
        exact pow_split2.2
    have m5 : (2 ^ a * 5 ^ b * c) % 5 = 0 ↔ b ≠ 0 := by
      constructor
      · intro h e
        subst e
        rw [Nat.pow_zero, Nat.mul_one] at h
        exact mul_mod_ne (.inr rfl) (two_five a) hc5 h
      · intro h
        obtain ⟨b', rfl⟩ : ∃ b', b = b' + 1 := ⟨b - 1, by omega⟩
        exact pow_split5.2
    have hg := gcd10 (2 ^ a * 5 ^ b * c)
    have hle : ∀ x y, x ≤ a → y ≤ b → dl (2 ^ x * 5 ^ y * c) < 5000 := fun x y hx hy => by
      have := dl_mono (Nat.mul_le_mul_right c (Nat.mul_le_mul (Nat.pow_le_pow_right (show 0 < 2 by omega) hx) (Nat.pow_le_pow_right (show 0 < 5 by omega) hy)))
      omega
    by_cases ha : a = 0
    · by_cases hb : b = 0
      · have f0 : f = 0 := by omega
        subst f0
        subst ha
        subst hb
        simp only [Nat.pow_zero, Nat.one_mul, Nat.add_zero] at *
        rw [if_neg hc2, if_neg hc5] at hg
        refine .done ?_
        rw [hst]
        by_cases h1 : c = 1
        · rw [if_pos h1, if_pos h1]
        · rw [if_neg h1, if_neg h1, if_neg (by omega), if_pos hg]
      · obtain ⟨b', rfl⟩ : ∃ b', b = b' + 1 := ⟨b - 1, by omega⟩
        have n2 : ¬(2 ^ a * 5 ^ (b' + 1) * c) % 2 = 0 := fun h => m2.1 h ha
        have n5 := m5.2 hb
        rw [if_neg n2, if_pos n5] at hg
        rw [if_neg (by omega), if_neg (by omega), if_neg (by omega), hg, pow_split5.1] at hst
        obtain ⟨f', rfl⟩ : ∃ f', f = f' + 1 := ⟨f - 1, by omega⟩
        have ih := short_halts (z := z) hc hc2 hc5 f' a b' (i + 1) (by omega) (hle a b' (by omega) (by omega)) (by omega)
        rw [show i + 1 + f' = i + (f' + 1) by omega] at ih
        exact .step hst ih
    · obtain ⟨a', rfl⟩ : ∃ a', a = a' + 1 := ⟨a - 1, by omega⟩
      have n2 := m2.2 ha
      obtain ⟨f', rfl⟩ : ∃ f', f = f' + 1 := ⟨f - 1, by omega⟩
      by_cases hb : b = 0
      · have n5 : ¬(2 ^ (a' + 1) * 5 ^ b * c) % 5 = 0 := fun h => m5.1 h hb
        rw [if_pos n2, if_neg n5] at hg
        rw [if_neg (by omega), if_neg (by omega), if_neg (by omega), hg, pow_split2.1] at hst
        have ih := short_halts (z := z) hc hc2 hc5 f' a' b (i + 1) (by omega) (hle a' b (by omega) (by omega)) (by omega)
        rw [show i + 1 + f' = i + (f' + 1) by omega] at ih
        exact .step hst ih
      · obtain ⟨b', rfl⟩ : ∃ b', b = b' + 1 := ⟨b - 1, by omega⟩
        rw [if_neg (by omega), if_pos pow_split10.2, pow_split10.1] at hst
        have ih := short_halts (z := z) hc hc2 hc5 f' a' b' (i + 1) (by omega) (hle a' b' (by omega) (by omega)) (by omega)
        rw [show i + 1 + f' = i + (f' + 1) by omega] at ih
        exact .step hst ih
theorem exp_bound {a b c d : Nat} (hc : 0 < c) (hd : d = 2 ^ a * 5 ^ b * c) (dd : dl d ≤ 300) : a < 1200 ∧ b < 1200 := by
  have h1 := lt_two d
  have hp2 : 0 < 2 ^ a := Nat.pow_pos (by omega)
  have hp5 : 0 < 5 ^ b := Nat.pow_pos (by omega)
  have h2 : 2 ^ a ≤ d := by
    rw [hd, Nat.mul_assoc]
    exact Nat.le_mul_of_pos_right _ (Nat.mul_pos hp5 hc)
  have h3 : 5 ^ b ≤ d := by
    rw [hd, Nat.mul_comm (2 ^ a), Nat.mul_assoc]
    exact Nat.le_mul_of_pos_right _ (Nat.mul_pos hp2 hc)
  have h4 : 2 ^ b ≤ 5 ^ b := Nat.pow_le_pow_left (by omega) b
  have e1 := (Nat.pow_lt_pow_iff_right (show 1 < 2 by omega)).1 (Nat.lt_of_le_of_lt h2 h1)
  have e2 := (Nat.pow_lt_pow_iff_right (show 1 < 2 by omega)).1 (Nat.lt_of_le_of_lt (Nat.le_trans h4 h3) h1)
  omega
theorem Shortest_good {r : FracD} {m : Bool} {n d a b c : Nat} (hr : exact_read r = some (N9 m n d, 0, ())) (hd : 0 < d) (dn : dl n ≤ 300) (dd : dl d ≤ 300) (hc : 0 < c) (hc2 : c % 2 ≠ 0) (hc5 : c % 5 ≠ 0) (he : d = 2 ^ a * 5 ^ b * c) :
    exact_Shortest r = some (if c = 1 then (decTxt m (n * 10 ^ max a b / d) (max a b), true, 0, ()) else ([], false, 0, ())) := by
  obtain ⟨b1, b2⟩ := exp_bound hc he dd
  have hl := (short_halts (z := N9 m n d) hc hc2 hc5 (max a b) a b 0 rfl (by rw [← he]; omega) (by omega)).loop (by omega)
  rw [← he, Nat.zero_add] at hl
  unfold exact_Shortest
  rw [hr, Option.bind_some]
  dsimp only
  rw [decide_eq_true rfl, Bool.not_true, cond_false]
  have hN : (N9 m n d).2.2.1 = rep B9 d := rfl
  rw [hN]
  have hl' : loop exact_Shortest_l1 ((), 0, rep B9 d, N9 m n d, ()) = _ := hl
  rw [hl', Option.bind_some]
  by_cases h1 : c = 1
  · have dt := dl_ten (max a b)
    have dm := dl_mul n (10 ^ max a b)
    have dq := dl_mono (Nat.div_le_self (n * 10 ^ max a b) d)
    rw [if_pos h1, if_pos h1]
    dsimp only
    rw [ten_eq (by omega), Option.bind_some]
    have hN1 : (N9 m n d).2.1 = rep B9 n := rfl
    dsimp only
    rw [hN1, hN, times_eq (by omega) (by omega), Option.bind_some]
    dsimp only
    rw [divide_eq hd (by omega) (by omega), Option.bind_some]
    dsimp only
    have hdec := decimal9 (m := m) (q := n * 10 ^ max a b / d) (d := 1) (k := max a b) (by omega) (by omega)
    have hN2 : N9 m (n * 10 ^ max a b / d) 1 = ((N9 m n d).1, rep B9 (n * 10 ^ max a b / d), [1], ()) := rfl
    rw [hN2] at hdec
    rw [hdec]
    rfl
  · rw [if_neg h1, if_neg h1]
theorem places1 {c b : Nat} (hb : c % 2 ≠ 0) (hc : 0 < c) : ∀ (f a i : Nat), a = f → dl (2 ^ a * 5 ^ b * c) < 5000 → i + f < 100000 →
    Halts chanceryref2_Rat__Places_l1 f (rep 10 (2 ^ a * 5 ^ b * c), (i : Int), ()) (rep 10 (5 ^ b * c), ((i + f : Nat) : Int), ())
  | f, a, i, hf, hd, hi => by
    have hpos : 0 < 2 ^ a * 5 ^ b * c := Nat.mul_pos (Nat.mul_pos (Nat.pow_pos (by omega)) (Nat.pow_pos (by omega))) hc
    have hst : chanceryref2_Rat__Places_l1 (rep 10 (2 ^ a * 5 ^ b * c), (i : Int), ()) = if (2 ^ a * 5 ^ b * c) % 2 = 0 then some (.inl (rep 10 (2 ^ a * 5 ^ b * c / 2), ((i + 1 : Nat) : Int), ())) else some (.inr (rep 10 (2 ^ a * 5 ^ b * c), (i : Int), ())) := by
      unfold chanceryref2_Rat__Places_l1
      dsimp only
      rw [low_at hpos, Option.bind_some, low_rem, Option.bind_some, dec_even, half_eq (by omega), wrapI1 (by omega)]
      by_cases h : (2 ^ a * 5 ^ b * c) % 2 = 0
      · rw [if_pos h, decide_eq_true h]
        rfl
      · rw [if_neg h, decide_eq_false h]
        rfl
    cases f with
    | zero =>
      subst hf
      simp only [Nat.pow_zero, Nat.one_mul, Nat.add_zero] at *
      rw [if_neg (mul_mod_ne (.inl rfl) (by rw [five_two]; decide) hb)] at hst
      exact .done hst
    | succ f =>
      subst hf
      rw [if_pos pow_split2.2, pow_split2.1] at hst
      have ih := places1 (b := b) hb hc f f (i + 1) rfl (by
        have := dl_mono (Nat.mul_le_mul_right c (Nat.mul_le_mul_right (5 ^ b) (Nat.pow_le_pow_right (show 0 < 2 by omega) (show f ≤ f + 1 by omega))))
        omega) (by omega)
      rw [show i + 1 + f = i + (f + 1) by omega] at ih
      exact .step hst ih
theorem places2 {c : Nat} (hc5 : c % 5 ≠ 0) (hc : 0 < c) : ∀ (f b i : Nat), b = f → dl (5 ^ b * c) < 5000 → i + f < 100000 →
    Halts chanceryref2_Rat__Places_l2 f (rep 10 (5 ^ b * c), (i : Int), ()) (rep 10 c, ((i + f : Nat) : Int), ())
  | f, b, i, hf, hd, hi => by
    have d5 : dl 5 = 1 := rfl
    have hlen := len10 ((5 ^ b * c) % 5)
    have hst : chanceryref2_Rat__Places_l2 (rep 10 (5 ^ b * c), (i : Int), ()) = if (5 ^ b * c) % 5 = 0 then some (.inl (rep 10 (5 ^ b * c / 5), ((i + 1 : Nat) : Int), ())) else some (.inr (rep 10 (5 ^ b * c), (i : Int), ())) := by
      unfold chanceryref2_Rat__Places_l2
      dsimp only
      rw [five10, rdivide_eq (by omega) (by omega) (by omega), Option.bind_some]
      dsimp only
      rw [wrapI1 (by omega)]
      by_cases h : (5 ^ b * c) % 5 = 0
      · rw [if_pos h, h]
        rfl
      · have := dl_pos (n := (5 ^ b * c) % 5) (by omega)
        rw [if_neg h, decide_eq_true (by omega)]
        rfl
    cases f with
    | zero =>
      subst hf
      simp only [Nat.pow_zero, Nat.one_mul, Nat.add_zero] at *
      rw [if_neg hc5] at hst
      exact .done hst
    | succ f =>
      subst hf
      have e : 5 ^ (f + 1) * c = 5 * (5 ^ f * c) := by rw [Nat.pow_succ]; grind
      rw [if_pos (by rw [e]; omega), show 5 ^ (f + 1) * c / 5 = 5 ^ f * c by rw [e]; omega] at hst
      have ih := places2 hc5 hc f f (i + 1) rfl (by
        have := dl_mono (Nat.mul_le_mul_right c (Nat.pow_le_pow_right (show 0 < 5 by omega) (show f ≤ f + 1 by omega)))
        omega) (by omega)
      rw [show i + 1 + f = i + (f + 1) by omega] at ih
      exact .step hst ih
/-- A fraction in lowest terms is written as it is. -/
theorem fracOut_low {m : Bool} {n d : Nat} (hd : 0 < d) (hc : n.gcd d = 1) (hm : m = true → 0 < n) (dn : dl n ≤ 300) (dd : dl d ≤ 300) : fracOut m n d = (((bif m then 45 :: txt n else txt n), txt d, ()), 0, ()) := by
  unfold fracOut
  by_cases h0 : n = 0
  · subst h0
    rw [Nat.gcd_zero_left] at hc
    subst hc
    cases m with
    | true => exact absurd (hm rfl) (by omega)
    | false =>
      rw [if_pos rfl, show txt 1 = [49] from (txt_one_iff 1).2 rfl, show txt 0 = [48] from decDigits_small (by omega)]
      rfl
  · rw [if_neg h0, hc, Nat.div_one, Nat.div_one, if_neg (by omega)]
theorem Places_eq {m : Bool} {n d a b c : Nat} (hd : 0 < d) (hcop : n.gcd d = 1) (hm : m = true → 0 < n) (dn : dl n ≤ 300) (dd : dl d ≤ 300) (hc : 0 < c) (hc2 : c % 2 ≠ 0) (hc5 : c % 5 ≠ 0) (he : d = 2 ^ a * 5 ^ b * c) :
    chanceryref2_Rat__Places (N10 m n d) = some (if c = 1 then ((max a b : Nat) : Int) else -1, ()) := by
  obtain ⟨b1, b2⟩ := exp_bound hc he dd
  have hfr : chanceryref2_Rat__Frac (N10 m n d) = some (fracOut m n d) := frac_eq hd (by omega) (by omega)
  have hcd : c ≤ d := by
    rw [he]
    exact Nat.le_mul_of_pos_left _ (Nat.mul_pos (Nat.pow_pos (by omega)) (Nat.pow_pos (by omega)))
  have h5d : 5 ^ b * c ≤ d := by
    rw [he, Nat.mul_assoc]
    exact Nat.le_mul_of_pos_left _ (Nat.pow_pos (by omega))
  have dc := dl_mono hcd
  have d5c := dl_mono h5d
  have l1 := (places1 (b := b) hc2 hc a a 0 rfl (by rw [← he]; omega) (by omega)).loop (by omega)
  have l2 := (places2 hc5 hc b b 0 rfl (by omega) (by omega)).loop (by omega)
  rw [← he, Nat.zero_add] at l1
  rw [Nat.zero_add] at l2
  unfold chanceryref2_Rat__Places
  rw [hfr, fracOut_low hd hcop hm dn dd, Option.bind_some]
  dsimp only
  rw [decide_eq_true rfl, Bool.not_true, cond_false, natof_txt (by omega), Option.bind_some]
  dsimp only
  have l1' : loop chanceryref2_Rat__Places_l1 (rep 10 d, 0, ()) = _ := l1
  have l2' : loop chanceryref2_Rat__Places_l2 (rep 10 (5 ^ b * c), 0, ()) = _ := l2
  rw [l1', Option.bind_some]
  dsimp only
  rw [l2', Option.bind_some]
  dsimp only
  rw [rtext_eq (by omega), Option.bind_some]
  dsimp only
  by_cases h1 : c = 1
  · rw [if_pos h1, decide_eq_true ((txt_one_iff c).2 h1), Bool.not_true, cond_false]
    congr 2
    unfold mx
    split <;> omega
  · rw [if_neg h1, decide_eq_false (fun e => h1 ((txt_one_iff c).1 e))]
    rfl
theorem dvd_ten {a b : Nat} : 2 ^ a * 5 ^ b ∣ 10 ^ max a b := by
  have e : (10 : Nat) ^ max a b = 2 ^ max a b * 5 ^ max a b := by rw [← Nat.mul_pow]
  rw [e]
  exact Nat.mul_dvd_mul (Nat.pow_dvd_pow 2 (by omega)) (Nat.pow_dvd_pow 5 (by omega))
theorem rnd_exact {n d k : Nat} (hd : 0 < d) (h : d ∣ 10 ^ k) : rnd (scN n k) (scD d k) = n * 10 ^ k / d := by
  unfold rnd scN scD
  rw [if_neg (by omega), if_neg (by omega), Int.toNat_natCast]
  obtain ⟨t, ht⟩ := h
  rw [ht, show n * (d * t) = n * t * d by grind, Nat.mul_div_cancel _ hd]
  have e : n * t * d + n * t * d + d = d + (d + d) * (n * t) := by grind
  rw [e, Nat.add_mul_div_left _ _ (by omega), Nat.div_eq_of_lt (by omega), Nat.zero_add]
/-! ### Whole numbers -/
theorem big_parse : ∀ (s : Str) (acc : Nat), s.all isDigit = true → acc < 18446744073709551616 →
    (Lib.parseUint10 acc s = .ok (acc * 10 ^ s.length + dec s) ∧ acc * 10 ^ s.length + dec s < 18446744073709551616) ∨ (Lib.parseUint10 acc s = .range ∧ 18446744073709551616 ≤ acc * 10 ^ s.length + dec s)
  | [], acc, _, h => .inl ⟨by simp [Lib.parseUint10, dec], by simp [dec]; exact h⟩
  | c :: r, acc, ha, h => by
    simp only [List.all_cons, Bool.and_eq_true] at ha
    have h1 := ha.1
    simp only [isDigit, decide_eq_true_eq] at h1
    have hp : 1 ≤ 10 ^ r.length := Nat.pow_pos (by omega)
    have hdc : dec (c :: r) = (c.toNat - 48) * 10 ^ r.length + dec r := by
      have := dec_append [c] r
      simp only [List.singleton_append] at this
      rw [this]
      simp [dec]
    have e : acc * 10 ^ (c :: r).length + dec (c :: r) = (acc * 10 + (c.toNat - 48)) * 10 ^ r.length + dec r := by
      rw [hdc, List.length_cons, Nat.pow_succ]
      grind
    rw [e]
    simp only [Lib.parseUint10]
    rw [if_pos h1]
    by_cases g1 : 1844674407370955162 ≤ acc
    · rw [if_pos g1]
      refine .inr ⟨rfl, ?_⟩
      have := Nat.mul_le_mul_left (acc * 10 + (c.toNat - 48)) hp
      omega
    · rw [if_neg g1]
      by_cases g2 : 18446744073709551616 ≤ acc * 10 + (c.toNat - 48)
      · rw [if_pos g2]
        refine .inr ⟨rfl, ?_⟩
        have := Nat.mul_le_mul_left (acc * 10 + (c.toNat - 48)) hp
        omega
      · rw [if_neg g2]
        exact big_parse r _ ha.2 (by omega)
theorem atoi_num {m : Bool} {n : Nat} (dn : dl n ≤ 300) : ∃ v e, sAtoi ((bif m then 45 :: txt n else txt n), ()) = some (v, e, ()) ∧ (n ≤ 4611686018427387904 → e = false ∧ v = (bif m then -(n : Int) else (n : Int))) ∧ (4611686018427387904 < n → e = true ∨ v < -4611686018427387904 ∨ 4611686018427387904 < v) := by
  have hl := txt_len_le n
  have hp : Lib.parseMag (txt n) = Lib.parseUint10 0 (txt n) := if_neg (txt_ne n)
  have hb := big_parse (txt n) 0 (txt_digits n) (by omega)
  rw [Nat.zero_mul, Nat.zero_add, dec_txt] at hb
  have hlen : (bif m then 45 :: txt n else txt n).length ≤ 281474976710656 := by
    cases m with
    | true => simp only [cond_true, List.length_cons]; omega
    | false => simp only [cond_false]; omega
  have hat : Lib.atoiAll (bif m then 45 :: txt n else txt n) = bif m then Lib.signed (Lib.parseUint10 0 (txt n)) else Lib.signless (Lib.parseUint10 0 (txt n)) := by
    cases m with
    | true =>
      rw [cond_true, cond_true, Lib.atoiAll_minus, hp]
    | false =>
      cases ht : txt n with
      | nil => exact absurd ht (txt_ne n)
      | cons c r =>
        have hd := txt_digits n
        rw [ht, List.all_cons, Bool.and_eq_true] at hd
        have h1 := hd.1
        simp only [isDigit, decide_eq_true_eq] at h1
        rw [ht] at hp
        rw [cond_false, cond_false, Lib.atoiAll_plain c r (by omega) (by omega), hp]
  unfold sAtoi
  rw [if_pos hlen]
  dsimp only
  rw [hat]
  cases m with
  | true =>
    rw [cond_true]
    rcases hb with ⟨h1, h2⟩ | ⟨h1, h2⟩
    · rw [h1]
      simp only [Lib.signed]
      by_cases g2 : 9223372036854775808 < n
      · rw [if_pos g2]
        exact ⟨_, _, rfl, fun h => by omega, fun _ => .inl rfl⟩
      · rw [if_neg g2]
        refine ⟨-(n : Int), false, rfl, fun _ => ⟨rfl, rfl⟩, fun h => .inr (.inl ?_)⟩
        show (-(n : Int)) < (-4611686018427387904 : Int)
        omega
    · rw [h1]
      exact ⟨_, _, rfl, fun h => by omega, fun _ => .inl rfl⟩
  | false =>
    rw [cond_false]
    rcases hb with ⟨h1, h2⟩ | ⟨h1, h2⟩
    · rw [h1]
      simp only [Lib.signless]
      by_cases g2 : 9223372036854775808 ≤ n
      · rw [if_pos g2]
        exact ⟨_, _, rfl, fun h => by omega, fun _ => .inl rfl⟩
      · rw [if_neg g2]
        refine ⟨(n : Int), false, rfl, fun _ => ⟨rfl, rfl⟩, fun h => .inr (.inr ?_)⟩
        show (4611686018427387904 : Int) < (n : Int)
        omega
    · rw [h1]
      exact ⟨_, _, rfl, fun h => by omega, fun _ => .inl rfl⟩
end Go.Proofs.YtmcoedgkmciciaaGreatDoor
