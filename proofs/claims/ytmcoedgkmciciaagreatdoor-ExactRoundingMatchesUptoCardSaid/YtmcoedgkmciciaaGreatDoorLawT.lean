import Derived.Test.YtmcoedgkmciciaaGreatDoorLawR
namespace Go.Proofs.YtmcoedgkmciciaaGreatDoor
open Go Go.Fe

/-! ### Whole numbers -/
theorem lfracT {m : Bool} {n d : Nat} (hd : 0 < d) (hsn : dl n < 100000) (hsd : dl d < 100000) : chancerylaw2_frac (fracOut m n d).1 (fracOut m n d).2.1 (N10 m n d) = some (true, ()) := lfrac_eq hd hsn hsd
theorem itoa_abs (p : Int) : Lib.itoa p = bif decide (p < 0) then 45 :: txt p.natAbs else txt p.natAbs := by
  unfold Lib.itoa
  by_cases h : p < 0
  · rw [if_pos h, decide_eq_true h]
    rfl
  · rw [if_neg h, decide_eq_false h, show p.toNat = p.natAbs by omega]
    rfl
theorem txt_head (n : Nat) : (txt n).head? ≠ some 45 := by
  intro e
  have h := txt_digits n
  cases ht : txt n with
  | nil => rw [ht] at e; cases e
  | cons c r =>
    rw [ht] at e h
    simp only [List.head?_cons, Option.some.injEq] at e
    subst e
    simp [isDigit] at h
theorem sign_txt (n : Nat) : signOf (txt n) = false := decide_eq_false (txt_head n)
theorem body_txt (n : Nat) : body (txt n) = txt n := by
  unfold body
  rw [sign_txt]
  rfl
theorem cut_itoa (p : Int) : sCutPrefix (no_index (Lib.itoa p, [45], ())) = some (txt p.natAbs, decide (p < 0), ()) := by
  rw [cut_sign, itoa_abs]
  by_cases h : p < 0
  · rw [decide_eq_true h]
    rfl
  · rw [decide_eq_false h, cond_false, sign_txt, body_txt]
theorem sItoa_eq {p : Int} (h : -9223372036854775808 ≤ p) (h' : p ≤ 9223372036854775807) : sItoa (no_index (p, ())) = some (Lib.itoa p, ()) := by
  unfold sItoa
  rw [if_pos ⟨h, h'⟩]
theorem parse_txt {n : Nat} (h : dl n < 1000) : exact_parse (txt n) = some (rep B9 n, ()) := by
  have hl : (txt n).length < 1000000 := by
    by_cases h0 : n = 0
    · subst h0
      rw [txt, decDigits_small (by omega)]
      decide
    · rw [txt_len (by omega)]
      omega
  rw [parse_eq (txt_digits n) hl, dec_txt]
theorem dl_i64 {p : Int} (h : -9223372036854775808 ≤ p) (h' : p ≤ 9223372036854775807) : dl p.natAbs ≤ 19 := dl_le.2 (by omega)
theorem Ratio_eq {p q : Int} (h1 : -9223372036854775808 ≤ p) (h2 : p ≤ 9223372036854775807) (h3 : -9223372036854775808 ≤ q) (h4 : q ≤ 9223372036854775807) :
    exact_Ratio p q = some (if q = 0 then (([], [], ()), 1, ()) else fracOut (!(decide (p < 0) == decide (q < 0))) p.natAbs q.natAbs) := by
  have dp := dl_i64 h1 h2
  have dq := dl_i64 h3 h4
  unfold exact_Ratio
  by_cases hq : q = 0
  · rw [if_pos hq, decide_eq_true hq, cond_true]
  · rw [if_neg hq, decide_eq_false hq, cond_false, sItoa_eq h1 h2, Option.bind_some]
    dsimp only
    rw [cut_itoa, Option.bind_some, sItoa_eq h3 h4, Option.bind_some]
    dsimp only
    rw [cut_itoa, Option.bind_some]
    dsimp only
    rw [parse_txt (by omega), Option.bind_some, parse_txt (by omega), Option.bind_some]
    dsimp only
    rw [write_eq (by omega) (by omega) (by omega)]
    rfl
theorem bytesStr_1 (n : Nat) : bytesStr [(n : Int)] = [UInt8.ofNat n] := by simp [bytesStr, byteOfInt_nat]
theorem decimal_pos : ∀ (k n m : Nat), n < 10 ^ (k + 1) → n < 9223372036854775808 → k ≤ 100 → k < m → chanceryref2_Decimal_f m (n : Int) = some (txt n, ())
  | k, n, 0, _, _, _, hm => by omega
  | k, n, m + 1, h, hn, hk, hm => by
    have a1 : ¬ (n : Int) ≤ -10 := by omega
    have a2 : ¬ (n : Int) < 0 := by omega
    by_cases h1 : n < 10
    · have a3 : ¬ (10 : Int) ≤ (n : Int) := by omega
      have a4 : IntKind.u8.wrap (IntKind.i64.wrap (48 + (n : Int))) = ((48 + n : Nat) : Int) := by rw [wrap_i64 (by omega) (by omega), wrap_u8i (by omega) (by omega)]; omega
      simp only [chanceryref2_Decimal_f, chanceryref2_Decimal_s, a1, a2, a3, a4, decide_false, cond_false, bytesStr_1]
      rw [txt, decDigits_small h1]
    · have a3 : (10 : Int) ≤ (n : Int) := by omega
      cases k with
      | zero => simp at h; omega
      | succ k =>
        have ih := decimal_pos k (n / 10) m (by rw [Nat.div_lt_iff_lt_mul (by omega)]; rw [Nat.pow_succ] at h; omega) (by omega) (by omega) (by omega)
        have a4 : IntKind.u8.wrap (IntKind.i64.wrap (48 + ((n % 10 : Nat) : Int))) = ((48 + n % 10 : Nat) : Int) := by rw [wrap_i64 (by omega) (by omega), wrap_u8i (by omega) (by omega)]; omega
        have hl := decDigits_len k (n / 10) (by rw [Nat.div_lt_iff_lt_mul (by omega)]; rw [Nat.pow_succ] at h; omega)
        simp only [chanceryref2_Decimal_f, chanceryref2_Decimal_s, a1, a2, a3, decide_false, cond_false, decide_true, cond_true]
        rw [show (10 : Int) = ((10 : Nat) : Int) from rfl, quo_nat (by omega) (by omega), rem_nat (by omega)]
        simp only [Option.bind_some, ih, a4, bytesStr_1]
        rw [cat_ok (by simp only [txt, List.length_cons, List.length_nil]; omega)]
        simp only [Option.bind_some]
        rw [show txt n = _ from decDigits_big h1]
theorem quo_neg {n : Nat} (h : n ≤ 9223372036854775808) : quo .i64 (-(n : Int)) 10 = some (-((n / 10 : Nat) : Int)) := by
  unfold quo
  rw [if_neg (by omega), Int.neg_tdiv, show ((n : Int).tdiv 10) = ((n / 10 : Nat) : Int) from rfl, wrap_i64 (by omega) (by omega)]
theorem rem_neg {n : Nat} : rem (-(n : Int)) 10 = some (-((n % 10 : Nat) : Int)) := by
  unfold rem
  rw [if_neg (by omega), Int.neg_tmod]
  rfl
theorem decimal_neg : ∀ (k n m : Nat), 0 < n → n < 10 ^ (k + 1) → n ≤ 9223372036854775808 → k ≤ 100 → k < m → chanceryref2_Decimal_f m (-(n : Int)) = some (45 :: txt n, ())
  | k, n, 0, _, _, _, _, hm => by omega
  | k, n, m + 1, h0, h, hn, hk, hm => by
    by_cases h1 : n < 10
    · have a1 : ¬ -(n : Int) ≤ -10 := by omega
      have a2 : -(n : Int) < 0 := by omega
      have a4 : IntKind.u8.wrap (IntKind.i64.wrap (48 - -(n : Int))) = ((48 + n : Nat) : Int) := by rw [wrap_i64 (by omega) (by omega), wrap_u8i (by omega) (by omega)]; omega
      simp only [chanceryref2_Decimal_f, chanceryref2_Decimal_s, a1, a2, a4, decide_false, decide_true, cond_true, cond_false, bytesStr_1]
      rw [txt, decDigits_small h1]
      rfl
    · have a1 : -(n : Int) ≤ -10 := by omega
      cases k with
      | zero => simp at h; omega
      | succ k =>
        have ih := decimal_neg k (n / 10) m (by omega) (by rw [Nat.div_lt_iff_lt_mul (by omega)]; rw [Nat.pow_succ] at h; omega) (by omega) (by omega) (by omega)
        have a4 : IntKind.u8.wrap (IntKind.i64.wrap (48 - -((n % 10 : Nat) : Int))) = ((48 + n % 10 : Nat) : Int) := by rw [wrap_i64 (by omega) (by omega), wrap_u8i (by omega) (by omega)]; omega
        have hl := decDigits_len k (n / 10) (by rw [Nat.div_lt_iff_lt_mul (by omega)]; rw [Nat.pow_succ] at h; omega)
        simp only [chanceryref2_Decimal_f, chanceryref2_Decimal_s, a1, decide_true, cond_true]
        rw [quo_neg hn, rem_neg]
        simp only [Option.bind_some, ih, a4, bytesStr_1]
        rw [cat_ok (by simp only [txt, List.length_cons, List.length_nil]; omega)]
        simp only [Option.bind_some]
        rw [show txt n = _ from decDigits_big h1]
        rfl
theorem natof_txt {n : Nat} (h : dl n < 1000) : chanceryref2_NatOf (txt n) = some (rep 10 n, ()) := by
  have hl : (txt n).length < 1000000 := by
    by_cases h0 : n = 0
    · subst h0
      rw [txt, decDigits_small (by omega)]
      decide
    · rw [txt_len (by omega)]
      omega
  rw [natof_eq (txt_digits n) hl, dec_txt]
theorem one10 : ([1] : List Int) = rep 10 1 := rfl
theorem one9 : ([1] : List Int) = rep B9 1 := rfl
theorem Whole_eq {p : Int} (h1 : -9223372036854775808 ≤ p) (h2 : p ≤ 9223372036854775807) : chanceryref2_Whole p = some (N10 (decide (p < 0)) p.natAbs 1, ()) := by
  have dp := dl_i64 h1 h2
  unfold chanceryref2_Whole
  by_cases h : p < 0
  · have hd : chanceryref2_Decimal p = some (45 :: txt p.natAbs, ()) := by
      have := decimal_neg 20 p.natAbs rounds (by omega) (by omega) (by omega) (by omega) (by decide)
      rw [show -((p.natAbs : Nat) : Int) = p by omega] at this
      exact this
    have hc : cut (45 :: txt p.natAbs) 1 ((45 :: txt p.natAbs).length : Int) = some (txt p.natAbs) := by
      have := cut_nat (xs := 45 :: txt p.natAbs) (a := 1) (b := (45 :: txt p.natAbs).length) (by simp) (by omega)
      simpa using this
    rw [decide_eq_true h, cond_true]
    unfold chanceryref2_unsigned
    rw [hd, Option.bind_some]
    dsimp only
    rw [hc, Option.bind_some, Option.bind_some]
    dsimp only
    rw [natof_txt (by omega), Option.bind_some]
    rfl
  · have hd : chanceryref2_Decimal p = some (txt p.natAbs, ()) := by
      have := decimal_pos 20 p.natAbs rounds (by omega) (by omega) (by omega) (by decide)
      rw [show ((p.natAbs : Nat) : Int) = p by omega] at this
      exact this
    rw [decide_eq_false h, cond_false, hd, Option.bind_some]
    dsimp only
    rw [natof_txt (by omega), Option.bind_some]
    rfl
theorem Of_eq {p : Int} (h1 : -9223372036854775808 ≤ p) (h2 : p ≤ 9223372036854775807) : exact_Of p = some ((fracOut (decide (p < 0)) p.natAbs 1).1, ()) ∧ (fracOut (decide (p < 0)) p.natAbs 1).2.1 = 0 := by
  have dp := dl_i64 h1 h2
  have d1 : dl 1 = 1 := dl_ten 0
  unfold exact_Of fracOut
  rw [sItoa_eq h1 h2, Option.bind_some]
  dsimp only
  by_cases h0 : p.natAbs = 0
  · have : p = 0 := by omega
    subst this
    rw [if_pos h0, itoa_abs]
    refine ⟨?_, rfl⟩
    rw [decide_eq_false (by omega), cond_false, txt, decDigits_small (by omega)]
    rfl
  · rw [if_neg h0, Nat.gcd_one_right, Nat.div_one, Nat.div_one, if_neg (by omega), itoa_abs]
    refine ⟨?_, rfl⟩
    rw [show txt 1 = [49] from (txt_one_iff 1).2 rfl]
theorem mod41 {n : Int} (_h1 : -9223372036854775808 ≤ n) (_h2 : n ≤ 9223372036854775807) : ∃ k : Int, chancerylaw2_mod n 41 = some (k + 20, ()) ∧ -20 ≤ k ∧ k ≤ 20 := by
  have b1 : -40 ≤ n.tmod 41 ∧ n.tmod 41 ≤ 40 := by
    have := Int.tmod_lt_of_pos n (show (0 : Int) < 41 by omega)
    have := Int.lt_tmod_of_pos n (show (0 : Int) < 41 by omega)
    omega
  generalize hr : n.tmod 41 = r at *
  have b2 : (r + 41).tmod 41 = (r + 41) % 41 := Int.tmod_eq_emod_of_nonneg (by omega)
  refine ⟨(r + 41) % 41 - 20, ?_, by omega, by omega⟩
  unfold chancerylaw2_mod rem
  rw [if_neg (by omega), hr, Option.bind_some, if_neg (by omega), wrap_i64 (by omega) (by omega), b2, Option.bind_some]
  congr 2
  omega
/-! ### Powers -/
theorem dl_len (n : Nat) : dl n ≤ 9 * (rep B9 n).length := by
  rw [dl_le, Nat.pow_mul]
  have := val_lt (ok_rep (B := B9) (by decide) n).1
  rw [val_rep (by decide)] at this
  exact this
theorem long_dl {n k : Nat} (h : k < (rep B9 n).length) : 9 * k < dl n := by
  have h0 : rep B9 n ≠ [] := by intro e; rw [e] at h; cases h
  have h1 := ok_ge (ok_rep (B := B9) (by decide) n) h0
  rw [val_rep (by decide)] at h1
  rcases Nat.lt_or_ge (9 * k) (dl n) with h2 | h2
  · exact h2
  · exfalso
    have h3 := lt_ten n
    have h4 : (10 : Nat) ^ dl n ≤ 10 ^ (9 * k) := Nat.pow_le_pow_right (by omega) h2
    rw [Nat.pow_mul 10 9 k, show (10 : Nat) ^ 9 = B9 from rfl] at h4
    have h5 : B9 ^ k ≤ B9 ^ ((rep B9 n).length - 1) := Nat.pow_le_pow_right (by decide) (by omega)
    omega
theorem rem_two (k : Int) : rem k 2 = some (k.tmod 2) ∧ (k.tmod 2 = 0 ↔ k.natAbs % 2 = 0) := by
  refine ⟨by unfold rem; rw [if_neg (by omega)], ?_⟩
  rcases Int.eq_nat_or_neg k with ⟨m, rfl | rfl⟩
  · rw [show ((m : Int).tmod 2) = ((m % 2 : Nat) : Int) from rfl]
    omega
  · rw [Int.neg_tmod, show ((m : Int).tmod 2) = ((m % 2 : Nat) : Int) from rfl]
    omega
theorem quo_two {k : Int} (h : -20 ≤ k) (h' : k ≤ 20) : ∃ j, quo .i64 k 2 = some j ∧ j.natAbs = k.natAbs / 2 ∧ -20 ≤ j ∧ j ≤ 20 := by
  have hb : (k.tdiv 2).natAbs = k.natAbs / 2 ∧ -20 ≤ k.tdiv 2 ∧ k.tdiv 2 ≤ 20 := by
    rcases Int.eq_nat_or_neg k with ⟨m, rfl | rfl⟩
    · rw [show ((m : Int).tdiv 2) = ((m / 2 : Nat) : Int) from rfl]
      omega
    · rw [Int.neg_tdiv, show ((m : Int).tdiv 2) = ((m / 2 : Nat) : Int) from rfl]
      omega
  refine ⟨k.tdiv 2, ?_, hb⟩
  unfold quo
  rw [if_neg (by omega), wrap_i64 (by omega) (by omega)]
theorem dec_abs (k : Int) : decide (k = 0) = decide (k.natAbs = 0) := by
  by_cases h : k = 0
  · subst h; rfl
  · rw [decide_eq_false h, decide_eq_false (by omega)]
theorem len34 (n : Nat) : decide (34 < ((rep B9 n).length : Int)) = decide (34 < (rep B9 n).length) := by
  by_cases h : 34 < (rep B9 n).length
  · rw [decide_eq_true h, decide_eq_true (by omega)]
  · rw [decide_eq_false h, decide_eq_false (by omega)]
theorem power_step {a out : Nat} {k : Int} (hk : -20 ≤ k) (hk' : k ≤ 20) (h0 : k.natAbs ≠ 0) (ha : dl a < 1000) (ho : dl out < 1000) :
    ∃ j : Int, j.natAbs = k.natAbs / 2 ∧ -20 ≤ j ∧ j ≤ 20 ∧ exact_nat__power_l1 (rep B9 a, k, rep B9 out, ()) =
      if 34 < (rep B9 (if k.natAbs % 2 = 0 then out else out * a)).length ∨ 34 < (rep B9 a).length ∧ k.natAbs / 2 ≠ 0 then some (.inr (.inr ((), false, ())))
      else some (.inl (rep B9 (if k.natAbs / 2 = 0 then a else a * a), j, rep B9 (if k.natAbs % 2 = 0 then out else out * a), ())) := by
  obtain ⟨r1, r2⟩ := rem_two k
  obtain ⟨j, q1, q2, q3, q4⟩ := quo_two hk hk'
  refine ⟨j, q2, q3, q4, ?_⟩
  have hout : ((rem k 2).bind fun v5 => cond (!decide (v5 = 0)) ((exact_nat__times (rep B9 out) (rep B9 a)).bind fun v6 => some v6) (some (rep B9 out, ()))) = some (rep B9 (if k.natAbs % 2 = 0 then out else out * a), ()) := by
    rw [r1, Option.bind_some]
    by_cases h : k.natAbs % 2 = 0
    · rw [decide_eq_true (r2.2 h), if_pos h]
      rfl
    · rw [decide_eq_false (fun e => h (r2.1 e)), if_neg h, Bool.not_false, cond_true, times_eq (by omega) (by omega)]
      rfl
  unfold exact_nat__power_l1
  dsimp only
  rw [dec_abs k, decide_eq_false h0, Bool.not_false, cond_true, hout, Option.bind_some]
  dsimp only
  generalize (if k.natAbs % 2 = 0 then out else out * a) = o
  rw [len34, len34, q1, Option.bind_some, Option.bind_some, dec_abs j, q2]
  by_cases h1 : 34 < (rep B9 o).length
  · rw [decide_eq_true h1, cond_true, Option.bind_some, if_pos (.inl h1)]
    rfl
  · rw [decide_eq_false h1, cond_false]
    by_cases h2 : 34 < (rep B9 a).length
    · rw [decide_eq_true h2, cond_true]
      by_cases h3 : k.natAbs / 2 = 0
      · rw [decide_eq_true h3, Bool.not_true, Option.bind_some, if_neg (by omega), if_pos h3]
        rfl
      · rw [decide_eq_false h3, Bool.not_false, Option.bind_some, if_pos (.inr ⟨h2, h3⟩)]
        rfl
    · rw [decide_eq_false h2, cond_false, Option.bind_some]
      dsimp only
      rw [cond_false, if_neg (by omega)]
      by_cases h3 : k.natAbs / 2 = 0
      · rw [decide_eq_true h3, Bool.not_true, cond_false, Option.bind_some, if_pos h3]
        rfl
      · rw [decide_eq_false h3, Bool.not_false, cond_true, times_eq (by omega) (by omega), if_neg h3]
        rfl
theorem pow_half (a m : Nat) : (if m % 2 = 0 then 1 else a) * (a * a) ^ (m / 2) = a ^ m := by
  rw [← Nat.pow_two, ← Nat.pow_mul]
  by_cases h : m % 2 = 0
  · rw [if_pos h, Nat.one_mul, show 2 * (m / 2) = m by omega]
  · rw [if_neg h, Nat.mul_comm, ← Nat.pow_succ, show (2 * (m / 2)).succ = m by omega]
theorem power_halts {T : Nat} : ∀ (f a out : Nat) (k : Int), -20 ≤ k → k ≤ 20 → k.natAbs < 2 ^ f → 0 < a → 0 < out → dl a < 1000 → dl out < 1000 → (rep B9 out).length ≤ 34 → out * a ^ k.natAbs = T →
    Halts exact_nat__power_l1 f (rep B9 a, k, rep B9 out, ()) (.inl (rep B9 T, ())) ∨ (Halts exact_nat__power_l1 f (rep B9 a, k, rep B9 out, ()) (.inr ((), false, ())) ∧ 300 < dl T)
  | f, a, out, k, h1, h2, hf, ha, ho, da, d_o, lo, hT => by
    by_cases h0 : k.natAbs = 0
    · refine .inl (.done ?_)
      rw [h0, Nat.pow_zero, Nat.mul_one] at hT
      unfold exact_nat__power_l1
      dsimp only
      rw [dec_abs k, decide_eq_true h0, hT]
      rfl
    · cases f with
      | zero => simp at hf; omega
      | succ f =>
        obtain ⟨j, j1, j2, j3, hst⟩ := power_step h1 h2 h0 da d_o
        have hp := pow_half a k.natAbs
        have hT2 : (if k.natAbs % 2 = 0 then out else out * a) * (a * a) ^ (k.natAbs / 2) = T := by
          rw [← hT, ← hp]
          split <;> grind
        have hpos : 0 < (a * a) ^ (k.natAbs / 2) := Nat.pow_pos (Nat.mul_pos ha ha)
        have ho' : 0 < (if k.natAbs % 2 = 0 then out else out * a) := by
          split
          · exact ho
          · exact Nat.mul_pos ho ha
        have hoT : (if k.natAbs % 2 = 0 then out else out * a) ≤ T := by
          rw [← hT2]
          exact Nat.le_mul_of_pos_right _ hpos
        have do' : dl (if k.natAbs % 2 = 0 then out else out * a) ≤ 9 * (rep B9 (if k.natAbs % 2 = 0 then out else out * a)).length := dl_len _
        generalize (if k.natAbs % 2 = 0 then out else out * a) = o at *
        by_cases hc : 34 < (rep B9 o).length ∨ 34 < (rep B9 a).length ∧ k.natAbs / 2 ≠ 0
        · rw [if_pos hc] at hst
          refine .inr ⟨.done hst, ?_⟩
          rcases hc with hc | ⟨hc, hc2⟩
          · have := long_dl hc
            have := dl_mono hoT
            omega
          · have := long_dl hc
            have haT : a ≤ T := by
              rw [← hT]
              have h5 : a ≤ a ^ k.natAbs := by
                conv => lhs; rw [← Nat.pow_one a]
                exact Nat.pow_le_pow_right ha (by omega)
              exact Nat.le_trans h5 (Nat.le_mul_of_pos_left _ ho)
            have := dl_mono haT
            omega
        · rw [if_neg hc] at hst
          have da2 := dl_len a
          have hm := dl_mul a a
          have key : dl (if k.natAbs / 2 = 0 then a else a * a) < 1000 := by
            split
            · exact da
            · omega
          have hT3 : o * (if k.natAbs / 2 = 0 then a else a * a) ^ j.natAbs = T := by
            rw [j1, ← hT2]
            split
            · rename_i e; rw [e, Nat.pow_zero, Nat.pow_zero]
            · rfl
          have hap : 0 < (if k.natAbs / 2 = 0 then a else a * a) := by
            split
            · exact ha
            · exact Nat.mul_pos ha ha
          rw [Nat.pow_succ] at hf
          rcases power_halts f _ o j j2 j3 (by omega) hap ho' key (by omega) (by omega) hT3 with h | ⟨h, h'⟩
          · exact .inl (.step hst h)
          · exact .inr ⟨.step hst h, h'⟩
theorem power_eq {a : Nat} {k : Int} (hk : -20 ≤ k) (hk' : k ≤ 20) (da : dl a ≤ 300) :
    exact_nat__power (rep B9 a) k = some (rep B9 (a ^ k.natAbs), true, ()) ∨ (exact_nat__power (rep B9 a) k = some ([], false, ()) ∧ 300 < dl (a ^ k.natAbs) ∧ a ≠ 1) := by
  unfold exact_nat__power
  rw [zero_eq, one_eq, Option.bind_some]
  dsimp only
  by_cases h1 : a = 1
  · left
    subst h1
    rw [Nat.one_pow]
    rfl
  · by_cases h0 : a = 0
    · left
      subst h0
      by_cases hk0 : k = 0
      · subst hk0
        rfl
      · rw [decide_eq_false hk0, Nat.zero_pow (by omega)]
        rfl
    · rw [decide_eq_false h0, decide_eq_false h1, cond_false, Option.bind_some, Option.bind_some]
      dsimp only
      rw [cond_false]
      have d1 : dl 1 = 1 := dl_ten 0
      rcases power_halts (T := a ^ k.natAbs) 5 a 1 k hk hk' (by omega) (by omega) (by omega) (by omega) (by omega) (by decide) (Nat.one_mul _) with h | ⟨h, h'⟩
      · left
        have := h.loop (by omega)
        rw [one9, this]
        rfl
      · right
        have := h.loop (by omega)
        rw [one9, this]
        exact ⟨rfl, h', h1⟩
/-- The power of a number that is written. -/
def powM (m : Bool) (k : Nat) : Bool := m && decide (k % 2 ≠ 0)
theorem rpower_halts {m : Bool} {n d : Nat} {K : Nat} (hK : K ≤ 20) (dn : dl n ≤ 300) (dd : dl d ≤ 300) (z : NumD) : ∀ f i, i + f = K →
    Halts (chanceryref2_Rat__Power_l1 (K : Int)) f ((), (), (), (i : Int), N10 m n d, z, N10 (powM m i) (n ^ i) (d ^ i), ()) ((), (), z, N10 (powM m K) (n ^ K) (d ^ K), ())
  | 0, i, h => by
    have : i = K := by omega
    subst this
    refine .done ?_
    unfold chanceryref2_Rat__Power_l1
    dsimp only
    rw [decide_eq_false (by omega), cond_false]
  | f + 1, i, h => by
    refine .step ?_ (rpower_halts hK dn dd z f (i + 1) (by omega))
    have e1 := dl_pow n i
    have e2 := dl_pow d i
    have e3 := Nat.mul_le_mul dn (show i ≤ 20 by omega)
    have e4 := Nat.mul_le_mul dd (show i ≤ 20 by omega)
    unfold chanceryref2_Rat__Power_l1
    dsimp only
    rw [decide_eq_true (by omega), cond_true, mul_eq (by omega) (by omega) (by omega) (by omega), Option.bind_some]
    dsimp only
    rw [wrapI1 (by omega), Nat.pow_succ, Nat.pow_succ]
    have hm : (!(powM m i == m)) = powM m (i + 1) := by
      unfold powM
      by_cases hi : i % 2 = 0
      · rw [decide_eq_false (by omega), decide_eq_true (by omega)]
        cases m <;> rfl
      · rw [decide_eq_true (by omega), decide_eq_false (by omega)]
        cases m <;> rfl
    rw [hm]
theorem rpower_eq {m : Bool} {n d : Nat} {K : Nat} (hK : K ≤ 20) (dn : dl n ≤ 300) (dd : dl d ≤ 300) : chanceryref2_Rat__Power (N10 m n d) (K : Int) = some (N10 (powM m K) (n ^ K) (d ^ K), ()) := by
  have hw : chanceryref2_Whole 1 = some (N10 false 1 1, ()) := Whole_eq (p := 1) (by omega) (by omega)
  have hl := (rpower_halts (m := m) hK dn dd (false, [], [], ()) K 0 (by omega)).loop (by omega)
  have e : N10 (powM m 0) (n ^ 0) (d ^ 0) = N10 false 1 1 := by
    cases m <;> rfl
  rw [e] at hl
  unfold chanceryref2_Rat__Power
  rw [hw, Option.bind_some]
  dsimp only
  have hl' : loop (chanceryref2_Rat__Power_l1 (K : Int)) ((), (), (), 0, N10 m n d, (false, [], [], ()), N10 false 1 1, ()) = _ := hl
  rw [hl', Option.bind_some]
end Go.Proofs.YtmcoedgkmciciaaGreatDoor
