import Derived.Test.YtmbejoibeninmaaGreatDoorRLawR
namespace Go.Proofs.YtmbejoibeninmaaGreatDoor
open Go Go.Fe

/-! ### Whole numbers -/
theorem itoa_abs (p : Int) : Lib.itoa p = bif decide (p < 0) then 45 :: txt p.natAbs else txt p.natAbs := by
  unfold Lib.itoa
  by_cases h : p < 0
  · rw [if_pos h, decide_eq_true h]
    rfl
  · rw [if_neg h, decide_eq_false h, show p.toNat = p.natAbs by omega]
    rfl
theorem sItoa_eq {p : Int} (h : -9223372036854775808 ≤ p) (h' : p ≤ 9223372036854775807) : sItoa (no_index (p, ())) = some (Lib.itoa p, ()) := by
  unfold sItoa
  rw [if_pos ⟨h, h'⟩]
theorem dl_i64 {p : Int} (h : -9223372036854775808 ≤ p) (h' : p ≤ 9223372036854775807) : dl p.natAbs ≤ 19 := dl_le.2 (by omega)
theorem bytesStr_1 (n : Nat) : bytesStr [(n : Int)] = [UInt8.ofNat n] := by simp [bytesStr, byteOfInt_nat]
theorem decimal_pos : ∀ (k n m : Nat), n < 10 ^ (k + 1) → n < 9223372036854775808 → k ≤ 100 → k < m → chanceryref2_Decimal_f m (n : Int) = some (txt n, ())
  | k, n, 0, _, _, _, hm => by omega
  | k, n, m + 1, h, hn, hk, hm => by
    have a1 : ¬ (n : Int) ≤ -10 := by omega
    have a2 : ¬ (n : Int) < 0 := by omega
    by_cases h1 : n < 10
    · have a3 : ¬ (10 : Int) ≤ (n : Int) := by omega
      have a4 : IntKind.u8.wrap (IntKind.i64.wrap (48 + (n : Int))) = ((48 + n : Nat) : Int) := by rw [wrap_i64 (by omega) (by omega), wrap_u8i (by omega) (by omega)]; omega
      simp only [chanceryref2_Decimal_f, chanceryref2_Decimal_s, a1, a2, a3, a4, decide_false, cond_false, bytesStr_1]
      rw [txt, decDigits_small h1]
    · have a3 : (10 : Int) ≤ (n : Int) := by omega
      cases k with
      | zero => simp at h; omega
      | succ k =>
        have ih := decimal_pos k (n / 10) m (by rw [Nat.div_lt_iff_lt_mul (by omega)]; rw [Nat.pow_succ] at h; omega) (by omega) (by omega) (by omega)
        have a4 : IntKind.u8.wrap (IntKind.i64.wrap (48 + ((n % 10 : Nat) : Int))) = ((48 + n % 10 : Nat) : Int) := by rw [wrap_i64 (by omega) (by omega), wrap_u8i (by omega) (by omega)]; omega
        have hl := decDigits_len k (n / 10) (by rw [Nat.div_lt_iff_lt_mul (by omega)]; rw [Nat.pow_succ] at h; omega)
        simp only [chanceryref2_Decimal_f, chanceryref2_Decimal_s, a1, a2, a3, decide_false, cond_false, decide_true, cond_true]
        rw [show (10 : Int) = ((10 : Nat) : Int) from rfl, quo_nat (by omega) (by omega), rem_nat (by omega)]
        simp only [Option.bind_some, ih, a4, bytesStr_1]
        rw [cat_ok (by simp only [txt, List.length_cons, List.length_nil]; omega)]
        simp only [Option.bind_some]
        rw [show txt n = _ from decDigits_big h1]
theorem quo_neg {n : Nat} (h : n ≤ 9223372036854775808) : quo .i64 (-(n : Int)) 10 = some (-((n / 10 : Nat) : Int)) := by
  unfold quo
  rw [if_neg (by omega), Int.neg_tdiv, show ((n : Int).tdiv 10) = ((n / 10 : Nat) : Int) from rfl, wrap_i64 (by omega) (by omega)]
theorem rem_neg {n : Nat} : rem (-(n : Int)) 10 = some (-((n % 10 : Nat) : Int)) := by
  unfold rem
  rw [if_neg (by omega), Int.neg_tmod]
  rfl
theorem decimal_neg : ∀ (k n m : Nat), 0 < n → n < 10 ^ (k + 1) → n ≤ 9223372036854775808 → k ≤ 100 → k < m → chanceryref2_Decimal_f m (-(n : Int)) = some (45 :: txt n, ())
  | k, n, 0, _, _, _, _, hm => by omega
  | k, n, m + 1, h0, h, hn, hk, hm => by
    by_cases h1 : n < 10
    · have a1 : ¬ -(n : Int) ≤ -10 := by omega
      have a2 : -(n : Int) < 0 := by omega
      have a4 : IntKind.u8.wrap (IntKind.i64.wrap (48 - -(n : Int))) = ((48 + n : Nat) : Int) := by rw [wrap_i64 (by omega) (by omega), wrap_u8i (by omega) (by omega)]; omega
      simp only [chanceryref2_Decimal_f, chanceryref2_Decimal_s, a1, a2, a4, decide_false, decide_true, cond_true, cond_false, bytesStr_1]
      rw [txt, decDigits_small h1]
      rfl
    · have a1 : -(n : Int) ≤ -10 := by omega
      cases k with
      | zero => simp at h; omega
      | succ k =>
        have ih := decimal_neg k (n / 10) m (by omega) (by rw [Nat.div_lt_iff_lt_mul (by omega)]; rw [Nat.pow_succ] at h; omega) (by omega) (by omega) (by omega)
        have a4 : IntKind.u8.wrap (IntKind.i64.wrap (48 - -((n % 10 : Nat) : Int))) = ((48 + n % 10 : Nat) : Int) := by rw [wrap_i64 (by omega) (by omega), wrap_u8i (by omega) (by omega)]; omega
        have hl := decDigits_len k (n / 10) (by rw [Nat.div_lt_iff_lt_mul (by omega)]; rw [Nat.pow_succ] at h; omega)
        simp only [chanceryref2_Decimal_f, chanceryref2_Decimal_s, a1, decide_true, cond_true]
        rw [quo_neg hn, rem_neg]
        simp only [Option.bind_some, ih, a4, bytesStr_1]
        rw [cat_ok (by simp only [txt, List.length_cons, List.length_nil]; omega)]
        simp only [Option.bind_some]
        rw [show txt n = _ from decDigits_big h1]
        rfl
theorem natof_txt {n : Nat} (h : dl n < 1000) : chanceryref2_NatOf (txt n) = some (rep 10 n, ()) := by
  have hl : (txt n).length < 1000000 := by
    by_cases h0 : n = 0
    · subst h0
      rw [txt, decDigits_small (by omega)]
      decide
    · rw [txt_len (by omega)]
      omega
  rw [natof_eq (txt_digits n) hl, dec_txt]
theorem Whole_eq {p : Int} (h1 : -9223372036854775808 ≤ p) (h2 : p ≤ 9223372036854775807) : chanceryref2_Whole p = some (N10 (decide (p < 0)) p.natAbs 1, ()) := by
  have dp := dl_i64 h1 h2
  unfold chanceryref2_Whole
  by_cases h : p < 0
  · have hd : chanceryref2_Decimal p = some (45 :: txt p.natAbs, ()) := by
      have := decimal_neg 20 p.natAbs rounds (by omega) (by omega) (by omega) (by omega) (by decide)
      rw [show -((p.natAbs : Nat) : Int) = p by omega] at this
      exact this
    have hc : cut (45 :: txt p.natAbs) 1 ((45 :: txt p.natAbs).length : Int) = some (txt p.natAbs) := by
      have := cut_nat (xs := 45 :: txt p.natAbs) (a := 1) (b := (45 :: txt p.natAbs).length) (by simp) (by omega)
      simpa using this
    rw [decide_eq_true h, cond_true]
    unfold chanceryref2_unsigned
    rw [hd, Option.bind_some]
    dsimp only
    rw [hc, Option.bind_some, Option.bind_some]
    dsimp only
    rw [natof_txt (by omega), Option.bind_some]
    rfl
  · have hd : chanceryref2_Decimal p = some (txt p.natAbs, ()) := by
      have := decimal_pos 20 p.natAbs rounds (by omega) (by omega) (by omega) (by decide)
      rw [show ((p.natAbs : Nat) : Int) = p by omega] at this
      exact this
    rw [decide_eq_false h, cond_false, hd, Option.bind_some]
    dsimp only
    rw [natof_txt (by omega), Option.bind_some]
    rfl
theorem Of_eq {p : Int} (h1 : -9223372036854775808 ≤ p) (h2 : p ≤ 9223372036854775807) : exact_Of p = some ((fracOut (decide (p < 0)) p.natAbs 1).1, ()) ∧ (fracOut (decide (p < 0)) p.natAbs 1).2.1 = 0 := by
  have dp := dl_i64 h1 h2
  have d1 : dl 1 = 1 := dl_ten 0
  unfold exact_Of fracOut
  rw [sItoa_eq h1 h2, Option.bind_some]
  dsimp only
  by_cases h0 : p.natAbs = 0
  · have : p = 0 := by omega
    subst this
    rw [if_pos h0, itoa_abs]
    refine ⟨?_, rfl⟩
    rw [decide_eq_false (by omega), cond_false, txt, decDigits_small (by omega)]
    rfl
  · rw [if_neg h0, Nat.gcd_one_right, Nat.div_one, Nat.div_one, if_neg (by omega), itoa_abs]
    refine ⟨?_, rfl⟩
    rw [show txt 1 = [49] from (txt_one_iff 1).2 rfl]
/-! ### Powers -/
end Go.Proofs.YtmbejoibeninmaaGreatDoor
