import Derived.Test.YtmbejoibeninmaaGreatDoorRLaw3
namespace Go.Proofs.YtmbejoibeninmaaGreatDoor
open Go Go.Fe
def N9 (m : Bool) (n d : Nat) : NumD := (m, rep B9 n, rep B9 d, ())
def N10 (m : Bool) (n d : Nat) : NumD := (m, rep 10 n, rep 10 d, ())
def sumM (m1 : Bool) (n1 d1 : Nat) (m2 : Bool) (n2 d2 : Nat) : Bool := if m1 = m2 then m1 else if n2 * d1 <= n1 * d2 then m1 else m2
def sumN (m1 : Bool) (n1 d1 : Nat) (m2 : Bool) (n2 d2 : Nat) : Nat := if m1 = m2 then n1 * d2 + n2 * d1 else if n2 * d1 <= n1 * d2 then n1 * d2 - n2 * d1 else n2 * d1 - n1 * d2
theorem sumN_le (m1 : Bool) (n1 d1 : Nat) (m2 : Bool) (n2 d2 : Nat) : sumN m1 n1 d1 m2 n2 d2 <= n1 * d2 + n2 * d1 := by
 unfold sumN
 split
 ·omega
 ·split <;> omega
theorem dl_sum {n1 d1 n2 d2 k : Nat} {m1 m2 : Bool} (h1 : dl n1 <= k) (h2 : dl d1 <= k) (h3 : dl n2 <= k) (h4 : dl d2 <= k) : dl (sumN m1 n1 d1 m2 n2 d2) <= 4 * k + 1 /\ dl (d1 * d2) <= 2 * k := by
 have a := dl_mono (sumN_le m1 n1 d1 m2 n2 d2)
 have b := dl_add (n1 * d2) (n2 * d1)
 have c := dl_mul n1 d2
 have d := dl_mul n2 d1
 have e := dl_mul d1 d2
 omega
theorem sum_eq {m1 m2 : Bool} {n1 d1 n2 d2 k : Nat} (hk : k <= 20000) (h1 : dl n1 <= k) (h2 : dl d1 <= k) (h3 : dl n2 <= k) (h4 : dl d2 <= k) : exact_sum (N9 m1 n1 d1) (N9 m2 n2 d2) = some (N9 (sumM m1 n1 d1 m2 n2 d2) (sumN m1 n1 d1 m2 n2 d2) (d1 * d2), ()) := by
 have c := dl_mul n1 d2
 have d := dl_mul n2 d1
 unfold exact_sum N9
 dsimp only
 rw [times_eq (by omega) (by omega), Option.bind_some, times_eq (by omega) (by omega), Option.bind_some, times_eq (by omega) (by omega), Option.bind_some]
 dsimp only
 unfold sumM sumN
 by_cases hm : m1 = m2
 ·subst hm
  rw [if_pos rfl, if_pos rfl, show (m1 == m1) = true from beq_self_eq_true m1, cond_true, nplus_eq (by omega) (by omega)]
  rfl
 ·rw [if_neg hm, if_neg hm, show (m1 == m2) = false from beq_eq_false_iff_ne.2 hm, cond_false]
  obtain ⟨c', hc1, hc2, hc3⟩ := ncompare_eq (a := n1 * d2) (b := n2 * d1) (by omega) (by omega)
  rw [hc1, Option.bind_some]
  dsimp only
  by_cases hle : n2 * d1 <= n1 * d2
  ·rw [decide_eq_true (by omega), cond_true, minus_eq hle (by omega), if_pos hle, if_pos hle]
   rfl
  ·rw [decide_eq_false (by omega), cond_false, minus_eq (by omega) (by omega), if_neg hle, if_neg hle]
   rfl
theorem add_eq {m1 m2 : Bool} {n1 d1 n2 d2 k : Nat} (hk : k <= 20000) (h1 : dl n1 <= k) (h2 : dl d1 <= k) (h3 : dl n2 <= k) (h4 : dl d2 <= k) : chanceryref2_Rat__Add (N10 m1 n1 d1) (N10 m2 n2 d2) = some (N10 (sumM m1 n1 d1 m2 n2 d2) (sumN m1 n1 d1 m2 n2 d2) (d1 * d2), ()) := by
 have c := dl_mul n1 d2
 have d := dl_mul n2 d1
 unfold chanceryref2_Rat__Add N10
 dsimp only
 rw [rtimes_eq (by omega) (by omega), Option.bind_some, rtimes_eq (by omega) (by omega), Option.bind_some, rtimes_eq (by omega) (by omega), Option.bind_some]
 dsimp only
 unfold sumM sumN
 by_cases hm : m1 = m2
 ·subst hm
  rw [if_pos rfl, if_pos rfl, show (m1 == m1) = true from beq_self_eq_true m1, cond_true, rplus_eq (by omega) (by omega)]
  rfl
 ·rw [if_neg hm, if_neg hm, show (m1 == m2) = false from beq_eq_false_iff_ne.2 hm, cond_false]
  obtain ⟨c', hc1, hc2, hc3⟩ := rcompare_eq (a := n1 * d2) (b := n2 * d1) (by omega) (by omega)
  rw [hc1, Option.bind_some]
  dsimp only
  by_cases hle : n2 * d1 <= n1 * d2
  ·rw [decide_eq_true (by omega), cond_true, less_eq hle (by omega), if_pos hle, if_pos hle]
   rfl
  ·rw [decide_eq_false (by omega), cond_false, less_eq (by omega) (by omega), if_neg hle, if_neg hle]
   rfl
theorem mul_eq {m1 m2 : Bool} {n1 d1 n2 d2 : Nat} (h1 : dl n1 < 100000) (h2 : dl d1 < 100000) (h3 : dl n2 < 100000) (h4 : dl d2 < 100000) : chanceryref2_Rat__Mul (N10 m1 n1 d1) (N10 m2 n2 d2) = some (N10 (!(m1 == m2)) (n1 * n2) (d1 * d2), ()) := by
 unfold chanceryref2_Rat__Mul N10
 dsimp only
 rw [rtimes_eq (by omega) (by omega), Option.bind_some, rtimes_eq (by omega) (by omega), Option.bind_some]
def sgnOf (m : Bool) (n : Nat) : Int := if n = 0 then 0 else bif m then -1 else 1
theorem sign_eq {m : Bool} {n d : Nat} : chanceryref2_Rat__Sign (N10 m n d) = some (sgnOf m n, ()) := by
 unfold chanceryref2_Rat__Sign N10 sgnOf
 dsimp only
 have ln := len10 n
 by_cases h0 : n = 0
 ·subst h0; rfl
 ·have := dl_pos (n := n) (by omega)
  rw [if_neg h0, decide_eq_false (by omega), cond_false]
  cases m <;> rfl
def errOf (a b : FracD) : Int := if fracErr a = 0 then fracErr b else fracErr a
def num9 (f : FracD) : NumD := N9 (signOf f.1) (dec (body f.1)) (dec f.2.1)
theorem both_bad {a b : FracD} (h1 : a.1.length < 100000000) (h2 : a.2.1.length < 100000000) (h3 : b.1.length < 100000000) (h4 : b.2.1.length < 100000000) (h : errOf a b ≠ 0) : ∃ x y, exact_both a b = some (x, y, errOf a b, ()) := by
 unfold exact_both
 rw [read_eq h1 h2, Option.bind_some]
 unfold errOf at h ⊢
 by_cases ha : fracErr a = 0
 ·rw [if_pos ha] at h ⊢
  rw [if_pos ha]
  dsimp only
  rw [decide_eq_true rfl, Bool.not_true, cond_false, read_eq h3 h4, if_neg h]
  exact ⟨_, _, rfl⟩
 ·rw [if_neg ha, if_neg ha]
  dsimp only
  rw [decide_eq_false ha, Bool.not_false, cond_true]
  exact ⟨_, _, rfl⟩
theorem both_good {a b : FracD} (h1 : a.1.length < 100000000) (h2 : a.2.1.length < 100000000) (h3 : b.1.length < 100000000) (h4 : b.2.1.length < 100000000) (ha : fracErr a = 0) (hb : fracErr b = 0) : exact_both a b = some (num9 a, num9 b, 0, ()) := by
 unfold exact_both
 rw [read_eq h1 h2, Option.bind_some, if_pos ha]
 dsimp only
 rw [decide_eq_true rfl, Bool.not_true, cond_false, read_eq h3 h4, if_pos hb]
 rfl
theorem write_N9 {m : Bool} {n d : Nat} (hd : 0 < d) (hsn : dl n < 100000) (hsd : dl d < 100000) : exact_number__write (N9 m n d) = some (fracOut m n d) := write_eq hd hsn hsd
theorem Add_good {a b : FracD} {m1 m2 : Bool} {n1 d1 n2 d2 : Nat} (hb : exact_both a b = some (N9 m1 n1 d1, N9 m2 n2 d2, 0, ())) (g1 : 0 < d1) (g2 : 0 < d2) (h1 : dl n1 <= 300) (h2 : dl d1 <= 300) (h3 : dl n2 <= 300) (h4 : dl d2 <= 300) :
  exact_Add a b = some (fracOut (sumM m1 n1 d1 m2 n2 d2) (sumN m1 n1 d1 m2 n2 d2) (d1 * d2)) := by
 have hd := dl_sum (m1 := m1) (m2 := m2) h1 h2 h3 h4
 have hw := write_N9 (m := sumM m1 n1 d1 m2 n2 d2) (n := sumN m1 n1 d1 m2 n2 d2) (Nat.mul_pos g1 g2) (by omega) (by omega)
 simp only [exact_Add, exact_two_Add_1, exact_Add_1, hb, Option.bind_some, decide_true, Bool.not_true, cond_false, sum_eq (show 300 <= 20000 by omega) h1 h2 h3 h4, hw]
theorem neg_N9 (m : Bool) (n d : Nat) : (!(N9 m n d).1, (N9 m n d).2) = N9 (!m) n d := rfl
theorem neg_N10 (m : Bool) (n d : Nat) : chanceryref2_Rat__Negative (N10 m n d) = some (N10 (!m) n d, ()) := rfl
theorem inv_N10 (m : Bool) (n d : Nat) : chanceryref2_Rat__Inverse (N10 m n d) = some (N10 m d n, ()) := rfl
theorem Div_good {a b : FracD} {m1 m2 : Bool} {n1 d1 n2 d2 : Nat} (hb : exact_both a b = some (N9 m1 n1 d1, N9 m2 n2 d2, 0, ())) (g1 : 0 < d1) (h1 : dl n1 <= 300) (h2 : dl d1 <= 300) (h3 : dl n2 <= 300) (h4 : dl d2 <= 300) :
  exact_Div a b = some (if n2 = 0 then (([], [], ()), 1, ()) else fracOut (!(m1 == m2)) (n1 * d2) (d1 * n2)) := by
 have e1 := dl_mul n1 d2
 have e2 := dl_mul d1 n2
 by_cases h0 : n2 = 0
 ·unfold N9 at hb
  rw [if_pos h0]
  simp only [exact_Div, exact_two_Div_1, exact_Div_1, hb, Option.bind_some, decide_true, Bool.not_true, cond_false, zero_eq, h0, cond_true]
  rfl
 ·have hw := write_N9 (m := !(m1 == m2)) (n := n1 * d2) (Nat.mul_pos g1 (show 0 < n2 by omega)) (by omega) (by omega)
  unfold N9 at hb hw
  rw [if_neg h0]
  simp only [exact_Div, exact_two_Div_1, exact_Div_1, hb, Option.bind_some, decide_true, Bool.not_true, cond_false, zero_eq, h0, decide_false, times_eq (show dl n1 < 1000000 by omega) (show dl d2 < 1000000 by omega), times_eq (show dl d1 < 1000000 by omega) (show dl n2 < 1000000 by omega), hw]
theorem read_good {f : FracD} (hs : f.1.length < 100000000) (hs' : f.2.1.length < 100000000) (h : fracErr f = 0) : exact_read f = some (num9 f, 0, ()) := by
 rw [read_eq hs hs', if_pos h]
 rfl
theorem Check_eq {f : FracD} (hs : f.1.length < 100000000) (hs' : f.2.1.length < 100000000) : exact_Check f = some (fracErr f, ()) := by
 unfold exact_Check
 rw [read_eq hs hs', Option.bind_some]
 by_cases h : fracErr f = 0
 ·rw [if_pos h, h]
 ·rw [if_neg h]
theorem errOf_right {a b : FracD} (h : fracErr a = 0) : errOf a b = fracErr b := if_pos h
theorem Neg_good {a : FracD} (h1 : a.1.length < 100000000) (h2 : a.2.1.length < 100000000) (h : fracErr a = 0) : exact_Neg a = some (fracOut (!(signOf a.1)) (dec (body a.1)) (dec a.2.1)) := by
 have g := good_of h
 have := g.dln
 have := g.dld
 have hw := write_N9 (m := !(signOf a.1)) (n := dec (body a.1)) g.pos (by omega) (by omega)
 simp only [exact_Neg, read_good h1 h2 h, Option.bind_some, decide_true, Bool.not_true, cond_false, num9, neg_N9, hw]
theorem itoa_abs (p : Int) : Lib.itoa p = bif decide (p < 0) then 45 :: txt p.natAbs else txt p.natAbs := by
 unfold Lib.itoa
 by_cases h : p < 0
 ·rw [if_pos h, decide_eq_true h]
  rfl
 ·rw [if_neg h, decide_eq_false h, show p.toNat = p.natAbs by omega]
  rfl
theorem txt_head (n : Nat) : (txt n).head? ≠ some 45 := by
 intro e
 have h := txt_digits n
 cases ht : txt n with
 | nil => rw [ht] at e; cases e
 | cons c r =>
  rw [ht] at e h
  simp only [List.head?_cons, Option.some.injEq] at e
  subst e
  simp [isDigit] at h
theorem sign_txt (n : Nat) : signOf (txt n) = false := decide_eq_false (txt_head n)
theorem sItoa_eq {p : Int} (h : -9223372036854775808 <= p) (h' : p <= 9223372036854775807) : sItoa (no_index (p, ())) = some (Lib.itoa p, ()) := by
 unfold sItoa
 rw [if_pos ⟨h, h'⟩]
theorem dl_i64 {p : Int} (h : -9223372036854775808 <= p) (h' : p <= 9223372036854775807) : dl p.natAbs <= 19 := dl_le.2 (by omega)
theorem bytesStr_1 (n : Nat) : bytesStr [(n : Int)] = [UInt8.ofNat n] := by simp [bytesStr, byteOfInt_nat]
theorem decimal_pos : ∀ (k n m : Nat), n < 10 ^ (k + 1) -> n < 9223372036854775808 -> k <= 100 -> k < m -> chanceryref2_Decimal_f m (n : Int) = some (txt n, ())
 | k, n, 0, _, _, _, hm => by omega
 | k, n, m + 1, h, hn, hk, hm => by
  have a1 : ¬ (n : Int) <= -10 := by omega
  have a2 : ¬ (n : Int) < 0 := by omega
  by_cases h1 : n < 10
  ·have a3 : ¬ (10 : Int) <= (n : Int) := by omega
   have a4 : IntKind.u8.wrap (IntKind.i64.wrap (48 + (n : Int))) = ((48 + n : Nat) : Int) := by rw [wrap_i64 (by omega) (by omega), wrap_u8i (by omega) (by omega)]; omega
   simp only [chanceryref2_Decimal_f, chanceryref2_Decimal_s, a1, a2, a3, a4, decide_false, cond_false, bytesStr_1]
   rw [txt, decDigits_small h1]
  ·have a3 : (10 : Int) <= (n : Int) := by omega
   cases k with
   | zero => simp at h; omega
   | succ k =>
    have ih := decimal_pos k (n / 10) m (by rw [Nat.div_lt_iff_lt_mul (by omega)]; rw [Nat.pow_succ] at h; omega) (by omega) (by omega) (by omega)
    have a4 : IntKind.u8.wrap (IntKind.i64.wrap (48 + ((n % 10 : Nat) : Int))) = ((48 + n % 10 : Nat) : Int) := by rw [wrap_i64 (by omega) (by omega), wrap_u8i (by omega) (by omega)]; omega
    have hl := decDigits_len k (n / 10) (by rw [Nat.div_lt_iff_lt_mul (by omega)]; rw [Nat.pow_succ] at h; omega)
    simp only [chanceryref2_Decimal_f, chanceryref2_Decimal_s, a1, a2, a3, decide_false, cond_false, decide_true, cond_true]
    rw [show (10 : Int) = ((10 : Nat) : Int) from rfl, quo_nat (by omega) (by omega), rem_nat (by omega)]
    simp only [Option.bind_some, ih, a4, bytesStr_1]
    rw [cat_ok (by simp only [txt, List.length_cons, List.length_nil]; omega)]
    simp only [Option.bind_some]
    rw [show txt n = _ from decDigits_big h1]
theorem quo_neg {n : Nat} (h : n <= 9223372036854775808) : quo .i64 (-(n : Int)) 10 = some (-((n / 10 : Nat) : Int)) := by
 unfold quo
 rw [if_neg (by omega), Int.neg_tdiv, show ((n : Int).tdiv 10) = ((n / 10 : Nat) : Int) from rfl, wrap_i64 (by omega) (by omega)]
theorem rem_neg {n : Nat} : rem (-(n : Int)) 10 = some (-((n % 10 : Nat) : Int)) := by
 unfold rem
 rw [if_neg (by omega), Int.neg_tmod]
 rfl
theorem decimal_neg : ∀ (k n m : Nat), 0 < n -> n < 10 ^ (k + 1) -> n <= 9223372036854775808 -> k <= 100 -> k < m -> chanceryref2_Decimal_f m (-(n : Int)) = some (45 :: txt n, ())
 | k, n, 0, _, _, _, _, hm => by omega
 | k, n, m + 1, h0, h, hn, hk, hm => by
  by_cases h1 : n < 10
  ·have a1 : ¬ -(n : Int) <= -10 := by omega
   have a2 : -(n : Int) < 0 := by omega
   have a4 : IntKind.u8.wrap (IntKind.i64.wrap (48 - -(n : Int))) = ((48 + n : Nat) : Int) := by rw [wrap_i64 (by omega) (by omega), wrap_u8i (by omega) (by omega)]; omega
   simp only [chanceryref2_Decimal_f, chanceryref2_Decimal_s, a1, a2, a4, decide_false, decide_true, cond_true, cond_false, bytesStr_1]
   rw [txt, decDigits_small h1]
   rfl
  ·have a1 : -(n : Int) <= -10 := by omega
   cases k with
   | zero => simp at h; omega
   | succ k =>
    have ih := decimal_neg k (n / 10) m (by omega) (by rw [Nat.div_lt_iff_lt_mul (by omega)]; rw [Nat.pow_succ] at h; omega) (by omega) (by omega) (by omega)
    have a4 : IntKind.u8.wrap (IntKind.i64.wrap (48 - -((n % 10 : Nat) : Int))) = ((48 + n % 10 : Nat) : Int) := by rw [wrap_i64 (by omega) (by omega), wrap_u8i (by omega) (by omega)]; omega
    have hl := decDigits_len k (n / 10) (by rw [Nat.div_lt_iff_lt_mul (by omega)]; rw [Nat.pow_succ] at h; omega)
    simp only [chanceryref2_Decimal_f, chanceryref2_Decimal_s, a1, decide_true, cond_true]
    rw [quo_neg hn, rem_neg]
    simp only [Option.bind_some, ih, a4, bytesStr_1]
    rw [cat_ok (by simp only [txt, List.length_cons, List.length_nil]; omega)]
    simp only [Option.bind_some]
    rw [show txt n = _ from decDigits_big h1]
    rfl
theorem natof_txt {n : Nat} (h : dl n < 1000) : chanceryref2_NatOf (txt n) = some (rep 10 n, ()) := by
 have hl : (txt n).length < 1000000 := by
  by_cases h0 : n = 0
  ·subst h0
   rw [txt, decDigits_small (by omega)]
   decide
  ·rw [txt_len (by omega)]
   omega
 rw [natof_eq (txt_digits n) hl, dec_txt]
theorem one10 : ([1] : List Int) = rep 10 1 := rfl
theorem one9 : ([1] : List Int) = rep B9 1 := rfl
theorem Whole_eq {p : Int} (h1 : -9223372036854775808 <= p) (h2 : p <= 9223372036854775807) : chanceryref2_Whole p = some (N10 (decide (p < 0)) p.natAbs 1, ()) := by
 have dp := dl_i64 h1 h2
 unfold chanceryref2_Whole
 by_cases h : p < 0
 ·have hd : chanceryref2_Decimal p = some (45 :: txt p.natAbs, ()) := by
   have := decimal_neg 20 p.natAbs rounds (by omega) (by omega) (by omega) (by omega) (by decide)
   rw [show -((p.natAbs : Nat) : Int) = p by omega] at this
   exact this
  have hc : cut (45 :: txt p.natAbs) 1 ((45 :: txt p.natAbs).length : Int) = some (txt p.natAbs) := by
   have := cut_nat (xs := 45 :: txt p.natAbs) (a := 1) (b := (45 :: txt p.natAbs).length) (by simp) (by omega)
   simpa using this
  rw [decide_eq_true h, cond_true]
  unfold chanceryref2_unsigned
  rw [hd, Option.bind_some]
  dsimp only
  rw [hc, Option.bind_some, Option.bind_some]
  dsimp only
  rw [natof_txt (by omega), Option.bind_some]
  rfl
 ·have hd : chanceryref2_Decimal p = some (txt p.natAbs, ()) := by
   have := decimal_pos 20 p.natAbs rounds (by omega) (by omega) (by omega) (by decide)
   rw [show ((p.natAbs : Nat) : Int) = p by omega] at this
   exact this
  rw [decide_eq_false h, cond_false, hd, Option.bind_some]
  dsimp only
  rw [natof_txt (by omega), Option.bind_some]
  rfl
theorem Of_eq {p : Int} (h1 : -9223372036854775808 <= p) (h2 : p <= 9223372036854775807) : exact_Of p = some ((fracOut (decide (p < 0)) p.natAbs 1).1, ()) /\ (fracOut (decide (p < 0)) p.natAbs 1).2.1 = 0 := by
 have dp := dl_i64 h1 h2
 have d1 : dl 1 = 1 := dl_ten 0
 unfold exact_Of fracOut
 rw [sItoa_eq h1 h2, Option.bind_some]
 dsimp only
 by_cases h0 : p.natAbs = 0
 ·have : p = 0 := by omega
  subst this
  rw [if_pos h0, itoa_abs]
  refine ⟨?_, rfl⟩
  rw [decide_eq_false (by omega), cond_false, txt, decDigits_small (by omega)]
  rfl
 ·rw [if_neg h0, Nat.gcd_one_right, Nat.div_one, Nat.div_one, if_neg (by omega), itoa_abs]
  refine ⟨?_, rfl⟩
  rw [show txt 1 = [49] from (txt_one_iff 1).2 rfl]
end Go.Proofs.YtmbejoibeninmaaGreatDoor
namespace Go.Proofs.YtmbejoibeninmaaGreatDoor
open Go Go.Fe
theorem dec_zeros (s : Str) (n : Nat) : dec (s ++ List.replicate n 48) = dec s * 10 ^ n := by
 rw [dec_append, List.length_replicate]
 have : dec (List.replicate n 48) = 0 := by
  induction n with
  | zero => rfl
  | succ n ih => rw [List.replicate_succ', dec_snoc, ih]; rfl
 omega
theorem ten_eq {n : Nat} (h : n < 5000) : exact_ten (n : Int) = some (rep B9 (10 ^ n), ()) := by
 have hr : sRepeat (no_index ([48], (n : Int), ())) = some (List.replicate n 48, ()) := by
  unfold sRepeat
  dsimp only
  rw [if_pos ⟨(by omega : (0 : Int) <= (n : Int)), (by omega : (n : Int) <= 9223372036854775807), by simp; omega⟩, Int.toNat_natCast, repeatL_one]
 have hc : cat [49] (List.replicate n (48 : UInt8)) = some ([49] ++ List.replicate n 48) := cat_ok (by simp; omega)
 have hd : dec ([49] ++ List.replicate n 48) = 10 ^ n := by
  rw [dec_zeros]
  simp [dec]
 have ha : (([49] ++ List.replicate n 48 : Str)).all isDigit = true := by
  rw [List.all_append, Bool.and_eq_true]
  refine ⟨rfl, List.all_eq_true.2 fun c hc => ?_⟩
  rw [(List.mem_replicate.1 hc).2]
  rfl
 unfold exact_ten
 rw [hr, Option.bind_some]
 dsimp only
 rw [hc, Option.bind_some, parse_eq ha (by simp; omega), hd]
 rfl
theorem Ten_eq {n : Nat} (h : n < 5000) : chanceryref2_Ten (n : Int) = some (rep 10 (10 ^ n), ()) := by
 have hin : inb (n : Int) (List.replicate (n + 1) (0 : Int)).length = true := inb_nat (by simp)
 have hs : (List.replicate (n + 1) (0 : Int)).set n 1 = List.replicate n 0 ++ [1] := by
  rw [List.replicate_succ', set_mid (by simp)]
 have hz : ∀ n, val 10 (List.replicate n 0) = 0 := fun n => by
  induction n with
  | zero => rfl
  | succ n ih => simp [List.replicate_succ, val, ih]
 have hr : List.replicate n (0 : Int) ++ [1] = rep 10 (10 ^ n) := by
  refine rep_eq (by decide) ⟨fun x hx => ?_, by simp⟩ ?_
  ·rcases List.mem_append.1 hx with hx | hx
   ·rw [(List.mem_replicate.1 hx).2]
    decide
   ·rw [List.mem_singleton] at hx
    subst hx
    decide
  ·rw [val_append, hz, List.length_replicate]
   simp [val]
 unfold chanceryref2_Ten
 rw [wrapI1 (by omega), mk_nat (by omega), Option.bind_some, hin, chk_t, Option.bind_some]
 dsimp only
 rw [Int.toNat_natCast, hs, hr]
theorem pos_ten (n : Nat) : 0 < 10 ^ n := Nat.pow_pos (by omega)
theorem Scaled_up {m : Bool} {n d k : Nat} (hk : k < 2500) (dn : dl n < 100000) : chanceryref2_Rat__Scaled (N10 m n d) (k : Int) = some (N10 m (n * 10 ^ k) d, ()) := by
 have := dl_ten k
 unfold chanceryref2_Rat__Scaled N10
 dsimp only
 rw [decide_eq_false (by omega), cond_false, Ten_eq (by omega), Option.bind_some]
 dsimp only
 rw [rtimes_eq (by omega) (by omega), Option.bind_some]
theorem Scaled_down {m : Bool} {n d k : Nat} (hk : k < 2500) (h0 : 0 < k) (dd : dl d < 100000) : chanceryref2_Rat__Scaled (N10 m n d) (-(k : Int)) = some (N10 m n (d * 10 ^ k), ()) := by
 have := dl_ten k
 have w : IntKind.i64.wrap (0 - -(k : Int)) = (k : Int) := by rw [wrap_i64 (by omega) (by omega)]; omega
 unfold chanceryref2_Rat__Scaled N10
 dsimp only
 rw [decide_eq_true (by omega), cond_true, w, Ten_eq (by omega), Option.bind_some]
 dsimp only
 rw [rtimes_eq (by omega) (by omega), Option.bind_some]
def flN (m : Bool) (n d : Nat) : Nat := if m = true /\ n % d ≠ 0 then n / d + 1 else n / d
theorem Floor_eq {m : Bool} {n d : Nat} (hd : 0 < d) (dn : dl n < 100000) (dd : dl d < 100000) : chanceryref2_Rat__Floor (N10 m n d) = some (N10 m (flN m n d) 1, ()) := by
 have d1 : dl 1 = 1 := dl_ten 0
 have hq := dl_mono (Nat.div_le_self n d)
 have hl := len10 (n % d)
 have hlen : decide (0 < ((rep 10 (n % d)).length : Int)) = decide (n % d ≠ 0) := by
  by_cases h : n % d = 0
  ·rw [h]; rfl
  ·have := dl_pos (n := n % d) (by omega)
   rw [decide_eq_true h, decide_eq_true (by omega)]
 unfold chanceryref2_Rat__Floor N10 flN
 dsimp only
 rw [rdivide_eq hd (by omega) (by omega), Option.bind_some]
 dsimp only
 rw [hlen]
 cases m with
 | false => rfl
 | true =>
  by_cases h : n % d = 0
  ·rw [if_neg (by simp [h]), decide_eq_false (by simp [h])]
   rfl
  ·rw [if_pos ⟨rfl, h⟩, decide_eq_true h, cond_true, Option.bind_some]
   dsimp only
   rw [cond_true, one10, rplus_eq (by omega) (by omega)]
   rfl
end Go.Proofs.YtmbejoibeninmaaGreatDoor
