import Derived.Test.YtmbejoibeninmaaGreatDoorRLawR
import Derived.Lib.AtoiAllCases
namespace Go.Proofs.YtmbejoibeninmaaGreatDoor
open Go Go.Fe
def scN (n : Nat) (k : Int) : Nat := if k < 0 then n else n * 10 ^ k.toNat
def scD (d : Nat) (k : Int) : Nat := if k < 0 then d * 10 ^ (-k).toNat else d
theorem scD_pos {d : Nat} (h : 0 < d) (k : Int) : 0 < scD d k := by
 unfold scD
 split
 ·exact Nat.mul_pos h (pos_ten _)
 ·exact h
theorem sc_dl {n d : Nat} {k : Int} (h1 : -2000 <= k) (h2 : k <= 2000) : dl (scN n k) <= dl n + 2001 /\ dl (scD d k) <= dl d + 2001 := by
 unfold scN scD
 by_cases g : k < 0
 ·rw [if_pos g, if_pos g]
  have := dl_ten (-k).toNat
  have := dl_mul d (10 ^ (-k).toNat)
  omega
 ·rw [if_neg g, if_neg g]
  have := dl_ten k.toNat
  have := dl_mul n (10 ^ k.toNat)
  omega
theorem scaled9 {m : Bool} {n d : Nat} {k : Int} (h1 : -2000 <= k) (h2 : k <= 2000) (dn : dl n < 100000) (dd : dl d < 100000) : exact_number__scaled (N9 m n d) k = some (N9 m (scN n k) (scD d k), ()) := by
 unfold exact_number__scaled scN scD N9
 by_cases g : k < 0
 ·obtain ⟨j, hj⟩ : ∃ j : Nat, k = -(j : Int) := ⟨(-k).toNat, by omega⟩
  subst hj
  have w0 : IntKind.i64.wrap (0 - -(j : Int)) = (j : Int) := by rw [wrap_i64 (by omega) (by omega)]; omega
  have ej : (- -(j : Int)).toNat = j := by omega
  have dj := dl_ten j
  rw [if_pos g, if_pos g, ej, decide_eq_true g, cond_true, w0, ten_eq (by omega), Option.bind_some]
  dsimp only
  rw [times_eq (by omega) (by omega)]
  rfl
 ·obtain ⟨j, hj⟩ : ∃ j : Nat, k = (j : Int) := ⟨k.toNat, by omega⟩
  subst hj
  have ej : ((j : Int)).toNat = j := by omega
  have dj := dl_ten j
  rw [if_neg g, if_neg g, ej, decide_eq_false g, cond_false, ten_eq (by omega), Option.bind_some]
  dsimp only
  rw [times_eq (by omega) (by omega)]
  rfl
theorem scaled10 {m : Bool} {n d : Nat} {k : Int} (h1 : -2000 <= k) (h2 : k <= 2000) (dn : dl n < 100000) (dd : dl d < 100000) : chanceryref2_Rat__Scaled (N10 m n d) k = some (N10 m (scN n k) (scD d k), ()) := by
 unfold scN scD
 by_cases g : k < 0
 ·obtain ⟨j, hj⟩ : ∃ j : Nat, k = -(j : Int) := ⟨(-k).toNat, by omega⟩
  subst hj
  have ej : (- -(j : Int)).toNat = j := by omega
  rw [if_pos g, if_pos g, ej]
  exact Scaled_down (by omega) (by omega) dd
 ·obtain ⟨j, hj⟩ : ∃ j : Nat, k = (j : Int) := ⟨k.toNat, by omega⟩
  subst hj
  have ej : ((j : Int)).toNat = j := by omega
  rw [if_neg g, if_neg g, ej]
  exact Scaled_up (by omega) dn
def rnd (n d : Nat) : Nat := (n + n + d) / (d + d)
theorem rnd_dl (n d : Nat) : dl (rnd n d) <= 2 * dl n + dl d + 2 := by
 have h := dl_mono (Nat.div_le_self (n + n + d) (d + d))
 have a := dl_add (n + n) d
 have b := dl_add n n
 unfold rnd
 omega
theorem rounded9 {m : Bool} {n d : Nat} (hd : 0 < d) (dn : dl n < 20000) (dd : dl d < 20000) : exact_number__rounded (N9 m n d) = some (N9 m (rnd n d) 1, ()) := by
 have a := dl_add (n + n) d
 have b := dl_add n n
 have c := dl_add d d
 unfold exact_number__rounded N9 rnd
 dsimp only
 rw [nplus_eq (by omega) (by omega), Option.bind_some]
 dsimp only
 rw [nplus_eq (by omega) (by omega), Option.bind_some, nplus_eq (by omega) (by omega), Option.bind_some]
 dsimp only
 rw [divide_eq (by omega) (by omega) (by omega), Option.bind_some]
 rfl
theorem half_eq' : chanceryref2_Half = some (N10 false 1 2, ()) := rfl
theorem near_pos {n d : Nat} (hd : 0 < d) (dn : dl n < 5000) (dd : dl d < 5000) (k : Nat) : chanceryref2_Rat__Nearest_f (k + 1) (N10 false n d) = some (N10 false (rnd n d) 1, ()) := by
 have d1 : dl 1 = 1 := dl_ten 0
 have d2 : dl 2 = 1 := rfl
 have ha := add_eq (m1 := false) (m2 := false) (n1 := n) (d1 := d) (n2 := 1) (d2 := 2) (k := 5000) (by omega) (by omega) (by omega) (by omega) (by omega)
 have e1 : sumN false n d false 1 2 = n + n + d := by
  unfold sumN
  rw [if_pos rfl]
  omega
 have e2 : sumM false n d false 1 2 = false := by
  unfold sumM
  rw [if_pos rfl]
 rw [e1, e2] at ha
 have m1 := dl_mul d 2
 have a1 := dl_add (n + n) d
 have a2 := dl_add n n
 have hf := Floor_eq (m := false) (n := n + n + d) (d := d * 2) (by omega) (by omega) (by omega)
 have e3 : flN false (n + n + d) (d * 2) = rnd n d := by
  unfold flN rnd
  rw [if_neg (by simp), Nat.mul_two]
 rw [e3] at hf
 have hn : (N10 false n d).1 = false := rfl
 unfold chanceryref2_Rat__Nearest_f chanceryref2_Rat__Nearest_s
 rw [hn, cond_false, half_eq', Option.bind_some]
 dsimp only
 rw [ha, Option.bind_some]
 dsimp only
 rw [hf, Option.bind_some]
theorem near_neg {n d : Nat} (hd : 0 < d) (dn : dl n < 5000) (dd : dl d < 5000) (k : Nat) : chanceryref2_Rat__Nearest_f (k + 2) (N10 true n d) = some (N10 true (rnd n d) 1, ()) := by
 have h := near_pos hd dn dd k
 have hn : (N10 true n d).1 = true := rfl
 show chanceryref2_Rat__Nearest_s (chanceryref2_Rat__Nearest_f (k + 1)) (N10 true n d) = _
 unfold chanceryref2_Rat__Nearest_s
 rw [hn, cond_true, neg_N10, Option.bind_some]
 dsimp only
 rw [Bool.not_true, h, Option.bind_some]
 dsimp only
 rw [neg_N10, Option.bind_some]
 rfl
theorem Nearest_eq {m : Bool} {n d : Nat} (hd : 0 < d) (dn : dl n < 5000) (dd : dl d < 5000) : chanceryref2_Rat__Nearest (N10 m n d) = some (N10 m (rnd n d) 1, ()) := by
 unfold chanceryref2_Rat__Nearest
 have h : ∃ k, rounds = k + 2 := ⟨rounds - 2, by decide⟩
 obtain ⟨k, hk⟩ := h
 rw [hk]
 cases m with
 | false => exact near_pos hd dn dd (k + 1)
 | true => exact near_neg hd dn dd k
theorem rRound_eq {m : Bool} {n d : Nat} {k : Int} (hd : 0 < d) (h1 : -100 <= k) (h2 : k <= 100) (dn : dl n <= 300) (dd : dl d <= 300) : chanceryref2_Rat__Round (N10 m n d) k = some (N10 m (scN (rnd (scN n k) (scD d k)) (-k)) (scD 1 (-k)), ()) := by
 have d1 : dl 1 = 1 := dl_ten 0
 obtain ⟨a, b⟩ := sc_dl (n := n) (d := d) (k := k) (by omega) (by omega)
 have c := rnd_dl (scN n k) (scD d k)
 have w : IntKind.i64.wrap (0 - k) = -k := by rw [wrap_i64 (by omega) (by omega)]; omega
 unfold chanceryref2_Rat__Round
 rw [scaled10 (by omega) (by omega) (by omega) (by omega), Option.bind_some]
 dsimp only
 rw [Nearest_eq (scD_pos hd k) (by omega) (by omega), Option.bind_some]
 dsimp only
 rw [w, scaled10 (by omega) (by omega) (by omega) (by omega), Option.bind_some]
def padded (q k : Nat) : Str := List.replicate (k + 1 - (txt q).length) 48 ++ txt q
def pointed (s : Str) (k : Nat) : Str := if 0 < k then s.take (s.length - k) ++ ([46] ++ s.drop (s.length - k)) else s
def decTxt (m : Bool) (q k : Nat) : Str := bif m && decide (q ≠ 0) then 45 :: pointed (padded q k) k else pointed (padded q k) k
theorem txt_len_le (q : Nat) : (txt q).length <= dl q + 1 := by
 by_cases h : q = 0
 ·subst h
  rw [txt, decDigits_small (by omega)]
  simp
 ·rw [txt_len (by omega)]
  omega
theorem padded_len (q k : Nat) : k + 1 <= (padded q k).length /\ (padded q k).length <= k + dl q + 2 := by
 have := txt_len_le q
 unfold padded
 rw [List.length_append, List.length_replicate]
 omega
theorem pointed_len (s : Str) (k : Nat) : (pointed s k).length <= s.length + 1 := by
 unfold pointed
 split
 ·simp; omega
 ·omega
theorem point_cut {s : Str} {k : Nat} {X : Type} (h : k < s.length) (hs : s.length < 100000) (x : X) : (cond (decide (0 < (k : Int)))
 ((cut s 0 (IntKind.i64.wrap ((s.length : Int) - (k : Int)))).bind fun v5 =>
 (cat v5 [46]).bind fun v6 =>
 (cut s (IntKind.i64.wrap ((s.length : Int) - (k : Int))) (s.length : Int)).bind fun v7 =>
 (cat v6 v7).bind fun v8 =>
 some ((), v8, x, ()))
 (some ((), s, x, ())) : Option (Unit × (Str × (X × Unit)))) = some ((), pointed s k, x, ()) := by
 unfold pointed
 by_cases h0 : 0 < k
 ·have w : IntKind.i64.wrap ((s.length : Int) - (k : Int)) = ((s.length - k : Nat) : Int) := by rw [wrap_i64 (by omega) (by omega)]; omega
  have c1 : cut s 0 ((s.length - k : Nat) : Int) = some (s.take (s.length - k)) := by
   have := cut_nat (xs := s) (a := 0) (b := s.length - k) (by omega) (by omega)
   simpa using this
  have c2 : cut s ((s.length - k : Nat) : Int) (s.length : Int) = some (s.drop (s.length - k)) := by
   have := cut_nat (xs := s) (a := s.length - k) (b := s.length) (by omega) (by omega)
   rwa [List.take_length] at this
  rw [if_pos h0, decide_eq_true (by omega), cond_true, w, c1, Option.bind_some, cat_ok (by simp; omega), Option.bind_some, c2, Option.bind_some, cat_ok (by simp; omega), Option.bind_some, List.append_assoc]
 ·rw [if_neg h0, decide_eq_false (by omega), cond_false]
theorem decimal9 {m : Bool} {q d k : Nat} (hk : k <= 2000) (dq : dl q < 20000) : exact_number__decimal (N9 m q d) (k : Int) = some (decTxt m q k, ()) := by
 have hl := txt_len_le q
 obtain ⟨p1, p2⟩ := padded_len q k
 have p3 := pointed_len (padded q k) k
 have w : IntKind.i64.wrap (IntKind.i64.wrap ((k : Int) + 1) - ((txt q).length : Int)) = (k : Int) + 1 - ((txt q).length : Int) := by rw [wrap_i64 (n := (k : Int) + 1) (by omega) (by omega), wrap_i64 (by omega) (by omega)]
 have hm : mx 0 ((k : Int) + 1 - ((txt q).length : Int)) = ((k + 1 - (txt q).length : Nat) : Int) := by
  unfold mx
  split <;> omega
 have hr : sRepeat (no_index ([48], ((k + 1 - (txt q).length : Nat) : Int), ())) = some (List.replicate (k + 1 - (txt q).length) 48, ()) := by
  unfold sRepeat
  dsimp only
  rw [if_pos ⟨(by omega : (0 : Int) <= ((k + 1 - (txt q).length : Nat) : Int)), (by omega : ((k + 1 - (txt q).length : Nat) : Int) <= 9223372036854775807), by simp; omega⟩, Int.toNat_natCast, repeatL_one]
 have hc : cat (List.replicate (k + 1 - (txt q).length) 48) (txt q) = some (padded q k) := cat_ok (by rw [List.length_replicate]; omega)
 unfold exact_number__decimal N9
 dsimp only
 rw [sText_eq (by omega), Option.bind_some]
 dsimp only
 rw [w, hm, hr, Option.bind_some]
 dsimp only
 rw [hc, Option.bind_some]
 have hpc := point_cut (s := padded q k) (k := k) (x := ((m, rep B9 q, rep B9 d, ()) : NumD)) (by omega) (by omega)
 erw [hpc]
 rw [Option.bind_some]
 dsimp only
 unfold decTxt
 cases m with
 | false => rfl
 | true =>
  rw [cond_true, zero_eq, Option.bind_some, Option.bind_some]
  dsimp only
  by_cases h0 : q = 0
  ·rw [decide_eq_true h0, decide_eq_false (by simp [h0])]
   rfl
  ·rw [decide_eq_false h0, decide_eq_true h0, Bool.not_false, cond_true, cat_ok (by simp only [List.length_cons, List.length_nil]; omega)]
   rfl
theorem pad_halts {k : Nat} (hk : k <= 2000) (z : NumD) : ∀ f (s : Str), k + 1 - s.length = f -> s.length < 100000 -> Halts (chanceryref2_Rat__Fixed_l1 (k : Int)) f ((), s, z, ()) ((), List.replicate f 48 ++ s, z, ())
 | 0, s, h, hs => by
  refine .done ?_
  unfold chanceryref2_Rat__Fixed_l1
  dsimp only
  rw [decide_eq_false (by omega), cond_false]
  rfl
 | f + 1, s, h, hs => by
  have hr : List.replicate (f + 1) (48 : UInt8) ++ s = List.replicate f 48 ++ (48 :: s) := by
   rw [List.replicate_succ']
   simp
  rw [hr]
  refine .step ?_ (pad_halts hk z f (48 :: s) (by simp; omega) (by simp; omega))
  unfold chanceryref2_Rat__Fixed_l1
  dsimp only
  rw [decide_eq_true (by omega), cond_true, cat_ok (by simp; omega)]
  rfl
theorem rFixed_eq {m : Bool} {n d k : Nat} (hd : 0 < d) (hk : k <= 1500) (dn : dl n <= 300) (dd : dl d <= 300) : chanceryref2_Rat__Fixed (N10 m n d) (k : Int) = some (decTxt m (rnd (scN n k) (scD d k)) k, ()) := by
 obtain ⟨a, b⟩ := sc_dl (n := n) (d := d) (k := (k : Int)) (by omega) (by omega)
 have c := rnd_dl (scN n k) (scD d k)
 unfold chanceryref2_Rat__Fixed
 rw [scaled10 (by omega) (by omega) (by omega) (by omega), Option.bind_some]
 dsimp only
 rw [Nearest_eq (scD_pos hd k) (by omega) (by omega), Option.bind_some]
 generalize rnd (scN n k) (scD d k) = q at *
 have hl := txt_len_le q
 obtain ⟨p1, p2⟩ := padded_len q k
 have p3 := pointed_len (padded q k) k
 have hN : (N10 m q 1).2.1 = rep 10 q := rfl
 dsimp only
 rw [hN, rtext_eq (by omega), Option.bind_some]
 dsimp only
 have hp := (pad_halts (k := k) (by omega) (N10 m q 1) _ (txt q) rfl (by omega)).loop (by omega)
 rw [hp, Option.bind_some]
 dsimp only
 have hpc := point_cut (s := padded q k) (k := k) (x := N10 m q 1) (by omega) (by omega)
 erw [hpc]
 rw [Option.bind_some]
 dsimp only
 rw [sign_eq, Option.bind_some]
 dsimp only
 unfold decTxt sgnOf
 by_cases h0 : q = 0
 ·rw [if_pos h0, decide_eq_false (p := q ≠ 0) (by simp [h0])]
  cases m <;> rfl
 ·rw [if_neg h0, decide_eq_true (p := q ≠ 0) h0]
  cases m with
  | false => rfl
  | true =>
   rw [cond_true, decide_eq_true (by decide), cond_true, cat_ok (by simp only [List.length_cons, List.length_nil]; omega)]
   rfl
theorem rounding_core {m : Bool} {n d : Nat} {k : Int} (hd : 0 < d) (h1 : -100 <= k) (h2 : k <= 100) (dn : dl n <= 300) (dd : dl d <= 300) {X : Type} (F : NumD -> FracD -> Int -> Option X) :
  ((exact_number__scaled (N9 m n d) k).bind fun v4 =>
 (exact_number__rounded v4.1).bind fun v5 =>
 (exact_number__scaled v5.1 (IntKind.i64.wrap (0 - k))).bind fun v6 =>
 (exact_number__write v6.1).bind fun v7 =>
 F v5.1 v7.1 v7.2.1) = F (N9 m (rnd (scN n k) (scD d k)) 1) (fracOut m (scN (rnd (scN n k) (scD d k)) (-k)) (scD 1 (-k))).1 (fracOut m (scN (rnd (scN n k) (scD d k)) (-k)) (scD 1 (-k))).2.1 := by
 have d1 : dl 1 = 1 := dl_ten 0
 obtain ⟨a, b⟩ := sc_dl (n := n) (d := d) (k := k) (by omega) (by omega)
 have c := rnd_dl (scN n k) (scD d k)
 obtain ⟨e, f⟩ := sc_dl (n := rnd (scN n k) (scD d k)) (d := 1) (k := -k) (by omega) (by omega)
 have w : IntKind.i64.wrap (0 - k) = -k := by rw [wrap_i64 (by omega) (by omega)]; omega
 rw [scaled9 (by omega) (by omega) (by omega) (by omega), Option.bind_some]
 dsimp only
 rw [rounded9 (scD_pos hd k) (by omega) (by omega), Option.bind_some]
 dsimp only
 rw [w, scaled9 (by omega) (by omega) (by omega) (by omega), Option.bind_some]
 dsimp only
 rw [write_N9 (scD_pos (by omega) _) (by omega) (by omega), Option.bind_some]
theorem Fixed_good {a : FracD} {m : Bool} {n d : Nat} {k : Int} (hr : exact_read a = some (N9 m n d, 0, ())) (hd : 0 < d) (dn : dl n <= 300) (dd : dl d <= 300) : exact_Fixed a k = some (if k < 0 \/ 100 < k then ([], 2, ()) else if (fracOut m (scN (rnd (scN n k) (scD d k)) (-k)) (scD 1 (-k))).2.1 ≠ 0 then ([], (fracOut m (scN (rnd (scN n k) (scD d k)) (-k)) (scD 1 (-k))).2.1, ()) else (decTxt m (rnd (scN n k) (scD d k)) k.toNat, 0, ())) := by
 unfold exact_Fixed
 rw [hr, Option.bind_some]
 dsimp only
 rw [decide_eq_true rfl, Bool.not_true, cond_false]
 by_cases g1 : k < 0
 ·rw [if_pos (.inl g1), decide_eq_true g1]
  rfl
 ·rw [decide_eq_false g1, cond_false, Option.bind_some]
  dsimp only
  by_cases g2 : 100 < k
  ·rw [if_pos (.inr g2), decide_eq_true g2]
   rfl
  ·rw [if_neg (by omega), decide_eq_false g2, cond_false]
   have hcore := rounding_core (m := m) (n := n) (d := d) (k := k) hd (by omega) (by omega) dn dd (fun v4 _ y => cond (!decide (y = 0)) (some (([] : Str), y, ())) ((exact_number__decimal v4 k).bind fun v7 => some (v7.1, (0 : Int), ())))
   refine hcore.trans ?_
   obtain ⟨a, b⟩ := sc_dl (n := n) (d := d) (k := k) (by omega) (by omega)
   have c := rnd_dl (scN n k) (scD d k)
   by_cases g : (fracOut m (scN (rnd (scN n k) (scD d k)) (-k)) (scD 1 (-k))).2.1 = 0
   ·rw [if_neg (fun h => h g), decide_eq_true g, Bool.not_true, cond_false]
    have hdec := decimal9 (m := m) (q := rnd (scN n k) (scD d k)) (d := 1) (k := k.toNat) (by omega) (by omega)
    rw [show ((k.toNat : Nat) : Int) = k by omega] at hdec
    rw [hdec]
    rfl
   ·rw [if_pos g, decide_eq_false g]
    rfl
theorem ten9 : ([10] : List Int) = rep B9 10 := rfl
theorem five10 : ([5] : List Int) = rep 10 5 := rfl
theorem factor25 : ∀ n d, d <= n -> 0 < d -> ∃ a b c, d = 2 ^ a * 5 ^ b * c /\ c % 2 ≠ 0 /\ c % 5 ≠ 0
 | 0, d, h, h0 => by omega
 | n + 1, d, h, h0 => by
  by_cases h2 : d % 2 = 0
  ·obtain ⟨a, b, c, h3, h4⟩ := factor25 n (d / 2) (by omega) (by omega)
   refine ⟨a + 1, b, c, ?_, h4⟩
   have : d = 2 * (d / 2) := by omega
   rw [this, h3, Nat.pow_succ]
   grind
  ·by_cases h5 : d % 5 = 0
   ·obtain ⟨a, b, c, h3, h4⟩ := factor25 n (d / 5) (by omega) (by omega)
    refine ⟨a, b + 1, c, ?_, h4⟩
    have : d = 5 * (d / 5) := by omega
    rw [this, h3, Nat.pow_succ]
    grind
   ·exact ⟨0, 0, d, by simp, h2, h5⟩
theorem five_two (b : Nat) : 5 ^ b % 2 = 1 := by
 induction b with
 | zero => rfl
 | succ b ih => rw [Nat.pow_succ]; omega
theorem two_five (a : Nat) : 2 ^ a % 5 ≠ 0 := by
 induction a with
 | zero => decide
 | succ a ih => rw [Nat.pow_succ]; omega
theorem mul_mod_ne {x y p : Nat} (hp : p = 2 \/ p = 5) (hx : x % p ≠ 0) (hy : y % p ≠ 0) : x * y % p ≠ 0 := by
 rw [Nat.mul_mod]
 rcases hp with rfl | rfl
 ·have h1 : x % 2 = 1 := by omega
  have h2 : y % 2 = 1 := by omega
  rw [h1, h2]
  decide
 ·have h1 : x % 5 = 1 \/ x % 5 = 2 \/ x % 5 = 3 \/ x % 5 = 4 := by omega
  have h2 : y % 5 = 1 \/ y % 5 = 2 \/ y % 5 = 3 \/ y % 5 = 4 := by omega
  rcases h1 with h1 | h1 | h1 | h1 <;> rcases h2 with h2 | h2 | h2 | h2 <;> rw [h1, h2] <;> decide
theorem gcd10 (d : Nat) : d.gcd 10 = if d % 2 = 0 then (if d % 5 = 0 then 10 else 2) else (if d % 5 = 0 then 5 else 1) := by
 rw [Nat.gcd_comm, Nat.gcd_rec]
 have h := Nat.mod_lt d (show 10 > 0 by omega)
 have e2 : d % 2 = d % 10 % 2 := by omega
 have e5 : d % 5 = d % 10 % 5 := by omega
 rw [e2, e5]
 generalize d % 10 = r at *
 have : r = 0 \/ r = 1 \/ r = 2 \/ r = 3 \/ r = 4 \/ r = 5 \/ r = 6 \/ r = 7 \/ r = 8 \/ r = 9 := by omega
 rcases this with h | h | h | h | h | h | h | h | h | h <;> subst h <;> rfl
theorem pow_split2 {a b c : Nat} : 2 ^ (a + 1) * 5 ^ b * c / 2 = 2 ^ a * 5 ^ b * c /\ 2 ^ (a + 1) * 5 ^ b * c % 2 = 0 := by
 have e : 2 ^ (a + 1) * 5 ^ b * c = 2 * (2 ^ a * 5 ^ b * c) := by rw [Nat.pow_succ]; grind
 rw [e]
 omega
theorem pow_split5 {a b c : Nat} : 2 ^ a * 5 ^ (b + 1) * c / 5 = 2 ^ a * 5 ^ b * c /\ 2 ^ a * 5 ^ (b + 1) * c % 5 = 0 := by
 have e : 2 ^ a * 5 ^ (b + 1) * c = 5 * (2 ^ a * 5 ^ b * c) := by rw [Nat.pow_succ]; grind
 rw [e]
 omega
theorem pow_split10 {a b c : Nat} : 2 ^ (a + 1) * 5 ^ (b + 1) * c / 10 = 2 ^ a * 5 ^ b * c /\ 2 ^ (a + 1) * 5 ^ (b + 1) * c % 10 = 0 := by
 have e : 2 ^ (a + 1) * 5 ^ (b + 1) * c = 10 * (2 ^ a * 5 ^ b * c) := by rw [Nat.pow_succ, Nat.pow_succ]; grind
 rw [e]
 omega
theorem short_step {d i : Nat} {z : NumD} (hd : 0 < d) (dd : dl d < 5000) (hi : i < 100000) : exact_Shortest_l1 ((), (i : Int), rep B9 d, z, ()) =
  if d = 1 then some (.inr (.inl ((), (i : Int), z, ()))) else if d % 10 = 0 then some (.inl ((), ((i + 1 : Nat) : Int), rep B9 (d / 10), z, ())) else if d.gcd 10 = 1 then some (.inr (.inr ([], false, 0, ()))) else some (.inl ((), ((i + 1 : Nat) : Int), rep B9 (d / d.gcd 10), z, ())) := by
 have d10 : dl 10 = 2 := dl_ten 1
 have hg0 : 0 < d.gcd 10 := Nat.gcd_pos_of_pos_left 10 hd
 have hg := dl_mono (Nat.gcd_le_right d (show 0 < 10 by omega))
 unfold exact_Shortest_l1
 dsimp only
 rw [one_eq, Option.bind_some]
 dsimp only
 by_cases h1 : d = 1
 ·rw [if_pos h1, decide_eq_true h1]
  rfl
 ·rw [if_neg h1, decide_eq_false h1, Bool.not_false, cond_true, ten9, divide_eq (by omega) (by omega) (by omega), Option.bind_some]
  dsimp only
  rw [zero_eq, Option.bind_some]
  dsimp only
  by_cases h2 : d % 10 = 0
  ·rw [if_pos h2, decide_eq_true h2, Bool.not_true, cond_false, Option.bind_some]
   dsimp only
   rw [wrapI1 (by omega)]
  ·rw [if_neg h2, decide_eq_false h2, Bool.not_false, cond_true, common_eq (by omega) (by omega), Option.bind_some]
   dsimp only
   rw [one_eq, Option.bind_some]
   dsimp only
   by_cases h3 : d.gcd 10 = 1
   ·rw [if_pos h3, decide_eq_true h3]
    rfl
   ·rw [if_neg h3, decide_eq_false h3, cond_false, divide_eq hg0 (by omega) (by omega), Option.bind_some, Option.bind_some]
    dsimp only
    rw [wrapI1 (by omega)]
theorem short_halts {z : NumD} {c : Nat} (hc : 0 < c) (hc2 : c % 2 ≠ 0) (hc5 : c % 5 ≠ 0) : ∀ (f a b i : Nat), max a b = f -> dl (2 ^ a * 5 ^ b * c) < 5000 -> i + f < 100000 ->
  Halts exact_Shortest_l1 f ((), (i : Int), rep B9 (2 ^ a * 5 ^ b * c), z, ()) (if c = 1 then .inl ((), ((i + f : Nat) : Int), z, ()) else .inr ([], false, 0, ()))
 | f, a, b, i, hf, hd, hi => by
  have hpos : 0 < 2 ^ a * 5 ^ b * c := Nat.mul_pos (Nat.mul_pos (Nat.pow_pos (by omega)) (Nat.pow_pos (by omega))) hc
  have hst := short_step (z := z) hpos hd (show i < 100000 by omega)
  have m2 : (2 ^ a * 5 ^ b * c) % 2 = 0 ↔ a ≠ 0 := by
   constructor
   ·intro h e
    subst e
    rw [Nat.pow_zero, Nat.one_mul] at h
    exact mul_mod_ne (.inl rfl) (by rw [five_two]; decide) hc2 h
   ·intro h
    obtain ⟨a', rfl⟩ : ∃ a', a = a' + 1 := ⟨a - 1, by omega⟩
    exact pow_split2.2
  have m5 : (2 ^ a * 5 ^ b * c) % 5 = 0 ↔ b ≠ 0 := by
   constructor
   ·intro h e
    subst e
    rw [Nat.pow_zero, Nat.mul_one] at h
    exact mul_mod_ne (.inr rfl) (two_five a) hc5 h
   ·intro h
    obtain ⟨b', rfl⟩ : ∃ b', b = b' + 1 := ⟨b - 1, by omega⟩
    exact pow_split5.2
  have hg := gcd10 (2 ^ a * 5 ^ b * c)
  have hle : ∀ x y, x <= a -> y <= b -> dl (2 ^ x * 5 ^ y * c) < 5000 := fun x y hx hy => by
   have := dl_mono (Nat.mul_le_mul_right c (Nat.mul_le_mul (Nat.pow_le_pow_right (show 0 < 2 by omega) hx) (Nat.pow_le_pow_right (show 0 < 5 by omega) hy)))
   omega
  by_cases ha : a = 0
  ·by_cases hb : b = 0
   ·have f0 : f = 0 := by omega
    subst f0
    subst ha
    subst hb
    simp only [Nat.pow_zero, Nat.one_mul, Nat.add_zero] at *
    rw [if_neg hc2, if_neg hc5] at hg
    refine .done ?_
    rw [hst]
    by_cases h1 : c = 1
    ·rw [if_pos h1, if_pos h1]
    ·rw [if_neg h1, if_neg h1, if_neg (by omega), if_pos hg]
   ·obtain ⟨b', rfl⟩ : ∃ b', b = b' + 1 := ⟨b - 1, by omega⟩
    have n2 : ¬(2 ^ a * 5 ^ (b' + 1) * c) % 2 = 0 := fun h => m2.1 h ha
    have n5 := m5.2 hb
    rw [if_neg n2, if_pos n5] at hg
    rw [if_neg (by omega), if_neg (by omega), if_neg (by omega), hg, pow_split5.1] at hst
    obtain ⟨f', rfl⟩ : ∃ f', f = f' + 1 := ⟨f - 1, by omega⟩
    have ih := short_halts (z := z) hc hc2 hc5 f' a b' (i + 1) (by omega) (hle a b' (by omega) (by omega)) (by omega)
    rw [show i + 1 + f' = i + (f' + 1) by omega] at ih
    exact .step hst ih
  ·obtain ⟨a', rfl⟩ : ∃ a', a = a' + 1 := ⟨a - 1, by omega⟩
   have n2 := m2.2 ha
   obtain ⟨f', rfl⟩ : ∃ f', f = f' + 1 := ⟨f - 1, by omega⟩
   by_cases hb : b = 0
   ·have n5 : ¬(2 ^ (a' + 1) * 5 ^ b * c) % 5 = 0 := fun h => m5.1 h hb
    rw [if_pos n2, if_neg n5] at hg
    rw [if_neg (by omega), if_neg (by omega), if_neg (by omega), hg, pow_split2.1] at hst
    have ih := short_halts (z := z) hc hc2 hc5 f' a' b (i + 1) (by omega) (hle a' b (by omega) (by omega)) (by omega)
    rw [show i + 1 + f' = i + (f' + 1) by omega] at ih
    exact .step hst ih
   ·obtain ⟨b', rfl⟩ : ∃ b', b = b' + 1 := ⟨b - 1, by omega⟩
    rw [if_neg (by omega), if_pos pow_split10.2, pow_split10.1] at hst
    have ih := short_halts (z := z) hc hc2 hc5 f' a' b' (i + 1) (by omega) (hle a' b' (by omega) (by omega)) (by omega)
    rw [show i + 1 + f' = i + (f' + 1) by omega] at ih
    exact .step hst ih
theorem exp_bound {a b c d : Nat} (hc : 0 < c) (hd : d = 2 ^ a * 5 ^ b * c) (dd : dl d <= 300) : a < 1200 /\ b < 1200 := by
 have h1 := lt_two d
 have hp2 : 0 < 2 ^ a := Nat.pow_pos (by omega)
 have hp5 : 0 < 5 ^ b := Nat.pow_pos (by omega)
 have h2 : 2 ^ a <= d := by
  rw [hd, Nat.mul_assoc]
  exact Nat.le_mul_of_pos_right _ (Nat.mul_pos hp5 hc)
 have h3 : 5 ^ b <= d := by
  rw [hd, Nat.mul_comm (2 ^ a), Nat.mul_assoc]
  exact Nat.le_mul_of_pos_right _ (Nat.mul_pos hp2 hc)
 have h4 : 2 ^ b <= 5 ^ b := Nat.pow_le_pow_left (by omega) b
 have e1 := (Nat.pow_lt_pow_iff_right (show 1 < 2 by omega)).1 (Nat.lt_of_le_of_lt h2 h1)
 have e2 := (Nat.pow_lt_pow_iff_right (show 1 < 2 by omega)).1 (Nat.lt_of_le_of_lt (Nat.le_trans h4 h3) h1)
 omega
theorem Shortest_good {r : FracD} {m : Bool} {n d a b c : Nat} (hr : exact_read r = some (N9 m n d, 0, ())) (hd : 0 < d) (dn : dl n <= 300) (dd : dl d <= 300) (hc : 0 < c) (hc2 : c % 2 ≠ 0) (hc5 : c % 5 ≠ 0) (he : d = 2 ^ a * 5 ^ b * c) :
  exact_Shortest r = some (if c = 1 then (decTxt m (n * 10 ^ max a b / d) (max a b), true, 0, ()) else ([], false, 0, ())) := by
 obtain ⟨b1, b2⟩ := exp_bound hc he dd
 have hl := (short_halts (z := N9 m n d) hc hc2 hc5 (max a b) a b 0 rfl (by rw [<- he]; omega) (by omega)).loop (by omega)
 rw [<- he, Nat.zero_add] at hl
 unfold exact_Shortest
 rw [hr, Option.bind_some]
 dsimp only
 rw [decide_eq_true rfl, Bool.not_true, cond_false]
 have hN : (N9 m n d).2.2.1 = rep B9 d := rfl
 rw [hN]
 have hl' : loop exact_Shortest_l1 ((), 0, rep B9 d, N9 m n d, ()) = _ := hl
 rw [hl', Option.bind_some]
 by_cases h1 : c = 1
 ·have dt := dl_ten (max a b)
  have dm := dl_mul n (10 ^ max a b)
  have dq := dl_mono (Nat.div_le_self (n * 10 ^ max a b) d)
  rw [if_pos h1, if_pos h1]
  dsimp only
  rw [ten_eq (by omega), Option.bind_some]
  have hN1 : (N9 m n d).2.1 = rep B9 n := rfl
  dsimp only
  rw [hN1, hN, times_eq (by omega) (by omega), Option.bind_some]
  dsimp only
  rw [divide_eq hd (by omega) (by omega), Option.bind_some]
  dsimp only
  have hdec := decimal9 (m := m) (q := n * 10 ^ max a b / d) (d := 1) (k := max a b) (by omega) (by omega)
  have hN2 : N9 m (n * 10 ^ max a b / d) 1 = ((N9 m n d).1, rep B9 (n * 10 ^ max a b / d), [1], ()) := rfl
  rw [hN2] at hdec
  rw [hdec]
  rfl
 ·rw [if_neg h1, if_neg h1]
theorem places1 {c b : Nat} (hb : c % 2 ≠ 0) (hc : 0 < c) : ∀ (f a i : Nat), a = f -> dl (2 ^ a * 5 ^ b * c) < 5000 -> i + f < 100000 ->
  Halts chanceryref2_Rat__Places_l1 f (rep 10 (2 ^ a * 5 ^ b * c), (i : Int), ()) (rep 10 (5 ^ b * c), ((i + f : Nat) : Int), ())
 | f, a, i, hf, hd, hi => by
  have hpos : 0 < 2 ^ a * 5 ^ b * c := Nat.mul_pos (Nat.mul_pos (Nat.pow_pos (by omega)) (Nat.pow_pos (by omega))) hc
  have hst : chanceryref2_Rat__Places_l1 (rep 10 (2 ^ a * 5 ^ b * c), (i : Int), ()) = if (2 ^ a * 5 ^ b * c) % 2 = 0 then some (.inl (rep 10 (2 ^ a * 5 ^ b * c / 2), ((i + 1 : Nat) : Int), ())) else some (.inr (rep 10 (2 ^ a * 5 ^ b * c), (i : Int), ())) := by
   unfold chanceryref2_Rat__Places_l1
   dsimp only
   rw [low_at hpos, Option.bind_some, low_rem, Option.bind_some, dec_even, half_eq (by omega), wrapI1 (by omega)]
   by_cases h : (2 ^ a * 5 ^ b * c) % 2 = 0
   ·rw [if_pos h, decide_eq_true h]
    rfl
   ·rw [if_neg h, decide_eq_false h]
    rfl
  cases f with
  | zero =>
   subst hf
   simp only [Nat.pow_zero, Nat.one_mul, Nat.add_zero] at *
   rw [if_neg (mul_mod_ne (.inl rfl) (by rw [five_two]; decide) hb)] at hst
   exact .done hst
  | succ f =>
   subst hf
   rw [if_pos pow_split2.2, pow_split2.1] at hst
   have ih := places1 (b := b) hb hc f f (i + 1) rfl (by
    have := dl_mono (Nat.mul_le_mul_right c (Nat.mul_le_mul_right (5 ^ b) (Nat.pow_le_pow_right (show 0 < 2 by omega) (show f <= f + 1 by omega))))
    omega) (by omega)
   rw [show i + 1 + f = i + (f + 1) by omega] at ih
   exact .step hst ih
theorem places2 {c : Nat} (hc5 : c % 5 ≠ 0) (hc : 0 < c) : ∀ (f b i : Nat), b = f -> dl (5 ^ b * c) < 5000 -> i + f < 100000 ->
  Halts chanceryref2_Rat__Places_l2 f (rep 10 (5 ^ b * c), (i : Int), ()) (rep 10 c, ((i + f : Nat) : Int), ())
 | f, b, i, hf, hd, hi => by
  have d5 : dl 5 = 1 := rfl
  have hlen := len10 ((5 ^ b * c) % 5)
  have hst : chanceryref2_Rat__Places_l2 (rep 10 (5 ^ b * c), (i : Int), ()) = if (5 ^ b * c) % 5 = 0 then some (.inl (rep 10 (5 ^ b * c / 5), ((i + 1 : Nat) : Int), ())) else some (.inr (rep 10 (5 ^ b * c), (i : Int), ())) := by
   unfold chanceryref2_Rat__Places_l2
   dsimp only
   rw [five10, rdivide_eq (by omega) (by omega) (by omega), Option.bind_some]
   dsimp only
   rw [wrapI1 (by omega)]
   by_cases h : (5 ^ b * c) % 5 = 0
   ·rw [if_pos h, h]
    rfl
   ·have := dl_pos (n := (5 ^ b * c) % 5) (by omega)
    rw [if_neg h, decide_eq_true (by omega)]
    rfl
  cases f with
  | zero =>
   subst hf
   simp only [Nat.pow_zero, Nat.one_mul, Nat.add_zero] at *
   rw [if_neg hc5] at hst
   exact .done hst
  | succ f =>
   subst hf
   have e : 5 ^ (f + 1) * c = 5 * (5 ^ f * c) := by rw [Nat.pow_succ]; grind
   rw [if_pos (by rw [e]; omega), show 5 ^ (f + 1) * c / 5 = 5 ^ f * c by rw [e]; omega] at hst
   have ih := places2 hc5 hc f f (i + 1) rfl (by
    have := dl_mono (Nat.mul_le_mul_right c (Nat.pow_le_pow_right (show 0 < 5 by omega) (show f <= f + 1 by omega)))
    omega) (by omega)
   rw [show i + 1 + f = i + (f + 1) by omega] at ih
   exact .step hst ih
theorem fracOut_low {m : Bool} {n d : Nat} (hd : 0 < d) (hc : n.gcd d = 1) (hm : m = true -> 0 < n) (dn : dl n <= 300) (dd : dl d <= 300) : fracOut m n d = (((bif m then 45 :: txt n else txt n), txt d, ()), 0, ()) := by
 unfold fracOut
 by_cases h0 : n = 0
 ·subst h0
  rw [Nat.gcd_zero_left] at hc
  subst hc
  cases m with
  | true => exact absurd (hm rfl) (by omega)
  | false =>
   rw [if_pos rfl, show txt 1 = [49] from (txt_one_iff 1).2 rfl, show txt 0 = [48] from decDigits_small (by omega)]
   rfl
 ·rw [if_neg h0, hc, Nat.div_one, Nat.div_one, if_neg (by omega)]
theorem Places_eq {m : Bool} {n d a b c : Nat} (hd : 0 < d) (hcop : n.gcd d = 1) (hm : m = true -> 0 < n) (dn : dl n <= 300) (dd : dl d <= 300) (hc : 0 < c) (hc2 : c % 2 ≠ 0) (hc5 : c % 5 ≠ 0) (he : d = 2 ^ a * 5 ^ b * c) :
  chanceryref2_Rat__Places (N10 m n d) = some (if c = 1 then ((max a b : Nat) : Int) else -1, ()) := by
 obtain ⟨b1, b2⟩ := exp_bound hc he dd
 have hfr : chanceryref2_Rat__Frac (N10 m n d) = some (fracOut m n d) := frac_eq hd (by omega) (by omega)
 have hcd : c <= d := by
  rw [he]
  exact Nat.le_mul_of_pos_left _ (Nat.mul_pos (Nat.pow_pos (by omega)) (Nat.pow_pos (by omega)))
 have h5d : 5 ^ b * c <= d := by
  rw [he, Nat.mul_assoc]
  exact Nat.le_mul_of_pos_left _ (Nat.pow_pos (by omega))
 have dc := dl_mono hcd
 have d5c := dl_mono h5d
 have l1 := (places1 (b := b) hc2 hc a a 0 rfl (by rw [<- he]; omega) (by omega)).loop (by omega)
 have l2 := (places2 hc5 hc b b 0 rfl (by omega) (by omega)).loop (by omega)
 rw [<- he, Nat.zero_add] at l1
 rw [Nat.zero_add] at l2
 unfold chanceryref2_Rat__Places
 rw [hfr, fracOut_low hd hcop hm dn dd, Option.bind_some]
 dsimp only
 rw [decide_eq_true rfl, Bool.not_true, cond_false, natof_txt (by omega), Option.bind_some]
 dsimp only
 have l1' : loop chanceryref2_Rat__Places_l1 (rep 10 d, 0, ()) = _ := l1
 have l2' : loop chanceryref2_Rat__Places_l2 (rep 10 (5 ^ b * c), 0, ()) = _ := l2
 rw [l1', Option.bind_some]
 dsimp only
 rw [l2', Option.bind_some]
 dsimp only
 rw [rtext_eq (by omega), Option.bind_some]
 dsimp only
 by_cases h1 : c = 1
 ·rw [if_pos h1, decide_eq_true ((txt_one_iff c).2 h1), Bool.not_true, cond_false]
  congr 2
  unfold mx
  split <;> omega
 ·rw [if_neg h1, decide_eq_false (fun e => h1 ((txt_one_iff c).1 e))]
  rfl
theorem dvd_ten {a b : Nat} : 2 ^ a * 5 ^ b ∣ 10 ^ max a b := by
 have e : (10 : Nat) ^ max a b = 2 ^ max a b * 5 ^ max a b := by rw [<- Nat.mul_pow]
 rw [e]
 exact Nat.mul_dvd_mul (Nat.pow_dvd_pow 2 (by omega)) (Nat.pow_dvd_pow 5 (by omega))
theorem rnd_exact {n d k : Nat} (hd : 0 < d) (h : d ∣ 10 ^ k) : rnd (scN n k) (scD d k) = n * 10 ^ k / d := by
 unfold rnd scN scD
 rw [if_neg (by omega), if_neg (by omega), Int.toNat_natCast]
 obtain ⟨t, ht⟩ := h
 rw [ht, show n * (d * t) = n * t * d by grind, Nat.mul_div_cancel _ hd]
 have e : n * t * d + n * t * d + d = d + (d + d) * (n * t) := by grind
 rw [e, Nat.add_mul_div_left _ _ (by omega), Nat.div_eq_of_lt (by omega), Nat.zero_add]
theorem good_self {a : FracD} (g : Good a) : a = ((bif signOf a.1 then 45 :: txt (dec (body a.1)) else txt (dec (body a.1))), txt (dec a.2.1), ()) := by
 have h1 := digs_txt g.num
 have h2 := digs_txt g.den
 obtain ⟨s, t, u⟩ := a
 dsimp only at *
 rw [h1, h2]
 have : (bif signOf s then 45 :: body s else body s) = s := by
  unfold body signOf
  cases s with
  | nil => rfl
  | cons c r =>
   by_cases h : c = 45
   ·subst h; rfl
   ·simp [h]
 rw [this]
end Go.Proofs.YtmbejoibeninmaaGreatDoor
