import Derived.Test.YtmcoedgkmciciaaGreatDoorLawV
namespace Go.Proofs.YtmcoedgkmciciaaGreatDoor
open Go Go.Fe

/-! ### Rounding -/
def scN (n : Nat) (k : Int) : Nat := if k < 0 then n else n * 10 ^ k.toNat
def scD (d : Nat) (k : Int) : Nat := if k < 0 then d * 10 ^ (-k).toNat else d
theorem scD_pos {d : Nat} (h : 0 < d) (k : Int) : 0 < scD d k := by
  unfold scD
  split
  · exact Nat.mul_pos h (pos_ten _)
  · exact h
theorem sc_dl {n d : Nat} {k : Int} (h1 : -2000 ≤ k) (h2 : k ≤ 2000) : dl (scN n k) ≤ dl n + 2001 ∧ dl (scD d k) ≤ dl d + 2001 := by
  unfold scN scD
  by_cases g : k < 0
  · rw [if_pos g, if_pos g]
    have := dl_ten (-k).toNat
    have := dl_mul d (10 ^ (-k).toNat)
    omega
  · rw [if_neg g, if_neg g]
    have := dl_ten k.toNat
    have := dl_mul n (10 ^ k.toNat)
    omega
theorem scaled9 {m : Bool} {n d : Nat} {k : Int} (h1 : -2000 ≤ k) (h2 : k ≤ 2000) (dn : dl n < 100000) (dd : dl d < 100000) : exact_number__scaled (N9 m n d) k = some (N9 m (scN n k) (scD d k), ()) := by
  unfold exact_number__scaled scN scD N9
  by_cases g : k < 0
  · obtain ⟨j, hj⟩ : ∃ j : Nat, k = -(j : Int) := ⟨(-k).toNat, by omega⟩
    subst hj
    have w0 : IntKind.i64.wrap (0 - -(j : Int)) = (j : Int) := by rw [wrap_i64 (by omega) (by omega)]; omega
    have ej : (- -(j : Int)).toNat = j := by omega
    have dj := dl_ten j
    rw [if_pos g, if_pos g, ej, decide_eq_true g, cond_true, w0, ten_eq (by omega), Option.bind_some]
    dsimp only
    rw [times_eq (by omega) (by omega)]
    rfl
  · obtain ⟨j, hj⟩ : ∃ j : Nat, k = (j : Int) := ⟨k.toNat, by omega⟩
    subst hj
    have ej : ((j : Int)).toNat = j := by omega
    have dj := dl_ten j
    rw [if_neg g, if_neg g, ej, decide_eq_false g, cond_false, ten_eq (by omega), Option.bind_some]
    dsimp only
    rw [times_eq (by omega) (by omega)]
    rfl
theorem scaled10 {m : Bool} {n d : Nat} {k : Int} (h1 : -2000 ≤ k) (h2 : k ≤ 2000) (dn : dl n < 100000) (dd : dl d < 100000) : chanceryref2_Rat__Scaled (N10 m n d) k = some (N10 m (scN n k) (scD d k), ()) := by
  unfold scN scD
  by_cases g : k < 0
  · obtain ⟨j, hj⟩ : ∃ j : Nat, k = -(j : Int) := ⟨(-k).toNat, by omega⟩
    subst hj
    have ej : (- -(j : Int)).toNat = j := by omega
    rw [if_pos g, if_pos g, ej]
    exact Scaled_down (by omega) (by omega) dd
  · obtain ⟨j, hj⟩ : ∃ j : Nat, k = (j : Int) := ⟨k.toNat, by omega⟩
    subst hj
    have ej : ((j : Int)).toNat = j := by omega
    rw [if_neg g, if_neg g, ej]
    exact Scaled_up (by omega) dn
def rnd (n d : Nat) : Nat := (n + n + d) / (d + d)
theorem rnd_dl (n d : Nat) : dl (rnd n d) ≤ 2 * dl n + dl d + 2 := by
  have h := dl_mono (Nat.div_le_self (n + n + d) (d + d))
  have a := dl_add (n + n) d
  have b := dl_add n n
  unfold rnd
  omega
theorem rounded9 {m : Bool} {n d : Nat} (hd : 0 < d) (dn : dl n < 20000) (dd : dl d < 20000) : exact_number__rounded (N9 m n d) = some (N9 m (rnd n d) 1, ()) := by
  have a := dl_add (n + n) d
  have b := dl_add n n
  have c := dl_add d d
  unfold exact_number__rounded N9 rnd
  dsimp only
  rw [nplus_eq (by omega) (by omega), Option.bind_some]
  dsimp only
  rw [nplus_eq (by omega) (by omega), Option.bind_some, nplus_eq (by omega) (by omega), Option.bind_some]
  dsimp only
  rw [divide_eq (by omega) (by omega) (by omega), Option.bind_some]
  rfl
theorem half_eq' : chanceryref2_Half = some (N10 false 1 2, ()) := rfl
theorem near_pos {n d : Nat} (hd : 0 < d) (dn : dl n < 5000) (dd : dl d < 5000) (k : Nat) : chanceryref2_Rat__Nearest_f (k + 1) (N10 false n d) = some (N10 false (rnd n d) 1, ()) := by
  have d1 : dl 1 = 1 := dl_ten 0
  have d2 : dl 2 = 1 := rfl
  have ha := add_eq (m1 := false) (m2 := false) (n1 := n) (d1 := d) (n2 := 1) (d2 := 2) (k := 5000) (by omega) (by omega) (by omega) (by omega) (by omega)
  have e1 : sumN false n d false 1 2 = n + n + d := by
    unfold sumN
    rw [if_pos rfl]
    omega
  have e2 : sumM false n d false 1 2 = false := by
    unfold sumM
    rw [if_pos rfl]
  rw [e1, e2] at ha
  have m1 := dl_mul d 2
  have a1 := dl_add (n + n) d
  have a2 := dl_add n n
  have hf := Floor_eq (m := false) (n := n + n + d) (d := d * 2) (by omega) (by omega) (by omega)
  have e3 : flN false (n + n + d) (d * 2) = rnd n d := by
    unfold flN rnd
    rw [if_neg (by simp), Nat.mul_two]
  rw [e3] at hf
  have hn : (N10 false n d).1 = false := rfl
  unfold chanceryref2_Rat__Nearest_f chanceryref2_Rat__Nearest_s
  rw [hn, cond_false, half_eq', Option.bind_some]
  dsimp only
  rw [ha, Option.bind_some]
  dsimp only
  rw [hf, Option.bind_some]
theorem near_neg {n d : Nat} (hd : 0 < d) (dn : dl n < 5000) (dd : dl d < 5000) (k : Nat) : chanceryref2_Rat__Nearest_f (k + 2) (N10 true n d) = some (N10 true (rnd n d) 1, ()) := by
  have h := near_pos hd dn dd k
  have hn : (N10 true n d).1 = true := rfl
  show chanceryref2_Rat__Nearest_s (chanceryref2_Rat__Nearest_f (k + 1)) (N10 true n d) = _
  unfold chanceryref2_Rat__Nearest_s
  rw [hn, cond_true, neg_N10, Option.bind_some]
  dsimp only
  rw [Bool.not_true, h, Option.bind_some]
  dsimp only
  rw [neg_N10, Option.bind_some]
  rfl
theorem Nearest_eq {m : Bool} {n d : Nat} (hd : 0 < d) (dn : dl n < 5000) (dd : dl d < 5000) : chanceryref2_Rat__Nearest (N10 m n d) = some (N10 m (rnd n d) 1, ()) := by
  unfold chanceryref2_Rat__Nearest
  have h : ∃ k, rounds = k + 2 := ⟨rounds - 2, by decide⟩
  obtain ⟨k, hk⟩ := h
  rw [hk]
  cases m with
  | false => exact near_pos hd dn dd (k + 1)
  | true => exact near_neg hd dn dd k
theorem rRound_eq {m : Bool} {n d : Nat} {k : Int} (hd : 0 < d) (h1 : -100 ≤ k) (h2 : k ≤ 100) (dn : dl n ≤ 300) (dd : dl d ≤ 300) : chanceryref2_Rat__Round (N10 m n d) k = some (N10 m (scN (rnd (scN n k) (scD d k)) (-k)) (scD 1 (-k)), ()) := by
  have d1 : dl 1 = 1 := dl_ten 0
  obtain ⟨a, b⟩ := sc_dl (n := n) (d := d) (k := k) (by omega) (by omega)
  have c := rnd_dl (scN n k) (scD d k)
  have w : IntKind.i64.wrap (0 - k) = -k := by rw [wrap_i64 (by omega) (by omega)]; omega
  unfold chanceryref2_Rat__Round
  rw [scaled10 (by omega) (by omega) (by omega) (by omega), Option.bind_some]
  dsimp only
  rw [Nearest_eq (scD_pos hd k) (by omega) (by omega), Option.bind_some]
  dsimp only
  rw [w, scaled10 (by omega) (by omega) (by omega) (by omega), Option.bind_some]
/-! ### Texts with places -/
def padded (q k : Nat) : Str := List.replicate (k + 1 - (txt q).length) 48 ++ txt q
def pointed (s : Str) (k : Nat) : Str := if 0 < k then s.take (s.length - k) ++ ([46] ++ s.drop (s.length - k)) else s
def decTxt (m : Bool) (q k : Nat) : Str := bif m && decide (q ≠ 0) then 45 :: pointed (padded q k) k else pointed (padded q k) k
theorem txt_len_le (q : Nat) : (txt q).length ≤ dl q + 1 := by
  by_cases h : q = 0
  · subst h
    rw [txt, decDigits_small (by omega)]
    simp
  · rw [txt_len (by omega)]
    omega
theorem padded_len (q k : Nat) : k + 1 ≤ (padded q k).length ∧ (padded q k).length ≤ k + dl q + 2 := by
  have := txt_len_le q
  unfold padded
  rw [List.length_append, List.length_replicate]
  omega
theorem pointed_len (s : Str) (k : Nat) : (pointed s k).length ≤ s.length + 1 := by
  unfold pointed
  split
  · simp; omega
  · omega
theorem point_cut {s : Str} {k : Nat} {X : Type} (h : k < s.length) (hs : s.length < 100000) (x : X) : (cond (decide (0 < (k : Int)))
  ((cut s 0 (IntKind.i64.wrap ((s.length : Int) - (k : Int)))).bind fun v5 =>
  (cat v5 [46]).bind fun v6 =>
  (cut s (IntKind.i64.wrap ((s.length : Int) - (k : Int))) (s.length : Int)).bind fun v7 =>
  (cat v6 v7).bind fun v8 =>
  some ((), v8, x, ()))
  (some ((), s, x, ())) : Option (Unit × (Str × (X × Unit)))) = some ((), pointed s k, x, ()) := by
  unfold pointed
  by_cases h0 : 0 < k
  · have w : IntKind.i64.wrap ((s.length : Int) - (k : Int)) = ((s.length - k : Nat) : Int) := by rw [wrap_i64 (by omega) (by omega)]; omega
    have c1 : cut s 0 ((s.length - k : Nat) : Int) = some (s.take (s.length - k)) := by
      have := cut_nat (xs := s) (a := 0) (b := s.length - k) (by omega) (by omega)
      simpa using this
    have c2 : cut s ((s.length - k : Nat) : Int) (s.length : Int) = some (s.drop (s.length - k)) := by
      have := cut_nat (xs := s) (a := s.length - k) (b := s.length) (by omega) (by omega)
      rwa [List.take_length] at this
    rw [if_pos h0, decide_eq_true (by omega), cond_true, w, c1, Option.bind_some, cat_ok (by simp; omega), Option.bind_some, c2, Option.bind_some, cat_ok (by simp; omega), Option.bind_some, List.append_assoc]
  · rw [if_neg h0, decide_eq_false (by omega), cond_false]
theorem decimal9 {m : Bool} {q d k : Nat} (hk : k ≤ 2000) (dq : dl q < 20000) : exact_number__decimal (N9 m q d) (k : Int) = some (decTxt m q k, ()) := by
  have hl := txt_len_le q
  obtain ⟨p1, p2⟩ := padded_len q k
  have p3 := pointed_len (padded q k) k
  have w : IntKind.i64.wrap (IntKind.i64.wrap ((k : Int) + 1) - ((txt q).length : Int)) = (k : Int) + 1 - ((txt q).length : Int) := by rw [wrap_i64 (n := (k : Int) + 1) (by omega) (by omega), wrap_i64 (by omega) (by omega)]
  have hm : mx 0 ((k : Int) + 1 - ((txt q).length : Int)) = ((k + 1 - (txt q).length : Nat) : Int) := by
    unfold mx
    split <;> omega
  have hr : sRepeat (no_index ([48], ((k + 1 - (txt q).length : Nat) : Int), ())) = some (List.replicate (k + 1 - (txt q).length) 48, ()) := by
    unfold sRepeat
    dsimp only
    rw [if_pos ⟨(by omega : (0 : Int) ≤ ((k + 1 - (txt q).length : Nat) : Int)), (by omega : ((k + 1 - (txt q).length : Nat) : Int) ≤ 9223372036854775807), by simp; omega⟩, Int.toNat_natCast, repeatL_one]
  have hc : cat (List.replicate (k + 1 - (txt q).length) 48) (txt q) = some (padded q k) := cat_ok (by rw [List.length_replicate]; omega)
  unfold exact_number__decimal N9
  dsimp only
  rw [sText_eq (by omega), Option.bind_some]
  dsimp only
  rw [w, hm, hr, Option.bind_some]
  dsimp only
  rw [hc, Option.bind_some]
  have hpc := point_cut (s := padded q k) (k := k) (x := ((m, rep B9 q, rep B9 d, ()) : NumD)) (by omega) (by omega)
  erw [hpc]
  rw [Option.bind_some]
  dsimp only
  unfold decTxt
  cases m with
  | false => rfl
  | true =>
    rw [cond_true, zero_eq, Option.bind_some, Option.bind_some]
    dsimp only
    by_cases h0 : q = 0
    · rw [decide_eq_true h0, decide_eq_false (by simp [h0])]
      rfl
    · rw [decide_eq_false h0, decide_eq_true h0, Bool.not_false, cond_true, cat_ok (by simp only [List.length_cons, List.length_nil]; omega)]
      rfl
theorem pad_halts {k : Nat} (hk : k ≤ 2000) (z : NumD) : ∀ f (s : Str), k + 1 - s.length = f → s.length < 100000 → Halts (chanceryref2_Rat__Fixed_l1 (k : Int)) f ((), s, z, ()) ((), List.replicate f 48 ++ s, z, ())
  | 0, s, h, hs => by
    refine .done ?_
    unfold chanceryref2_Rat__Fixed_l1
    dsimp only
    rw [decide_eq_false (by omega), cond_false]
    rfl
  | f + 1, s, h, hs => by
    have hr : List.replicate (f + 1) (48 : UInt8) ++ s = List.replicate f 48 ++ (48 :: s) := by
      rw [List.replicate_succ']
      simp
    rw [hr]
    refine .step ?_ (pad_halts hk z f (48 :: s) (by simp; omega) (by simp; omega))
    unfold chanceryref2_Rat__Fixed_l1
    dsimp only
    rw [decide_eq_true (by omega), cond_true, cat_ok (by simp; omega)]
    rfl
theorem rFixed_eq {m : Bool} {n d k : Nat} (hd : 0 < d) (hk : k ≤ 1500) (dn : dl n ≤ 300) (dd : dl d ≤ 300) : chanceryref2_Rat__Fixed (N10 m n d) (k : Int) = some (decTxt m (rnd (scN n k) (scD d k)) k, ()) := by
  obtain ⟨a, b⟩ := sc_dl (n := n) (d := d) (k := (k : Int)) (by omega) (by omega)
  have c := rnd_dl (scN n k) (scD d k)
  unfold chanceryref2_Rat__Fixed
  rw [scaled10 (by omega) (by omega) (by omega) (by omega), Option.bind_some]
  dsimp only
  rw [Nearest_eq (scD_pos hd k) (by omega) (by omega), Option.bind_some]
  generalize rnd (scN n k) (scD d k) = q at *
  have hl := txt_len_le q
  obtain ⟨p1, p2⟩ := padded_len q k
  have p3 := pointed_len (padded q k) k
  have hN : (N10 m q 1).2.1 = rep 10 q := rfl
  dsimp only
  rw [hN, rtext_eq (by omega), Option.bind_some]
  dsimp only
  have hp := (pad_halts (k := k) (by omega) (N10 m q 1) _ (txt q) rfl (by omega)).loop (by omega)
  rw [hp, Option.bind_some]
  dsimp only
  have hpc := point_cut (s := padded q k) (k := k) (x := N10 m q 1) (by omega) (by omega)
  erw [hpc]
  rw [Option.bind_some]
  dsimp only
  rw [sign_eq, Option.bind_some]
  dsimp only
  unfold decTxt sgnOf
  by_cases h0 : q = 0
  · rw [if_pos h0, decide_eq_false (p := q ≠ 0) (by simp [h0])]
    cases m <;> rfl
  · rw [if_neg h0, decide_eq_true (p := q ≠ 0) h0]
    cases m with
    | false => rfl
    | true =>
      rw [cond_true, decide_eq_true (by decide), cond_true, cat_ok (by simp only [List.length_cons, List.length_nil]; omega)]
      rfl
/-! ### The program rounds -/
theorem Floor_good {a : FracD} {m : Bool} {n d : Nat} (hr : exact_read a = some (N9 m n d, 0, ())) (hd : 0 < d) (dn : dl n ≤ 300) (dd : dl d ≤ 300) : exact_Floor a = some (fracOut m (flN m n d) 1) := by
  have d1 : dl 1 = 1 := dl_ten 0
  have hq := dl_mono (Nat.div_le_self n d)
  have ha := dl_add (n / d) 1
  have hfl : dl (flN m n d) ≤ 400 := by
    unfold flN
    split <;> omega
  have hw := write_eq (m := m) (n := flN m n d) (d := 1) (by omega) (by omega) (by omega)
  unfold exact_Floor
  rw [hr, Option.bind_some]
  unfold N9 at *
  dsimp only
  rw [decide_eq_true rfl, Bool.not_true, cond_false, divide_eq hd (by omega) (by omega), Option.bind_some]
  dsimp only
  unfold flN at hw ⊢
  cases m with
  | false =>
    rw [if_neg (by simp)] at hw ⊢
    rw [cond_false, Option.bind_some]
    dsimp only
    rw [cond_false, Option.bind_some]
    dsimp only
    rw [one9, hw]
    rfl
  | true =>
    rw [cond_true, zero_eq, Option.bind_some, Option.bind_some]
    dsimp only
    by_cases h : n % d = 0
    · rw [if_neg (by simp [h])] at hw ⊢
      rw [decide_eq_true h, Bool.not_true, cond_false, Option.bind_some]
      dsimp only
      rw [one9, hw]
      rfl
    · rw [if_pos ⟨rfl, h⟩] at hw ⊢
      rw [decide_eq_false h, Bool.not_false, cond_true, one9, nplus_eq (by omega) (by omega), Option.bind_some, Option.bind_some]
      dsimp only
      rw [hw]
      rfl
theorem rounding_core {m : Bool} {n d : Nat} {k : Int} (hd : 0 < d) (h1 : -100 ≤ k) (h2 : k ≤ 100) (dn : dl n ≤ 300) (dd : dl d ≤ 300) {X : Type} (F : NumD → FracD → Int → Option X) :
    ((exact_number__scaled (N9 m n d) k).bind fun v4 =>
  (exact_number__rounded v4.1).bind fun v5 =>
  (exact_number__scaled v5.1 (IntKind.i64.wrap (0 - k))).bind fun v6 =>
  (exact_number__write v6.1).bind fun v7 =>
  F v5.1 v7.1 v7.2.1) = F (N9 m (rnd (scN n k) (scD d k)) 1) (fracOut m (scN (rnd (scN n k) (scD d k)) (-k)) (scD 1 (-k))).1 (fracOut m (scN (rnd (scN n k) (scD d k)) (-k)) (scD 1 (-k))).2.1 := by
  have d1 : dl 1 = 1 := dl_ten 0
  obtain ⟨a, b⟩ := sc_dl (n := n) (d := d) (k := k) (by omega) (by omega)
  have c := rnd_dl (scN n k) (scD d k)
  obtain ⟨e, f⟩ := sc_dl (n := rnd (scN n k) (scD d k)) (d := 1) (k := -k) (by omega) (by omega)
  have w : IntKind.i64.wrap (0 - k) = -k := by rw [wrap_i64 (by omega) (by omega)]; omega
  rw [scaled9 (by omega) (by omega) (by omega) (by omega), Option.bind_some]
  dsimp only
  rw [rounded9 (scD_pos hd k) (by omega) (by omega), Option.bind_some]
  dsimp only
  rw [w, scaled9 (by omega) (by omega) (by omega) (by omega), Option.bind_some]
  dsimp only
  rw [write_N9 (scD_pos (by omega) _) (by omega) (by omega), Option.bind_some]
theorem Round_good {a : FracD} {m : Bool} {n d : Nat} {k : Int} (hr : exact_read a = some (N9 m n d, 0, ())) (hd : 0 < d) (dn : dl n ≤ 300) (dd : dl d ≤ 300) : exact_Round a k = some (if k < -100 ∨ 100 < k then (([], [], ()), 2, ()) else fracOut m (scN (rnd (scN n k) (scD d k)) (-k)) (scD 1 (-k))) := by
  unfold exact_Round
  rw [hr, Option.bind_some]
  dsimp only
  rw [decide_eq_true rfl, Bool.not_true, cond_false]
  by_cases g1 : k < -100
  · rw [if_pos (.inl g1), decide_eq_true g1]
    rfl
  · rw [decide_eq_false g1, cond_false, Option.bind_some]
    dsimp only
    by_cases g2 : 100 < k
    · rw [if_pos (.inr g2), decide_eq_true g2]
      rfl
    · rw [if_neg (by omega), decide_eq_false g2, cond_false]
      exact rounding_core hd (by omega) (by omega) dn dd (fun _ x y => some (x, y, ()))
theorem Fixed_good {a : FracD} {m : Bool} {n d : Nat} {k : Int} (hr : exact_read a = some (N9 m n d, 0, ())) (hd : 0 < d) (dn : dl n ≤ 300) (dd : dl d ≤ 300) : exact_Fixed a k = some (if k < 0 ∨ 100 < k then ([], 2, ()) else if (fracOut m (scN (rnd (scN n k) (scD d k)) (-k)) (scD 1 (-k))).2.1 ≠ 0 then ([], (fracOut m (scN (rnd (scN n k) (scD d k)) (-k)) (scD 1 (-k))).2.1, ()) else (decTxt m (rnd (scN n k) (scD d k)) k.toNat, 0, ())) := by
  unfold exact_Fixed
  rw [hr, Option.bind_some]
  dsimp only
  rw [decide_eq_true rfl, Bool.not_true, cond_false]
  by_cases g1 : k < 0
  · rw [if_pos (.inl g1), decide_eq_true g1]
    rfl
  · rw [decide_eq_false g1, cond_false, Option.bind_some]
    dsimp only
    by_cases g2 : 100 < k
    · rw [if_pos (.inr g2), decide_eq_true g2]
      rfl
    · rw [if_neg (by omega), decide_eq_false g2, cond_false]
      have hcore := rounding_core (m := m) (n := n) (d := d) (k := k) hd (by omega) (by omega) dn dd (fun v4 _ y => cond (!decide (y = 0)) (some (([] : Str), y, ())) ((exact_number__decimal v4 k).bind fun v7 => some (v7.1, (0 : Int), ())))
      refine hcore.trans ?_
      obtain ⟨a, b⟩ := sc_dl (n := n) (d := d) (k := k) (by omega) (by omega)
      have c := rnd_dl (scN n k) (scD d k)
      by_cases g : (fracOut m (scN (rnd (scN n k) (scD d k)) (-k)) (scD 1 (-k))).2.1 = 0
      · rw [if_neg (fun h => h g), decide_eq_true g, Bool.not_true, cond_false]
        have hdec := decimal9 (m := m) (q := rnd (scN n k) (scD d k)) (d := 1) (k := k.toNat) (by omega) (by omega)
        rw [show ((k.toNat : Nat) : Int) = k by omega] at hdec
        rw [hdec]
        rfl
      · rw [if_pos g, decide_eq_false g]
        rfl
end Go.Proofs.YtmcoedgkmciciaaGreatDoor
