import Derived.Test.YtmcoedgkmciciaaGreatDoorLawT
namespace Go.Proofs.YtmcoedgkmciciaaGreatDoor
open Go Go.Fe

/-! ### Powers of ten -/
theorem dec_zeros (s : Str) (n : Nat) : dec (s ++ List.replicate n 48) = dec s * 10 ^ n := by
  rw [dec_append, List.length_replicate]
  have : dec (List.replicate n 48) = 0 := by
    induction n with
    | zero => rfl
    | succ n ih => rw [List.replicate_succ', dec_snoc, ih]; rfl
  omega
theorem ten_eq {n : Nat} (h : n < 5000) : exact_ten (n : Int) = some (rep B9 (10 ^ n), ()) := by
  have hr : sRepeat (no_index ([48], (n : Int), ())) = some (List.replicate n 48, ()) := by
    unfold sRepeat
    dsimp only
    rw [if_pos ⟨(by omega : (0 : Int) ≤ (n : Int)), (by omega : (n : Int) ≤ 9223372036854775807), by simp; omega⟩, Int.toNat_natCast, repeatL_one]
  have hc : cat [49] (List.replicate n (48 : UInt8)) = some ([49] ++ List.replicate n 48) := cat_ok (by simp; omega)
  have hd : dec ([49] ++ List.replicate n 48) = 10 ^ n := by
    rw [dec_zeros]
    simp [dec]
  have ha : (([49] ++ List.replicate n 48 : Str)).all isDigit = true := by
    rw [List.all_append, Bool.and_eq_true]
    refine ⟨rfl, List.all_eq_true.2 fun c hc => ?_⟩
    rw [(List.mem_replicate.1 hc).2]
    rfl
  unfold exact_ten
  rw [hr, Option.bind_some]
  dsimp only
  rw [hc, Option.bind_some, parse_eq ha (by simp; omega), hd]
  rfl
theorem Ten_eq {n : Nat} (h : n < 5000) : chanceryref2_Ten (n : Int) = some (rep 10 (10 ^ n), ()) := by
  have hin : inb (n : Int) (List.replicate (n + 1) (0 : Int)).length = true := inb_nat (by simp)
  have hs : (List.replicate (n + 1) (0 : Int)).set n 1 = List.replicate n 0 ++ [1] := by
    rw [List.replicate_succ', set_mid (by simp)]
  have hz : ∀ n, val 10 (List.replicate n 0) = 0 := fun n => by
    induction n with
    | zero => rfl
    | succ n ih => simp [List.replicate_succ, val, ih]
  have hr : List.replicate n (0 : Int) ++ [1] = rep 10 (10 ^ n) := by
    refine rep_eq (by decide) ⟨fun x hx => ?_, by simp⟩ ?_
    · rcases List.mem_append.1 hx with hx | hx
      · rw [(List.mem_replicate.1 hx).2]
        decide
      · rw [List.mem_singleton] at hx
        subst hx
        decide
    · rw [val_append, hz, List.length_replicate]
      simp [val]
  unfold chanceryref2_Ten
  rw [wrapI1 (by omega), mk_nat (by omega), Option.bind_some, hin, chk_t, Option.bind_some]
  dsimp only
  rw [Int.toNat_natCast, hs, hr]
theorem pos_ten (n : Nat) : 0 < 10 ^ n := Nat.pow_pos (by omega)
theorem Scaled_up {m : Bool} {n d k : Nat} (hk : k < 2500) (dn : dl n < 100000) : chanceryref2_Rat__Scaled (N10 m n d) (k : Int) = some (N10 m (n * 10 ^ k) d, ()) := by
  have := dl_ten k
  unfold chanceryref2_Rat__Scaled N10
  dsimp only
  rw [decide_eq_false (by omega), cond_false, Ten_eq (by omega), Option.bind_some]
  dsimp only
  rw [rtimes_eq (by omega) (by omega), Option.bind_some]
theorem Scaled_down {m : Bool} {n d k : Nat} (hk : k < 2500) (h0 : 0 < k) (dd : dl d < 100000) : chanceryref2_Rat__Scaled (N10 m n d) (-(k : Int)) = some (N10 m n (d * 10 ^ k), ()) := by
  have := dl_ten k
  have w : IntKind.i64.wrap (0 - -(k : Int)) = (k : Int) := by rw [wrap_i64 (by omega) (by omega)]; omega
  unfold chanceryref2_Rat__Scaled N10
  dsimp only
  rw [decide_eq_true (by omega), cond_true, w, Ten_eq (by omega), Option.bind_some]
  dsimp only
  rw [rtimes_eq (by omega) (by omega), Option.bind_some]
/-! ### The reference rounds down -/
def flN (m : Bool) (n d : Nat) : Nat := if m = true ∧ n % d ≠ 0 then n / d + 1 else n / d
theorem Floor_eq {m : Bool} {n d : Nat} (hd : 0 < d) (dn : dl n < 100000) (dd : dl d < 100000) : chanceryref2_Rat__Floor (N10 m n d) = some (N10 m (flN m n d) 1, ()) := by
  have d1 : dl 1 = 1 := dl_ten 0
  have hq := dl_mono (Nat.div_le_self n d)
  have hl := len10 (n % d)
  have hlen : decide (0 < ((rep 10 (n % d)).length : Int)) = decide (n % d ≠ 0) := by
    by_cases h : n % d = 0
    · rw [h]; rfl
    · have := dl_pos (n := n % d) (by omega)
      rw [decide_eq_true h, decide_eq_true (by omega)]
  unfold chanceryref2_Rat__Floor N10 flN
  dsimp only
  rw [rdivide_eq hd (by omega) (by omega), Option.bind_some]
  dsimp only
  rw [hlen]
  cases m with
  | false => rfl
  | true =>
    by_cases h : n % d = 0
    · rw [if_neg (by simp [h]), decide_eq_false (by simp [h])]
      rfl
    · rw [if_pos ⟨rfl, h⟩, decide_eq_true h, cond_true, Option.bind_some]
      dsimp only
      rw [cond_true, one10, rplus_eq (by omega) (by omega)]
      rfl
/-! ### The root -/
theorem root_halts {a s : Nat} (h : IsRoot s a) (h0 : 0 < s) (da : dl a < 5000) : ∀ k x, s ≤ x → x - s < 2 ^ k → dl x < 5000 → Halts (exact_nat__root_l1 (rep B9 a)) k (rep B9 x, ()) (rep B9 s, ())
  | k, x, hx, hk, dx => by
    have e2 : ([2] : List Int) = rep B9 2 := rfl
    have d2 : dl 2 = 1 := rfl
    have hq := dl_mono (Nat.div_le_self a x)
    have hs := dl_add x (a / x)
    have hy := dl_mono (Nat.div_le_self (x + a / x) 2)
    obtain ⟨c, c1, c2, c3⟩ := ncompare_eq (a := (x + a / x) / 2) (b := x) (by omega) (by omega)
    have hst : exact_nat__root_l1 (rep B9 a) (rep B9 x, ()) = cond (decide (0 ≤ c)) (some (.inr (rep B9 x, ()))) (some (.inl (rep B9 ((x + a / x) / 2), ()))) := by
      unfold exact_nat__root_l1
      dsimp only
      rw [divide_eq (by omega) (by omega) (by omega), Option.bind_some]
      dsimp only
      rw [nplus_eq (by omega) (by omega), Option.bind_some]
      dsimp only
      rw [e2, divide_eq (by omega) (by omega) (by omega), Option.bind_some]
      dsimp only
      rw [c1, Option.bind_some]
    by_cases g : s = x
    · subst g
      have := root_at h h0
      rw [decide_eq_true (by generalize (s + a / s) / 2 = y at *; omega), cond_true] at hst
      exact .done hst
    · obtain ⟨r1, r2, r3⟩ := root_step h (show s < x by omega)
      generalize (x + a / x) / 2 = y at *
      rw [decide_eq_false (by omega), cond_false] at hst
      cases k with
      | zero => omega
      | succ k =>
        rw [Nat.pow_succ] at hk
        have := dl_mono (Nat.le_of_lt r2)
        exact .step hst (root_halts h h0 da k y r1 (by omega) (by omega))
theorem root_eq {a : Nat} (da : dl a < 2000) : ∃ s, IsRoot s a ∧ exact_nat__root (rep B9 a) = some (rep B9 s, ()) := by
  obtain ⟨s, hs⟩ := root_ex a
  refine ⟨s, hs, ?_⟩
  unfold exact_nat__root
  rw [zero_eq, Option.bind_some]
  dsimp only
  by_cases h0 : a = 0
  · subst h0
    have : s = 0 := by
      rcases Nat.eq_zero_or_pos s with e | e
      · exact e
      · have := Nat.mul_le_mul e e
        have := hs.1
        omega
    subst this
    rfl
  · have hs0 : 0 < s := by
      rcases Nat.eq_zero_or_pos s with e | e
      · subst e
        have := hs.2
        omega
      · exact e
    have hL := dl_pos (n := a) (by omega)
    have w1 : IntKind.i64.wrap ((dl a : Int) + 1) = ((dl a + 1 : Nat) : Int) := wrapI1 (by omega)
    have q1 : quo .i64 ((dl a + 1 : Nat) : Int) 2 = some (((dl a + 1) / 2 : Nat) : Int) := quo_nat (b := 2) (by omega) (by omega)
    have w2 : IntKind.i64.wrap ((((dl a + 1) / 2 : Nat) : Int) + 1) = (((dl a + 1) / 2 + 1 : Nat) : Int) := wrapI1 (by omega)
    rw [decide_eq_false h0, cond_false, sText_eq (by omega), Option.bind_some]
    dsimp only
    rw [txt_len (by omega), w1, q1, Option.bind_some, w2, ten_eq (by omega), Option.bind_some]
    have hx : s ≤ 10 ^ ((dl a + 1) / 2 + 1) := by
      rcases Nat.lt_or_ge (10 ^ ((dl a + 1) / 2 + 1)) s with h | h
      · exfalso
        have h1 := Nat.mul_le_mul (Nat.le_of_lt h) (Nat.le_of_lt h)
        rw [← Nat.pow_add] at h1
        have h2 := lt_ten a
        have h3 : (10 : Nat) ^ dl a ≤ 10 ^ ((dl a + 1) / 2 + 1 + ((dl a + 1) / 2 + 1)) := Nat.pow_le_pow_right (by omega) (by omega)
        have := hs.1
        omega
      · exact h
    have dx := dl_ten ((dl a + 1) / 2 + 1)
    have hlt := lt_two (10 ^ ((dl a + 1) / 2 + 1))
    generalize hX : 10 ^ ((dl a + 1) / 2 + 1) = X at *
    have hh := root_halts hs hs0 (by omega) (4 * dl X) X hx (by generalize 2 ^ (4 * dl X) = P at *; omega) (by omega)
    rw [hh.loop (by omega)]
    rfl
/-- The fraction that is written. -/
theorem ratOf_out {s t : Nat} (ht : 0 < t) (ds : dl s ≤ 300) (dt : dl t ≤ 300) : ∃ u v, chanceryref2_RatOf (fracOut false s t).1 = some (N10 false u v, ()) ∧ (fracOut false s t).2.1 = 0 ∧ 0 < v ∧ u * t = s * v ∧ dl u ≤ 300 ∧ dl v ≤ 300 := by
  have d1 : dl 1 = 1 := dl_ten 0
  unfold fracOut
  by_cases h0 : s = 0
  · rw [if_pos h0]
    refine ⟨0, 1, ?_, rfl, by omega, by rw [h0, Nat.zero_mul, Nat.zero_mul], by decide, by omega⟩
    unfold chanceryref2_RatOf
    dsimp only
    have e1 := natof_txt (n := 0) (by decide)
    have e2 := natof_txt (n := 1) (by omega)
    rw [show txt 0 = [48] from decDigits_small (by omega)] at e1
    rw [show txt 1 = [49] from decDigits_small (by omega)] at e2
    rw [e1, e2]
    rfl
  · have hg0 : 0 < s.gcd t := Nat.gcd_pos_of_pos_left t (by omega)
    have l1 := dl_mono (Nat.div_le_self s (s.gcd t))
    have l2 := dl_mono (Nat.div_le_self t (s.gcd t))
    have c1 : s.gcd t * (s / s.gcd t) = s := Nat.mul_div_cancel' (Nat.gcd_dvd_left s t)
    have c2 : s.gcd t * (t / s.gcd t) = t := Nat.mul_div_cancel' (Nat.gcd_dvd_right s t)
    have p1 := Nat.div_pos (Nat.gcd_le_left t (show 0 < s by omega)) hg0
    have p2 := Nat.div_pos (Nat.gcd_le_right s ht) hg0
    rw [if_neg h0, if_neg (by omega)]
    generalize s.gcd t = g at *
    generalize s / g = u at *
    generalize t / g = v at *
    refine ⟨u, v, ?_, rfl, p2, by rw [← c1, ← c2]; grind, by omega, by omega⟩
    dsimp only
    rw [cond_false]
    unfold chanceryref2_RatOf
    dsimp only
    rw [natof_txt (by omega), natof_txt (by omega)]
    cases ht : txt u with
    | nil => exact absurd ht (txt_ne u)
    | cons c r =>
      have h2 : ¬((c.toNat : Nat) : Int) = 45 := fun e => by
        have hh := txt_head u
        rw [ht] at hh
        exact hh (by
          have : (45 : UInt8).toNat = 45 := rfl
          rw [List.head?_cons, UInt8.toNat_inj.1 (show c.toNat = (45 : UInt8).toNat by omega)])
      rw [idx_zero, List.getElem?_cons_zero, Option.bind_some, ofByte_eq, decide_eq_false h2]
      rfl
theorem cmp_sign (n1 d1 n2 d2 : Nat) : (sgnOf (sumM false n1 d1 (!false) n2 d2) (sumN false n1 d1 (!false) n2 d2) ≤ 0 ↔ n1 * d2 ≤ n2 * d1) ∧ (0 < sgnOf (sumM false n1 d1 (!false) n2 d2) (sumN false n1 d1 (!false) n2 d2) ↔ n2 * d1 < n1 * d2) ∧ (sgnOf (sumM false n1 d1 (!false) n2 d2) (sumN false n1 d1 (!false) n2 d2) = 0 ↔ n1 * d2 = n2 * d1) := by
  unfold sgnOf sumM sumN
  simp only [Bool.not_false, Bool.false_eq_true, if_false]
  generalize n1 * d2 = p
  generalize n2 * d1 = q
  by_cases h : q ≤ p
  · simp only [h, if_true, cond_false]
    by_cases h2 : p - q = 0
    · rw [if_pos h2]
      exact ⟨by omega, by omega, by omega⟩
    · rw [if_neg h2]
      exact ⟨by omega, by omega, by omega⟩
  · simp only [h, if_false, cond_true]
    by_cases h2 : q - p = 0
    · rw [if_pos h2]
      exact ⟨by omega, by omega, by omega⟩
    · rw [if_neg h2]
      exact ⟨by omega, by omega, by omega⟩
theorem dl_sq {s R K : Nat} (h : s * s ≤ R) (hR : dl R ≤ 2 * K) : dl s ≤ K := by
  rw [dl_le]
  rcases Nat.lt_or_ge s (10 ^ K) with h2 | h2
  · exact h2
  · exfalso
    have h1 := Nat.mul_le_mul h2 h2
    rw [← Nat.pow_add, ← Nat.two_mul] at h1
    have h3 := dl_le.1 hR
    omega
theorem Root_good {a : FracD} {x d n : Nat} (hr : exact_read a = some (N9 false x d, 0, ())) (hd : 0 < d) (hn : n ≤ 100) (dx : dl x ≤ 300) (dd : dl d ≤ 300) : ∃ s, IsRoot s (x * 10 ^ (2 * n) / d) ∧ exact_Root a (n : Int) = some (fracOut false s (10 ^ n)) ∧ dl s ≤ 300 := by
  have t1 := dl_ten (2 * n)
  have t2 := dl_ten n
  have m1 := dl_mul x (10 ^ (2 * n))
  have m2 := dl_mono (Nat.div_le_self (x * 10 ^ (2 * n)) d)
  obtain ⟨s, hs, hroot⟩ := root_eq (a := x * 10 ^ (2 * n) / d) (by omega)
  have ds : dl s ≤ 300 := dl_sq hs.1 (by omega)
  refine ⟨s, hs, ?_, ds⟩
  have w : IntKind.i64.wrap (2 * (n : Int)) = ((2 * n : Nat) : Int) := by rw [wrap_i64 (by omega) (by omega)]; omega
  have hw := write_eq (m := false) (n := s) (d := 10 ^ n) (pos_ten n) (by omega) (by omega)
  unfold exact_Root
  rw [hr, Option.bind_some]
  unfold N9
  dsimp only
  rw [decide_eq_true rfl, Bool.not_true, cond_false, cond_false, decide_eq_false (by omega), cond_false, Option.bind_some]
  dsimp only
  rw [decide_eq_false (by omega), cond_false, w, ten_eq (by omega), Option.bind_some]
  dsimp only
  rw [times_eq (by omega) (by omega), Option.bind_some]
  dsimp only
  rw [divide_eq hd (by omega) (by omega), Option.bind_some]
  dsimp only
  rw [hroot, Option.bind_some, ten_eq (by omega), Option.bind_some]
  dsimp only
  rw [hw]
  rfl
theorem root_law {a : FracD} {n : Int} (h1 : a.1.length < 100000000) (h2 : a.2.1.length < 100000000) : chancerylaw2_ExactRootMatches a n = some (true, ()) := by
  unfold chancerylaw2_ExactRootMatches
  rw [fractions_eq, Option.bind_some]
  dsimp only
  rw [Bool.not_true, cond_false, fracError_eq h1 h2]
  by_cases ha : fracErr a = 0
  · have ga := good_of ha
    have hr : exact_read a = some (N9 (signOf a.1) (dec (body a.1)) (dec a.2.1), 0, ()) := read_good h1 h2 ha
    have hR : chanceryref2_RatOf a = some (N10 (signOf a.1) (dec (body a.1)) (dec a.2.1), ()) := ratOf_eq ga
    have e1 := ga.dln
    have e2 := ga.dld
    have e3 := ga.pos
    have e5 := ga.neg
    generalize signOf a.1 = m at *
    generalize dec (body a.1) = x at *
    generalize dec a.2.1 = d at *
    cases m with
    | true =>
      have hx := e5 rfl
      have hs : sgnOf true x = -1 := by
        unfold sgnOf
        rw [if_neg (by omega)]
        rfl
      have hRoot : exact_Root a n = some (([], [], ()), 1, ()) := by
        unfold exact_Root
        rw [hr, Option.bind_some]
        rfl
      simp only [hRoot, Option.bind_some, ha, decide_true, Bool.not_true, cond_false, hR, sign_eq, hs]
      rfl
    | false =>
      have hs : ¬sgnOf false x < 0 := by
        unfold sgnOf
        split
        · omega
        · decide
      by_cases hn : n < 0 ∨ 100 < n
      · have hRoot : exact_Root a n = some (([], [], ()), 2, ()) := by
          unfold exact_Root
          rw [hr, Option.bind_some]
          unfold N9
          dsimp only
          rw [decide_eq_true rfl, Bool.not_true, cond_false, cond_false]
          by_cases g : n < 0
          · rw [decide_eq_true g]
            rfl
          · rw [decide_eq_false g, cond_false, Option.bind_some]
            dsimp only
            rw [decide_eq_true (by omega)]
            rfl
        have hc : ∀ f : FracD, (cond (decide (n < 0)) (some ((), (), true, a, f, ())) (some ((), (), (decide (100 < n)), a, f, ())) : Option (Unit × (Unit × (Bool × ((Str × (Str × Unit)) × ((Str × (Str × Unit)) × Unit)))))) = some ((), (), true, a, f, ()) := fun f => by
          by_cases g : n < 0
          · rw [decide_eq_true g]; rfl
          · rw [decide_eq_false g, cond_false, decide_eq_true (show 100 < n by omega)]
        simp only [hRoot, Option.bind_some, ha, decide_true, Bool.not_true, cond_false, hR, sign_eq, hs, decide_false]
        rw [hc, Option.bind_some]
        rfl
      · obtain ⟨k, rfl⟩ : ∃ k : Nat, n = (k : Int) := ⟨n.toNat, by omega⟩
        obtain ⟨s, r1, r2, r3⟩ := Root_good hr e3 (n := k) (by omega) e1 e2
        have tk := dl_ten k
        obtain ⟨u, v, o1, o2, o3, o4, o5, o6⟩ := ratOf_out (s := s) (t := 10 ^ k) (pos_ten k) r3 (by omega)
        have hc : ∀ f : FracD, (cond (decide ((k : Int) < 0)) (some ((), (), true, a, f, ())) (some ((), (), (decide (100 < (k : Int))), a, f, ())) : Option (Unit × (Unit × (Bool × ((Str × (Str × Unit)) × ((Str × (Str × Unit)) × Unit)))))) = some ((), (), false, a, f, ()) := fun f => by
          rw [decide_eq_false (by omega), cond_false, decide_eq_false (by omega)]
        have d1 : dl 1 = 1 := dl_ten 0
        have m1 := dl_mul u (10 ^ k)
        have m2 := dl_mul v (10 ^ k)
        have m3 := dl_mul u u
        have m4 := dl_mul v v
        have hadd := add_eq (m1 := false) (m2 := false) (n1 := u) (d1 := v) (n2 := 1) (d2 := 10 ^ k) (k := 300) (by omega) (by omega) (by omega) (by omega) (by omega)
        have hsum : sumN false u v false 1 (10 ^ k) = u * 10 ^ k + v := by
          unfold sumN
          rw [if_pos rfl, Nat.one_mul]
        have hsm : sumM false u v false 1 (10 ^ k) = false := by
          unfold sumM
          rw [if_pos rfl]
        rw [hsum, hsm] at hadd
        have hten : N10 false 1 (10 ^ k) = (false, [1], rep 10 (10 ^ k), ()) := rfl
        rw [hten] at hadd
        have hsc := Scaled_up (m := false) (n := u) (d := v) (k := k) (by omega) (by omega)
        have hfl := Floor_eq (m := false) (n := u * 10 ^ k) (d := v) o3 (by omega) (by omega)
        have hfn : flN false (u * 10 ^ k) v = s := by
          unfold flN
          rw [if_neg (by simp), o4, Nat.mul_div_cancel _ o3]
        rw [hfn] at hfl
        have a1 := dl_add (u * 10 ^ k) v
        have m5 := dl_mul (u * 10 ^ k + v) (u * 10 ^ k + v)
        have m6 := dl_mul (v * 10 ^ k) (v * 10 ^ k)
        have hc1 := Cmp_eq (m1 := false) (m2 := false) (n1 := u * 10 ^ k) (d1 := v) (n2 := s) (d2 := 1) (k := 2000) (by omega) (by omega) (by omega) (by omega) (by omega)
        have hz : sgnOf (sumM false (u * 10 ^ k) v (!false) s 1) (sumN false (u * 10 ^ k) v (!false) s 1) = 0 := (cmp_sign _ _ _ _).2.2.2 (by rw [o4, Nat.mul_one])
        rw [hz] at hc1
        have hmul := mul_eq (m1 := false) (m2 := false) (n1 := u) (d1 := v) (n2 := u) (d2 := v) (by omega) (by omega) (by omega) (by omega)
        have hc2 := Cmp_eq (m1 := false) (m2 := false) (n1 := u * u) (d1 := v * v) (n2 := x) (d2 := d) (k := 2000) (by omega) (by omega) (by omega) (by omega) (by omega)
        have hmul2 := mul_eq (m1 := false) (m2 := false) (n1 := u * 10 ^ k + v) (d1 := v * 10 ^ k) (n2 := u * 10 ^ k + v) (d2 := v * 10 ^ k) (by omega) (by omega) (by omega) (by omega)
        have hc3 := Cmp_eq (m1 := false) (m2 := false) (n1 := (u * 10 ^ k + v) * (u * 10 ^ k + v)) (d1 := v * 10 ^ k * (v * 10 ^ k)) (n2 := x) (d2 := d) (k := 2000) (by omega) (by omega) (by omega) (by omega) (by omega)
        have hT : (10 : Nat) ^ (2 * k) = 10 ^ k * 10 ^ k := by rw [← Nat.pow_add, Nat.two_mul]
        have hTp := pos_ten k
        have hle : u * u * d ≤ x * (v * v) := by
          have h5 : s * s * d ≤ x * 10 ^ (2 * k) := by
            have := Nat.mul_le_mul_right d r1.1
            exact Nat.le_trans this (Nat.div_mul_le_self _ _)
          rw [hT] at h5
          have h6 := Nat.mul_le_mul_right (v * v) h5
          have h7 : (u * u * d) * (10 ^ k * 10 ^ k) ≤ (x * (v * v)) * (10 ^ k * 10 ^ k) := by
            generalize (10 : Nat) ^ k = T at *
            have e : (u * u * d) * (T * T) = s * s * d * (v * v) := by
              have : (u * T) * (u * T) = (s * v) * (s * v) := by rw [o4]
              grind
            rw [e]
            grind
          exact Nat.le_of_mul_le_mul_right h7 (Nat.mul_pos hTp hTp)
        have hgt : x * (v * 10 ^ k * (v * 10 ^ k)) < (u * 10 ^ k + v) * (u * 10 ^ k + v) * d := by
          have h5 : x * 10 ^ (2 * k) < (s + 1) * (s + 1) * d := by
            exact Nat.lt_mul_of_div_lt r1.2 e3
          rw [hT] at h5
          have h6 : x * (10 ^ k * 10 ^ k) * (v * v) < (s + 1) * (s + 1) * d * (v * v) := Nat.mul_lt_mul_of_pos_right h5 (Nat.mul_pos o3 o3)
          rw [o4]
          generalize (10 : Nat) ^ k = T at *
          have e1 : x * (v * T * (v * T)) = x * (T * T) * (v * v) := by grind
          have e2 : (s * v + v) * (s * v + v) * d = (s + 1) * (s + 1) * d * (v * v) := by grind
          rw [e1, e2]
          exact h6
        have s1 := (cmp_sign (u * u) (v * v) x d).1.2 hle
        have s2 := (cmp_sign ((u * 10 ^ k + v) * (u * 10 ^ k + v)) (v * 10 ^ k * (v * 10 ^ k)) x d).2.1.2 hgt
        have s3 : 0 ≤ sgnOf false u := by
          unfold sgnOf
          split
          · omega
          · decide
        simp only [r2, Option.bind_some, ha, decide_true, Bool.not_true, cond_false, hR, sign_eq, hs, decide_false]
        rw [hc, Option.bind_some]
        dsimp only
        rw [cond_false, Option.bind_some]
        dsimp only
        simp only [decide_true, Bool.not_true, cond_false, o2, o1, Option.bind_some, Ten_eq (show k < 5000 by omega), hadd, hsc, hfl, hc1, cond_true, hmul, hR, hc2, s1, beq_self_eq_true, hmul2, hc3, s2, sign_eq, s3]
  · have hRoot : exact_Root a n = some (([], [], ()), fracErr a, ()) := by
      simp only [exact_Root, read_bad h1 h2 ha, Option.bind_some, ha, decide_false, Bool.not_false, cond_true]
    simp only [hRoot, Option.bind_some, ha, decide_false, Bool.not_false, cond_true]
    simp [Ty.beq]
end Go.Proofs.YtmcoedgkmciciaaGreatDoor
