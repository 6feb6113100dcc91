import Derived.Test.YtmcoedgkmciciaaGreatDoorLawZ
namespace Go.Proofs.YtmcoedgkmciciaaGreatDoor
open Go Go.Fe

theorem cut_tailY {s : Str} (h : s ≠ []) : cut s 1 (s.length : Int) = some s.tail := by
  cases s with
  | nil => exact absurd rfl h
  | cons a r =>
    have := cut_nat (xs := a :: r) (a := 1) (b := (a :: r).length) (by simp) (by omega)
    simpa using this
theorem good_self {a : FracD} (g : Good a) : a = ((bif signOf a.1 then 45 :: txt (dec (body a.1)) else txt (dec (body a.1))), txt (dec a.2.1), ()) := by
  have h1 := digs_txt g.num
  have h2 := digs_txt g.den
  obtain ⟨s, t, u⟩ := a
  dsimp only at *
  rw [h1, h2]
  have : (bif signOf s then 45 :: body s else body s) = s := by
    unfold body signOf
    cases s with
    | nil => rfl
    | cons c r =>
      by_cases h : c = 45
      · subst h; rfl
      · simp [h]
  rw [this]
theorem Int_good {a : FracD} (h1 : a.1.length < 100000000) (h2 : a.2.1.length < 100000000) (ha : fracErr a = 0) {m : Bool} {n d : Nat} (he : a = ((bif m then 45 :: txt n else txt n), txt d, ())) (dn : dl n ≤ 300) :
    exact_Int a = some (if d = 1 ∧ n ≤ 4611686018427387904 then ((bif m then -(n : Int) else (n : Int)), true, 0, ()) else (0, false, 0, ())) := by
  obtain ⟨v, e, v1, v2, v3⟩ := atoi_num (m := m) dn
  have hd : decide (txt d = [49]) = decide (d = 1) := by
    by_cases h : d = 1
    · rw [decide_eq_true h, decide_eq_true ((txt_one_iff d).2 h)]
    · rw [decide_eq_false h, decide_eq_false (fun e => h ((txt_one_iff d).1 e))]
  unfold exact_Int
  rw [Check_eq h1 h2, Option.bind_some]
  dsimp only
  rw [decide_eq_true ha, Bool.not_true, cond_false, he]
  dsimp only
  rw [v1, Option.bind_some]
  dsimp only
  rw [hd]
  by_cases h : d = 1
  · rw [decide_eq_true h, Bool.not_true, cond_false]
    by_cases g : n ≤ 4611686018427387904
    · obtain ⟨e0, hv⟩ := v2 g
      subst e0
      have b1 : ¬v < -4611686018427387904 := by
        rw [hv]
        cases m
        · show ¬((n : Int)) < (-4611686018427387904 : Int)
          omega
        · show ¬(-(n : Int)) < (-4611686018427387904 : Int)
          omega
      have b2 : ¬4611686018427387904 < v := by
        rw [hv]
        cases m
        · show ¬(4611686018427387904 : Int) < (n : Int)
          omega
        · show ¬(4611686018427387904 : Int) < (-(n : Int))
          omega
      rw [if_pos ⟨h, g⟩, show (!(false == false)) = false from rfl, cond_false, decide_eq_false b1, cond_false, decide_eq_false b2, Option.bind_some]
      dsimp only
      rw [cond_false, hv]
    · rw [if_neg (fun q => g q.2)]
      rcases v3 (by omega) with h3 | h3 | h3
      · subst h3
        rfl
      · cases e with
        | true => rfl
        | false =>
          rw [show (!(false == false)) = false from rfl, cond_false, decide_eq_true h3]
          rfl
      · cases e with
        | true => rfl
        | false =>
          rw [show (!(false == false)) = false from rfl, cond_false]
          by_cases h4 : v < -4611686018427387904
          · rw [decide_eq_true h4]
            rfl
          · rw [decide_eq_false h4, cond_false, decide_eq_true h3]
            rfl
  · rw [if_neg (fun q => h q.1), decide_eq_false h]
    rfl
theorem trimSign_eq {m : Bool} {n : Nat} (_dn : dl n ≤ 300) : chanceryref2_trimSign (bif m then 45 :: txt n else txt n) = some (txt n, ()) := by
  have hl := txt_len_le n
  unfold chanceryref2_trimSign
  cases m with
  | true =>
    have hc : cut (45 :: txt n) 1 ((45 :: txt n).length : Int) = some (txt n) := cut_tailY (by simp)
    rw [cond_true, decide_eq_false (by simp), Bool.not_false, cond_true, idx_zero, List.getElem?_cons_zero, Option.bind_some, Option.bind_some]
    dsimp only
    rw [show decide (ofByte 45 = 45) = true from rfl, cond_true, hc]
    rfl
  | false =>
    rw [cond_false]
    cases ht : txt n with
    | nil => exact absurd ht (txt_ne n)
    | cons c r =>
      have h2 : ¬((c.toNat : Nat) : Int) = 45 := fun e => by
        have hh := txt_head n
        rw [ht] at hh
        exact hh (by
          have : (45 : UInt8).toNat = 45 := rfl
          rw [List.head?_cons, UInt8.toNat_inj.1 (show c.toNat = (45 : UInt8).toNat by omega)])
      rw [decide_eq_false (by simp), Bool.not_false, cond_true, idx_zero, List.getElem?_cons_zero, Option.bind_some, ofByte_eq, decide_eq_false h2, Option.bind_some]
      rfl
theorem rint_halts {s : Str} (ha : s.all isDigit = true) (hs : s.length ≤ 20) (hb : dec s ≤ 4611686018427387904) (f : FracD) : ∀ k i, i + k = s.length →
    Halts (chanceryref2_Rat__Int_l1 (s, ())) k ((), (dec (s.take i) : Int), (), (i : Int), f, strBytes s, ()) ((), (dec s : Int), f, ())
  | 0, i, hi => by
    refine .done ?_
    unfold chanceryref2_Rat__Int_l1
    dsimp only
    rw [decide_eq_false (by simp [strBytes]; omega), cond_false, List.take_of_length_le (by omega)]
  | k + 1, i, hi => by
    refine .step ?_ (rint_halts ha hs hb f k (i + 1) (by omega))
    have hd : isDigit s[i] = true := List.all_eq_true.1 ha _ (List.getElem_mem _)
    simp only [isDigit, decide_eq_true_eq] at hd
    have hle : dec (s.take (i + 1)) ≤ dec s := by
      have := dec_append (s.take (i + 1)) (s.drop (i + 1))
      rw [List.take_append_drop] at this
      rw [this]
      have hp : 1 ≤ 10 ^ (s.drop (i + 1)).length := Nat.pow_pos (by omega)
      have := Nat.mul_le_mul_left (dec (s.take (i + 1))) hp
      omega
    have ht := dec_take (s := s) (i := i) (by omega)
    rw [ht] at hle ⊢
    have hlen : (strBytes s).length = s.length := by simp [strBytes]
    have hget : (strBytes s).getD i 0 = (s[i].toNat : Int) := by
      simp [strBytes, List.getElem?_eq_getElem (show i < s.length by omega)]
    have w : IntKind.i64.wrap (IntKind.i64.wrap (10 * (dec (s.take i) : Int)) + IntKind.i64.wrap (IntKind.u8.wrap ((s[i].toNat : Int) - 48))) = ((10 * dec (s.take i) + (s[i].toNat - 48) : Nat) : Int) := by
      rw [wrap_u8i (by omega) (by omega), wrap_i64 (n := 10 * (dec (s.take i) : Int)) (by omega) (by omega), wrap_i64 (n := (s[i].toNat : Int) - 48) (by omega) (by omega), wrap_i64 (by omega) (by omega)]
      omega
    unfold chanceryref2_Rat__Int_l1
    dsimp only
    rw [hlen, decide_eq_true (by omega), cond_true, inb_nat (by omega), chk_t, Option.bind_some, Int.toNat_natCast, hget, w, wrapI1 (by omega)]
theorem dl_20 {n : Nat} (h : n ≤ 4611686018427387904) : dl n ≤ 19 := dl_le.2 (by omega)
theorem rInt_eq {m : Bool} {n d : Nat} (hd : 0 < d) (hcop : n.gcd d = 1) (hm : m = true → 0 < n) (dn : dl n ≤ 300) (dd : dl d ≤ 300) :
    chanceryref2_Rat__Int (N10 m n d) = some (if d = 1 ∧ n ≤ 4611686018427387904 then ((bif m then -(n : Int) else (n : Int)), true, ()) else (0, false, ())) := by
  have hfr : chanceryref2_Rat__Frac (N10 m n d) = some (fracOut m n d) := frac_eq hd (by omega) (by omega)
  have hdc : decide (txt d = [49]) = decide (d = 1) := by
    by_cases h : d = 1
    · rw [decide_eq_true h, decide_eq_true ((txt_one_iff d).2 h)]
    · rw [decide_eq_false h, decide_eq_false (fun e => h ((txt_one_iff d).1 e))]
  have hl := txt_len_le n
  unfold chanceryref2_Rat__Int
  rw [hfr, fracOut_low hd hcop hm dn dd, Option.bind_some]
  dsimp only
  rw [decide_eq_true rfl, Bool.not_true, cond_false, hdc]
  by_cases h : d = 1
  · rw [decide_eq_true h, Bool.not_true, cond_false, Option.bind_some]
    dsimp only
    by_cases hlong : 20 < (bif m then 45 :: txt n else txt n).length
    · have hbig : ¬n ≤ 4611686018427387904 := by
        intro g
        have h19 := dl_20 g
        cases m with
        | true =>
          simp only [cond_true, List.length_cons] at hlong
          have hn := hm rfl
          rw [txt_len hn] at hlong
          omega
        | false =>
          simp only [cond_false] at hlong
          omega
      rw [if_neg (fun q => hbig q.2), decide_eq_true (by omega)]
      rfl
    · have hdec : chanceryref2_Decimal 4611686018427387904 = some (txt 4611686018427387904, ()) := decimal_pos 20 4611686018427387904 rounds (by omega) (by omega) (by omega) (by decide)
      have d62 : dl 4611686018427387904 ≤ 19 := dl_20 (Nat.le_refl _)
      obtain ⟨c, c1, c2, c3⟩ := rcompare_eq (a := n) (b := 4611686018427387904) (by omega) (by omega)
      rw [decide_eq_false (by omega), cond_false, hdec, Option.bind_some]
      dsimp only
      rw [natof_txt (by omega), Option.bind_some, trimSign_eq dn, Option.bind_some]
      dsimp only
      rw [natof_txt (by omega), Option.bind_some]
      dsimp only
      rw [c1, Option.bind_some]
      dsimp only
      by_cases g : n ≤ 4611686018427387904
      · have h19 := dl_20 g
        have hlp := (rint_halts (s := txt n) (txt_digits n) (by omega) (by rw [dec_txt]; exact g) ((bif m then 45 :: txt n else txt n), txt d, ()) (txt n).length 0 (by omega)).loop (by omega)
        rw [dec_txt] at hlp
        have hlp' : loop (chanceryref2_Rat__Int_l1 (txt n, ())) ((), 0, (), 0, ((bif m then 45 :: txt n else txt n), txt d, ()), strBytes (txt n), ()) = _ := hlp
        have hlim : decide ((txt n).length ≤ lim) = true := decide_eq_true (by unfold lim; omega)
        rw [if_pos ⟨h, g⟩, decide_eq_false (by omega), cond_false, Option.bind_some]
        dsimp only
        rw [hlim, chk_t, Option.bind_some, hlp', Option.bind_some]
        dsimp only
        cases m with
        | true =>
          have w : IntKind.i64.wrap (0 - (n : Int)) = -(n : Int) := by rw [wrap_i64 (by omega) (by omega)]; omega
          rw [cond_true, idx_zero, List.getElem?_cons_zero, Option.bind_some, show decide (ofByte 45 = 45) = true from rfl, cond_true, w]
          rfl
        | false =>
          rw [cond_false]
          cases ht : txt n with
          | nil => exact absurd ht (txt_ne n)
          | cons c r =>
            have h2 : ¬((c.toNat : Nat) : Int) = 45 := fun e => by
              have hh := txt_head n
              rw [ht] at hh
              exact hh (by
                have : (45 : UInt8).toNat = 45 := rfl
                rw [List.head?_cons, UInt8.toNat_inj.1 (show c.toNat = (45 : UInt8).toNat by omega)])
            rw [idx_zero, List.getElem?_cons_zero, Option.bind_some, ofByte_eq, decide_eq_false h2]
            rfl
      · rw [if_neg (fun q => g q.2), decide_eq_true (by omega)]
        rfl
  · rw [if_neg (fun q => h q.1), decide_eq_false h]
    rfl
theorem rounding_law {a : FracD} {k : Int} (h1 : a.1.length < 100000000) (h2 : a.2.1.length < 100000000) : chancerylaw2_ExactRoundingMatches a k = some (true, ()) := by
  unfold chancerylaw2_ExactRoundingMatches
  rw [fractions_eq, Option.bind_some]
  dsimp only
  rw [Bool.not_true, cond_false, fracError_eq h1 h2]
  by_cases ha : fracErr a = 0
  · have ga := good_of ha
    have hr : exact_read a = some (N9 (signOf a.1) (dec (body a.1)) (dec a.2.1), 0, ()) := read_good h1 h2 ha
    have hR : chanceryref2_RatOf a = some (N10 (signOf a.1) (dec (body a.1)) (dec a.2.1), ()) := ratOf_eq ga
    have e1 := ga.dln
    have e2 := ga.dld
    have e3 := ga.pos
    have e4 := ga.cop
    have e5 := ga.neg
    have hI := Int_good h1 h2 ha (good_self ga) e1
    generalize signOf a.1 = m at *
    generalize dec (body a.1) = n at *
    generalize dec a.2.1 = d at *
    obtain ⟨x, y, c, f1, f2, f3⟩ := factor25 d d (Nat.le_refl _) e3
    have hc : 0 < c := by
      rcases Nat.eq_zero_or_pos c with e | e
      · subst e; exact absurd rfl f2
      · exact e
    obtain ⟨b1, b2⟩ := exp_bound hc f1 e2
    have hS := Shortest_good hr e3 e1 e2 hc f2 f3 f1
    have hP := Places_eq (m := m) e3 e4 e5 e1 e2 hc f2 f3 f1
    have hrI := rInt_eq (m := m) e3 e4 e5 e1 e2
    obtain ⟨vI, okI, hI1, hI2, hI3⟩ : ∃ vI okI, exact_Int a = some (vI, okI, 0, ()) ∧ chanceryref2_Rat__Int (N10 m n d) = some (vI, okI, ()) ∧ (okI = false → vI = 0) := by
      rw [hI, hrI]
      by_cases q : d = 1 ∧ n ≤ 4611686018427387904
      · rw [if_pos q, if_pos q]
        exact ⟨_, _, rfl, rfl, fun h => by cases h⟩
      · rw [if_neg q, if_neg q]
        exact ⟨_, _, rfl, rfl, fun _ => rfl⟩
    clear hI hrI
    have hF := Floor_good hr e3 e1 e2
    have hrF := Floor_eq (m := m) (n := n) e3 (by omega) (by omega)
    have d1 : dl 1 = 1 := dl_ten 0
    have hfl : dl (flN m n d) ≤ 400 := by
      have hq := dl_mono (Nat.div_le_self n d)
      have hq2 := dl_add (n / d) 1
      unfold flN
      split <;> omega
    have hlF := lfracT (m := m) (n := flN m n d) (d := 1) (by omega) (by omega) (by omega)
    have hRo := Round_good (k := k) hr e3 e1 e2
    have hFi := Fixed_good (k := k) hr e3 e1 e2
    have hisP : (decide (0 ≤ (if c = 1 then ((max x y : Nat) : Int) else -1))) = decide (c = 1) := by
      by_cases g : c = 1
      · rw [if_pos g, decide_eq_true g, decide_eq_true (by omega)]
      · rw [if_neg g, decide_eq_false g]
        rfl
    have hfx : c = 1 → chanceryref2_Rat__Fixed (N10 m n d) ((max x y : Nat) : Int) = some (decTxt m (n * 10 ^ max x y / d) (max x y), ()) := fun g => by
      rw [rFixed_eq e3 (by omega) e1 e2, rnd_exact e3 (by rw [f1, g, Nat.mul_one]; exact dvd_ten)]
    have hend : ∀ b : Bool, b = false → (cond b (some (false, ())) ((cond (decide (k < (-100)))
  (some ((), (), true, (if k < -100 ∨ 100 < k then (([], [], ()), 2, ()) else fracOut m (scN (rnd (scN n k) (scD d k)) (-k)) (scD 1 (-k))).1, N10 m n d, ()))
  (some ((), (), (decide (100 < k)), (if k < -100 ∨ 100 < k then (([], [], ()), 2, ()) else fracOut m (scN (rnd (scN n k) (scD d k)) (-k)) (scD 1 (-k))).1, N10 m n d, ())) : Option (Unit × (Unit × (Bool × ((Str × (Str × Unit)) × ((Bool × ((List Int) × ((List Int) × Unit))) × Unit)))))).bind fun r17 =>
  cond r17.2.2.1
  (cond (Ty.beq (.pair .str (.pair .str .unit)) r17.2.2.2.1 ([], [], ()))
  (cond ((decide ((if k < -100 ∨ 100 < k then ((([], [], ()) : FracD), (2 : Int), ()) else fracOut m (scN (rnd (scN n k) (scD d k)) (-k)) (scD 1 (-k))).2.1 = 2)))
  (cond ((decide ((if k < 0 ∨ 100 < k then (([] : Str), (2 : Int), ()) else if (fracOut m (scN (rnd (scN n k) (scD d k)) (-k)) (scD 1 (-k))).2.1 ≠ 0 then ([], (fracOut m (scN (rnd (scN n k) (scD d k)) (-k)) (scD 1 (-k))).2.1, ()) else (decTxt m (rnd (scN n k) (scD d k)) k.toNat, 0, ())).1 = [])))
  (some ((decide ((if k < 0 ∨ 100 < k then (([] : Str), (2 : Int), ()) else if (fracOut m (scN (rnd (scN n k) (scD d k)) (-k)) (scD 1 (-k))).2.1 ≠ 0 then ([], (fracOut m (scN (rnd (scN n k) (scD d k)) (-k)) (scD 1 (-k))).2.1, ()) else (decTxt m (rnd (scN n k) (scD d k)) k.toNat, 0, ())).2.1 = 2)), ()))
  (some (false, ())))
  (some (false, ())))
  (some (false, ())))
  (let v18 : (Bool × ((List Int) × ((List Int) × Unit))) := r17.2.2.2.2.1
  (chanceryref2_Rat__Round v18 k).bind fun v19 =>
  (chancerylaw2_frac r17.2.2.2.1 (if k < -100 ∨ 100 < k then ((([], [], ()) : FracD), (2 : Int), ()) else fracOut m (scN (rnd (scN n k) (scD d k)) (-k)) (scD 1 (-k))).2.1 v19.1).bind fun v20 =>
  cond (!v20.1)
  (some (false, ()))
  (cond (decide (k < 0))
  (cond (decide ((if k < 0 ∨ 100 < k then (([] : Str), (2 : Int), ()) else if (fracOut m (scN (rnd (scN n k) (scD d k)) (-k)) (scD 1 (-k))).2.1 ≠ 0 then ([], (fracOut m (scN (rnd (scN n k) (scD d k)) (-k)) (scD 1 (-k))).2.1, ()) else (decTxt m (rnd (scN n k) (scD d k)) k.toNat, 0, ())).1 = []))
  (some ((decide ((if k < 0 ∨ 100 < k then (([] : Str), (2 : Int), ()) else if (fracOut m (scN (rnd (scN n k) (scD d k)) (-k)) (scD 1 (-k))).2.1 ≠ 0 then ([], (fracOut m (scN (rnd (scN n k) (scD d k)) (-k)) (scD 1 (-k))).2.1, ()) else (decTxt m (rnd (scN n k) (scD d k)) k.toNat, 0, ())).2.1 = 2)), ()))
  (some (false, ())))
  (cond (!decide ((if k < -100 ∨ 100 < k then ((([], [], ()) : FracD), (2 : Int), ()) else fracOut m (scN (rnd (scN n k) (scD d k)) (-k)) (scD 1 (-k))).2.1 = 0))
  (cond (decide ((if k < 0 ∨ 100 < k then (([] : Str), (2 : Int), ()) else if (fracOut m (scN (rnd (scN n k) (scD d k)) (-k)) (scD 1 (-k))).2.1 ≠ 0 then ([], (fracOut m (scN (rnd (scN n k) (scD d k)) (-k)) (scD 1 (-k))).2.1, ()) else (decTxt m (rnd (scN n k) (scD d k)) k.toNat, 0, ())).1 = []))
  (some ((decide ((if k < 0 ∨ 100 < k then (([] : Str), (2 : Int), ()) else if (fracOut m (scN (rnd (scN n k) (scD d k)) (-k)) (scD 1 (-k))).2.1 ≠ 0 then ([], (fracOut m (scN (rnd (scN n k) (scD d k)) (-k)) (scD 1 (-k))).2.1, ()) else (decTxt m (rnd (scN n k) (scD d k)) k.toNat, 0, ())).2.1 = (if k < -100 ∨ 100 < k then ((([], [], ()) : FracD), (2 : Int), ()) else fracOut m (scN (rnd (scN n k) (scD d k)) (-k)) (scD 1 (-k))).2.1)), ()))
  (some (false, ())))
  (cond (decide ((if k < 0 ∨ 100 < k then (([] : Str), (2 : Int), ()) else if (fracOut m (scN (rnd (scN n k) (scD d k)) (-k)) (scD 1 (-k))).2.1 ≠ 0 then ([], (fracOut m (scN (rnd (scN n k) (scD d k)) (-k)) (scD 1 (-k))).2.1, ()) else (decTxt m (rnd (scN n k) (scD d k)) k.toNat, 0, ())).2.1 = 0))
  (let v21 : (Bool × ((List Int) × ((List Int) × Unit))) := r17.2.2.2.2.1
  (chanceryref2_Rat__Fixed v21 k).bind fun v22 =>
  some ((decide ((if k < 0 ∨ 100 < k then (([] : Str), (2 : Int), ()) else if (fracOut m (scN (rnd (scN n k) (scD d k)) (-k)) (scD 1 (-k))).2.1 ≠ 0 then ([], (fracOut m (scN (rnd (scN n k) (scD d k)) (-k)) (scD 1 (-k))).2.1, ()) else (decTxt m (rnd (scN n k) (scD d k)) k.toNat, 0, ())).1 = v22.1)), ()))
  (some (false, ()))))))) : Option (Bool × Unit)) = some (true, ()) := by
      intro b hb
      subst hb
      rw [cond_false]
      by_cases kk : k < -100 ∨ 100 < k
      · have kk2 : k < 0 ∨ 100 < k := by omega
        simp only [kk, kk2, if_true]
        by_cases k1 : k < -100
        · rw [decide_eq_true k1]
          simp [Ty.beq]
        · rw [decide_eq_false k1, decide_eq_true (show 100 < k by omega)]
          simp [Ty.beq]
      · have k1 : ¬k < -100 := by omega
        have k2 : ¬100 < k := by omega
        have hRR := rRound_eq (m := m) (n := n) (k := k) e3 (by omega) (by omega) e1 e2
        obtain ⟨s1, s2⟩ := sc_dl (n := n) (d := d) (k := k) (by omega) (by omega)
        have s3 := rnd_dl (scN n k) (scD d k)
        obtain ⟨s4, s5⟩ := sc_dl (n := rnd (scN n k) (scD d k)) (d := 1) (k := -k) (by omega) (by omega)
        have hlR := lfracT (m := m) (n := scN (rnd (scN n k) (scD d k)) (-k)) (d := scD 1 (-k)) (scD_pos (by omega) _) (by omega) (by omega)
        simp only [k1, k2, decide_false, cond_false, Option.bind_some, hRR]
        by_cases k3 : k < 0
        · simp [k3, hlR]
        · obtain ⟨j, rfl⟩ : ∃ j : Nat, k = (j : Int) := ⟨k.toNat, by omega⟩
          have hFX := rFixed_eq (m := m) (n := n) (k := j) e3 (by omega) e1 e2
          by_cases k4 : (fracOut m (scN (rnd (scN n (j : Int)) (scD d (j : Int))) (-(j : Int))) (scD 1 (-(j : Int)))).2.1 = 0
          · rw [k4] at hlR
            simp [k3, k4, hFX, hlR]
          · simp [k3, k4, hlR]
    simp only [hF, hRo, hFi, hS, hI1, Option.bind_some, ha, decide_true, Bool.not_true, cond_false, hR, hI2, hP, hrF, hlF, hisP]
    by_cases g : c = 1
    · cases okI with
      | true =>
        simp only [g, if_true, decide_true, Bool.not_true, cond_true, cond_false, beq_self_eq_true, Option.bind_some, hfx g]
        exact hend false rfl
      | false =>
        simp only [g, if_true, decide_true, Bool.not_true, Bool.not_false, cond_true, cond_false, beq_self_eq_true, Option.bind_some, hfx g, hI3 rfl]
        exact hend false rfl
    · cases okI with
      | true =>
        simp only [g, if_false, decide_true, decide_false, Bool.not_true, Bool.not_false, cond_true, cond_false, beq_self_eq_true, Option.bind_some]
        exact hend false rfl
      | false =>
        simp only [g, if_false, decide_true, decide_false, Bool.not_true, Bool.not_false, cond_true, cond_false, beq_self_eq_true, Option.bind_some, hI3 rfl]
        exact hend false rfl
  · have o1 : exact_Floor a = some (([], [], ()), fracErr a, ()) := by
      simp only [exact_Floor, read_bad h1 h2 ha, Option.bind_some, ha, decide_false, Bool.not_false, cond_true]
    have o2 : exact_Round a k = some (([], [], ()), fracErr a, ()) := by
      simp only [exact_Round, read_bad h1 h2 ha, Option.bind_some, ha, decide_false, Bool.not_false, cond_true]
    have o3 : exact_Fixed a k = some ([], fracErr a, ()) := by
      simp only [exact_Fixed, read_bad h1 h2 ha, Option.bind_some, ha, decide_false, Bool.not_false, cond_true]
    have o4 : exact_Shortest a = some ([], false, fracErr a, ()) := by
      simp only [exact_Shortest, read_bad h1 h2 ha, Option.bind_some, ha, decide_false, Bool.not_false, cond_true]
    have o5 : exact_Int a = some (0, false, fracErr a, ()) := by
      simp only [exact_Int, Check_eq h1 h2, Option.bind_some, ha, decide_false, Bool.not_false, cond_true]
    simp only [o1, o2, o3, o4, o5, Option.bind_some, ha, decide_false, decide_true, Bool.not_false, cond_true, Ty.beq, Bool.and_self]
end Go.Proofs.YtmcoedgkmciciaaGreatDoor
