import Derived.Test.YtmcoedgkmciciaaGreatDoorLawW
namespace Go.Proofs.YtmcoedgkmciciaaGreatDoor
open Go Go.Fe

abbrev ReadR := (Unit × (Int × (NumD × Unit))) ⊕ (Unit × (Int × (NumD × Unit)))
theorem rexpo_eq {s : Str} (h : s.length ≤ 1000) (z : NumD) : (cond (!decide (s = []))
  (((idx s 0).bind fun v14 =>
  cond (!decide ((ofByte v14) = 101))
  ((idx s 0).bind fun v15 =>
  some ((), (!decide ((ofByte v15) = 69)), z, ()))
  (some ((), false, z, ())) : Option (Unit × (Bool × (NumD × Unit)))).bind fun r16 =>
  cond r16.2.1
  (some (.inr ((), 10, ((false, ([], ([], ()))) : NumD), ())))
  ((cut s 1 (s.length : Int)).bind fun v17 =>
  (((chanceryref2_Has v17 [43]).bind fun v18 =>
  cond v18.1
  (some ((), true, r16.2.2.1, ()))
  ((chanceryref2_Has v17 [45]).bind fun v19 =>
  some ((), v19.1, r16.2.2.1, ())) : Option (Unit × (Bool × (NumD × Unit)))).bind fun r20 =>
  cond r20.2.1
  (((idx v17 0).bind fun v21 =>
  cond (decide ((ofByte v21) = 45))
  (some ((), (-1), r20.2.2.1, ()))
  (some ((), 1, r20.2.2.1, ())) : Option (Unit × (Int × (NumD × Unit)))).bind fun r22 =>
  (cut v17 1 (v17.length : Int)).bind fun v23 =>
  some ((), v23, r22.2.1, r22.2.2.1, ()))
  (some ((), v17, 1, r20.2.2.1, ())) : Option (Unit × (Str × (Int × (NumD × Unit))))).bind fun r24 =>
  ((chanceryref2_allDigits r24.2.1).bind fun v25 =>
  cond (!v25.1)
  (some ((), true, r24.2.2.2.1, ()))
  (some ((), (decide (3 < (r24.2.1.length : Int))), r24.2.2.2.1, ())) : Option (Unit × (Bool × (NumD × Unit)))).bind fun r26 =>
  cond r26.2.1
  (some (.inr ((), 10, ((false, ([], ([], ()))) : NumD), ())))
  ((chanceryref2_small r24.2.1).bind fun v27 =>
  some (.inl ((), IntKind.i64.wrap (r24.2.2.1 * v27.1), r26.2.2.1, ())))))
  (some (.inl ((), 0, z, ()))) : Option ReadR) = some (match expo s with | some k => .inl ((), k, z, ()) | none => .inr ((), 10, (false, [], [], ()), ())) := by
  cases s with
  | nil => rfl
  | cons c r =>
    have hl : r.length < 1000 := by simp at h; omega
    have e1 : decide (ofByte c = 101) = decide (c = 101) := ofByte_is c 101 (by omega)
    have e2 : decide (ofByte c = 69) = decide (c = 69) := ofByte_is c 69 (by omega)
    have hlet : (cond (!decide ((ofByte c) = 101)) (some ((), (!decide ((ofByte c) = 69)), z, ())) (some ((), false, z, ())) : Option (Unit × (Bool × (NumD × Unit)))) = some ((), letterE c, z, ()) := by
      rw [e1, e2]
      unfold letterE
      by_cases h1 : c = 101
      · subst h1; rfl
      · by_cases h2 : c = 69
        · subst h2; rfl
        · simp [h1, h2]
    rw [decide_eq_false (by simp), Bool.not_false, cond_true, idx_zero, List.getElem?_cons_zero, Option.bind_some, Option.bind_some, hlet, Option.bind_some]
    dsimp only
    rw [expo_cons]
    by_cases hc : c ≠ 101 ∧ c ≠ 69
    · rw [if_pos hc]
      unfold letterE
      rw [decide_eq_true hc]
      rfl
    · rw [if_neg hc]
      unfold letterE
      rw [decide_eq_false hc, cond_false, cut_tail (by simp), Option.bind_some]
      dsimp only [List.tail_cons]
      have hx : ((chanceryref2_Has r [43]).bind fun v18 =>
  cond v18.1
  (some ((), true, z, ()))
  ((chanceryref2_Has r [45]).bind fun v19 =>
  some ((), v19.1, z, ())) : Option (Unit × (Bool × (NumD × Unit)))) = some ((), (expSign r || decide (r.head? = some 43)), z, ()) := by
        rw [has_eq, has_eq]
        unfold expSign
        cases decide (r.head? = some 43) <;> simp
      have hy : (cond (expSign r || decide (r.head? = some 43))
  (((idx r 0).bind fun v21 =>
  cond (decide ((ofByte v21) = 45))
  (some ((), (-1), z, ()))
  (some ((), 1, z, ())) : Option (Unit × (Int × (NumD × Unit)))).bind fun r22 =>
  (cut r 1 (r.length : Int)).bind fun v23 =>
  some ((), v23, r22.2.1, r22.2.2.1, ()))
  (some ((), r, 1, z, ())) : Option (Unit × (Str × (Int × (NumD × Unit))))) = some ((), expBody r, (bif expSign r then -1 else 1), z, ()) := by
        unfold expBody
        cases hq : (expSign r || decide (r.head? = some 43)) with
        | false =>
          have : expSign r = false := by
            cases hs : expSign r with
            | false => rfl
            | true => rw [hs] at hq; cases hq
          rw [this]
          rfl
        | true =>
          cases r with
          | nil => simp [expSign] at hq
          | cons a t =>
            have e3 : decide (ofByte a = 45) = decide (a = 45) := ofByte_is a 45 (by omega)
            have e4 : expSign (a :: t) = decide (a = 45) := by simp [expSign]
            rw [cond_true, cut_tail (by simp), idx_zero, List.getElem?_cons_zero, Option.bind_some, e3, e4]
            cases decide (a = 45) <;> rfl
      rw [hx, Option.bind_some]
      dsimp only
      rw [hy, Option.bind_some]
      dsimp only
      have hb := expBody_len r
      rw [allDigits_eq (by omega), Option.bind_some]
      dsimp only
      by_cases hok : expOk r = true
      · have hok' := hok
        simp only [expOk, Bool.and_eq_true, decide_eq_true_eq] at hok'
        obtain ⟨⟨o1, o2⟩, o3⟩ := hok'
        have hbd := expVal_bound hok
        rw [if_pos hok, o2, decide_eq_true o1, Bool.and_self, Bool.not_true, cond_false, Option.bind_some]
        dsimp only
        rw [decide_eq_false (by omega), cond_false, small_eq o2 (by omega), Option.bind_some]
        dsimp only
        unfold expVal at hbd ⊢
        cases hs : expSign r with
        | false =>
          rw [hs] at hbd
          simp only [cond_false] at hbd ⊢
          rw [Int.one_mul, wrap_i64 (by omega) (by omega)]
        | true =>
          rw [hs] at hbd
          simp only [cond_true] at hbd ⊢
          rw [show -1 * (dec (expBody r) : Int) = -(dec (expBody r) : Int) by omega, wrap_i64 (by omega) (by omega)]
      · rw [if_neg hok]
        by_cases o1 : (decide (expBody r ≠ []) && (expBody r).all isDigit) = true
        · rw [o1, Bool.not_true, cond_false, Option.bind_some]
          dsimp only
          have o2 : 3 < (expBody r).length := by
            rcases Nat.lt_or_ge 3 (expBody r).length with g | g
            · exact g
            · exfalso
              exact hok (by rw [expOk, o1, decide_eq_true g]; rfl)
          rw [decide_eq_true (by omega)]
          rfl
        · have o1' : (decide (expBody r ≠ []) && (expBody r).all isDigit) = false := by simpa using o1
          rw [o1']
          rfl
/-! ### A decimal number -/
/-- The sign, the digits, the power of ten. -/
def decFin (m : Bool) (w p rest : Str) : Option (Bool × Nat × Int) := match expo rest with
  | none => none
  | some k => if w = [] then none else some (m, dec (w ++ p), k - (p.length : Int))
def decOf (s : Str) : Option (Bool × Nat × Int) :=
  let b := body s
  let w := b.takeWhile isDigit
  let rest := b.dropWhile isDigit
  if rest.head? = some 46 then (if rest.tail.takeWhile isDigit = [] then none else decFin (signOf s) w (rest.tail.takeWhile isDigit) (rest.tail.dropWhile isDigit)) else decFin (signOf s) w [] rest
def finN (N : Nat) (e : Int) : Nat := if e < 0 then N else N * 10 ^ e.toNat
def finD (e : Int) : Nat := if e < 0 then 10 ^ (-e).toNat else 1
theorem finD_pos (e : Int) : 0 < finD e := by
  unfold finD
  split
  · exact pos_ten _
  · omega
theorem fin_dl {N : Nat} {e : Int} (h : dl N ≤ 1000) (h1 : -2000 ≤ e) (h2 : e ≤ 2000) : dl (finN N e) ≤ 4000 ∧ dl (finD e) ≤ 4000 := by
  unfold finN finD
  by_cases g : e < 0
  · rw [if_pos g, if_pos g]
    have := dl_ten (-e).toNat
    omega
  · rw [if_neg g, if_neg g]
    have := dl_ten e.toNat
    have := dl_mul N (10 ^ e.toNat)
    have d1 : dl 1 = 1 := dl_ten 0
    omega
theorem all_dl {s : Str} (h : s.all isDigit = true) : dl (dec s) ≤ s.length := dl_le.2 (by
  have := dec_lt _ s rfl h
  omega)
theorem pfin_eq {m : Bool} {w p rest : Str} {z : FracD} (hw : w.all isDigit = true) (hp : p.all isDigit = true) (hl : w.length + p.length ≤ 1000) (hr : rest.length ≤ 1000) :
    ((exact_exponent rest).bind fun v7 =>
  (cond (decide (w = []))
  (some ((), true, z, ()))
  (some ((), (!v7.2.1), z, ())) : Option (Unit × (Bool × ((Str × (Str × Unit)) × Unit)))).bind fun r8 =>
  cond r8.2.1
  (some ((([], ([], ())) : FracD), (10 : Int), ()))
  ((cat w p).bind fun v9 =>
  (exact_parse v9).bind fun v10 =>
  (cond (decide ((IntKind.i64.wrap (v7.1 - (p.length : Int))) < 0))
  (let v11 : Int := IntKind.i64.wrap (0 - (IntKind.i64.wrap (v7.1 - (p.length : Int))))
  (exact_ten v11).bind fun v12 =>
  some ((), (), r8.2.2.1, (m, (v10.1, v12)), ()))
  ((exact_ten (IntKind.i64.wrap (v7.1 - (p.length : Int)))).bind fun v13 =>
  (exact_nat__times v10.1 v13.1).bind fun v14 =>
  some ((), (), r8.2.2.1, (m, (v14.1, ([1], ()))), ())) : Option (Unit × (Unit × ((Str × (Str × Unit)) × ((Bool × ((List Int) × ((List Int) × Unit))) × Unit))))).bind fun r15 =>
  (exact_number__write r15.2.2.2.1).bind fun v16 =>
  some (v16.1, v16.2.1, ()))) = some (match decFin m w p rest with | none => (([], [], ()), 10, ()) | some (m, N, e) => fracOut m (finN N e) (finD e)) := by
  rw [exponent_eq hr, Option.bind_some]
  unfold decFin
  cases he : expo rest with
  | none =>
    dsimp only
    cases decide (w = []) <;> rfl
  | some k =>
    have hk := expo_bound he
    dsimp only
    by_cases hw0 : w = []
    · rw [if_pos hw0, decide_eq_true hw0]
      rfl
    · have hall : (w ++ p).all isDigit = true := by rw [List.all_append, hw, hp]; rfl
      have hdl := all_dl hall
      rw [List.length_append] at hdl
      have hw' : IntKind.i64.wrap (k - (p.length : Int)) = k - (p.length : Int) := wrap_i64 (by omega) (by omega)
      rw [if_neg hw0, decide_eq_false hw0, cond_false, Option.bind_some]
      dsimp only
      rw [Bool.not_true, cond_false, cat_ok (by omega), Option.bind_some, parse_eq hall (by rw [List.length_append]; omega), Option.bind_some]
      dsimp only
      rw [hw']
      obtain ⟨f1, f2⟩ := fin_dl (N := dec (w ++ p)) (e := k - (p.length : Int)) (by omega) (by omega) (by omega)
      have hwr := write_eq (m := m) (finD_pos (k - (p.length : Int))) (show dl (finN (dec (w ++ p)) (k - (p.length : Int))) < 100000 by omega) (by omega)
      have b1 : -2000 ≤ k - (p.length : Int) ∧ k - (p.length : Int) ≤ 2000 := by omega
      generalize k - (p.length : Int) = e at *
      simp only [finN, finD] at hwr f1 f2 ⊢
      by_cases g : e < 0
      · obtain ⟨j, hj⟩ : ∃ j : Nat, e = -(j : Int) := ⟨(-e).toNat, by omega⟩
        subst hj
        have w0 : IntKind.i64.wrap (0 - -(j : Int)) = (j : Int) := by rw [wrap_i64 (by omega) (by omega)]; omega
        have ej : (- -(j : Int)).toNat = j := by omega
        rw [if_pos g, if_pos g, ej] at hwr ⊢
        rw [decide_eq_true g, cond_true, w0, ten_eq (by omega), Option.bind_some, Option.bind_some]
        dsimp only
        rw [hwr]
        rfl
      · obtain ⟨j, hj⟩ : ∃ j : Nat, e = (j : Int) := ⟨e.toNat, by omega⟩
        subst hj
        have ej : ((j : Int)).toNat = j := by omega
        have dj := dl_ten j
        rw [if_neg g, if_neg g, ej] at hwr ⊢
        rw [decide_eq_false g, cond_false, ten_eq (by omega), Option.bind_some]
        dsimp only
        rw [times_eq (by omega) (by omega), Option.bind_some, Option.bind_some]
        dsimp only
        rw [one9, hwr]
        rfl
theorem Parse_eq {s : Str} (h : s.length ≤ 1000) : exact_Parse s = some (match decOf s with | none => (([], [], ()), 10, ()) | some (m, N, e) => fracOut m (finN N e) (finD e)) := by
  have hb := body_len s
  have ht := tw_len (body s)
  unfold exact_Parse
  rw [decide_eq_false (by omega), cond_false, cut_sign, Option.bind_some]
  dsimp only
  rw [run_eq (by omega), Option.bind_some]
  dsimp only
  rw [cutPrefix_eq, Option.bind_some]
  dsimp only
  unfold decOf
  dsimp only
  have ha := tw_all (body s)
  generalize (body s).takeWhile isDigit = w at *
  generalize (body s).dropWhile isDigit = rest at *
  unfold strip
  by_cases hd : rest.head? = some 46
  · have hn := head_ne hd
    have htl : rest.tail.length < rest.length := by
      rw [List.length_tail]
      have := List.length_pos_iff.2 hn
      omega
    have ht2 := tw_len rest.tail
    rw [if_pos hd, decide_eq_true hd, cond_true, cond_true, run_eq (by omega), Option.bind_some]
    dsimp only
    have ha2 := tw_all rest.tail
    generalize rest.tail.takeWhile isDigit = p at *
    generalize rest.tail.dropWhile isDigit = r2 at *
    by_cases hp : p = []
    · rw [if_pos hp, decide_eq_true hp]
      rfl
    · rw [if_neg hp, decide_eq_false hp, cond_false, Option.bind_some]
      dsimp only
      exact pfin_eq ha ha2 (by omega) (by omega)
  · rw [if_neg hd, decide_eq_false hd, cond_false, Option.bind_some]
    dsimp only
    exact pfin_eq ha rfl (by simp; omega) (by omega)
theorem rfin_eq {m : Bool} {w p : Str} {k : Int} (_hw0 : w ≠ []) (hw : w.all isDigit = true) (hp : p.all isDigit = true) (hl : w.length + p.length ≤ 1000) (hk : -1000 < k ∧ k < 1000) :
    ((cat w p).bind fun v30 =>
  (chanceryref2_NatOf v30).bind fun v31 =>
  (chanceryref2_Rat__Scaled (m, v31.1, [1], ()) (IntKind.i64.wrap (k - (p.length : Int)))).bind fun v32 =>
  (chanceryref2_Rat__Frac v32.1).bind fun v33 =>
  some (v32.1, v33.2.1, ())) = some (N10 m (finN (dec (w ++ p)) (k - (p.length : Int))) (finD (k - (p.length : Int))), (fracOut m (finN (dec (w ++ p)) (k - (p.length : Int))) (finD (k - (p.length : Int)))).2.1, ()) := by
  have hall : (w ++ p).all isDigit = true := by rw [List.all_append, hw, hp]; rfl
  have hdl := all_dl hall
  rw [List.length_append] at hdl
  have hw' : IntKind.i64.wrap (k - (p.length : Int)) = k - (p.length : Int) := wrap_i64 (by omega) (by omega)
  rw [cat_ok (by omega), Option.bind_some, natof_eq hall (by rw [List.length_append]; omega), Option.bind_some, hw']
  dsimp only
  obtain ⟨f1, f2⟩ := fin_dl (N := dec (w ++ p)) (e := k - (p.length : Int)) (by omega) (by omega) (by omega)
  have hfr := frac_eq (m := m) (finD_pos (k - (p.length : Int))) (show dl (finN (dec (w ++ p)) (k - (p.length : Int))) < 100000 by omega) (by omega)
  have b1 : -2000 ≤ k - (p.length : Int) ∧ k - (p.length : Int) ≤ 2000 := by omega
  generalize k - (p.length : Int) = e at *
  have hsc : chanceryref2_Rat__Scaled (m, rep 10 (dec (w ++ p)), [1], ()) e = some (N10 m (finN (dec (w ++ p)) e) (finD e), ()) := by
    unfold finN finD
    have d1 : dl 1 = 1 := dl_ten 0
    by_cases g : e < 0
    · obtain ⟨j, hj⟩ : ∃ j : Nat, e = -(j : Int) := ⟨(-e).toNat, by omega⟩
      subst hj
      have ej : (- -(j : Int)).toNat = j := by omega
      have := Scaled_down (m := m) (n := dec (w ++ p)) (d := 1) (k := j) (by omega) (by omega) (by omega)
      rw [if_pos g, if_pos g, ej]
      rw [Nat.one_mul] at this
      exact this
    · obtain ⟨j, hj⟩ : ∃ j : Nat, e = (j : Int) := ⟨e.toNat, by omega⟩
      subst hj
      have ej : ((j : Int)).toNat = j := by omega
      rw [if_neg g, if_neg g, ej]
      exact Scaled_up (m := m) (n := dec (w ++ p)) (d := 1) (k := j) (by omega) (by omega)
  rw [hsc, Option.bind_some]
  dsimp only
  have hfr' : chanceryref2_Rat__Frac (N10 m (finN (dec (w ++ p)) e) (finD e)) = _ := hfr
  rw [hfr', Option.bind_some]
theorem ReadDecimal_eq {s : Str} (h : s.length ≤ 1000) : chanceryref2_ReadDecimal s = some (match decOf s with | none => ((false, [], [], ()), 10, ()) | some (m, N, e) => (N10 m (finN N e) (finD e), (fracOut m (finN N e) (finD e)).2.1, ())) := by
  have hb := body_len s
  have ht := tw_len (body s)
  have hsg : (((chanceryref2_Has s [45]).bind fun v1 =>
  cond v1.1
  ((cut s 1 (s.length : Int)).bind fun v2 =>
  some ((), v2, true, ((false, ([], ([], ()))) : NumD), ()))
  (some ((), s, false, ((false, ([], ([], ()))) : NumD), ())) : Option (Unit × (Str × (Bool × (NumD × Unit))))) ) = some ((), body s, signOf s, (false, [], [], ()), ()) := by
    rw [has_eq, Option.bind_some]
    dsimp only
    unfold body signOf
    by_cases g : s.head? = some 45
    · rw [decide_eq_true g, cond_true, cut_tail (head_ne g)]
      rfl
    · rw [decide_eq_false g]
      rfl
  have hcut : ∀ t : Str, cut t 0 ((t.takeWhile isDigit).length : Int) = some (t.takeWhile isDigit) ∧ cut t ((t.takeWhile isDigit).length : Int) (t.length : Int) = some (t.dropWhile isDigit) := fun t => by
    have hl := tw_len t
    have e := tw_dw t
    constructor
    · have := cut_nat (xs := t) (a := 0) (b := (t.takeWhile isDigit).length) (by omega) (by omega)
      have e2 := List.take_left (l₁ := t.takeWhile isDigit) (l₂ := t.dropWhile isDigit)
      rw [e] at e2
      rw [e2, List.drop_zero] at this
      exact this
    · have := cut_nat (xs := t) (a := (t.takeWhile isDigit).length) (b := t.length) (by omega) (by omega)
      have e2 := List.drop_left (l₁ := t.takeWhile isDigit) (l₂ := t.dropWhile isDigit)
      rw [e] at e2
      rw [List.take_length, e2] at this
      exact this
  unfold chanceryref2_ReadDecimal
  rw [decide_eq_false (by omega), cond_false]
  erw [hsg]
  rw [Option.bind_some]
  dsimp only
  rw [span_eq (by omega), Option.bind_some]
  dsimp only
  rw [(hcut (body s)).1, Option.bind_some, (hcut (body s)).2, Option.bind_some, has_eq, Option.bind_some]
  dsimp only
  unfold decOf
  dsimp only
  have ha := tw_all (body s)
  generalize (body s).takeWhile isDigit = w at *
  generalize (body s).dropWhile isDigit = rest at *
  by_cases hd : rest.head? = some 46
  · have hn := head_ne hd
    have htl : rest.tail.length < rest.length := by
      rw [List.length_tail]
      have := List.length_pos_iff.2 hn
      omega
    have ht2 := tw_len rest.tail
    have w1 : IntKind.i64.wrap (1 + ((rest.tail.takeWhile isDigit).length : Int)) = ((1 + (rest.tail.takeWhile isDigit).length : Nat) : Int) := by rw [wrap_i64 (by omega) (by omega)]; omega
    obtain ⟨a, t, hat⟩ : ∃ a t, rest = a :: t := by
      cases rest with
      | nil => exact absurd rfl hn
      | cons a t => exact ⟨a, t, rfl⟩
    have hc1 : cut rest 1 ((1 + (rest.tail.takeWhile isDigit).length : Nat) : Int) = some (rest.tail.takeWhile isDigit) := by
      have := cut_nat (xs := rest) (a := 1) (b := 1 + (rest.tail.takeWhile isDigit).length) (by omega) (by omega)
      have e2 := List.take_left (l₁ := rest.tail.takeWhile isDigit) (l₂ := rest.tail.dropWhile isDigit)
      rw [tw_dw] at e2
      subst hat
      dsimp only [List.tail_cons] at *
      rw [Nat.add_comm 1, List.take_succ_cons, List.drop_succ_cons, List.drop_zero, e2] at this
      rw [Nat.add_comm 1]
      exact this
    have hc2 : cut rest ((1 + (rest.tail.takeWhile isDigit).length : Nat) : Int) (rest.length : Int) = some (rest.tail.dropWhile isDigit) := by
      have := cut_nat (xs := rest) (a := 1 + (rest.tail.takeWhile isDigit).length) (b := rest.length) (by omega) (by omega)
      have e2 := List.drop_left (l₁ := rest.tail.takeWhile isDigit) (l₂ := rest.tail.dropWhile isDigit)
      rw [tw_dw] at e2
      rw [List.take_length] at this
      subst hat
      dsimp only [List.tail_cons] at *
      rw [Nat.add_comm 1, List.drop_succ_cons, e2] at this
      rw [Nat.add_comm 1]
      exact this
    rw [if_pos hd, decide_eq_true hd, cond_true, cut_tail hn, Option.bind_some, span_eq (by omega), Option.bind_some]
    dsimp only
    rw [w1, hc1, Option.bind_some, hc2, Option.bind_some]
    have ha2 := tw_all rest.tail
    generalize rest.tail.takeWhile isDigit = p at *
    generalize rest.tail.dropWhile isDigit = r2 at *
    by_cases hp : p = []
    · rw [if_pos hp, decide_eq_true hp]
      rfl
    · rw [if_neg hp, decide_eq_false hp, cond_false, Option.bind_some]
      dsimp only
      erw [rexpo_eq (by omega)]
      rw [Option.bind_some]
      unfold decFin
      cases he : expo r2 with
      | none => rfl
      | some k =>
        dsimp only
        by_cases hw0 : w = []
        · rw [if_pos hw0, decide_eq_true hw0]
          rfl
        · rw [if_neg hw0, decide_eq_false hw0, cond_false]
          exact rfin_eq hw0 ha ha2 (by omega) (expo_bound he)
  · rw [if_neg hd, decide_eq_false hd, cond_false, Option.bind_some]
    dsimp only
    erw [rexpo_eq (by omega)]
    rw [Option.bind_some]
    unfold decFin
    cases he : expo rest with
    | none => rfl
    | some k =>
      dsimp only
      by_cases hw0 : w = []
      · rw [if_pos hw0, decide_eq_true hw0]
        rfl
      · rw [if_neg hw0, decide_eq_false hw0, cond_false]
        exact rfin_eq hw0 ha rfl (by simp; omega) (expo_bound he)
theorem decOf_dl {s : Str} {m : Bool} {N : Nat} {e : Int} (h : s.length ≤ 1000) (hd : decOf s = some (m, N, e)) : dl N ≤ 1000 ∧ -2000 ≤ e ∧ e ≤ 2000 := by
  have hb := body_len s
  have ht := tw_len (body s)
  have ha := tw_all (body s)
  have key : ∀ {w p r : Str}, w.all isDigit = true → p.all isDigit = true → w.length + p.length ≤ 1000 → decFin (signOf s) w p r = some (m, N, e) → dl N ≤ 1000 ∧ -2000 ≤ e ∧ e ≤ 2000 := by
    intro w p r h1 h2 h3 h4
    unfold decFin at h4
    cases he : expo r with
    | none => rw [he] at h4; cases h4
    | some k =>
      have hk := expo_bound he
      rw [he] at h4
      dsimp only at h4
      split at h4
      · cases h4
      · cases h4
        have hdl := all_dl (s := w ++ p) (by rw [List.all_append, h1, h2]; rfl)
        rw [List.length_append] at hdl
        omega
  unfold decOf at hd
  dsimp only at hd
  generalize (body s).takeWhile isDigit = w at *
  generalize (body s).dropWhile isDigit = rest at *
  split at hd
  · have ht2 := tw_len rest.tail
    have htl : rest.tail.length ≤ rest.length := by rw [List.length_tail]; omega
    split at hd
    · cases hd
    · exact key ha (tw_all _) (by omega) hd
  · exact key ha rfl (by simp; omega) hd
theorem parse_law {s : Str} (hs : s.length < 100000000) : chancerylaw2_ExactParseMatches s = some (true, ()) := by
  unfold chancerylaw2_ExactParseMatches
  rw [fractions_eq, Option.bind_some]
  dsimp only
  rw [Bool.not_true, cond_false]
  by_cases h : s.length ≤ 1000
  · rw [Parse_eq h, ReadDecimal_eq h, Option.bind_some, Option.bind_some]
    cases hd : decOf s with
    | none => rfl
    | some t =>
      obtain ⟨m, N, e⟩ := t
      obtain ⟨d1, d2, d3⟩ := decOf_dl h hd
      obtain ⟨f1, f2⟩ := fin_dl d1 d2 d3
      have hf := lfracT (m := m) (n := finN N e) (d := finD e) (finD_pos e) (by omega) (by omega)
      dsimp only
      by_cases g : (fracOut m (finN N e) (finD e)).2.1 = 0
      · rw [decide_eq_true g, Bool.not_true, cond_false, hf]
        rfl
      · rw [decide_eq_false g, Bool.not_false, cond_true]
        have : (fracOut m (finN N e) (finD e)).1 = ([], [], ()) := by
          unfold fracOut at g ⊢
          split at g
          · exact absurd rfl g
          · rename_i g1
            rw [if_neg g1]
            split at g
            · rename_i g2
              rw [if_pos g2]
            · exact absurd rfl g
        rw [this]
        simp [Ty.beq]
  · have e1 : exact_Parse s = some (([], [], ()), 3, ()) := by
      unfold exact_Parse
      rw [decide_eq_true (by omega)]
      rfl
    have e2 : chanceryref2_ReadDecimal s = some ((false, [], [], ()), 3, ()) := by
      unfold chanceryref2_ReadDecimal
      rw [decide_eq_true (by omega)]
      rfl
    rw [e1, e2]
    rfl
end Go.Proofs.YtmcoedgkmciciaaGreatDoor
