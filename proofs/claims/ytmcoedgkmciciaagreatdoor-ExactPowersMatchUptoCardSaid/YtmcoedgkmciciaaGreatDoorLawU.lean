import Derived.Test.YtmcoedgkmciciaaGreatDoorLawT
namespace Go.Proofs.YtmcoedgkmciciaaGreatDoor
open Go Go.Fe

theorem fracOut_over {m : Bool} {N D K : Nat} (hc : N.gcd D = 1) (h0 : N ^ K ≠ 0) (h : 300 < dl (N ^ K) ∨ 300 < dl (D ^ K)) : fracOut m (N ^ K) (D ^ K) = (([], [], ()), 19, ()) := by
  have hg : (N ^ K).gcd (D ^ K) = 1 := Nat.Coprime.pow K K hc
  unfold fracOut
  rw [if_neg h0, hg, Nat.div_one, Nat.div_one, if_pos h]
theorem powers_core {m : Bool} {N D : Nat} {k : Int} (hk : -20 ≤ k) (hk' : k ≤ 20) (hD : 0 < D) (hc : N.gcd D = 1) (dn : dl N ≤ 300) (dd : dl D ≤ 300) :
    ((exact_nat__power (rep B9 N) k).bind fun v6 =>
  (exact_nat__power (rep B9 D) k).bind fun v7 =>
  (cond (!v6.2.1)
  (some ((), (), true, (([], ([], ())) : FracD), ((m, (rep B9 N, (rep B9 D, ()))) : NumD), ()))
  (some ((), (), (!v7.2.1), (([], ([], ())) : FracD), ((m, (rep B9 N, (rep B9 D, ()))) : NumD), ())) : Option (Unit × (Unit × (Bool × ((Str × (Str × Unit)) × ((Bool × ((List Int) × ((List Int) × Unit))) × Unit)))))).bind fun r8 =>
  cond r8.2.2.1
  (some ((([], ([], ())) : FracD), (19 : Int), ()))
  (cond r8.2.2.2.2.1.1
  ((exact_number__write ((!decide (k.tmod 2 = 0)), v6.1, v7.1, ())).bind fun v9 =>
  some (v9.1, v9.2.1, ()))
  ((exact_number__write (false, v6.1, v7.1, ())).bind fun v10 =>
  some (v10.1, v10.2.1, ())))) = some (fracOut (powM m k.natAbs) (N ^ k.natAbs) (D ^ k.natAbs)) := by
  have hr := (rem_two k).2
  have hm : (bif m then !decide (k.tmod 2 = 0) else false) = powM m k.natAbs := by
    unfold powM
    by_cases h : k.natAbs % 2 = 0
    · rw [decide_eq_true (hr.2 h), decide_eq_false (fun e => e h)]
      cases m <;> rfl
    · rw [decide_eq_false (fun e => h (hr.1 e)), decide_eq_true h]
      cases m <;> rfl
  rcases power_eq hk hk' dn with h1 | ⟨h1, h1', h1''⟩
  · rcases power_eq hk hk' dd with h2 | ⟨h2, h2', h2''⟩
    · have e1 := dl_pow N k.natAbs
      have e2 := dl_pow D k.natAbs
      have e3 := Nat.mul_le_mul dn (show k.natAbs ≤ 20 by omega)
      have e4 := Nat.mul_le_mul dd (show k.natAbs ≤ 20 by omega)
      have hw : ∀ m', exact_number__write (m', rep B9 (N ^ k.natAbs), rep B9 (D ^ k.natAbs), ()) = some (fracOut m' (N ^ k.natAbs) (D ^ k.natAbs)) := fun m' => write_eq (Nat.pow_pos hD) (by omega) (by omega)
      rw [h1, h2, Option.bind_some, Option.bind_some]
      dsimp only
      rw [Bool.not_true, cond_false, Option.bind_some]
      dsimp only
      rw [cond_false, hw, hw, ← hm]
      cases m <;> rfl
    · rw [h1, h2, Option.bind_some, Option.bind_some]
      dsimp only
      have h0 : N ≠ 0 := by
        intro e
        subst e
        rw [Nat.gcd_zero_left] at hc
        exact h2'' hc
      rw [fracOut_over hc (Nat.ne_of_gt (Nat.pow_pos (show 0 < N by omega))) (.inr h2')]
      rfl
  · obtain ⟨v7, h2⟩ : ∃ v7, exact_nat__power (rep B9 D) k = some v7 := by
      rcases power_eq hk hk' dd with h2 | ⟨h2, _⟩
      · exact ⟨_, h2⟩
      · exact ⟨_, h2⟩
    rw [h1, h2, Option.bind_some, Option.bind_some]
    dsimp only
    have h0 : N ^ k.natAbs ≠ 0 := by
      intro e
      rw [e] at h1'
      exact absurd h1' (by decide)
    rw [fracOut_over hc h0 (.inl h1')]
    rfl
theorem Power_bad {a : FracD} {k : Int} (h1 : a.1.length < 100000000) (h2 : a.2.1.length < 100000000) (h : fracErr a ≠ 0) : exact_Power a k = some (([], [], ()), fracErr a, ()) := by
  simp only [exact_Power, read_bad h1 h2 h, Option.bind_some, h, decide_false, Bool.not_false, cond_true]
theorem Power_good {a : FracD} {k : Int} {m : Bool} {n d : Nat} (hr : exact_read a = some (N9 m n d, 0, ())) (hk : -20 ≤ k) (hk' : k ≤ 20) (hd : 0 < d) (hc : n.gcd d = 1) (dn : dl n ≤ 300) (dd : dl d ≤ 300) :
    exact_Power a k = some (if k < 0 then (if n = 0 then (([], [], ()), 1, ()) else fracOut (powM m k.natAbs) (d ^ k.natAbs) (n ^ k.natAbs)) else fracOut (powM m k.natAbs) (n ^ k.natAbs) (d ^ k.natAbs)) := by
  unfold exact_Power
  rw [hr, Option.bind_some]
  unfold N9
  dsimp only
  rw [decide_eq_true rfl, Bool.not_true, cond_false, (rem_two k).1, Option.bind_some]
  by_cases hn : k < 0
  · rw [if_pos hn, decide_eq_true hn, cond_true, zero_eq, Option.bind_some]
    dsimp only
    by_cases h0 : n = 0
    · rw [if_pos h0, decide_eq_true h0, cond_true, Option.bind_some]
    · rw [if_neg h0, decide_eq_false h0, cond_false, Option.bind_some]
      dsimp only
      exact powers_core hk hk' (by omega) (by rw [Nat.gcd_comm]; exact hc) dd dn
  · rw [if_neg hn, decide_eq_false hn, cond_false, Option.bind_some]
    dsimp only
    exact powers_core hk hk' hd hc dn dd
theorem powers_law {a : FracD} {n p q : Int} (h1 : a.1.length < 100000000) (h2 : a.2.1.length < 100000000) (n1 : -9223372036854775808 ≤ n) (n2 : n ≤ 9223372036854775807) (p1 : -9223372036854775808 ≤ p) (p2 : p ≤ 9223372036854775807) (q1 : -9223372036854775808 ≤ q) (q2 : q ≤ 9223372036854775807) :
    chancerylaw2_ExactPowersMatch a n p q = some (true, ()) := by
  obtain ⟨k, hk, k1, k2⟩ := mod41 n1 n2
  have dp := dl_i64 p1 p2
  have dq := dl_i64 q1 q2
  have d1 : dl 1 = 1 := dl_ten 0
  obtain ⟨o1, o2⟩ := Of_eq p1 p2
  have hof : chancerylaw2_frac (fracOut (decide (p < 0)) p.natAbs 1).1 0 (N10 (decide (p < 0)) p.natAbs 1) = some (true, ()) := by
    have := lfracT (m := decide (p < 0)) (n := p.natAbs) (d := 1) (by omega) (by omega) (by omega)
    rwa [o2] at this
  have w20 : IntKind.i64.wrap (k + 20 - 20) = k := by rw [wrap_i64 (by omega) (by omega)]; omega
  have htail : ((exact_Power a k).bind fun v15 =>
  (chanceryref2_FracError a).bind fun v16 =>
  cond (!decide (v16.1 = 0))
  (cond (Ty.beq (.pair .str (.pair .str .unit)) v15.1 ([], [], ()))
  (some ((decide (v15.2.1 = v16.1)), ()))
  (some (false, ())))
  ((chanceryref2_RatOf a).bind fun v17 =>
  (cond (decide (k < 0))
  ((chanceryref2_Rat__Sign v17.1).bind fun v18 =>
  cond (decide (v18.1 = 0))
  (cond (Ty.beq (.pair .str (.pair .str .unit)) v15.1 ([], [], ()))
  (some (.inr ((decide (v15.2.1 = 1)), ())))
  (some (.inr (false, ()))))
  ((chanceryref2_Rat__Inverse v17.1).bind fun v19 =>
  some (.inl (IntKind.i64.wrap (0 - k), (), (), v15.1, v19.1, ()))))
  (some (.inl (k, (), (), v15.1, v17.1, ()))) : Option ((Int × (Unit × (Unit × ((Str × (Str × Unit)) × ((Bool × ((List Int) × ((List Int) × Unit))) × Unit))))) ⊕ (Bool × Unit))).bind fun r20 =>
  (match r20 with
  | .inl z21 => (let v22 : (Bool × ((List Int) × ((List Int) × Unit))) := z21.2.2.2.2.1
  (chanceryref2_Rat__Power v22 z21.1).bind fun v23 =>
  (chancerylaw2_frac z21.2.2.2.1 v15.2.1 v23.1).bind fun v24 =>
  some v24)
  | .inr z25 => (some z25)))) = some (true, ()) := by
    rw [fracError_eq h1 h2]
    by_cases ha : fracErr a = 0
    · have ga := good_of ha
      have hr : exact_read a = some (N9 (signOf a.1) (dec (body a.1)) (dec a.2.1), 0, ()) := read_good h1 h2 ha
      have hR : chanceryref2_RatOf a = some (N10 (signOf a.1) (dec (body a.1)) (dec a.2.1), ()) := ratOf_eq ga
      have e1 := ga.dln
      have e2 := ga.dld
      have e3 := ga.pos
      have e4 := ga.cop
      generalize signOf a.1 = m at *
      generalize dec (body a.1) = x at *
      generalize dec a.2.1 = y at *
      have f1 := dl_pow x k.natAbs
      have f2 := dl_pow y k.natAbs
      have f3 := Nat.mul_le_mul e1 (show k.natAbs ≤ 20 by omega)
      have f4 := Nat.mul_le_mul e2 (show k.natAbs ≤ 20 by omega)
      rw [Power_good hr k1 k2 e3 e4 e1 e2, hR, Option.bind_some, Option.bind_some]
      dsimp only
      rw [ha, decide_eq_true rfl, Bool.not_true, cond_false, Option.bind_some]
      dsimp only
      by_cases hn : k < 0
      · rw [if_pos hn, decide_eq_true hn, cond_true, sign_eq, Option.bind_some]
        dsimp only
        by_cases h0 : x = 0
        · rw [if_pos h0, h0, show sgnOf m 0 = 0 from rfl, decide_eq_true rfl, cond_true]
          simp [Ty.beq]
        · have hs0 : sgnOf m x ≠ 0 := by
            unfold sgnOf
            rw [if_neg h0]
            cases m <;> decide
          have w : IntKind.i64.wrap (0 - k) = ((k.natAbs : Nat) : Int) := by rw [wrap_i64 (by omega) (by omega)]; omega
          have hp := rpower_eq (m := m) (K := k.natAbs) (by omega) e2 e1
          have hf := lfracT (m := powM m k.natAbs) (n := y ^ k.natAbs) (d := x ^ k.natAbs) (Nat.pow_pos (by omega)) (by omega) (by omega)
          rw [if_neg h0, decide_eq_false hs0, cond_false, inv_N10, Option.bind_some, Option.bind_some, w]
          dsimp only
          rw [hp, Option.bind_some]
          dsimp only
          rw [hf]
          rfl
      · have hp := rpower_eq (m := m) (K := k.natAbs) (by omega) e1 e2
        have hf := lfracT (m := powM m k.natAbs) (n := x ^ k.natAbs) (d := y ^ k.natAbs) (Nat.pow_pos (by omega)) (by omega) (by omega)
        rw [show ((k.natAbs : Nat) : Int) = k by omega] at hp
        rw [if_neg hn, decide_eq_false hn, cond_false, Option.bind_some]
        dsimp only
        rw [hp, Option.bind_some]
        dsimp only
        rw [hf]
        rfl
    · rw [Power_bad h1 h2 ha, Option.bind_some, Option.bind_some]
      dsimp only
      rw [decide_eq_false ha]
      simp [Ty.beq]
  unfold chancerylaw2_ExactPowersMatch
  rw [fractions_eq, Option.bind_some]
  dsimp only
  rw [Bool.not_true, cond_false, Ratio_eq p1 p2 q1 q2, Option.bind_some, Whole_eq p1 p2, Whole_eq q1 q2]
  by_cases hq : q = 0
  · rw [if_pos hq, decide_eq_true hq, cond_true]
    simp only [Ty.beq, decide_true, Bool.and_self, Bool.not_true, cond_false, Option.bind_some, o1, hof, hk, w20]
    exact htail
  · have hm := mul_eq (m1 := decide (p < 0)) (m2 := decide (q < 0)) (n1 := p.natAbs) (d1 := 1) (n2 := 1) (d2 := q.natAbs) (by omega) (by omega) (by omega) (by omega)
    rw [Nat.mul_one, Nat.one_mul] at hm
    have hf := lfracT (m := !(decide (p < 0) == decide (q < 0))) (n := p.natAbs) (d := q.natAbs) (by omega) (by omega) (by omega)
    rw [if_neg hq, decide_eq_false hq, cond_false]
    simp only [Option.bind_some, inv_N10, hm, hf, Bool.not_true, cond_false, o1, hof, hk, w20]
    exact htail
end Go.Proofs.YtmcoedgkmciciaaGreatDoor
