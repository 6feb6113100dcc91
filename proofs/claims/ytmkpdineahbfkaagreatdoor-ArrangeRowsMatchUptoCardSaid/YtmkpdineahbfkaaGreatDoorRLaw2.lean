import Derived.Test.YtmkpdineahbfkaaGreatDoorRLaw1
namespace Go.Proofs.YtmkpdineahbfkaaGreatDoor
open Go Go.Fe

/-! ### The reference: digits of base ten -/
theorem digitAt_eq {a : List Int} {i : Nat} (ha : InB 10 a) : chanceryref2_digitAt a (i : Int) = some ((dig a i : Int), ()) := by
  unfold chanceryref2_digitAt
  by_cases h : i < a.length
  · have c : (i : Int) < (a.length : Int) := by omega
    rw [decide_eq_true c, cond_true, idx_dig ha h]
    rfl
  · have c : ¬(i : Int) < (a.length : Int) := by omega
    rw [decide_eq_false c, cond_false, dig_over h]
    rfl
theorem rplus_step {a b : List Int} (ha : InB 10 a) (hb : InB 10 b) {c i : Nat} {acc : List Int} (hc : c ≤ 1) (hi : i < 1000000000) (hacc : acc.length ≤ 1000000000) :
    chanceryref2_Nat__Plus_l1 a b ((), (c : Int), (i : Int), acc, ()) = if i < a.length ∨ i < b.length ∨ 0 < c then some (.inl ((), (((c + dig a i + dig b i) / 10 : Nat) : Int), ((i + 1 : Nat) : Int), acc ++ [(((c + dig a i + dig b i) % 10 : Nat) : Int)], ())) else some (.inr ((), acc, ())) := by
  have w := wrapI1 (i := i) (by omega)
  have da := dig_lt (B := 10) (by omega) ha i
  have db := dig_lt (B := 10) (by omega) hb i
  have hcat : ∀ x : Int, cat acc [x] = some (acc ++ [x]) := fun x => cat_ok (by simp; omega)
  have w2 : IntKind.i64.wrap (IntKind.i64.wrap ((dig a i : Int) + (dig b i : Int)) + (c : Int)) = ((c + dig a i + dig b i : Nat) : Int) := by rw [wrap_i64 (n := (dig a i : Int) + _) (by omega) (by omega), wrap_i64 (by omega) (by omega)]; omega
  have hq' : quo .i64 ((c + dig a i + dig b i : Nat) : Int) 10 = some (((c + dig a i + dig b i) / 10 : Nat) : Int) := quo_nat (b := 10) (by omega) (by omega)
  have hr' : rem ((c + dig a i + dig b i : Nat) : Int) 10 = some (((c + dig a i + dig b i) % 10 : Nat) : Int) := rem_nat (b := 10) (by omega)
  have hgo : ∀ acc' : List Int, acc' = acc → ((chanceryref2_digitAt a (i : Int)).bind fun v2 =>
  (chanceryref2_digitAt b (i : Int)).bind fun v3 =>
  let v4 : Int := IntKind.i64.wrap ((IntKind.i64.wrap (v2.1 + v3.1)) + (c : Int))
  (rem v4 10).bind fun v5 =>
  (cat acc' [v5]).bind fun v6 =>
  (quo .i64 v4 10).bind fun v7 =>
  some (.inl ((), v7, IntKind.i64.wrap ((i : Int) + 1), v6, ())) : Option ((Unit × (Int × (Int × ((List Int) × Unit)))) ⊕ (Unit × ((List Int) × Unit)))) = some (.inl ((), (((c + dig a i + dig b i) / 10 : Nat) : Int), ((i + 1 : Nat) : Int), acc ++ [(((c + dig a i + dig b i) % 10 : Nat) : Int)], ())) := by
    intro acc' e
    subst e
    simp only [digitAt_eq ha, digitAt_eq hb, Option.bind_some, w2, hr', hq', hcat, w]
  unfold chanceryref2_Nat__Plus_l1
  dsimp only
  by_cases h1 : i < a.length
  · have c1 : (i : Int) < (a.length : Int) := by omega
    rw [if_pos (.inl h1), decide_eq_true c1, cond_true, Option.bind_some]
    exact hgo _ rfl
  · have c1 : ¬(i : Int) < (a.length : Int) := by omega
    rw [decide_eq_false c1, cond_false]
    by_cases h2 : i < b.length
    · have c2 : (i : Int) < (b.length : Int) := by omega
      rw [if_pos (.inr (.inl h2)), decide_eq_true c2, cond_true, Option.bind_some]
      exact hgo _ rfl
    · have c2 : ¬(i : Int) < (b.length : Int) := by omega
      rw [decide_eq_false c2, cond_false, Option.bind_some]
      dsimp only
      by_cases h3 : 0 < c
      · have c3 : (0 : Int) < (c : Int) := by omega
        rw [if_pos (.inr (.inr h3)), decide_eq_true c3, cond_true]
        exact hgo _ rfl
      · have c3 : ¬(0 : Int) < (c : Int) := by omega
        rw [if_neg (by omega), decide_eq_false c3, cond_false]
theorem rplus_halts {a b : List Int} (ha : Ok 10 a) (hb : Ok 10 b) (hs : a.length < 100000000) (hs' : b.length < 100000000) : ∀ f i c (acc : List Int), a.length + b.length + 1 ≤ i + f → i ≤ a.length + b.length + 1 → c ≤ 1 → acc.length = i → InB 10 acc →
    val 10 acc + 10 ^ i * (c + val 10 (a.drop i) + val 10 (b.drop i)) = val 10 a + val 10 b → (0 < i → 10 ^ (i - 1) ≤ val 10 a + val 10 b) →
    ∃ out, Halts (chanceryref2_Nat__Plus_l1 a b) f ((), (c : Int), (i : Int), acc, ()) ((), out, ()) ∧ Ok 10 out ∧ val 10 out = val 10 a + val 10 b ∧ out.length ≤ a.length + b.length + 1
  | f, i, c, acc, h1, h1', hc, hl, hacc, hv, hg => by
    have hstep := rplus_step ha.1 hb.1 hc (i := i) (acc := acc) (by omega) (by omega)
    by_cases hgo : i < a.length ∨ i < b.length ∨ 0 < c
    · rw [if_pos hgo] at hstep
      have hf : i < a.length + b.length + 1 := by
        rcases Nat.lt_or_ge i (a.length + b.length + 1) with h | h
        · exact h
        · exfalso
          have e1 : a.drop i = [] := List.drop_of_length_le (by omega)
          have e2 : b.drop i = [] := List.drop_of_length_le (by omega)
          have ei : i = a.length + b.length + 1 := by omega
          have c1 : c = 1 := by omega
          rw [e1, e2, c1] at hv
          simp only [val, Nat.add_zero, Nat.mul_one] at hv
          have l1 := val_lt ha.1
          have l2 := val_lt hb.1
          have p1 : (10 : Nat) ^ a.length ≤ 10 ^ (a.length + b.length) := Nat.pow_le_pow_right (by omega) (by omega)
          have p2 : (10 : Nat) ^ b.length ≤ 10 ^ (a.length + b.length) := Nat.pow_le_pow_right (by omega) (by omega)
          rw [ei, Nat.pow_succ] at hv
          generalize (10 : Nat) ^ (a.length + b.length) = P at *
          omega
      cases f with
      | zero => omega
      | succ f =>
        have va := val_drop (B := 10) a i
        have vb := val_drop (B := 10) b i
        have da := dig_lt (B := 10) (by omega) ha.1 i
        have db := dig_lt (B := 10) (by omega) hb.1 i
        have hdm := Nat.div_add_mod (c + dig a i + dig b i) 10
        have hml := Nat.mod_lt (c + dig a i + dig b i) (show 0 < 10 by omega)
        generalize hq : (c + dig a i + dig b i) / 10 = q at *
        generalize hr : (c + dig a i + dig b i) % 10 = r at *
        have hq1 : q ≤ 1 := by omega
        obtain ⟨out, o1, o2, o3, o4⟩ := rplus_halts ha hb hs hs' f (i + 1) q (acc ++ [(r : Int)]) (by omega) (by omega) hq1 (by simp [hl]) (by
          intro x hx
          rcases List.mem_append.1 hx with hx | hx
          · exact hacc x hx
          · rw [List.mem_singleton] at hx
            subst hx
            omega) (by
          rw [val_append, hl, Nat.pow_succ, ← hv, va, vb]
          simp only [val, Nat.mul_zero, Nat.add_zero, Int.toNat_natCast]
          generalize val 10 (a.drop (i + 1)) = A
          generalize val 10 (b.drop (i + 1)) = Bv
          generalize (10 : Nat) ^ i = P
          rw [Nat.mul_assoc P, Nat.add_assoc, ← Nat.mul_add]
          congr 2
          omega) (by
          intro _
          rw [Nat.add_sub_cancel]
          rcases hgo with h | h | h
          · have := ok_long (by omega) ha h
            omega
          · have := ok_long (by omega) hb h
            omega
          · have c1 : c = 1 := by omega
            rw [c1] at hv
            have : (10 : Nat) ^ i * 1 ≤ 10 ^ i * (1 + val 10 (a.drop i) + val 10 (b.drop i)) := Nat.mul_le_mul_left _ (by omega)
            omega)
        exact ⟨out, .step hstep o1, o2, o3, o4⟩
    · rw [if_neg hgo] at hstep
      have e1 : a.drop i = [] := List.drop_of_length_le (by omega)
      have e2 : b.drop i = [] := List.drop_of_length_le (by omega)
      have c0 : c = 0 := by omega
      rw [e1, e2, c0] at hv
      simp only [val, Nat.add_zero, Nat.mul_zero] at hv
      refine ⟨acc, .done hstep, ok_of_ge hacc (fun hne => ?_), hv, by omega⟩
      have h0 : 0 < acc.length := List.length_pos_iff.2 hne
      rw [hv, hl]
      exact hg (by omega)
theorem rplus_eq {a b : Nat} (ha : dl a < 1000000) (hb : dl b < 1000000) : chanceryref2_Nat__Plus (rep 10 a) (rep 10 b) = some (rep 10 (a + b), ()) := by
  have h1 : (rep 10 a).length = dl a := rfl
  have h2 : (rep 10 b).length = dl b := rfl
  obtain ⟨out, o1, o2, o3, o4⟩ := rplus_halts (ok_rep (B := 10) (by decide) a) (ok_rep (B := 10) (by decide) b) (by omega) (by omega) ((rep 10 a).length + (rep 10 b).length + 1) 0 0 [] (by omega) (by omega) (by omega) rfl (fun _ h => by cases h) (by simp [val]) (fun h => by omega)
  have := o1.loop (by omega)
  unfold chanceryref2_Nat__Plus
  erw [this]
  rw [Option.bind_some]
  dsimp only
  rw [rep_eq (by decide) o2 o3, val_rep (by decide), val_rep (by decide)]
end Go.Proofs.YtmkpdineahbfkaaGreatDoor

namespace Go.Proofs.YtmkpdineahbfkaaGreatDoor
open Go Go.Fe

theorem len10 (n : Nat) : (rep 10 n).length = dl n := rfl
theorem less_step {a b : List Int} (ha : InB 10 a) (hb : InB 10 b) {c i : Nat} {acc : List Int} (hc : c ≤ 1) (hl : acc.length = i) (hs : a.length < 1000000000) (hi : i < a.length) :
    chanceryref2_Nat__Less_l1 a b ((), (c : Int), (i : Int), acc, ()) =
      some (.inl ((), ((if dig a i < c + dig b i then 1 else 0 : Nat) : Int), ((i + 1 : Nat) : Int), acc ++ [(((if dig a i < c + dig b i then dig a i + 10 else dig a i) - (c + dig b i) : Nat) : Int)], ())) := by
  have da := dig_lt (B := 10) (by decide) ha i
  have db := dig_lt (B := 10) (by decide) hb i
  have c1 : (i : Int) < (a.length : Int) := by omega
  have w := wrapI1 (i := i) (by omega)
  have hcat : ∀ x : Int, cat acc [x] = some (acc ++ [x]) := fun x => cat_ok (by simp; omega)
  have w2 : IntKind.i64.wrap (IntKind.i64.wrap ((dig a i : Int) - (dig b i : Int)) - (c : Int)) = (dig a i : Int) - (dig b i : Int) - (c : Int) := by rw [wrap_i64 (n := (dig a i : Int) - _) (by omega) (by omega), wrap_i64 (by omega) (by omega)]
  unfold chanceryref2_Nat__Less_l1
  dsimp only
  rw [decide_eq_true c1, cond_true, idx_dig ha hi]
  simp only [Option.bind_some, digitAt_eq hb, w2]
  by_cases g : dig a i < c + dig b i
  · have g' : (dig a i : Int) - (dig b i : Int) - (c : Int) < 0 := by omega
    have w5 : IntKind.i64.wrap ((dig a i : Int) - (dig b i : Int) - (c : Int) + 10) = ((dig a i + 10 - (c + dig b i) : Nat) : Int) := by rw [wrap_i64 (by omega) (by omega)]; omega
    simp only [g, g', if_true, decide_true, cond_true, Option.bind_some, w5, hcat, w]
    rfl
  · have g' : ¬(dig a i : Int) - (dig b i : Int) - (c : Int) < 0 := by omega
    have w5 : (dig a i : Int) - (dig b i : Int) - (c : Int) = ((dig a i - (c + dig b i) : Nat) : Int) := by omega
    simp only [g, g', if_false, decide_false, cond_false, Option.bind_some, hcat, w]
    rw [w5]
    rfl
theorem less_halts {a b : List Int} (ha : InB 10 a) (hb : InB 10 b) (hs : a.length < 1000000000) (hle : val 10 b ≤ val 10 a) : ∀ f i c (acc : List Int), i + f = a.length → c ≤ 1 → acc.length = i → InB 10 acc →
    val 10 acc + 10 ^ i * val 10 (a.drop i) + val 10 b = val 10 a + 10 ^ i * (val 10 (b.drop i) + c) →
    ∃ out, Halts (chanceryref2_Nat__Less_l1 a b) f ((), (c : Int), (i : Int), acc, ()) ((), out, ()) ∧ InB 10 out ∧ out.length = a.length ∧ val 10 out + val 10 b = val 10 a
  | 0, i, c, acc, hf, hc, hl, hacc, hv => by
    have e1 : a.drop i = [] := List.drop_of_length_le (by omega)
    rw [e1] at hv
    refine ⟨acc, .done ?_, hacc, by omega, ?_⟩
    · have c1 : ¬(i : Int) < (a.length : Int) := by omega
      unfold chanceryref2_Nat__Less_l1
      dsimp only
      rw [decide_eq_false c1, cond_false]
    · have h1 := val_lt hacc
      rw [hl] at h1
      simp only [val, Nat.mul_zero, Nat.add_zero] at hv
      by_cases g : val 10 (b.drop i) + c = 0
      · rw [g] at hv
        omega
      · have := Nat.mul_le_mul_left (10 ^ i) (show 1 ≤ val 10 (b.drop i) + c by omega)
        omega
  | f + 1, i, c, acc, hf, hc, hl, hacc, hv => by
    have da := dig_lt (B := 10) (by decide) ha i
    have db := dig_lt (B := 10) (by decide) hb i
    have va := val_drop (B := 10) a i
    have vb := val_drop (B := 10) b i
    have hstep := less_step ha hb hc hl hs (by omega)
    have hc' : (if dig a i < c + dig b i then 1 else 0 : Nat) ≤ 1 := by split <;> omega
    have hd : (if dig a i < c + dig b i then dig a i + 10 else dig a i) - (c + dig b i) < 10 := by split <;> omega
    have hq : (if dig a i < c + dig b i then dig a i + 10 else dig a i) - (c + dig b i) + (c + dig b i) = dig a i + 10 * (if dig a i < c + dig b i then 1 else 0) := by split <;> omega
    generalize (if dig a i < c + dig b i then 1 else 0 : Nat) = c' at *
    generalize (if dig a i < c + dig b i then dig a i + 10 else dig a i) - (c + dig b i) = d at *
    obtain ⟨out, h1, h2, h3, h4⟩ := less_halts ha hb hs hle f (i + 1) c' (acc ++ [(d : Int)]) (by omega) hc' (by simp [hl]) (by
      intro x hx
      rcases List.mem_append.1 hx with hx | hx
      · exact hacc x hx
      · rw [List.mem_singleton] at hx
        subst hx
        omega) (by
      rw [val_append, hl, Nat.pow_succ]
      rw [va, vb] at hv
      simp only [val, Nat.mul_zero, Nat.add_zero, Int.toNat_natCast]
      generalize val 10 (a.drop (i + 1)) = A at *
      generalize val 10 (b.drop (i + 1)) = Bv at *
      generalize 10 ^ i = P at *
      have := congrArg (P * ·) hq
      grind)
    exact ⟨out, .step hstep h1, h2, h3, h4⟩
theorem less_eq {a b : Nat} (h : b ≤ a) (hs : dl a < 1000000) : chanceryref2_Nat__Less (rep 10 a) (rep 10 b) = some (rep 10 (a - b), ()) := by
  have hl := len10 a
  have va := val_rep (B := 10) (by decide) a
  have vb := val_rep (B := 10) (by decide) b
  have ha := ok_rep (B := 10) (by decide) a
  have hb := ok_rep (B := 10) (by decide) b
  obtain ⟨out, h1, h2, h3, h4⟩ := less_halts ha.1 hb.1 (by omega) (by omega) (rep 10 a).length 0 0 [] (by omega) (by omega) rfl (fun _ h => by cases h) (by simp [val])
  have := h1.loop (by omega)
  unfold chanceryref2_Nat__Less
  erw [this]
  rw [Option.bind_some]
  dsimp only
  rw [rtrim_eq (by omega), trim_rep (by decide) h2]
  rw [va, vb] at h4
  rw [show val 10 out = a - b by omega]
  rfl
/-! ### Comparing -/
theorem rcmp_halts {a b : List Int} (ha : InB 10 a) (hb : InB 10 b) (hl : a.length = b.length) (hs : a.length < 1000000000) : ∀ n, n ≤ a.length →
    ∃ r, Halts (chanceryref2_Nat__Compare_l1 a b) n ((n : Int) - 1, ()) r ∧ match r with
      | .inl _ => val 10 (a.take n) = val 10 (b.take n)
      | .inr z => (z.1 = -1 ∧ val 10 (a.take n) < val 10 (b.take n)) ∨ (z.1 = 1 ∧ val 10 (b.take n) < val 10 (a.take n))
  | 0, _ => ⟨.inl (), .done (by simp [chanceryref2_Nat__Compare_l1]), by simp⟩
  | n + 1, h => by
    have e : (((n + 1 : Nat) : Int) - 1) = (n : Int) := by omega
    rw [e]
    have c : (0 : Int) ≤ (n : Int) := by omega
    have i1 : idx a (n : Int) = some a[n] := idx_lt (by omega)
    have i2 : idx b (n : Int) = some b[n] := idx_lt (by omega)
    have w : IntKind.i64.wrap ((n : Int) - 1) = (n : Int) - 1 := wrap_i64 (by omega) (by omega)
    have la := val_lt (ha.take n)
    have lb := val_lt (hb.take n)
    rw [List.length_take, Nat.min_eq_left (by omega)] at la lb
    have ra := ha a[n] (List.getElem_mem _)
    have rb := hb b[n] (List.getElem_mem _)
    rw [val_take (by omega), val_take (by omega)]
    by_cases g2 : a[n] < b[n]
    · refine ⟨.inr (-1, ()), .done ?_, .inl ⟨rfl, top_lt la (by omega)⟩⟩
      simp only [chanceryref2_Nat__Compare_l1, c, decide_true, cond_true, i1, i2, Option.bind_some, g2]
    · by_cases g3 : b[n] < a[n]
      · refine ⟨.inr (1, ()), .done ?_, .inr ⟨rfl, top_lt lb (by omega)⟩⟩
        simp only [chanceryref2_Nat__Compare_l1, c, decide_true, cond_true, i1, i2, Option.bind_some, g2, g3, decide_false, cond_false]
      · have g : a[n] = b[n] := by omega
        obtain ⟨r, h1, h2⟩ := rcmp_halts ha hb hl hs n (by omega)
        refine ⟨r, .step ?_ h1, ?_⟩
        · simp only [chanceryref2_Nat__Compare_l1, c, decide_true, cond_true, i1, i2, Option.bind_some, g2, g3, decide_false, cond_false, w]
        · rw [g]
          cases r with
          | inl u => dsimp only at h2 ⊢; omega
          | inr z => dsimp only at h2 ⊢; omega
theorem rcompare_eq {a b : Nat} (_hsa : dl a < 1000000) (hsb : dl b < 1000000) :
    ∃ c : Int, chanceryref2_Nat__Compare (rep 10 a) (rep 10 b) = some (c, ()) ∧ (c < 0 ↔ a < b) ∧ (c = 0 ↔ a = b) := by
  have ha := ok_rep (B := 10) (by decide) a
  have hb := ok_rep (B := 10) (by decide) b
  have va := val_rep (B := 10) (by decide) a
  have vb := val_rep (B := 10) (by decide) b
  have la := len10 a
  have lb := len10 b
  generalize rep 10 a = xs at *
  generalize rep 10 b = ys at *
  unfold chanceryref2_Nat__Compare
  have key : ∀ {as1 bs : List Int}, Ok 10 as1 → Ok 10 bs → as1.length < bs.length → val 10 as1 < val 10 bs := by
    intro as1 bs h1 h2 h3
    have h4 := val_lt h1.1
    have h5 := ok_ge h2 (by intro e; subst e; simp at h3)
    have h6 : 10 ^ as1.length ≤ 10 ^ (bs.length - 1) := Nat.pow_le_pow_right (by omega) (by omega)
    omega
  by_cases hl : xs.length = ys.length
  · have hl' : (xs.length : Int) = (ys.length : Int) := by omega
    rw [decide_eq_true hl', Bool.not_true, cond_false]
    have w : IntKind.i64.wrap ((xs.length : Int) - 1) = (xs.length : Int) - 1 := wrap_i64 (by omega) (by omega)
    obtain ⟨r, h1, h2⟩ := rcmp_halts ha.1 hb.1 hl (by omega) xs.length (Nat.le_refl _)
    rw [w, h1.loop (by omega), Option.bind_some]
    rw [List.take_length, hl, List.take_length] at h2
    cases r with
    | inl u => exact ⟨0, rfl, by dsimp only at h2; omega, by dsimp only at h2; omega⟩
    | inr z => exact ⟨z.1, rfl, by dsimp only at h2; omega, by dsimp only at h2; omega⟩
  · have hl' : ¬(xs.length : Int) = (ys.length : Int) := by omega
    rw [decide_eq_false hl', Bool.not_false, cond_true]
    rcases Nat.lt_or_gt_of_ne hl with h | h
    · have := key ha hb h
      have c : (xs.length : Int) < (ys.length : Int) := by omega
      rw [decide_eq_true c, cond_true]
      exact ⟨-1, rfl, by omega, by omega⟩
    · have := key hb ha h
      have c : ¬(xs.length : Int) < (ys.length : Int) := by omega
      rw [decide_eq_false c, cond_false]
      exact ⟨1, rfl, by omega, by omega⟩
/-! ### Halving -/
theorem half_halts {a : List Int} (ha : InB 10 a) (hs : a.length < 1000000000) : ∀ i c (qs : List Int), i + qs.length = a.length → c ≤ 1 → InB 10 qs → val 10 (a.drop i) = 2 * val 10 qs + c →
    ∃ qs', Halts (chanceryref2_Nat__half_l1 a) i ((), (c : Int), (i : Int) - 1, List.replicate i 0 ++ qs, ()) ((), qs', ()) ∧ InB 10 qs' ∧ qs'.length = a.length ∧ val 10 qs' = val 10 a / 2
  | 0, c, qs, hl, hc, hq, hv => by
    rw [List.drop_zero] at hv
    exact ⟨qs, .done rfl, hq, by omega, by omega⟩
  | i + 1, c, qs, hl, hc, hq, hv => by
    have da := dig_lt (B := 10) (by decide) ha i
    obtain ⟨qs', h1, h2, h3, h4⟩ := half_halts ha hs i ((10 * c + dig a i) % 2) ((((10 * c + dig a i) / 2 : Nat) : Int) :: qs) (by simp; omega) (by omega) (InB.append (.one (by omega)) hq) (by
      rw [val_drop, hv]
      simp only [val, Int.toNat_natCast]
      omega)
    refine ⟨qs', .step ?_ h1, h2, h3, h4⟩
    have e : ((i + 1 : Nat) : Int) - 1 = (i : Int) := by omega
    have c1 : (0 : Int) ≤ (i : Int) := by omega
    have w : IntKind.i64.wrap ((i : Int) - 1) = (i : Int) - 1 := wrap_i64 (by omega) (by omega)
    have w1 : IntKind.i64.wrap (IntKind.i64.wrap (10 * (c : Int)) + (dig a i : Int)) = ((10 * c + dig a i : Nat) : Int) := by rw [wrap_i64 (n := 10 * (c : Int)) (by omega) (by omega), wrap_i64 (by omega) (by omega)]; omega
    have q1 : quo .i64 ((10 * c + dig a i : Nat) : Int) 2 = some (((10 * c + dig a i) / 2 : Nat) : Int) := quo_nat (b := 2) (by omega) (by omega)
    have q2 : rem ((10 * c + dig a i : Nat) : Int) 2 = some (((10 * c + dig a i) % 2 : Nat) : Int) := rem_nat (b := 2) (by omega)
    have hin : inb (i : Int) (List.replicate (i + 1) (0 : Int) ++ qs).length = true := inb_nat (by simp; omega)
    have hset : ∀ x : Int, (List.replicate (i + 1) (0 : Int) ++ qs).set i x = List.replicate i 0 ++ x :: qs := fun x => by
      rw [List.replicate_succ', List.append_assoc, List.singleton_append, set_mid (by simp)]
    unfold chanceryref2_Nat__half_l1
    dsimp only
    rw [e, decide_eq_true c1, cond_true, idx_dig ha (by omega)]
    simp only [Option.bind_some, w1, q1, q2, hin, chk_t, Int.toNat_natCast, hset, w]
theorem half_eq {a : Nat} (hs : dl a < 1000000) : chanceryref2_Nat__half (rep 10 a) = some (rep 10 (a / 2), ()) := by
  have la := len10 a
  obtain ⟨qs, h1, h2, h3, h4⟩ := half_halts (a := rep 10 a) (.rep (by decide)) (by omega) (rep 10 a).length 0 [] (by simp) (by omega) (fun _ h => by cases h) (by simp [val])
  have w : IntKind.i64.wrap (((rep 10 a).length : Int) - 1) = ((rep 10 a).length : Int) - 1 := wrap_i64 (by omega) (by omega)
  have := h1.loop (by omega)
  rw [List.append_nil] at this
  unfold chanceryref2_Nat__half
  rw [mk_nat (by omega), Option.bind_some, w]
  erw [this]
  rw [Option.bind_some]
  dsimp only
  rw [rtrim_eq (by omega), trim_rep (by decide) h2, h4, val_rep (by decide)]
  rfl
end Go.Proofs.YtmkpdineahbfkaaGreatDoor

namespace Go.Proofs.YtmkpdineahbfkaaGreatDoor
open Go Go.Fe

/-! ### The reference: multiplying -/
theorem InB.mono {B C : Nat} {xs : List Int} (h : InB B xs) (hBC : B ≤ C) : InB C xs := fun x hx => by
  have := h x hx
  omega
theorem rtimes_add {a b pre suf : List Int} (ha : InB 10 a) (hb : InB 10 b) {i : Nat} {p : Unit × List Int × Unit} (hia : i < a.length) (hi : pre.length = i) (hsuf : InB 10 suf) (hsl : b.length ≤ suf.length) (hs : (pre ++ suf).length < 1000000000) :
    ∀ f k (acc : List Int), k + f = b.length → acc.length = k → InB 100 acc → val 10 acc + 10 ^ k * (dig a i * val 10 (b.drop k) + val 10 (suf.drop k)) = dig a i * val 10 b + val 10 suf →
    ∃ S, Halts (chanceryref2_Nat__Times_l1 b ((), (i : Int), p.2) a) f ((), (k : Int), pre ++ (acc ++ suf.drop k), ()) ((), pre ++ S, ()) ∧ InB 100 S ∧ S.length = suf.length ∧ val 10 S = dig a i * val 10 b + val 10 suf
  | 0, k, acc, hf, hk, hacc, hv => by
    have e1 : b.drop k = [] := List.drop_of_length_le (by omega)
    refine ⟨acc ++ suf.drop k, .done ?_, hacc.append ((hsuf.drop k).mono (by omega)), by simp; omega, ?_⟩
    · have c1 : ¬(k : Int) < (b.length : Int) := by omega
      unfold chanceryref2_Nat__Times_l1
      dsimp only
      rw [decide_eq_false c1, cond_false]
    · rw [val_append, hk, ← hv, e1]
      simp [val]
  | f + 1, k, acc, hf, hk, hacc, hv => by
    have da := dig_lt (B := 10) (by decide) ha i
    have db := dig_lt (B := 10) (by decide) hb k
    have ds := dig_lt (B := 10) (by decide) hsuf k
    have hp : dig a i * dig b k ≤ 81 := Nat.mul_le_mul (show dig a i ≤ 9 by omega) (show dig b k ≤ 9 by omega)
    have va := val_drop (B := 10) b k
    have vb := val_drop (B := 10) suf k
    have e := drop_dig hsuf (show k < suf.length by omega)
    have hl : (pre ++ acc).length = i + k := by simp [hi, hk]
    have e2 : pre ++ (acc ++ (dig suf k : Int) :: suf.drop (k + 1)) = (pre ++ acc) ++ (dig suf k : Int) :: suf.drop (k + 1) := by simp
    have w1 : IntKind.i64.wrap ((i : Int) + (k : Int)) = ((i + k : Nat) : Int) := by
      rw [List.length_append] at hs
      rw [wrap_i64 (by omega) (by omega)]
      omega
    have hin : inb ((i + k : Nat) : Int) ((pre ++ acc) ++ (dig suf k : Int) :: suf.drop (k + 1)).length = true := inb_nat (by
      rw [← hl]
      simp)
    have w2 : IntKind.i64.wrap ((dig suf k : Int) + IntKind.i64.wrap ((dig a i : Int) * (dig b k : Int))) = ((dig a i * dig b k + dig suf k : Nat) : Int) := by
      rw [← Int.natCast_mul]
      generalize dig a i * dig b k = z at *
      rw [wrap_i64 (n := (z : Int)) (by omega) (by omega), wrap_i64 (by omega) (by omega)]
      omega
    have w3 := wrapI1 (i := k) (by
      rw [List.length_append] at hs
      omega)
    obtain ⟨S, h1, h2, h3, h4⟩ := rtimes_add ha hb hia hi hsuf hsl hs (p := p) f (k + 1) (acc ++ [((dig a i * dig b k + dig suf k : Nat) : Int)]) (by omega) (by simp [hk]) (hacc.append (.one (by omega))) (by
      rw [val_append, hk, Nat.pow_succ, ← hv, va, vb]
      simp only [val, Nat.mul_zero, Nat.add_zero, Int.toNat_natCast]
      generalize val 10 (b.drop (k + 1)) = V
      generalize val 10 (suf.drop (k + 1)) = W
      generalize 10 ^ k = P
      grind)
    refine ⟨S, .step ?_ h1, h2, h3, h4⟩
    have c1 : (k : Int) < (b.length : Int) := by omega
    rw [e, e2]
    unfold chanceryref2_Nat__Times_l1
    dsimp only
    rw [decide_eq_true c1, cond_true]
    simp only [Option.bind_some, w1, hin, chk_t, Int.toNat_natCast, getD_mid hl, set_mid hl, idx_dig ha hia, idx_dig hb (show k < b.length by omega), w2, w3]
    simp
theorem rtimes_carry {pre S : List Int} (hS : InB 100 S) {i : Nat} (hi : pre.length = i) (hs : (pre ++ S).length < 1000000000) (hlt : val 10 S < 10 ^ S.length) :
    ∀ f k c (acc : List Int), k + f = S.length → acc.length = k → InB 10 acc → c ≤ 11 → val 10 acc + 10 ^ k * (c + val 10 (S.drop k)) = val 10 S →
    ∃ T, Halts chanceryref2_Nat__Times_l2 f ((), (c : Int), ((i + k : Nat) : Int), pre ++ (acc ++ S.drop k), ()) ((), pre ++ T, ()) ∧ InB 10 T ∧ T.length = S.length ∧ val 10 T = val 10 S
  | 0, k, c, acc, hf, hk, hacc, hc, hv => by
    have e1 : S.drop k = [] := List.drop_of_length_le (by omega)
    rw [e1] at hv
    rw [e1, List.append_nil]
    refine ⟨acc, .done ?_, hacc, by omega, ?_⟩
    · have c1 : ¬((i + k : Nat) : Int) < ((pre ++ acc).length : Int) := by
        rw [List.length_append]
        omega
      unfold chanceryref2_Nat__Times_l2
      dsimp only
      rw [decide_eq_false c1, cond_false]
    · simp only [val, Nat.add_zero] at hv
      by_cases h0 : c = 0
      · subst h0
        omega
      · have := Nat.mul_le_mul_left (10 ^ k) (show 1 ≤ c by omega)
        rw [show S.length = k by omega] at hlt
        omega
  | f + 1, k, c, acc, hf, hk, hacc, hc, hv => by
    have ds := dig_lt (B := 100) (by decide) hS k
    have vs := val_drop (B := 10) S k
    have e := drop_dig hS (show k < S.length by omega)
    have hl : (pre ++ acc).length = i + k := by simp [hi, hk]
    have e2 : pre ++ (acc ++ (dig S k : Int) :: S.drop (k + 1)) = (pre ++ acc) ++ (dig S k : Int) :: S.drop (k + 1) := by simp
    have hin0 : i + k < ((pre ++ acc) ++ (dig S k : Int) :: S.drop (k + 1)).length := by
      rw [← hl]
      simp
    have hin := inb_nat hin0
    have c1 : ((i + k : Nat) : Int) < (((pre ++ acc) ++ (dig S k : Int) :: S.drop (k + 1)).length : Int) := by omega
    have w1 : IntKind.i64.wrap ((dig S k : Int) + (c : Int)) = ((dig S k + c : Nat) : Int) := by
      rw [wrap_i64 (by omega) (by omega)]
      omega
    have q1 : quo .i64 ((dig S k + c : Nat) : Int) 10 = some (((dig S k + c) / 10 : Nat) : Int) := quo_nat (b := 10) (by omega) (by omega)
    have q2 : rem ((dig S k + c : Nat) : Int) 10 = some (((dig S k + c) % 10 : Nat) : Int) := rem_nat (b := 10) (by omega)
    have w3 : IntKind.i64.wrap (((i + k : Nat) : Int) + 1) = ((i + (k + 1) : Nat) : Int) := by
      rw [List.length_append] at hs
      rw [wrapI1 (by omega)]
      rfl
    obtain ⟨T, h1, h2, h3, h4⟩ := rtimes_carry hS hi hs hlt f (k + 1) ((dig S k + c) / 10) (acc ++ [(((dig S k + c) % 10 : Nat) : Int)]) (by omega) (by simp [hk]) (hacc.append (.one (by omega))) (by omega) (by
      rw [val_append, hk, Nat.pow_succ, ← hv, vs]
      simp only [val, Nat.mul_zero, Nat.add_zero, Int.toNat_natCast]
      have := Nat.div_add_mod (dig S k + c) 10
      generalize (dig S k + c) % 10 = m at *
      generalize (dig S k + c) / 10 = q at *
      generalize val 10 (S.drop (k + 1)) = V
      generalize 10 ^ k = P
      grind)
    refine ⟨T, .step ?_ h1, h2, h3, h4⟩
    rw [e, e2]
    unfold chanceryref2_Nat__Times_l2
    dsimp only
    rw [decide_eq_true c1, cond_true]
    simp only [Option.bind_some, hin, chk_t, Int.toNat_natCast, getD_mid hl, set_mid hl, w1, q1, q2, w3]
    simp
theorem rtimes_outer {a b : List Int} (ha : InB 10 a) (hb : InB 10 b) (hs : a.length + b.length < 1000000000) : ∀ f i (out : List Int), i + f = a.length → out.length = a.length + b.length → InB 10 out →
    val 10 out = val 10 (a.take i) * val 10 b →
    ∃ out', Halts (chanceryref2_Nat__Times_l3 a b) f ((), (i : Int), out, ()) ((), out', ()) ∧ InB 10 out' ∧ out'.length = out.length ∧ val 10 out' = val 10 a * val 10 b
  | 0, i, out, hf, hl, ho, hv => by
    refine ⟨out, .done ?_, ho, rfl, ?_⟩
    · have c1 : ¬(i : Int) < (a.length : Int) := by omega
      unfold chanceryref2_Nat__Times_l3
      dsimp only
      rw [decide_eq_false c1, cond_false]
    · rw [hv, List.take_of_length_le (by omega)]
  | f + 1, i, out, hf, hl, ho, hv => by
    have hsplit : out.take i ++ out.drop i = out := List.take_append_drop i out
    have hpl : (out.take i).length = i := by rw [List.length_take]; omega
    have hdl : (out.drop i).length = a.length + b.length - i := by rw [List.length_drop]; omega
    have hvs := val_append 10 (out.take i) (out.drop i)
    rw [hsplit, hpl] at hvs
    obtain ⟨S, s1, s2, s3, s4⟩ := rtimes_add (pre := out.take i) (suf := out.drop i) (p := ((), out, ())) ha hb (show i < a.length by omega) hpl (ho.drop i) (by omega) (by rw [hsplit]; omega) b.length 0 [] (by omega) rfl (fun _ h => by cases h) (by simp [val])
    rw [List.nil_append, List.drop_zero, hsplit] at s1
    have htake : val 10 (a.take (i + 1)) = val 10 (a.take i) + 10 ^ i * dig a i := by
      rw [val_take (by omega)]
      simp [dig, List.getElem?_eq_getElem (show i < a.length by omega)]
    have hval : val 10 (out.take i) + 10 ^ i * val 10 S = val 10 (a.take (i + 1)) * val 10 b := by
      rw [s4, htake, Nat.add_mul, ← hv, hvs, Nat.mul_add, Nat.mul_assoc]
      omega
    have hlt : val 10 S < 10 ^ S.length := by
      have h1 := val_lt (ha.take (i + 1))
      have h2 := val_lt hb
      rw [List.length_take, Nat.min_eq_left (by omega)] at h1
      have h3 : val 10 (a.take (i + 1)) * val 10 b < 10 ^ (i + 1) * 10 ^ b.length := Nat.mul_lt_mul'' h1 h2
      rw [← Nat.pow_add] at h3
      have h4 : (10 : Nat) ^ (i + 1 + b.length) ≤ 10 ^ (i + S.length) := Nat.pow_le_pow_right (by omega) (by omega)
      rw [Nat.pow_add 10 i S.length] at h4
      have h5 : 10 ^ i * val 10 S < 10 ^ i * 10 ^ S.length := by omega
      exact Nat.lt_of_mul_lt_mul_left h5
    obtain ⟨T, t1, t2, t3, t4⟩ := rtimes_carry (pre := out.take i) s2 hpl (by rw [List.length_append]; omega) hlt S.length 0 0 [] (by omega) rfl (fun _ h => by cases h) (by omega) (by simp [val])
    rw [List.nil_append, List.drop_zero] at t1
    obtain ⟨out', o1, o2, o3, o4⟩ := rtimes_outer ha hb hs f (i + 1) (out.take i ++ T) (by omega) (by rw [List.length_append]; omega) ((ho.take i).append t2) (by rw [val_append, hpl, t4, hval])
    refine ⟨out', .step ?_ o1, o2, by rw [o3, List.length_append]; omega, o4⟩
    have c1 : (i : Int) < (a.length : Int) := by omega
    have w := wrapI1 (i := i) (by omega)
    have l1 := s1.loop (by omega)
    have l2 := t1.loop (by omega)
    unfold chanceryref2_Nat__Times_l3
    dsimp only
    rw [decide_eq_true c1, cond_true]
    erw [l1]
    rw [Option.bind_some]
    dsimp only
    erw [l2]
    rw [Option.bind_some]
    dsimp only
    rw [w]
theorem rtimes_eq {a b : Nat} (ha : dl a < 1000000) (hb : dl b < 1000000) : chanceryref2_Nat__Times (rep 10 a) (rep 10 b) = some (rep 10 (a * b), ()) := by
  have la := len10 a
  have lb := len10 b
  have hz : ∀ n, val 10 (List.replicate n 0) = 0 := fun n => by
    induction n with
    | zero => rfl
    | succ n ih => simp [List.replicate_succ, val, ih]
  obtain ⟨out, o1, o2, o3, o4⟩ := rtimes_outer (a := rep 10 a) (b := rep 10 b) (.rep (by decide)) (.rep (by decide)) (by omega) (rep 10 a).length 0 (List.replicate ((rep 10 a).length + (rep 10 b).length) 0) (by omega) (by simp) (fun x hx => by
    rw [(List.mem_replicate.1 hx).2]
    decide) (by rw [hz]; simp [val])
  rw [val_rep (by decide), val_rep (by decide)] at o4
  have w1 : IntKind.i64.wrap (((rep 10 a).length : Int) + ((rep 10 b).length : Int)) = (((rep 10 a).length + (rep 10 b).length : Nat) : Int) := by rw [wrap_i64 (by omega) (by omega)]; omega
  have := o1.loop (by omega)
  rw [List.length_replicate] at o3
  unfold chanceryref2_Nat__Times
  rw [w1, mk_nat (by omega), Option.bind_some]
  erw [this]
  rw [Option.bind_some]
  dsimp only
  rw [rtrim_eq (by omega), trim_rep (by decide) o2, o4]
  rfl
/-! ### The reference: dividing -/
end Go.Proofs.YtmkpdineahbfkaaGreatDoor

namespace Go.Proofs.YtmkpdineahbfkaaGreatDoor
open Go Go.Fe

/-! ### The reference: the greatest common divisor -/
theorem rep_cons {B n : Nat} (hB : 1 < B) (h : 0 < n) : rep B n = ((n % B : Nat) : Int) :: rep B (n / B) := by
  symm
  have hm := Nat.mod_lt n (show B > 0 by omega)
  refine rep_eq hB ⟨InB.append (.one hm) (.rep hB), ?_⟩ ?_
  · by_cases h4 : rep B (n / B) = []
    · have h5 := (rep_nil hB).1 h4
      rw [h4]
      have := Nat.mod_add_div n B
      rw [h5] at this
      simp
      omega
    · rw [List.getLast?_cons_of_ne_nil h4]
      exact (ok_rep hB _).2
  · simp only [val, Int.toNat_natCast, val_rep hB]
    exact Nat.mod_add_div n B
theorem low_at {n : Nat} (h : 0 < n) : idx (rep 10 n) 0 = some ((n % 10 : Nat) : Int) := by
  rw [rep_cons (by decide) h]
  rfl
theorem low_rem (n : Nat) : rem ((n % 10 : Nat) : Int) 2 = some ((n % 2 : Nat) : Int) := by
  have : rem ((n % 10 : Nat) : Int) 2 = some ((n % 10 % 2 : Nat) : Int) := rem_nat (b := 2) (by omega)
  rw [this]
  congr 2
  omega
theorem dec_even (n : Nat) : decide (((n % 2 : Nat) : Int) = 0) = decide (n % 2 = 0) := by
  by_cases h : n % 2 = 0
  · rw [h]; rfl
  · rw [decide_eq_false h, decide_eq_false (by omega)]
theorem len_pos {n : Nat} (h : 0 < n) : decide (0 < ((rep 10 n).length : Int)) = true := by
  have := dl_pos h
  have := len10 n
  exact decide_eq_true (by omega)
theorem gcd1_halts : ∀ (f n m t : Nat), 0 < n → 0 < m → n < 2 ^ f → dl n < 1000000 → dl m < 1000000 → t + f < 100000000 →
    ∃ n' m' k : Nat, Halts chanceryref2_Gcd_l1 f (rep 10 n, rep 10 m, (t : Int), ()) (rep 10 n', rep 10 m', ((t + k : Nat) : Int), ()) ∧ n.gcd m = 2 ^ k * n'.gcd m' ∧ 0 < n' ∧ 0 < m' ∧ (n' % 2 ≠ 0 ∨ m' % 2 ≠ 0) ∧ n' ≤ n ∧ m' ≤ m ∧ k ≤ f
  | f, n, m, t, hn, hm, hf, hsn, hsm, ht => by
    have hst : chanceryref2_Gcd_l1 (rep 10 n, rep 10 m, (t : Int), ()) = if n % 2 = 0 ∧ m % 2 = 0 then some (.inl (rep 10 (n / 2), rep 10 (m / 2), ((t + 1 : Nat) : Int), ())) else some (.inr (rep 10 n, rep 10 m, (t : Int), ())) := by
      unfold chanceryref2_Gcd_l1
      dsimp only
      simp only [low_at hn, low_at hm, Option.bind_some, low_rem, dec_even, half_eq hsn, half_eq hsm, wrapI1 (i := t) (by omega)]
      by_cases h1 : n % 2 = 0
      · by_cases h2 : m % 2 = 0
        · simp [h1, h2]
        · simp [h1, h2]
      · simp [h1]
    by_cases h : n % 2 = 0 ∧ m % 2 = 0
    · rw [if_pos h] at hst
      cases f with
      | zero => omega
      | succ f =>
        have d1 := dl_mono (Nat.div_le_self n 2)
        have d2 := dl_mono (Nat.div_le_self m 2)
        rw [Nat.pow_succ] at hf
        obtain ⟨n', m', k, h1, h2, h3, h4, h5, h6, h7, h8⟩ := gcd1_halts f (n / 2) (m / 2) (t + 1) (by omega) (by omega) (by omega) (by omega) (by omega) (by omega)
        refine ⟨n', m', k + 1, .step hst ?_, ?_, h3, h4, h5, by omega, by omega, by omega⟩
        · rw [show t + (k + 1) = t + 1 + k by omega]
          exact h1
        · rw [gcd_halves h.1 h.2, h2, Nat.pow_succ]
          grind
    · rw [if_neg h] at hst
      refine ⟨n, m, 0, .done (by rw [hst]; rfl), by simp, hn, hm, by omega, by omega, by omega, by omega⟩
theorem gcd2_halts : ∀ f n : Nat, 0 < n → n < 2 ^ f → dl n < 1000000 →
    ∃ n' k : Nat, Halts chanceryref2_Gcd_l2 f (rep 10 n, ()) (rep 10 n', ()) ∧ n = 2 ^ k * n' ∧ n' % 2 ≠ 0 ∧ (n % 2 = 0 → 2 * n' ≤ n)
  | f, n, hn, hf, hsn => by
    have hst : chanceryref2_Gcd_l2 (rep 10 n, ()) = if n % 2 = 0 then some (.inl (rep 10 (n / 2), ())) else some (.inr (rep 10 n, ())) := by
      unfold chanceryref2_Gcd_l2
      dsimp only
      simp only [len_pos hn, cond_true, low_at hn, Option.bind_some, low_rem, dec_even, half_eq hsn]
      by_cases h1 : n % 2 = 0 <;> simp [h1]
    by_cases h : n % 2 = 0
    · rw [if_pos h] at hst
      cases f with
      | zero => omega
      | succ f =>
        have d1 := dl_mono (Nat.div_le_self n 2)
        rw [Nat.pow_succ] at hf
        obtain ⟨n', k, h1, h2, h3, h4⟩ := gcd2_halts f (n / 2) (by omega) (by omega) (by omega)
        refine ⟨n', k + 1, .step hst h1, ?_, h3, fun _ => ?_⟩
        · rw [Nat.pow_succ, Nat.mul_right_comm, ← h2]
          omega
        · have := Nat.mul_le_mul_right n' (show 1 ≤ 2 ^ k from Nat.pow_pos (by omega))
          omega
    · rw [if_neg h] at hst
      exact ⟨n, 0, .done hst, by simp, h, fun h' => absurd h' h⟩
theorem gcd3_halts : ∀ f n : Nat, 0 < n → n < 2 ^ f → dl n < 1000000 →
    ∃ n' k : Nat, Halts chanceryref2_Gcd_l3 f (rep 10 n, ()) (rep 10 n', ()) ∧ n = 2 ^ k * n' ∧ n' % 2 ≠ 0
  | f, n, hn, hf, hsn => by
    have hst : chanceryref2_Gcd_l3 (rep 10 n, ()) = if n % 2 = 0 then some (.inl (rep 10 (n / 2), ())) else some (.inr (rep 10 n, ())) := by
      unfold chanceryref2_Gcd_l3
      dsimp only
      simp only [low_at hn, Option.bind_some, low_rem, dec_even, half_eq hsn]
      by_cases h1 : n % 2 = 0 <;> simp [h1]
    by_cases h : n % 2 = 0
    · rw [if_pos h] at hst
      cases f with
      | zero => omega
      | succ f =>
        have d1 := dl_mono (Nat.div_le_self n 2)
        rw [Nat.pow_succ] at hf
        obtain ⟨n', k, h1, h2, h3⟩ := gcd3_halts f (n / 2) (by omega) (by omega) (by omega)
        refine ⟨n', k + 1, .step hst h1, ?_, h3⟩
        rw [Nat.pow_succ, Nat.mul_right_comm, ← h2]
        omega
    · rw [if_neg h] at hst
      exact ⟨n, 0, .done hst, by simp, h⟩
theorem gcd_two_left {n m k : Nat} (hm : m % 2 ≠ 0) : (2 ^ k * n).gcd m = n.gcd m := by
  induction k with
  | zero => simp
  | succ k ih =>
    have h : 2 ^ (k + 1) * n / 2 = 2 ^ k * n := by
      rw [Nat.pow_succ, Nat.mul_right_comm]
      omega
    have h2 : 2 ^ (k + 1) * n % 2 = 0 := by
      rw [Nat.pow_succ, Nat.mul_right_comm]
      omega
    rw [← gcd_half h2 hm, h, ih]
theorem gcd4_step {n m : Nat} (hn : 0 < n) (hm : 0 < m) (hne : n % 2 ≠ 0 ∨ m % 2 ≠ 0) (hsn : dl n < 100000) (hsm : dl m < 100000) :
    ∃ n' m', chanceryref2_Gcd_l4 (rep 10 n, rep 10 m, ()) = some (.inl (rep 10 n', rep 10 m', ())) ∧ n'.gcd m' = n.gcd m ∧ m' % 2 ≠ 0 ∧ n' % 2 = 0 ∧ n' * m' ≤ n * m ∧ (n % 2 = 0 → 2 * (n' * m') ≤ n * m) ∧ (∀ sz, dl n ≤ sz → dl m ≤ sz → dl n' ≤ sz ∧ dl m' ≤ sz) := by
  obtain ⟨p, k, p1, p2, p3, p4⟩ := gcd2_halts _ n hn (lt_two n) (by omega)
  obtain ⟨q, l, q1, q2, q3⟩ := gcd3_halts _ m hm (lt_two m) (by omega)
  have hpn : p ≤ n := by
    rw [p2]
    exact Nat.le_mul_of_pos_left p (Nat.pow_pos (by omega))
  have hqm : q ≤ m := by
    rw [q2]
    exact Nat.le_mul_of_pos_left q (Nat.pow_pos (by omega))
  have dp := dl_mono hpn
  have dq := dl_mono hqm
  have hg : p.gcd q = n.gcd m := by
    have e1 : p.gcd m = n.gcd m := by
      rcases hne with h | h
      · have : k = 0 := by
          rcases Nat.eq_zero_or_pos k with h0 | h0
          · exact h0
          · exfalso
            obtain ⟨j, rfl⟩ : ∃ j, k = j + 1 := ⟨k - 1, by omega⟩
            rw [p2, Nat.pow_succ, Nat.mul_right_comm] at h
            omega
        subst this
        rw [Nat.pow_zero, Nat.one_mul] at p2
        rw [p2]
      · rw [p2, gcd_two_left h]
    rw [← e1, Nat.gcd_comm, Nat.gcd_comm p m]
    conv => rhs; rw [q2]
    rw [gcd_two_left p3]
  have l1 := p1.loop (by omega)
  have l2 := q1.loop (by omega)
  obtain ⟨c, hc1, hc2, hc3⟩ := rcompare_eq (a := p) (b := q) (by omega) (by omega)
  have hst : chanceryref2_Gcd_l4 (rep 10 n, rep 10 m, ()) = if p < q then some (.inl (rep 10 (q - p), rep 10 p, ())) else some (.inl (rep 10 (p - q), rep 10 q, ())) := by
    unfold chanceryref2_Gcd_l4
    dsimp only
    rw [len_pos hn, cond_true, l1, Option.bind_some, l2, Option.bind_some]
    dsimp only
    rw [hc1, Option.bind_some]
    dsimp only
    by_cases h : p < q
    · rw [decide_eq_true (by omega), cond_true, Option.bind_some, if_pos h]
      dsimp only
      rw [less_eq (by omega) (by omega), Option.bind_some]
    · rw [decide_eq_false (by omega), cond_false, Option.bind_some, if_neg h]
      dsimp only
      rw [less_eq (by omega) (by omega), Option.bind_some]
  have hpq : p * q ≤ n * m := Nat.mul_le_mul hpn hqm
  have hpq2 : n % 2 = 0 → 2 * (p * q) ≤ n * m := fun h => by
    rw [← Nat.mul_assoc]
    exact Nat.mul_le_mul (p4 h) hqm
  by_cases h : p < q
  · rw [if_pos h] at hst
    have hle : (q - p) * p ≤ p * q := by
      rw [Nat.mul_comm p q]
      exact Nat.mul_le_mul_right p (by omega)
    refine ⟨q - p, p, hst, ?_, p3, by omega, by omega, fun h => by have := hpq2 h; omega, fun sz h1 h2 => ⟨?_, by omega⟩⟩
    · rw [Nat.gcd_sub_self_left (by omega), Nat.gcd_comm, hg]
    · have := dl_mono (show q - p ≤ q by omega)
      omega
  · rw [if_neg h] at hst
    have hle : (p - q) * q ≤ p * q := Nat.mul_le_mul_right q (by omega)
    refine ⟨p - q, q, hst, ?_, q3, by omega, by omega, fun h => by have := hpq2 h; omega, fun sz h1 h2 => ⟨?_, by omega⟩⟩
    · rw [Nat.gcd_sub_self_left (by omega), hg]
    · have := dl_mono (show p - q ≤ p by omega)
      omega
theorem gcd4_halts : ∀ k n m, n * m < 2 ^ k → n % 2 = 0 → m % 2 ≠ 0 → dl n < 100000 → dl m < 100000 → Halts chanceryref2_Gcd_l4 (k + 1) (rep 10 n, rep 10 m, ()) (rep 10 (n.gcd m), ())
  | k, n, m, hk, hn, hm, hsn, hsm => by
    by_cases h0 : n = 0
    · subst h0
      refine .done ?_
      rw [Nat.gcd_zero_left]
      rfl
    · have hpos := Nat.mul_le_mul (show 1 ≤ n by omega) (show 1 ≤ m by omega)
      obtain ⟨n', m', h1, h2, h3, h4, h5, h6, h7⟩ := gcd4_step (n := n) (m := m) (by omega) (by omega) (.inr hm) hsn hsm
      have := h7 99999 (by omega) (by omega)
      cases k with
      | zero =>
        have : n * m = 0 := by omega
        omega
      | succ k =>
        rw [← h2]
        refine .step h1 (gcd4_halts k n' m' ?_ h4 h3 (by omega) (by omega))
        have := h6 hn
        rw [Nat.pow_succ] at hk
        omega
theorem gcd5_halts {g : Nat} {r8 : List Int × List Int × Int × Unit} {k : Nat} (hr : r8.2.2.1 = (k : Int)) (hk : k < 100000000) (hs : dl (2 ^ k * g) < 1000000) : ∀ f t, t + f = k → Halts (chanceryref2_Gcd_l5 r8) f (rep 10 (2 ^ t * g), (t : Int), ()) (rep 10 (2 ^ k * g), ())
  | 0, t, h => by
    have : t = k := by omega
    subst this
    refine .done ?_
    unfold chanceryref2_Gcd_l5
    dsimp only
    rw [hr, decide_eq_false (by omega), cond_false]
  | f + 1, t, h => by
    refine .step ?_ (gcd5_halts hr hk hs f (t + 1) (by omega))
    have hd : dl (2 ^ t * g) ≤ dl (2 ^ k * g) := dl_mono (Nat.mul_le_mul_right g (Nat.pow_le_pow_right (by omega) (by omega)))
    unfold chanceryref2_Gcd_l5
    dsimp only
    rw [hr, decide_eq_true (by omega), cond_true, rplus_eq (by omega) (by omega), Option.bind_some]
    dsimp only
    rw [wrapI1 (by omega), Nat.pow_succ, Nat.mul_right_comm, Nat.mul_two]
theorem gcd_eq {n m : Nat} (hsn : dl n < 100000) (hsm : dl m < 100000) : chanceryref2_Gcd (rep 10 n) (rep 10 m) = some (rep 10 (n.gcd m), ()) := by
  unfold chanceryref2_Gcd
  have ln := len10 n
  have lm := len10 m
  by_cases hn : n = 0
  · subst hn
    rw [Nat.gcd_zero_left]
    rfl
  · have := dl_pos (n := n) (by omega)
    rw [decide_eq_false (by omega), cond_false]
    by_cases hm : m = 0
    · subst hm
      rw [Nat.gcd_zero_right]
      rfl
    · have := dl_pos (n := m) (by omega)
      rw [decide_eq_false (by omega), cond_false]
      obtain ⟨p, q, k, h1, h2, h3, h4, h5, h6, h7, h8⟩ := gcd1_halts _ n m 0 (by omega) (by omega) (lt_two n) (by omega) (by omega) (by omega)
      have dp := dl_mono h6
      have dq := dl_mono h7
      obtain ⟨p', q', i1, i2, i3, i4, i5, i6, i7⟩ := gcd4_step h3 h4 h5 (by omega) (by omega)
      have := i7 99999 (by omega) (by omega)
      have hpr : p' * q' < 2 ^ (4 * dl p' + 4 * dl q') := by
        rw [Nat.pow_add]
        exact Nat.mul_lt_mul'' (lt_two p') (lt_two q')
      have h4 := Halts.step i1 (gcd4_halts _ p' q' hpr i4 i3 (by omega) (by omega))
      rw [i2] at h4
      have l1 := h1.loop (by omega)
      have l4 := h4.loop (by omega)
      have hg : dl (2 ^ k * p.gcd q) < 1000000 := by
        rw [← h2]
        have := dl_mono (Nat.gcd_le_left m (show 0 < n by omega))
        omega
      have l5 := (gcd5_halts (r8 := (rep 10 p, rep 10 q, ((0 + k : Nat) : Int), ())) (k := k) (g := p.gcd q) (by simp) (by omega) hg k 0 (by omega)).loop (by omega)
      rw [Nat.pow_zero, Nat.one_mul] at l5
      have l1' : loop chanceryref2_Gcd_l1 (rep 10 n, rep 10 m, 0, ()) = _ := l1
      rw [l1', Option.bind_some]
      dsimp only
      rw [l4, Option.bind_some]
      dsimp only
      have l5' : loop (chanceryref2_Gcd_l5 (rep 10 p, rep 10 q, ((0 + k : Nat) : Int), ())) (rep 10 (p.gcd q), 0, ()) = _ := l5
      rw [l5', h2]
      rfl
end Go.Proofs.YtmkpdineahbfkaaGreatDoor

