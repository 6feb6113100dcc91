import Derived.Test.YtjhcnnhkabhigaaGreatDoorRLawB
namespace Go.Proofs.YtjhcnnhkabhigaaGreatDoor
open Go Go.Fe

theorem run_drop {p : UInt8 → Bool} {s : Str} {k : Nat} : 0 < runP p (s.drop k) ↔ k < s.length ∧ p (s.getD k 0) = true := by
  by_cases h : k < s.length
  · rw [List.drop_eq_getElem_cons h]
    have e : s.getD k 0 = s[k] := by simp [List.getD, h]
    rw [e]
    cases hp : p s[k] with
    | true => exact iff_of_true (runP_pos hp) ⟨h, rfl⟩
    | false => exact iff_of_false (by rw [runP_zero hp]; omega) (fun g => Bool.noConfusion g.2)
  · rw [List.drop_of_length_le (by omega), runP_nil]
    simp [h]
theorem run_drop_le (p : UInt8 → Bool) (s : Str) (k : Nat) : runP p (s.drop k) ≤ s.length - k := by
  have := runP_le p (s.drop k)
  simpa using this

/-! ### Numbers -/
def intP (s : Str) : Nat := if runP isDigit s < s.length ∧ s.getD (runP isDigit s) 0 = 46 ∧ 0 < runP isDigit (s.drop (runP isDigit s + 1)) then runP isDigit s + (1 + runP isDigit (s.drop (runP isDigit s + 1))) else runP isDigit s
/-- Behind the letter and the sign of an exponent. -/
def signP (s : Str) (n : Nat) : Nat := if n + 1 < s.length ∧ (s.getD (n + 1) 0 = 43 ∨ s.getD (n + 1) 0 = 45) then n + 2 else n + 1
def expP (s : Str) (n : Nat) : Nat := if n < s.length ∧ (s.getD n 0 = 101 ∨ s.getD n 0 = 69) ∧ 0 < runP isDigit (s.drop (signP s n)) then signP s n + runP isDigit (s.drop (signP s n)) else n
def numP (s : Str) : Nat := expP s (intP s)
theorem intP_le (s : Str) : intP s ≤ s.length := by
  have := runP_le isDigit s
  have := run_drop_le isDigit s (runP isDigit s + 1)
  unfold intP
  split <;> omega
theorem signP_le {s : Str} {n : Nat} (h : n < s.length) : signP s n ≤ s.length ∧ n + 1 ≤ signP s n ∧ signP s n ≤ n + 2 := by
  unfold signP
  split <;> omega
theorem expP_le {s : Str} {n : Nat} (h : n ≤ s.length) : expP s n ≤ s.length := by
  unfold expP
  split
  · rename_i g
    have := signP_le g.1
    have := run_drop_le isDigit s (signP s n)
    omega
  · exact h
theorem numP_le (s : Str) : numP s ≤ s.length := expP_le (intP_le s)

theorem bor32 : ∀ n : Nat, n < 256 → decide (bor .u8 (n : Int) 32 = 101) = (decide (n = 101) || decide (n = 69)) := by decide +kernel
theorem byte_or (c : UInt8) : decide (bor .u8 (ofByte c) 32 = 101) = decide (c = 101 ∨ c = 69) := by
  have h := bor32 c.toNat (byte_lt c)
  rw [ofByte_eq, h]
  have e1 : (c.toNat = 101) ↔ c = 101 := ⟨fun h => UInt8.toNat_inj.1 h, fun h => by rw [h]; rfl⟩
  have e2 : (c.toNat = 69) ↔ c = 69 := ⟨fun h => UInt8.toNat_inj.1 h, fun h => by rw [h]; rfl⟩
  rw [← Bool.decide_or, decide_eq_decide, e1, e2]

theorem number_eq {s : Str} (hs : s.length ≤ 1000000) : fscan_number s = some ((numP s : Int), ()) := by
  have hl : s.length < 1099511627776 := by omega
  have r1 := runP_le isDigit s
  have hint : (((cond (decide ((runP isDigit s : Int) < (s.length : Int)))
  ((idx s (runP isDigit s : Int)).bind fun v2 =>
  some ((decide ((ofByte v2) = 46)), ()))
  (some (false, ())) : Option (Bool × Unit)).bind fun r3 =>
  cond r3.1
  ((cut s (IntKind.i64.wrap ((runP isDigit s : Int) + 1)) (s.length : Int)).bind fun v4 =>
  (fscan_run_digit v4).bind fun v5 =>
  cond (decide (0 < v5.1))
  (some (IntKind.i64.wrap ((runP isDigit s : Int) + (IntKind.i64.wrap (1 + v5.1))), ()))
  (some ((runP isDigit s : Int), ())))
  (some ((runP isDigit s : Int), ())) : Option (Int × Unit))) = some ((intP s : Int), ()) := by
    by_cases h : runP isDigit s < s.length
    · have c : (runP isDigit s : Int) < (s.length : Int) := by omega
      have e : decide (ofByte (s.getD (runP isDigit s) 0) = 46) = decide (s.getD (runP isDigit s) 0 = 46) := byte_dec _ 46 (by omega)
      have w := wsucc (show runP isDigit s < 9223372036854775807 by omega)
      have hd : (s.drop (runP isDigit s + 1)).length < 1099511627776 := by simp; omega
      have r2 := run_drop_le isDigit s (runP isDigit s + 1)
      simp only [c, decide_true, cond_true, idx_get h, Option.bind_some, e]
      by_cases h46 : s.getD (runP isDigit s) 0 = 46
      · simp only [h46, decide_true, cond_true, w, cut_from (show runP isDigit s + 1 ≤ s.length by omega), Option.bind_some, run_digit_eq hd]
        by_cases hp : 0 < runP isDigit (s.drop (runP isDigit s + 1))
        · have cp : (0 : Int) < (runP isDigit (s.drop (runP isDigit s + 1)) : Int) := by omega
          have w2 : IntKind.i64.wrap (1 + (runP isDigit (s.drop (runP isDigit s + 1)) : Int)) = ((1 + runP isDigit (s.drop (runP isDigit s + 1)) : Nat) : Int) := wadd (a := 1) (by omega)
          have w3 : IntKind.i64.wrap ((runP isDigit s : Int) + ((1 + runP isDigit (s.drop (runP isDigit s + 1)) : Nat) : Int)) = ((runP isDigit s + (1 + runP isDigit (s.drop (runP isDigit s + 1))) : Nat) : Int) := wadd (by omega)
          rw [decide_eq_true cp, cond_true, w2, w3, intP, if_pos ⟨h, h46, hp⟩]
        · have cp : ¬(0 : Int) < (runP isDigit (s.drop (runP isDigit s + 1)) : Int) := by omega
          rw [decide_eq_false cp, cond_false, intP, if_neg (fun g => hp g.2.2)]
      · simp only [h46, decide_false, cond_false]
        rw [intP, if_neg (fun g => h46 g.2.1)]
    · have c : ¬(runP isDigit s : Int) < (s.length : Int) := by omega
      simp only [c, decide_false, cond_false, Option.bind_some]
      rw [intP, if_neg (fun g => h g.1)]
  have r3 := intP_le s
  simp only [fscan_number, run_digit_eq hl, Option.bind_some]
  rw [hint, Option.bind_some]
  unfold numP
  generalize intP s = n at *
  by_cases h : n < s.length
  · have c : (n : Int) < (s.length : Int) := by omega
    simp only [c, decide_true, cond_true, idx_get h, Option.bind_some, byte_or]
    by_cases he : s.getD n 0 = 101 ∨ s.getD n 0 = 69
    · obtain ⟨k1, k2, k3⟩ := signP_le h
      have w := wsucc (show n < 9223372036854775807 by omega)
      have hsign : ((((cond (decide (((n + 1 : Nat) : Int) < (s.length : Int)))
  ((idx s ((n + 1 : Nat) : Int)).bind fun v9 =>
  cond (decide ((ofByte v9) = 43))
  (some (true, ()))
  ((idx s ((n + 1 : Nat) : Int)).bind fun v10 =>
  let v11 : Bool := ((decide ((ofByte v10) = 45)))
  some (v11, ())))
  (some (false, ())) : Option (Bool × Unit)).bind fun r12 =>
  cond r12.1
  (some (IntKind.i64.wrap (((n + 1 : Nat) : Int) + 1), ()))
  (some (((n + 1 : Nat) : Int), ()))) : Option (Int × Unit))) = some ((signP s n : Int), ()) := by
        have w' := wsucc (show n + 1 < 9223372036854775807 by omega)
        by_cases h1 : n + 1 < s.length
        · have c1 : ((n + 1 : Nat) : Int) < (s.length : Int) := by omega
          have e1 : decide (ofByte (s.getD (n + 1) 0) = 43) = decide (s.getD (n + 1) 0 = 43) := byte_dec _ 43 (by omega)
          have e2 : decide (ofByte (s.getD (n + 1) 0) = 45) = decide (s.getD (n + 1) 0 = 45) := byte_dec _ 45 (by omega)
          simp only [c1, decide_true, cond_true, idx_get h1, Option.bind_some, e1, e2, w']
          by_cases g1 : s.getD (n + 1) 0 = 43
          · simp only [g1, decide_true, cond_true, Option.bind_some]
            rw [signP, if_pos ⟨h1, .inl g1⟩]
          · by_cases g2 : s.getD (n + 1) 0 = 45
            · simp only [decide_eq_false g1, decide_eq_true g2, cond_true, cond_false, Option.bind_some]
              rw [signP, if_pos ⟨h1, .inr g2⟩]
            · simp only [g1, g2, decide_false, cond_false, Option.bind_some]
              rw [signP, if_neg (fun g => g.2.elim g1 g2)]
        · have c1 : ¬((n + 1 : Nat) : Int) < (s.length : Int) := by omega
          simp only [c1, decide_false, cond_false, Option.bind_some]
          rw [signP, if_neg (fun g => h1 g.1)]
      have hd : (s.drop (signP s n)).length < 1099511627776 := by simp; omega
      have r4 := run_drop_le isDigit s (signP s n)
      rw [decide_eq_true he, cond_true, w, hsign, Option.bind_some]
      dsimp only
      rw [cut_from k1, Option.bind_some, run_digit_eq hd, Option.bind_some]
      dsimp only
      by_cases hp : 0 < runP isDigit (s.drop (signP s n))
      · have cp : (0 : Int) < (runP isDigit (s.drop (signP s n)) : Int) := by omega
        rw [decide_eq_true cp, cond_true, wadd (by omega), expP, if_pos ⟨h, he, hp⟩]
        rfl
      · have cp : ¬(0 : Int) < (runP isDigit (s.drop (signP s n)) : Int) := by omega
        rw [decide_eq_false cp, cond_false, expP, if_neg (fun g => hp g.2.2)]
        rfl
    · simp only [he, decide_false, cond_false, Option.bind_some]
      rw [expP, if_neg (fun g => he g.2.1)]
  · have c : ¬(n : Int) < (s.length : Int) := by omega
    simp only [c, decide_false, cond_false, Option.bind_some]
    rw [expP, if_neg (fun g => h g.1)]

/-- The beginnings of an exponent that the reference tries. -/
def starts : List Str := [[101], [69], [101, 43], [69, 43], [101, 45], [69, 45]]
def hitP (s : Str) (n : Nat) (t : Str) : Bool := Lib.hasPrefix (s.drop n) t && decide (0 < runP isDigit (s.drop (n + t.length)))

theorem try_eq {s : Str} (hs : s.length ≤ 1000000) {n : Nat} (hn : n ≤ s.length) {i : Nat} {t : Str} (ht : starts[i]? = some t) :
    chanceryref2_numberLength_l1 s ((n : Int), ()) ((i : Int), ()) = some (if hitP s n t = true then .inr (.inr (((n + t.length + runP isDigit (s.drop (n + t.length)) : Nat) : Int), ())) else .inl (((i + 1 : Nat) : Int), ())) := by
  have hi : i < 6 := (List.getElem?_eq_some_iff.1 ht).1
  have htl : t.length ≤ 2 := by
    have : t ∈ starts := List.mem_of_getElem? ht
    simp only [starts, List.mem_cons, List.not_mem_nil, or_false] at this
    rcases this with rfl | rfl | rfl | rfl | rfl | rfl <;> simp
  have c : (i : Int) < 6 := by omega
  have hix : idx [[101], [69], [101, 43], [69, 43], [101, 45], [69, 45]] (i : Int) = some t := by rw [idx_nat]; exact ht
  have w : IntKind.i64.wrap ((n : Int) + (t.length : Int)) = ((n + t.length : Nat) : Int) := wadd (by omega)
  have wi := wsucc (show i < 9223372036854775807 by omega)
  unfold chanceryref2_numberLength_l1
  dsimp only
  rw [decide_eq_true c, cond_true, hix, Option.bind_some, cut_from hn, Option.bind_some, Has_eq, Option.bind_some]
  dsimp only
  rw [w, wi]
  unfold hitP
  cases hp : Lib.hasPrefix (s.drop n) t with
  | false =>
    simp only [cond_false, Option.bind_some, Bool.false_and, Bool.false_eq_true, if_false]
  | true =>
    simp only [cond_true, Bool.true_and]
    by_cases hk : n + t.length < s.length
    · have ck : ((n + t.length : Nat) : Int) < (s.length : Int) := by omega
      have hrd := run_drop (p := isDigit) (s := s) (k := n + t.length)
      have hd : (s.drop (n + t.length)).length < 1099511627776 := by simp; omega
      have r4 := run_drop_le isDigit s (n + t.length)
      rw [decide_eq_true ck, cond_true, idx_get hk, Option.bind_some, rdigit_eq, Option.bind_some, Option.bind_some]
      dsimp only
      cases hdg : isDigit (s.getD (n + t.length) 0) with
      | true =>
        have : 0 < runP isDigit (s.drop (n + t.length)) := hrd.2 ⟨hk, hdg⟩
        rw [decide_eq_true this, if_pos rfl, cond_true, cut_from (by omega), Option.bind_some, span_Digit_eq hd, Option.bind_some]
        dsimp only
        rw [wadd (by omega)]
      | false =>
        have : ¬0 < runP isDigit (s.drop (n + t.length)) := fun g => by
          have := (hrd.1 g).2
          rw [hdg] at this
          cases this
        rw [decide_eq_false this, if_neg (by simp), cond_false]
    · have ck : ¬((n + t.length : Nat) : Int) < (s.length : Int) := by omega
      have : ¬0 < runP isDigit (s.drop (n + t.length)) := fun g => hk (run_drop.1 g).1
      rw [decide_eq_false ck, cond_false, Option.bind_some, decide_eq_false this, if_neg (by simp)]
      rfl

theorem hit_one {s : Str} {n : Nat} (hn : n ≤ s.length) (a : UInt8) : Lib.hasPrefix (s.drop n) [a] = decide (n < s.length ∧ s.getD n 0 = a) := by
  by_cases h : n < s.length
  · rw [List.drop_eq_getElem_cons h]
    have e : s.getD n 0 = s[n] := by simp [List.getD, h]
    rw [e]
    simp only [Lib.hasPrefix, List.isPrefixOf, Bool.and_true, h, true_and]
    by_cases g : s[n] = a
    · simp [g]
    · simp [g, Ne.symm g]
  · rw [List.drop_of_length_le (by omega)]
    simp [Lib.hasPrefix, List.isPrefixOf, h]
theorem hit_two {s : Str} {n : Nat} (hn : n ≤ s.length) (a b : UInt8) : Lib.hasPrefix (s.drop n) [a, b] = decide (n + 1 < s.length ∧ s.getD n 0 = a ∧ s.getD (n + 1) 0 = b) := by
  by_cases h : n < s.length
  · rw [List.drop_eq_getElem_cons h]
    have e : s.getD n 0 = s[n] := by simp [List.getD, h]
    rw [e]
    by_cases h1 : n + 1 < s.length
    · rw [List.drop_eq_getElem_cons h1]
      have e1 : s.getD (n + 1) 0 = s[n + 1] := by simp [List.getD, h1]
      rw [e1]
      simp only [Lib.hasPrefix, List.isPrefixOf, Bool.and_true, h1, true_and]
      rw [Bool.eq_iff_iff]
      simp only [Bool.and_eq_true, beq_iff_eq, decide_eq_true_eq]
      exact and_congr eq_comm eq_comm
    · rw [List.drop_of_length_le (show s.length ≤ n + 1 by omega)]
      simp [Lib.hasPrefix, List.isPrefixOf, h1]
  · rw [List.drop_of_length_le (by omega)]
    simp [Lib.hasPrefix, List.isPrefixOf]
    intro h1
    omega

theorem numberLength_eq {s : Str} (hs : s.length ≤ 1000000) : chanceryref2_numberLength s = some ((numP s : Int), ()) := by
  have hl : s.length < 1099511627776 := by omega
  have r1 := runP_le isDigit s
  have hint : ((((cond (decide ((IntKind.i64.wrap ((runP isDigit s : Int) + 1)) < (s.length : Int)))
  ((idx s (runP isDigit s : Int)).bind fun v2 =>
  cond ((decide ((ofByte v2) = 46)))
  ((idx s (IntKind.i64.wrap ((runP isDigit s : Int) + 1))).bind fun v3 =>
  (chanceryref2_Digit (ofByte v3)).bind fun v4 =>
  some (v4.1, ()))
  (some (false, ())))
  (some (false, ())) : Option (Bool × Unit)).bind fun r5 =>
  cond r5.1
  ((cut s (IntKind.i64.wrap ((runP isDigit s : Int) + 1)) (s.length : Int)).bind fun v6 =>
  (chanceryref2_span_Digit v6).bind fun v7 =>
  some (IntKind.i64.wrap ((runP isDigit s : Int) + (IntKind.i64.wrap (1 + v7.1))), ()))
  (some ((runP isDigit s : Int), ())) : Option (Int × Unit)))) = some ((intP s : Int), ()) := by
    have w := wsucc (show runP isDigit s < 9223372036854775807 by omega)
    have hrd := run_drop (p := isDigit) (s := s) (k := runP isDigit s + 1)
    have e : decide (ofByte (s.getD (runP isDigit s) 0) = 46) = decide (s.getD (runP isDigit s) 0 = 46) := byte_dec _ 46 (by omega)
    have hd : (s.drop (runP isDigit s + 1)).length < 1099511627776 := by simp; omega
    have r2 := run_drop_le isDigit s (runP isDigit s + 1)
    rw [w]
    by_cases h : runP isDigit s + 1 < s.length
    · have c : ((runP isDigit s + 1 : Nat) : Int) < (s.length : Int) := by omega
      simp only [c, decide_true, cond_true, idx_get (show runP isDigit s < s.length by omega), idx_get h, Option.bind_some, e, rdigit_eq]
      by_cases h46 : s.getD (runP isDigit s) 0 = 46
      · simp only [h46, decide_true, cond_true, Option.bind_some]
        cases hdg : isDigit (s.getD (runP isDigit s + 1) 0) with
        | true =>
          have w2 : IntKind.i64.wrap (1 + (runP isDigit (s.drop (runP isDigit s + 1)) : Int)) = ((1 + runP isDigit (s.drop (runP isDigit s + 1)) : Nat) : Int) := wadd (a := 1) (by omega)
          have w3 : IntKind.i64.wrap ((runP isDigit s : Int) + ((1 + runP isDigit (s.drop (runP isDigit s + 1)) : Nat) : Int)) = ((runP isDigit s + (1 + runP isDigit (s.drop (runP isDigit s + 1))) : Nat) : Int) := wadd (by omega)
          simp only [cond_true, cut_from (show runP isDigit s + 1 ≤ s.length by omega), Option.bind_some, span_Digit_eq hd, w2, w3]
          rw [intP, if_pos ⟨by omega, h46, hrd.2 ⟨h, hdg⟩⟩]
        | false =>
          simp only [cond_false]
          rw [intP, if_neg (fun g => by
            have := (hrd.1 g.2.2).2
            rw [hdg] at this
            cases this)]
      · simp only [h46, decide_false, cond_false, Option.bind_some]
        rw [intP, if_neg (fun g => h46 g.2.1)]
    · have c : ¬((runP isDigit s + 1 : Nat) : Int) < (s.length : Int) := by omega
      simp only [c, decide_false, cond_false, Option.bind_some]
      rw [intP, if_neg (fun g => h (hrd.1 g.2.2).1)]
  have r3 := intP_le s
  unfold chanceryref2_numberLength
  rw [span_Digit_eq hl, Option.bind_some]
  dsimp only
  rw [hint, Option.bind_some]
  unfold numP
  generalize intP s = n at *
  have b0 := try_eq hs r3 (i := 0) (t := [101]) rfl
  have b1 := try_eq hs r3 (i := 1) (t := [69]) rfl
  have b2 := try_eq hs r3 (i := 2) (t := [101, 43]) rfl
  have b3 := try_eq hs r3 (i := 3) (t := [69, 43]) rfl
  have b4 := try_eq hs r3 (i := 4) (t := [101, 45]) rfl
  have b5 := try_eq hs r3 (i := 5) (t := [69, 45]) rfl
  have b6 : chanceryref2_numberLength_l1 s ((n : Int), ()) (((5 + 1 : Nat) : Int), ()) = some (.inr (.inl ())) := by simp [chanceryref2_numberLength_l1]
  have hrun : loop (chanceryref2_numberLength_l1 s ((n : Int), ())) (0, ()) = some (if expP s n = n then .inl () else .inr ((expP s n : Int), ())) := by
    have hne : ∀ k, 0 < k → expP s n = n + k → (if expP s n = n then (.inl () : Unit ⊕ (Int × Unit)) else .inr ((expP s n : Int), ())) = .inr (((n + k : Nat) : Int), ()) := fun k hk he => by
      rw [if_neg (by omega), he]
    -- which try hits
    simp only [hitP, hit_one r3, hit_two r3, Bool.and_eq_true, decide_eq_true_eq, List.length_cons, List.length_nil, Nat.zero_add, Nat.reduceAdd] at b0 b1 b2 b3 b4 b5
    have d1 := run_drop (p := isDigit) (s := s) (k := n + 1)
    have nd : ∀ c : UInt8, (c = 43 ∨ c = 45) → isDigit c = false := fun c h => by rcases h with rfl | rfl <;> decide
    by_cases he : n < s.length ∧ (s.getD n 0 = 101 ∨ s.getD n 0 = 69)
    · by_cases hsg : n + 1 < s.length ∧ (s.getD (n + 1) 0 = 43 ∨ s.getD (n + 1) 0 = 45)
      · have hs2 : signP s n = n + 2 := if_pos hsg
        have n1 : ¬0 < runP isDigit (s.drop (n + 1)) := fun g => by
          have := (d1.1 g).2
          rw [nd _ hsg.2] at this
          cases this
        rw [if_neg (fun g => n1 g.2)] at b0
        rw [if_neg (fun g => n1 g.2)] at b1
        by_cases hp : 0 < runP isDigit (s.drop (n + 2))
        · have hexp : expP s n = n + (2 + runP isDigit (s.drop (n + 2))) := by rw [expP, if_pos ⟨he.1, he.2, by rw [hs2]; exact hp⟩, hs2, Nat.add_assoc]
          rw [hne _ (by omega) hexp]
          rw [← Nat.add_assoc]
          rcases he.2 with h1 | h1 <;> rcases hsg.2 with h2 | h2
          · rw [if_pos ⟨⟨hsg.1, h1, h2⟩, hp⟩] at b2
            exact (Halts.step (n := 1) b0 (Halts.step (n := 0) b1 (Halts.done b2))).loop (by omega)
          · rw [if_neg (fun g => by rw [g.1.2.2] at h2; cases h2)] at b2
            rw [if_neg (fun g => by rw [g.1.2.1] at h1; cases h1)] at b3
            rw [if_pos ⟨⟨hsg.1, h1, h2⟩, hp⟩] at b4
            exact (Halts.step (n := 3) b0 (Halts.step (n := 2) b1 (Halts.step (n := 1) b2 (Halts.step (n := 0) b3 (Halts.done b4))))).loop (by omega)
          · rw [if_neg (fun g => by rw [g.1.2.1] at h1; cases h1)] at b2
            rw [if_pos ⟨⟨hsg.1, h1, h2⟩, hp⟩] at b3
            exact (Halts.step (n := 2) b0 (Halts.step (n := 1) b1 (Halts.step (n := 0) b2 (Halts.done b3)))).loop (by omega)
          · rw [if_neg (fun g => by rw [g.1.2.1] at h1; cases h1)] at b2
            rw [if_neg (fun g => by rw [g.1.2.2] at h2; cases h2)] at b3
            rw [if_neg (fun g => by rw [g.1.2.1] at h1; cases h1)] at b4
            rw [if_pos ⟨⟨hsg.1, h1, h2⟩, hp⟩] at b5
            exact (Halts.step (n := 4) b0 (Halts.step (n := 3) b1 (Halts.step (n := 2) b2 (Halts.step (n := 1) b3 (Halts.step (n := 0) b4 (Halts.done b5)))))).loop (by omega)
        · have hexp : expP s n = n := by rw [expP, if_neg (fun g => hp (by rw [← hs2]; exact g.2.2))]
          rw [hexp, if_pos rfl]
          rw [if_neg (fun g => hp g.2)] at b2 b3 b4 b5
          exact (Halts.step (n := 5) b0 (Halts.step (n := 4) b1 (Halts.step (n := 3) b2 (Halts.step (n := 2) b3 (Halts.step (n := 1) b4 (Halts.step (n := 0) b5 (Halts.done b6))))))).loop (by omega)
      · have hs1 : signP s n = n + 1 := if_neg hsg
        by_cases hp : 0 < runP isDigit (s.drop (n + 1))
        · have hexp : expP s n = n + (1 + runP isDigit (s.drop (n + 1))) := by rw [expP, if_pos ⟨he.1, he.2, by rw [hs1]; exact hp⟩, hs1, Nat.add_assoc]
          rw [hne _ (by omega) hexp]
          rw [← Nat.add_assoc]
          rcases he.2 with h1 | h1
          · rw [if_pos ⟨⟨he.1, h1⟩, hp⟩] at b0
            exact (Halts.done (n := 0) b0).loop (by omega)
          · rw [if_neg (fun g => by rw [g.1.2] at h1; cases h1)] at b0
            rw [if_pos ⟨⟨he.1, h1⟩, hp⟩] at b1
            exact (Halts.step (n := 0) b0 (Halts.done b1)).loop (by omega)
        · have hexp : expP s n = n := by rw [expP, if_neg (fun g => hp (by rw [← hs1]; exact g.2.2))]
          rw [hexp, if_pos rfl]
          rw [if_neg (fun g => hp g.2)] at b0 b1
          rw [if_neg (fun g => hsg ⟨g.1.1, .inl g.1.2.2⟩)] at b2 b3
          rw [if_neg (fun g => hsg ⟨g.1.1, .inr g.1.2.2⟩)] at b4 b5
          exact (Halts.step (n := 5) b0 (Halts.step (n := 4) b1 (Halts.step (n := 3) b2 (Halts.step (n := 2) b3 (Halts.step (n := 1) b4 (Halts.step (n := 0) b5 (Halts.done b6))))))).loop (by omega)
    · have hexp : expP s n = n := by rw [expP, if_neg (fun g => he ⟨g.1, g.2.1⟩)]
      rw [hexp, if_pos rfl]
      rw [if_neg (fun g => he ⟨g.1.1, .inl g.1.2⟩)] at b0
      rw [if_neg (fun g => he ⟨g.1.1, .inr g.1.2⟩)] at b1
      rw [if_neg (fun g => he ⟨by omega, .inl g.1.2.1⟩)] at b2 b4
      rw [if_neg (fun g => he ⟨by omega, .inr g.1.2.1⟩)] at b3 b5
      exact (Halts.step (n := 5) b0 (Halts.step (n := 4) b1 (Halts.step (n := 3) b2 (Halts.step (n := 2) b3 (Halts.step (n := 1) b4 (Halts.step (n := 0) b5 (Halts.done b6))))))).loop (by omega)
  rw [hrun, Option.bind_some]
  by_cases h : expP s n = n
  · rw [if_pos h, h]
  · rw [if_neg h]

/-! ### Rows -/
noncomputable def rowsP (s : Str) : Nat := if runP isDigit s < s.length ∧ s.getD (runP isDigit s) 0 = 58 ∧ isR (s.take (side2 s (runP isDigit s))) = true then side2 s (runP isDigit s) else 0
theorem rowsP_le (s : Str) : rowsP s ≤ s.length := by
  unfold rowsP
  split
  · rename_i g; exact side2_le g.1
  · omega
theorem rows_eq {s : Str} (hs : s.length ≤ 1000000) : fscan_rows s = some ((rowsP s : Int), ()) := by
  have hl : s.length < 1099511627776 := by omega
  simp only [fscan_rows, run_digit_eq hl, Option.bind_some, colon_eq]
  unfold rowsP
  generalize runP isDigit s = n
  by_cases h : n < s.length ∧ s.getD n 0 = 58
  · have hd : ((s.drop (n + 1)).length) < 1099511627776 := by simp; omega
    have w := wsucc (show n < 9223372036854775807 by omega)
    have w2 := second_eq hs h.1
    rw [w] at w2
    simp only [h, and_self, decide_true, cond_true, w, cut_from (show n + 1 ≤ s.length by omega), Option.bind_some, run_corner_eq hd, w2, cut_to (side2_le h.1), isRef_eq]
    by_cases g : isR (s.take (side2 s n)) = true
    · simp only [g, cond_true, Option.bind_some, and_self, if_true]
    · simp only [g, cond_false, Option.bind_some]
      rfl
  · simp only [h, decide_false, cond_false, Option.bind_some]
    rw [if_neg (fun g => h ⟨g.1, g.2.1⟩)]
    rfl
end Go.Proofs.YtjhcnnhkabhigaaGreatDoor
