import Derived.Test.YtmcoedgkmciciaaGreatDoorLawV
namespace Go.Proofs.YtmcoedgkmciciaaGreatDoor
open Go Go.Fe

/-! ### Decimal numbers are read -/
theorem ofByte_is (c : UInt8) (k : Nat) (hk : k < 256) : decide (ofByte c = (k : Int)) = decide (c = UInt8.ofNat k) := by
  rw [ofByte_eq]
  have e : (UInt8.ofNat k).toNat = k := by simp; omega
  by_cases h : c = UInt8.ofNat k
  · subst h
    rw [e]
    simp
  · rw [decide_eq_false h, decide_eq_false]
    intro g
    exact h (UInt8.toNat_inj.1 (by omega))
theorem pre_eq (s : Str) (c : UInt8) : Lib.hasPrefix s [c] = decide (s.head? = some c) := by
  unfold Lib.hasPrefix
  cases s with
  | nil => simp
  | cons a r =>
    by_cases h : a = c
    · subst h; simp
    · have e : ([c] : Str).isPrefixOf (a :: r) = false := by
        show ((c == a) && _) = false
        have : (c == a) = false := by
          rw [beq_eq_false_iff_ne]
          exact fun e => h e.symm
        rw [this]
        rfl
      simp [h, e]
theorem hasPrefix_eq (s : Str) (c : UInt8) : sHasPrefix (no_index (s, [c], ())) = some (decide (s.head? = some c), ()) := by
  unfold sHasPrefix
  dsimp only
  rw [pre_eq]
def strip (c : UInt8) (s : Str) : Str := bif decide (s.head? = some c) then s.tail else s
theorem cutPrefix_eq (s : Str) (c : UInt8) : sCutPrefix (no_index (s, [c], ())) = some (strip c s, decide (s.head? = some c), ()) := by
  unfold sCutPrefix Lib.trimPrefix strip
  dsimp only
  rw [pre_eq]
  by_cases h : s.head? = some c
  · rw [decide_eq_true h]
    simp
  · rw [decide_eq_false h]
    rfl
theorem has_eq (s : Str) (c : UInt8) : chanceryref2_Has s [c] = some (decide (s.head? = some c), ()) := by
  unfold chanceryref2_Has
  cases s with
  | nil => rfl
  | cons a r =>
    have hc : cut (a :: r) 0 (([c] : Str).length : Int) = some [a] := by
      have := cut_nat (xs := a :: r) (a := 0) (b := 1) (by omega) (by simp)
      simpa using this
    rw [decide_eq_true (by simp only [List.length_cons, List.length_nil]; omega), cond_true, hc, Option.bind_some]
    congr 2
    by_cases h : a = c
    · subst h; simp
    · simp [h]
theorem cut_tail {s : Str} (h : s ≠ []) : cut s 1 (s.length : Int) = some s.tail := by
  cases s with
  | nil => exact absurd rfl h
  | cons a r =>
    have := cut_nat (xs := a :: r) (a := 1) (b := (a :: r).length) (by simp) (by omega)
    simpa using this
theorem head_ne {s : Str} {c : UInt8} (h : s.head? = some c) : s ≠ [] := by
  intro e
  subst e
  cases h
theorem tw_dw (s : Str) : s.takeWhile isDigit ++ s.dropWhile isDigit = s := List.takeWhile_append_dropWhile
theorem tw_all (s : Str) : (s.takeWhile isDigit).all isDigit = true := by
  induction s with
  | nil => rfl
  | cons c r ih =>
    rw [List.takeWhile_cons]
    cases h : isDigit c with
    | true => simp [h]
    | false => simp
theorem tw_len (s : Str) : (s.takeWhile isDigit).length + (s.dropWhile isDigit).length = s.length := by
  have := congrArg List.length (tw_dw s)
  rwa [List.length_append] at this
theorem trimLeft_eq {s : Str} (h : s.length < 1000000000) : strings_TrimLeft s [48, 49, 50, 51, 52, 53, 54, 55, 56, 57] = some (s.dropWhile isDigit, ()) := by
  unfold strings_TrimLeft
  by_cases h0 : s = []
  · subst h0; rfl
  · have hl := (trimL_halts s h).loop (by omega)
    have e1 : (decide (([48, 49, 50, 51, 52, 53, 54, 55, 56, 57] : Str) = [])) = false := rfl
    have e2 : (decide ((([48, 49, 50, 51, 52, 53, 54, 55, 56, 57] : Str).length : Int) = 1)) = false := rfl
    rw [decide_eq_false h0, cond_false, e1, Option.bind_some]
    dsimp only
    rw [cond_false, e2, cond_false, Option.bind_some]
    dsimp only
    rw [cond_false, makeSet_eq, Option.bind_some]
    dsimp only
    rw [cond_true]
    unfold strings_trimLeftASCII
    rw [hl]
    rfl
theorem run_eq {s : Str} (h : s.length < 1000000000) : exact_run s = some (s.takeWhile isDigit, s.dropWhile isDigit, ()) := by
  have hl := tw_len s
  have w : IntKind.i64.wrap ((s.length : Int) - ((s.dropWhile isDigit).length : Int)) = ((s.takeWhile isDigit).length : Int) := by rw [wrap_i64 (by omega) (by omega)]; omega
  have hc : cut s 0 ((s.takeWhile isDigit).length : Int) = some (s.takeWhile isDigit) := by
    have := cut_nat (xs := s) (a := 0) (b := (s.takeWhile isDigit).length) (by omega) (by omega)
    rw [List.drop_zero] at this
    have e : s.take (s.takeWhile isDigit).length = s.takeWhile isDigit := by
      conv => lhs; rw [← tw_dw s]
      rw [tw_dw s]
      have := List.take_left (l₁ := s.takeWhile isDigit) (l₂ := s.dropWhile isDigit)
      rwa [tw_dw] at this
    rw [e] at this
    exact this
  unfold exact_run
  rw [trimLeft_eq h, Option.bind_some]
  dsimp only
  rw [w, hc, Option.bind_some]
theorem digit_eq' (c : UInt8) : chanceryref2_Digit (ofByte c) = some (isDigit c, ()) := by
  unfold chanceryref2_Digit isDigit
  rw [ofByte_eq]
  by_cases h1 : 48 ≤ c.toNat
  · by_cases h2 : c.toNat ≤ 57
    · rw [decide_eq_true (by omega), decide_eq_true (by omega), decide_eq_true (by omega)]; rfl
    · rw [decide_eq_true (by omega), decide_eq_false (p := (c.toNat : Int) ≤ 57) (by omega), decide_eq_false (by omega)]; rfl
  · rw [decide_eq_false (p := 48 ≤ (c.toNat : Int)) (by omega), decide_eq_false (p := 48 ≤ c.toNat ∧ c.toNat ≤ 57) (by omega)]; rfl
theorem span_halts {s : Str} (h : s.length < 1000000000) : ∀ f i, i + f = s.length → ∃ r, Halts (chanceryref2_span_Digit_l1 s) f ((), (i : Int), ()) r ∧
    (match r with | .inl _ => (s.length : Int) | .inr z => z.1) = ((i + ((s.drop i).takeWhile isDigit).length : Nat) : Int)
  | 0, i, hi => by
    refine ⟨.inl (), .done ?_, ?_⟩
    · unfold chanceryref2_span_Digit_l1
      dsimp only
      rw [decide_eq_false (by omega), cond_false]
    · rw [List.drop_of_length_le (by omega)]
      simp
      omega
  | f + 1, i, hi => by
    have hd : s.drop i = s[i] :: s.drop (i + 1) := List.drop_eq_getElem_cons (by omega)
    have hst : chanceryref2_span_Digit_l1 s ((), (i : Int), ()) = if isDigit s[i] = true then some (.inl ((), ((i + 1 : Nat) : Int), ())) else some (.inr (.inr ((i : Int), ()))) := by
      unfold chanceryref2_span_Digit_l1
      dsimp only
      rw [decide_eq_true (by omega), cond_true, idx_lt (by omega), Option.bind_some, digit_eq', Option.bind_some]
      dsimp only
      rw [wrapI1 (by omega)]
      cases isDigit s[i] <;> rfl
    rw [hd, List.takeWhile_cons]
    by_cases hc : isDigit s[i] = true
    · rw [if_pos hc] at hst ⊢
      obtain ⟨r, h1, h2⟩ := span_halts h f (i + 1) (by omega)
      refine ⟨r, .step hst h1, ?_⟩
      rw [h2, List.length_cons]
      omega
    · rw [if_neg hc] at hst ⊢
      exact ⟨.inr ((i : Int), ()), .done hst, by simp⟩
theorem span_eq {s : Str} (h : s.length < 1000000000) : chanceryref2_span_Digit s = some (((s.takeWhile isDigit).length : Int), ()) := by
  obtain ⟨r, h1, h2⟩ := span_halts h s.length 0 (by omega)
  have := h1.loop (by omega)
  rw [List.drop_zero, Nat.zero_add] at h2
  unfold chanceryref2_span_Digit
  have this' : loop (chanceryref2_span_Digit_l1 s) ((), 0, ()) = some r := this
  rw [this', Option.bind_some, ← h2]
  cases r <;> rfl
theorem allDig_halts {s : Str} (h : s.length < 1000000000) : ∀ f i, i + f = s.length → ∃ r, Halts (chanceryref2_All_Digit_l1 s) f ((), (i : Int), ()) r ∧
    (match r with | .inl _ => true | .inr z => z.1) = (s.drop i).all isDigit
  | 0, i, hi => by
    refine ⟨.inl (), .done ?_, ?_⟩
    · unfold chanceryref2_All_Digit_l1
      dsimp only
      rw [decide_eq_false (by omega), cond_false]
    · rw [List.drop_of_length_le (by omega)]
      rfl
  | f + 1, i, hi => by
    have hd : s.drop i = s[i] :: s.drop (i + 1) := List.drop_eq_getElem_cons (by omega)
    have hst : chanceryref2_All_Digit_l1 s ((), (i : Int), ()) = if isDigit s[i] = true then some (.inl ((), ((i + 1 : Nat) : Int), ())) else some (.inr (.inr (false, ()))) := by
      unfold chanceryref2_All_Digit_l1
      dsimp only
      rw [decide_eq_true (by omega), cond_true, idx_lt (by omega), Option.bind_some, digit_eq', Option.bind_some]
      dsimp only
      rw [wrapI1 (by omega)]
      cases isDigit s[i] <;> rfl
    rw [hd, List.all_cons]
    by_cases hc : isDigit s[i] = true
    · rw [if_pos hc] at hst
      obtain ⟨r, h1, h2⟩ := allDig_halts h f (i + 1) (by omega)
      exact ⟨r, .step hst h1, by rw [h2, hc, Bool.true_and]⟩
    · rw [if_neg hc] at hst
      exact ⟨.inr (false, ()), .done hst, by simp [hc]⟩
theorem allDigits_eq {s : Str} (h : s.length < 1000000000) : chanceryref2_allDigits s = some (decide (s ≠ []) && s.all isDigit, ()) := by
  obtain ⟨r, h1, h2⟩ := allDig_halts h s.length 0 (by omega)
  have this' : loop (chanceryref2_All_Digit_l1 s) ((), 0, ()) = some r := h1.loop (by omega)
  rw [List.drop_zero] at h2
  unfold chanceryref2_allDigits
  by_cases h0 : s = []
  · subst h0; rfl
  · rw [decide_eq_false h0, decide_eq_true h0, Bool.not_false, cond_true, Bool.true_and]
    unfold chanceryref2_All_Digit
    rw [this', Option.bind_some, ← h2]
    cases r <;> rfl
theorem small_halts {s : Str} (ha : s.all isDigit = true) (h : s.length ≤ 10) : ∀ f i, i + f = s.length → Halts (chanceryref2_small_l1 s) f ((dec (s.take i) : Int), (i : Int), ()) ((dec s : Int), ())
  | 0, i, hi => by
    refine .done ?_
    unfold chanceryref2_small_l1
    dsimp only
    rw [decide_eq_false (by omega), cond_false, List.take_of_length_le (by omega)]
  | f + 1, i, hi => by
    refine .step ?_ (small_halts ha h f (i + 1) (by omega))
    have hd : isDigit s[i] = true := List.all_eq_true.1 ha _ (List.getElem_mem _)
    simp only [isDigit, decide_eq_true_eq] at hd
    have hall : (s.take i).all isDigit = true := List.all_eq_true.2 fun c hc => List.all_eq_true.1 ha c (List.mem_of_mem_take hc)
    have hb := dec_small (s := s.take i) (by rw [List.length_take]; omega) hall
    have w : IntKind.i64.wrap (IntKind.i64.wrap (10 * (dec (s.take i) : Int)) + IntKind.i64.wrap (IntKind.u8.wrap (ofByte s[i] - 48))) = ((10 * dec (s.take i) + (s[i].toNat - 48) : Nat) : Int) := by
      rw [ofByte_eq, wrap_u8i (by omega) (by omega), wrap_i64 (n := 10 * (dec (s.take i) : Int)) (by omega) (by omega), wrap_i64 (n := (s[i].toNat : Int) - 48) (by omega) (by omega), wrap_i64 (by omega) (by omega)]
      omega
    unfold chanceryref2_small_l1
    dsimp only
    rw [decide_eq_true (by omega), cond_true, idx_lt (by omega), Option.bind_some, w, wrapI1 (by omega), dec_take (by omega)]
theorem small_eq {s : Str} (ha : s.all isDigit = true) (h : s.length ≤ 10) : chanceryref2_small s = some ((dec s : Int), ()) := by
  have hl : loop (chanceryref2_small_l1 s) (0, 0, ()) = some ((dec s : Int), ()) := (small_halts ha h s.length 0 (by omega)).loop (by omega)
  unfold chanceryref2_small
  rw [hl]
  rfl
/-- What is behind the letter of an exponent. -/
def expSign (r : Str) : Bool := decide (r.head? = some 45)
def expBody (r : Str) : Str := bif expSign r || decide (r.head? = some 43) then r.tail else r
def expOk (r : Str) : Bool := decide (expBody r ≠ []) && (expBody r).all isDigit && decide ((expBody r).length ≤ 3)
def expVal (r : Str) : Int := bif expSign r then -(dec (expBody r) : Int) else (dec (expBody r) : Int)
def expo : Str → Option Int
  | [] => some 0
  | c :: r => if c ≠ 101 ∧ c ≠ 69 then none else if expOk r = true then some (expVal r) else none
theorem expo_cons (c : UInt8) (r : Str) : expo (c :: r) = if c ≠ 101 ∧ c ≠ 69 then none else if expOk r = true then some (expVal r) else none := rfl
theorem expVal_bound {r : Str} (h : expOk r = true) : -1000 < expVal r ∧ expVal r < 1000 := by
  simp only [expOk, Bool.and_eq_true, decide_eq_true_eq] at h
  have h1 := dec_lt _ _ rfl h.1.2
  have h2 : (10 : Nat) ^ (expBody r).length ≤ 10 ^ 3 := Nat.pow_le_pow_right (by omega) h.2
  unfold expVal
  cases expSign r <;> simp only [cond_true, cond_false] <;> omega
theorem expo_bound {s : Str} {k : Int} (h : expo s = some k) : -1000 < k ∧ k < 1000 := by
  cases s with
  | nil => cases h; omega
  | cons c r =>
    simp only [expo] at h
    split at h
    · cases h
    · split at h
      · cases h
        rename_i h2
        exact expVal_bound h2
      · cases h
theorem expBody_len (r : Str) : (expBody r).length ≤ r.length := by
  unfold expBody
  cases (expSign r || decide (r.head? = some 43)) <;> simp
theorem all_dw {s : Str} : s.dropWhile isDigit = [] ↔ s.all isDigit = true := dropWhile_nil
theorem tw_of_all {s : Str} (h : s.all isDigit = true) : s.takeWhile isDigit = s := by
  have := tw_dw s
  rwa [all_dw.2 h, List.append_nil] at this
def letterE (c : UInt8) : Bool := decide (c ≠ 101 ∧ c ≠ 69)
theorem letterE_eq (c : UInt8) : (cond (!decide ((ofByte c) = 101)) (some ((!decide ((ofByte c) = 69)), ())) (some (false, ())) : Option (Bool × Unit)) = some (letterE c, ()) := by
  have e1 : decide (ofByte c = 101) = decide (c = 101) := ofByte_is c 101 (by omega)
  have e2 : decide (ofByte c = 69) = decide (c = 69) := ofByte_is c 69 (by omega)
  rw [e1, e2]
  unfold letterE
  by_cases h1 : c = 101
  · subst h1; rfl
  · by_cases h2 : c = 69
    · subst h2; rfl
    · simp [h1, h2]
theorem exponent_eq {s : Str} (h : s.length ≤ 1000) : exact_exponent s = some (match expo s with | some k => (k, true, ()) | none => (0, false, ())) := by
  unfold exact_exponent
  cases s with
  | nil => rfl
  | cons c r =>
    have hl : r.length < 1000 := by simp at h; omega
    rw [decide_eq_false (by simp), cond_false, idx_zero, List.getElem?_cons_zero, Option.bind_some, Option.bind_some, letterE_eq, Option.bind_some]
    dsimp only
    rw [expo_cons]
    by_cases hc : c ≠ 101 ∧ c ≠ 69
    · rw [if_pos hc]
      unfold letterE
      rw [decide_eq_true hc]
      rfl
    · rw [if_neg hc]
      unfold letterE
      have hx : (cond (decide (r.head? = some 45)) (some (true, ())) ((sHasPrefix (r, [43], ())).bind fun v6 => some (v6.1, ())) : Option (Bool × Unit)) = some (expSign r || decide (r.head? = some 43), ()) := by
        rw [hasPrefix_eq]
        unfold expSign
        cases decide (r.head? = some 45) <;> rfl
      have hy : (cond (expSign r || decide (r.head? = some 43)) ((cut r 1 (r.length : Int)).bind fun v8 => some (v8, ())) (some (r, ())) : Option (Str × Unit)) = some (expBody r, ()) := by
        unfold expBody
        cases hq : (expSign r || decide (r.head? = some 43)) with
        | false => rfl
        | true =>
          have hne : r ≠ [] := by
            intro e
            subst e
            simp [expSign] at hq
          rw [cond_true, cut_tail hne]
          rfl
      have hb := expBody_len r
      rw [decide_eq_false hc, cond_false, cut_tail (by simp), Option.bind_some]
      dsimp only [List.tail_cons]
      rw [hasPrefix_eq, Option.bind_some]
      dsimp only
      rw [hx, Option.bind_some]
      dsimp only
      rw [hy, Option.bind_some]
      dsimp only
      rw [run_eq (by omega), Option.bind_some]
      dsimp only
      by_cases hok : expOk r = true
      · have hok' := hok
        simp only [expOk, Bool.and_eq_true, decide_eq_true_eq] at hok'
        obtain ⟨⟨o1, o2⟩, o3⟩ := hok'
        have hbd := expVal_bound hok
        rw [if_pos hok, tw_of_all o2, all_dw.2 o2, decide_eq_false o1, cond_false, decide_eq_false (by omega), cond_false, Option.bind_some]
        dsimp only
        rw [decide_eq_true rfl, Bool.not_true, cond_false]
        have ha : sAtoi (expBody r, ()) = some ((dec (expBody r) : Int), false, ()) := sAtoi_digits o1 (by omega) o2
        rw [ha, Option.bind_some]
        dsimp only
        unfold expVal at hbd ⊢
        unfold expSign at hbd ⊢
        cases hs : decide (r.head? = some 45) with
        | false => rfl
        | true =>
          rw [hs] at hbd
          simp only [cond_true] at hbd
          have w : IntKind.i64.wrap (0 - (dec (expBody r) : Int)) = -(dec (expBody r) : Int) := by rw [wrap_i64 (by omega) (by omega)]; omega
          rw [w]
          rfl
      · rw [if_neg hok]
        by_cases o1 : (expBody r).takeWhile isDigit = []
        · rw [decide_eq_true o1]
          rfl
        · rw [decide_eq_false o1, cond_false]
          by_cases o2 : 3 < ((expBody r).takeWhile isDigit).length
          · rw [decide_eq_true (by omega)]
            rfl
          · have o3 : (expBody r).dropWhile isDigit ≠ [] := by
              intro e
              have e2 := all_dw.1 e
              rw [tw_of_all e2] at o1 o2
              exact hok (by
                simp only [expOk, Bool.and_eq_true, decide_eq_true_eq]
                exact ⟨⟨o1, e2⟩, by omega⟩)
            rw [decide_eq_false (by omega), cond_false, decide_eq_false o3]
            rfl
end Go.Proofs.YtmcoedgkmciciaaGreatDoor
