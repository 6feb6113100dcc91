import Derived.Test.YtmbejoibeninmaaGreatDoorRLawR
namespace Go.Proofs.YtmbejoibeninmaaGreatDoor
open Go Go.Fe
theorem ofByte_is (c : UInt8) (k : Nat) (hk : k < 256) : decide (ofByte c = (k : Int)) = decide (c = UInt8.ofNat k) := by
 rw [ofByte_eq]
 have e : (UInt8.ofNat k).toNat = k := by simp; omega
 by_cases h : c = UInt8.ofNat k
 ·subst h
  rw [e]
  simp
 ·rw [decide_eq_false h, decide_eq_false]
  intro g
  exact h (UInt8.toNat_inj.1 (by omega))
theorem pre_eq (s : Str) (c : UInt8) : Lib.hasPrefix s [c] = decide (s.head? = some c) := by
 unfold Lib.hasPrefix
 cases s with
 | nil => simp
 | cons a r =>
  by_cases h : a = c
  ·subst h; simp
  ·have e : ([c] : Str).isPrefixOf (a :: r) = false := by
    show ((c == a) && _) = false
    have : (c == a) = false := by
     rw [beq_eq_false_iff_ne]
     exact fun e => h e.symm
    rw [this]
    rfl
   simp [h, e]
theorem hasPrefix_eq (s : Str) (c : UInt8) : sHasPrefix (no_index (s, [c], ())) = some (decide (s.head? = some c), ()) := by
 unfold sHasPrefix
 dsimp only
 rw [pre_eq]
def strip (c : UInt8) (s : Str) : Str := bif decide (s.head? = some c) then s.tail else s
theorem cutPrefix_eq (s : Str) (c : UInt8) : sCutPrefix (no_index (s, [c], ())) = some (strip c s, decide (s.head? = some c), ()) := by
 unfold sCutPrefix Lib.trimPrefix strip
 dsimp only
 rw [pre_eq]
 by_cases h : s.head? = some c
 ·rw [decide_eq_true h]
  simp
 ·rw [decide_eq_false h]
  rfl
theorem has_eq (s : Str) (c : UInt8) : chanceryref2_Has s [c] = some (decide (s.head? = some c), ()) := by
 unfold chanceryref2_Has
 cases s with
 | nil => rfl
 | cons a r =>
  have hc : cut (a :: r) 0 (([c] : Str).length : Int) = some [a] := by
   have := cut_nat (xs := a :: r) (a := 0) (b := 1) (by omega) (by simp)
   simpa using this
  rw [decide_eq_true (by simp only [List.length_cons, List.length_nil]; omega), cond_true, hc, Option.bind_some]
  congr 2
  by_cases h : a = c
  ·subst h; simp
  ·simp [h]
theorem cut_tail {s : Str} (h : s ≠ []) : cut s 1 (s.length : Int) = some s.tail := by
 cases s with
 | nil => exact absurd rfl h
 | cons a r =>
  have := cut_nat (xs := a :: r) (a := 1) (b := (a :: r).length) (by simp) (by omega)
  simpa using this
theorem head_ne {s : Str} {c : UInt8} (h : s.head? = some c) : s ≠ [] := by
 intro e
 subst e
 cases h
theorem tw_dw (s : Str) : s.takeWhile isDigit ++ s.dropWhile isDigit = s := List.takeWhile_append_dropWhile
theorem tw_all (s : Str) : (s.takeWhile isDigit).all isDigit = true := by
 induction s with
 | nil => rfl
 | cons c r ih =>
  rw [List.takeWhile_cons]
  cases h : isDigit c with
  | true => simp [h]
  | false => simp
theorem tw_len (s : Str) : (s.takeWhile isDigit).length + (s.dropWhile isDigit).length = s.length := by
 have := congrArg List.length (tw_dw s)
 rwa [List.length_append] at this
theorem trimLeft_eq {s : Str} (h : s.length < 1000000000) : strings_TrimLeft s [48, 49, 50, 51, 52, 53, 54, 55, 56, 57] = some (s.dropWhile isDigit, ()) := by
 unfold strings_TrimLeft
 by_cases h0 : s = []
 ·subst h0; rfl
 ·have hl := (trimL_halts s h).loop (by omega)
  have e1 : (decide (([48, 49, 50, 51, 52, 53, 54, 55, 56, 57] : Str) = [])) = false := rfl
  have e2 : (decide ((([48, 49, 50, 51, 52, 53, 54, 55, 56, 57] : Str).length : Int) = 1)) = false := rfl
  rw [decide_eq_false h0, cond_false, e1, Option.bind_some]
  dsimp only
  rw [cond_false, e2, cond_false, Option.bind_some]
  dsimp only
  rw [cond_false, makeSet_eq, Option.bind_some]
  dsimp only
  rw [cond_true]
  unfold strings_trimLeftASCII
  rw [hl]
  rfl
theorem run_eq {s : Str} (h : s.length < 1000000000) : exact_run s = some (s.takeWhile isDigit, s.dropWhile isDigit, ()) := by
 have hl := tw_len s
 have w : IntKind.i64.wrap ((s.length : Int) - ((s.dropWhile isDigit).length : Int)) = ((s.takeWhile isDigit).length : Int) := by rw [wrap_i64 (by omega) (by omega)]; omega
 have hc : cut s 0 ((s.takeWhile isDigit).length : Int) = some (s.takeWhile isDigit) := by
  have := cut_nat (xs := s) (a := 0) (b := (s.takeWhile isDigit).length) (by omega) (by omega)
  rw [List.drop_zero] at this
  have e : s.take (s.takeWhile isDigit).length = s.takeWhile isDigit := by
   conv => lhs; rw [<- tw_dw s]
   rw [tw_dw s]
   have := List.take_left (l₁ := s.takeWhile isDigit) (l₂ := s.dropWhile isDigit)
   rwa [tw_dw] at this
  rw [e] at this
  exact this
 unfold exact_run
 rw [trimLeft_eq h, Option.bind_some]
 dsimp only
 rw [w, hc, Option.bind_some]
theorem digit_eq' (c : UInt8) : chanceryref2_Digit (ofByte c) = some (isDigit c, ()) := by
 unfold chanceryref2_Digit isDigit
 rw [ofByte_eq]
 by_cases h1 : 48 <= c.toNat
 ·by_cases h2 : c.toNat <= 57
  ·rw [decide_eq_true (by omega), decide_eq_true (by omega), decide_eq_true (by omega)]; rfl
  ·rw [decide_eq_true (by omega), decide_eq_false (p := (c.toNat : Int) <= 57) (by omega), decide_eq_false (by omega)]; rfl
 ·rw [decide_eq_false (p := 48 <= (c.toNat : Int)) (by omega), decide_eq_false (p := 48 <= c.toNat /\ c.toNat <= 57) (by omega)]; rfl
theorem span_halts {s : Str} (h : s.length < 1000000000) : ∀ f i, i + f = s.length -> ∃ r, Halts (chanceryref2_span_Digit_l1 s) f ((), (i : Int), ()) r /\
  (match r with | .inl _ => (s.length : Int) | .inr z => z.1) = ((i + ((s.drop i).takeWhile isDigit).length : Nat) : Int)
 | 0, i, hi => by
  refine ⟨.inl (), .done ?_, ?_⟩
  ·unfold chanceryref2_span_Digit_l1
   dsimp only
   rw [decide_eq_false (by omega), cond_false]
  ·rw [List.drop_of_length_le (by omega)]
   simp
   omega
 | f + 1, i, hi => by
  have hd : s.drop i = s[i] :: s.drop (i + 1) := List.drop_eq_getElem_cons (by omega)
  have hst : chanceryref2_span_Digit_l1 s ((), (i : Int), ()) = if isDigit s[i] = true then some (.inl ((), ((i + 1 : Nat) : Int), ())) else some (.inr (.inr ((i : Int), ()))) := by
   unfold chanceryref2_span_Digit_l1
   dsimp only
   rw [decide_eq_true (by omega), cond_true, idx_lt (by omega), Option.bind_some, digit_eq', Option.bind_some]
   dsimp only
   rw [wrapI1 (by omega)]
   cases isDigit s[i] <;> rfl
  rw [hd, List.takeWhile_cons]
  by_cases hc : isDigit s[i] = true
  ·rw [if_pos hc] at hst ⊢
   obtain ⟨r, h1, h2⟩ := span_halts h f (i + 1) (by omega)
   refine ⟨r, .step hst h1, ?_⟩
   rw [h2, List.length_cons]
   omega
  ·rw [if_neg hc] at hst ⊢
   exact ⟨.inr ((i : Int), ()), .done hst, by simp⟩
theorem span_eq {s : Str} (h : s.length < 1000000000) : chanceryref2_span_Digit s = some (((s.takeWhile isDigit).length : Int), ()) := by
 obtain ⟨r, h1, h2⟩ := span_halts h s.length 0 (by omega)
 have := h1.loop (by omega)
 rw [List.drop_zero, Nat.zero_add] at h2
 unfold chanceryref2_span_Digit
 have this' : loop (chanceryref2_span_Digit_l1 s) ((), 0, ()) = some r := this
 rw [this', Option.bind_some, <- h2]
 cases r <;> rfl
theorem allDig_halts {s : Str} (h : s.length < 1000000000) : ∀ f i, i + f = s.length -> ∃ r, Halts (chanceryref2_All_Digit_l1 s) f ((), (i : Int), ()) r /\
  (match r with | .inl _ => true | .inr z => z.1) = (s.drop i).all isDigit
 | 0, i, hi => by
  refine ⟨.inl (), .done ?_, ?_⟩
  ·unfold chanceryref2_All_Digit_l1
   dsimp only
   rw [decide_eq_false (by omega), cond_false]
  ·rw [List.drop_of_length_le (by omega)]
   rfl
 | f + 1, i, hi => by
  have hd : s.drop i = s[i] :: s.drop (i + 1) := List.drop_eq_getElem_cons (by omega)
  have hst : chanceryref2_All_Digit_l1 s ((), (i : Int), ()) = if isDigit s[i] = true then some (.inl ((), ((i + 1 : Nat) : Int), ())) else some (.inr (.inr (false, ()))) := by
   unfold chanceryref2_All_Digit_l1
   dsimp only
   rw [decide_eq_true (by omega), cond_true, idx_lt (by omega), Option.bind_some, digit_eq', Option.bind_some]
   dsimp only
   rw [wrapI1 (by omega)]
   cases isDigit s[i] <;> rfl
  rw [hd, List.all_cons]
  by_cases hc : isDigit s[i] = true
  ·rw [if_pos hc] at hst
   obtain ⟨r, h1, h2⟩ := allDig_halts h f (i + 1) (by omega)
   exact ⟨r, .step hst h1, by rw [h2, hc, Bool.true_and]⟩
  ·rw [if_neg hc] at hst
   exact ⟨.inr (false, ()), .done hst, by simp [hc]⟩
theorem allDigits_eq {s : Str} (h : s.length < 1000000000) : chanceryref2_allDigits s = some (decide (s ≠ []) && s.all isDigit, ()) := by
 obtain ⟨r, h1, h2⟩ := allDig_halts h s.length 0 (by omega)
 have this' : loop (chanceryref2_All_Digit_l1 s) ((), 0, ()) = some r := h1.loop (by omega)
 rw [List.drop_zero] at h2
 unfold chanceryref2_allDigits
 by_cases h0 : s = []
 ·subst h0; rfl
 ·rw [decide_eq_false h0, decide_eq_true h0, Bool.not_false, cond_true, Bool.true_and]
  unfold chanceryref2_All_Digit
  rw [this', Option.bind_some, <- h2]
  cases r <;> rfl
theorem small_halts {s : Str} (ha : s.all isDigit = true) (h : s.length <= 10) : ∀ f i, i + f = s.length -> Halts (chanceryref2_small_l1 s) f ((dec (s.take i) : Int), (i : Int), ()) ((dec s : Int), ())
 | 0, i, hi => by
  refine .done ?_
  unfold chanceryref2_small_l1
  dsimp only
  rw [decide_eq_false (by omega), cond_false, List.take_of_length_le (by omega)]
 | f + 1, i, hi => by
  refine .step ?_ (small_halts ha h f (i + 1) (by omega))
  have hd : isDigit s[i] = true := List.all_eq_true.1 ha _ (List.getElem_mem _)
  simp only [isDigit, decide_eq_true_eq] at hd
  have hall : (s.take i).all isDigit = true := List.all_eq_true.2 fun c hc => List.all_eq_true.1 ha c (List.mem_of_mem_take hc)
  have hb := dec_small (s := s.take i) (by rw [List.length_take]; omega) hall
  have w : IntKind.i64.wrap (IntKind.i64.wrap (10 * (dec (s.take i) : Int)) + IntKind.i64.wrap (IntKind.u8.wrap (ofByte s[i] - 48))) = ((10 * dec (s.take i) + (s[i].toNat - 48) : Nat) : Int) := by
   rw [ofByte_eq, wrap_u8i (by omega) (by omega), wrap_i64 (n := 10 * (dec (s.take i) : Int)) (by omega) (by omega), wrap_i64 (n := (s[i].toNat : Int) - 48) (by omega) (by omega), wrap_i64 (by omega) (by omega)]
   omega
  unfold chanceryref2_small_l1
  dsimp only
  rw [decide_eq_true (by omega), cond_true, idx_lt (by omega), Option.bind_some, w, wrapI1 (by omega), dec_take (by omega)]
theorem small_eq {s : Str} (ha : s.all isDigit = true) (h : s.length <= 10) : chanceryref2_small s = some ((dec s : Int), ()) := by
 have hl : loop (chanceryref2_small_l1 s) (0, 0, ()) = some ((dec s : Int), ()) := (small_halts ha h s.length 0 (by omega)).loop (by omega)
 unfold chanceryref2_small
 rw [hl]
 rfl
def expSign (r : Str) : Bool := decide (r.head? = some 45)
def expBody (r : Str) : Str := bif expSign r || decide (r.head? = some 43) then r.tail else r
def expOk (r : Str) : Bool := decide (expBody r ≠ []) && (expBody r).all isDigit && decide ((expBody r).length <= 3)
def expVal (r : Str) : Int := bif expSign r then -(dec (expBody r) : Int) else (dec (expBody r) : Int)
def expo : Str -> Option Int
 | [] => some 0
 | c :: r => if c ≠ 101 /\ c ≠ 69 then none else if expOk r = true then some (expVal r) else none
theorem expo_cons (c : UInt8) (r : Str) : expo (c :: r) = if c ≠ 101 /\ c ≠ 69 then none else if expOk r = true then some (expVal r) else none := rfl
theorem expVal_bound {r : Str} (h : expOk r = true) : -1000 < expVal r /\ expVal r < 1000 := by
 simp only [expOk, Bool.and_eq_true, decide_eq_true_eq] at h
 have h1 := dec_lt _ _ rfl h.1.2
 have h2 : (10 : Nat) ^ (expBody r).length <= 10 ^ 3 := Nat.pow_le_pow_right (by omega) h.2
 unfold expVal
 cases expSign r <;> simp only [cond_true, cond_false] <;> omega
theorem expo_bound {s : Str} {k : Int} (h : expo s = some k) : -1000 < k /\ k < 1000 := by
 cases s with
 | nil => cases h; omega
 | cons c r =>
  simp only [expo] at h
  split at h
  ·cases h
  ·split at h
   ·cases h
    rename_i h2
    exact expVal_bound h2
   ·cases h
theorem expBody_len (r : Str) : (expBody r).length <= r.length := by
 unfold expBody
 cases (expSign r || decide (r.head? = some 43)) <;> simp
theorem all_dw {s : Str} : s.dropWhile isDigit = [] ↔ s.all isDigit = true := dropWhile_nil
theorem tw_of_all {s : Str} (h : s.all isDigit = true) : s.takeWhile isDigit = s := by
 have := tw_dw s
 rwa [all_dw.2 h, List.append_nil] at this
def letterE (c : UInt8) : Bool := decide (c ≠ 101 /\ c ≠ 69)
theorem letterE_eq (c : UInt8) : (cond (!decide ((ofByte c) = 101)) (some ((!decide ((ofByte c) = 69)), ())) (some (false, ())) : Option (Bool × Unit)) = some (letterE c, ()) := by
 have e1 : decide (ofByte c = 101) = decide (c = 101) := ofByte_is c 101 (by omega)
 have e2 : decide (ofByte c = 69) = decide (c = 69) := ofByte_is c 69 (by omega)
 rw [e1, e2]
 unfold letterE
 by_cases h1 : c = 101
 ·subst h1; rfl
 ·by_cases h2 : c = 69
  ·subst h2; rfl
  ·simp [h1, h2]
theorem exponent_eq {s : Str} (h : s.length <= 1000) : exact_exponent s = some (match expo s with | some k => (k, true, ()) | none => (0, false, ())) := by
 unfold exact_exponent
 cases s with
 | nil => rfl
 | cons c r =>
  have hl : r.length < 1000 := by simp at h; omega
  rw [decide_eq_false (by simp), cond_false, idx_zero, List.getElem?_cons_zero, Option.bind_some, Option.bind_some, letterE_eq, Option.bind_some]
  dsimp only
  rw [expo_cons]
  by_cases hc : c ≠ 101 /\ c ≠ 69
  ·rw [if_pos hc]
   unfold letterE
   rw [decide_eq_true hc]
   rfl
  ·rw [if_neg hc]
   unfold letterE
   have hx : (cond (decide (r.head? = some 45)) (some (true, ())) ((sHasPrefix (r, [43], ())).bind fun v6 => some (v6.1, ())) : Option (Bool × Unit)) = some (expSign r || decide (r.head? = some 43), ()) := by
    rw [hasPrefix_eq]
    unfold expSign
    cases decide (r.head? = some 45) <;> rfl
   have hy : (cond (expSign r || decide (r.head? = some 43)) ((cut r 1 (r.length : Int)).bind fun v8 => some (v8, ())) (some (r, ())) : Option (Str × Unit)) = some (expBody r, ()) := by
    unfold expBody
    cases hq : (expSign r || decide (r.head? = some 43)) with
    | false => rfl
    | true =>
     have hne : r ≠ [] := by
      intro e
      subst e
      simp [expSign] at hq
     rw [cond_true, cut_tail hne]
     rfl
   have hb := expBody_len r
   rw [decide_eq_false hc, cond_false, cut_tail (by simp), Option.bind_some]
   dsimp only [List.tail_cons]
   rw [hasPrefix_eq, Option.bind_some]
   dsimp only
   rw [hx, Option.bind_some]
   dsimp only
   rw [hy, Option.bind_some]
   dsimp only
   rw [run_eq (by omega), Option.bind_some]
   dsimp only
   by_cases hok : expOk r = true
   ·have hok' := hok
    simp only [expOk, Bool.and_eq_true, decide_eq_true_eq] at hok'
    obtain ⟨⟨o1, o2⟩, o3⟩ := hok'
    have hbd := expVal_bound hok
    rw [if_pos hok, tw_of_all o2, all_dw.2 o2, decide_eq_false o1, cond_false, decide_eq_false (by omega), cond_false, Option.bind_some]
    dsimp only
    rw [decide_eq_true rfl, Bool.not_true, cond_false]
    have ha : sAtoi (expBody r, ()) = some ((dec (expBody r) : Int), false, ()) := sAtoi_digits o1 (by omega) o2
    rw [ha, Option.bind_some]
    dsimp only
    unfold expVal at hbd ⊢
    unfold expSign at hbd ⊢
    cases hs : decide (r.head? = some 45) with
    | false => rfl
    | true =>
     rw [hs] at hbd
     simp only [cond_true] at hbd
     have w : IntKind.i64.wrap (0 - (dec (expBody r) : Int)) = -(dec (expBody r) : Int) := by rw [wrap_i64 (by omega) (by omega)]; omega
     rw [w]
     rfl
   ·rw [if_neg hok]
    by_cases o1 : (expBody r).takeWhile isDigit = []
    ·rw [decide_eq_true o1]
     rfl
    ·rw [decide_eq_false o1, cond_false]
     by_cases o2 : 3 < ((expBody r).takeWhile isDigit).length
     ·rw [decide_eq_true (by omega)]
      rfl
     ·have o3 : (expBody r).dropWhile isDigit ≠ [] := by
       intro e
       have e2 := all_dw.1 e
       rw [tw_of_all e2] at o1 o2
       exact hok (by
        simp only [expOk, Bool.and_eq_true, decide_eq_true_eq]
        exact ⟨⟨o1, e2⟩, by omega⟩)
      rw [decide_eq_false (by omega), cond_false, decide_eq_false o3]
      rfl
abbrev ReadR := (Unit × (Int × (NumD × Unit))) ⊕ (Unit × (Int × (NumD × Unit)))
theorem rexpo_eq {s : Str} (h : s.length <= 1000) (z : NumD) : (cond (!decide (s = []))
 (((idx s 0).bind fun v14 =>
 cond (!decide ((ofByte v14) = 101))
 ((idx s 0).bind fun v15 =>
 some ((), (!decide ((ofByte v15) = 69)), z, ()))
 (some ((), false, z, ())) : Option (Unit × (Bool × (NumD × Unit)))).bind fun r16 =>
 cond r16.2.1
 (some (.inr ((), 10, ((false, ([], ([], ()))) : NumD), ())))
 ((cut s 1 (s.length : Int)).bind fun v17 =>
 (((chanceryref2_Has v17 [43]).bind fun v18 =>
 cond v18.1
 (some ((), true, r16.2.2.1, ()))
 ((chanceryref2_Has v17 [45]).bind fun v19 =>
 some ((), v19.1, r16.2.2.1, ())) : Option (Unit × (Bool × (NumD × Unit)))).bind fun r20 =>
 cond r20.2.1
 (((idx v17 0).bind fun v21 =>
 cond (decide ((ofByte v21) = 45))
 (some ((), (-1), r20.2.2.1, ()))
 (some ((), 1, r20.2.2.1, ())) : Option (Unit × (Int × (NumD × Unit)))).bind fun r22 =>
 (cut v17 1 (v17.length : Int)).bind fun v23 =>
 some ((), v23, r22.2.1, r22.2.2.1, ()))
 (some ((), v17, 1, r20.2.2.1, ())) : Option (Unit × (Str × (Int × (NumD × Unit))))).bind fun r24 =>
 ((chanceryref2_allDigits r24.2.1).bind fun v25 =>
 cond (!v25.1)
 (some ((), true, r24.2.2.2.1, ()))
 (some ((), (decide (3 < (r24.2.1.length : Int))), r24.2.2.2.1, ())) : Option (Unit × (Bool × (NumD × Unit)))).bind fun r26 =>
 cond r26.2.1
 (some (.inr ((), 10, ((false, ([], ([], ()))) : NumD), ())))
 ((chanceryref2_small r24.2.1).bind fun v27 =>
 some (.inl ((), IntKind.i64.wrap (r24.2.2.1 * v27.1), r26.2.2.1, ())))))
 (some (.inl ((), 0, z, ()))) : Option ReadR) = some (match expo s with | some k => .inl ((), k, z, ()) | none => .inr ((), 10, (false, [], [], ()), ())) := by
 cases s with
 | nil => rfl
 | cons c r =>
  have hl : r.length < 1000 := by simp at h; omega
  have e1 : decide (ofByte c = 101) = decide (c = 101) := ofByte_is c 101 (by omega)
  have e2 : decide (ofByte c = 69) = decide (c = 69) := ofByte_is c 69 (by omega)
  have hlet : (cond (!decide ((ofByte c) = 101)) (some ((), (!decide ((ofByte c) = 69)), z, ())) (some ((), false, z, ())) : Option (Unit × (Bool × (NumD × Unit)))) = some ((), letterE c, z, ()) := by
   rw [e1, e2]
   unfold letterE
   by_cases h1 : c = 101
   ·subst h1; rfl
   ·by_cases h2 : c = 69
    ·subst h2; rfl
    ·simp [h1, h2]
  rw [decide_eq_false (by simp), Bool.not_false, cond_true, idx_zero, List.getElem?_cons_zero, Option.bind_some, Option.bind_some, hlet, Option.bind_some]
  dsimp only
  rw [expo_cons]
  by_cases hc : c ≠ 101 /\ c ≠ 69
  ·rw [if_pos hc]
   unfold letterE
   rw [decide_eq_true hc]
   rfl
  ·rw [if_neg hc]
   unfold letterE
   rw [decide_eq_false hc, cond_false, cut_tail (by simp), Option.bind_some]
   dsimp only [List.tail_cons]
   have hx : ((chanceryref2_Has r [43]).bind fun v18 =>
 cond v18.1
 (some ((), true, z, ()))
 ((chanceryref2_Has r [45]).bind fun v19 =>
 some ((), v19.1, z, ())) : Option (Unit × (Bool × (NumD × Unit)))) = some ((), (expSign r || decide (r.head? = some 43)), z, ()) := by
    rw [has_eq, has_eq]
    unfold expSign
    cases decide (r.head? = some 43) <;> simp
   have hy : (cond (expSign r || decide (r.head? = some 43))
 (((idx r 0).bind fun v21 =>
 cond (decide ((ofByte v21) = 45))
 (some ((), (-1), z, ()))
 (some ((), 1, z, ())) : Option (Unit × (Int × (NumD × Unit)))).bind fun r22 =>
 (cut r 1 (r.length : Int)).bind fun v23 =>
 some ((), v23, r22.2.1, r22.2.2.1, ()))
 (some ((), r, 1, z, ())) : Option (Unit × (Str × (Int × (NumD × Unit))))) = some ((), expBody r, (bif expSign r then -1 else 1), z, ()) := by
    unfold expBody
    cases hq : (expSign r || decide (r.head? = some 43)) with
    | false =>
     have : expSign r = false := by
      cases hs : expSign r with
      | false => rfl
      | true => rw [hs] at hq; cases hq
     rw [this]
     rfl
    | true =>
     cases r with
     | nil => simp [expSign] at hq
     | cons a t =>
      have e3 : decide (ofByte a = 45) = decide (a = 45) := ofByte_is a 45 (by omega)
      have e4 : expSign (a :: t) = decide (a = 45) := by simp [expSign]
      rw [cond_true, cut_tail (by simp), idx_zero, List.getElem?_cons_zero, Option.bind_some, e3, e4]
      cases decide (a = 45) <;> rfl
   rw [hx, Option.bind_some]
   dsimp only
   rw [hy, Option.bind_some]
   dsimp only
   have hb := expBody_len r
   rw [allDigits_eq (by omega), Option.bind_some]
   dsimp only
   by_cases hok : expOk r = true
   ·have hok' := hok
    simp only [expOk, Bool.and_eq_true, decide_eq_true_eq] at hok'
    obtain ⟨⟨o1, o2⟩, o3⟩ := hok'
    have hbd := expVal_bound hok
    rw [if_pos hok, o2, decide_eq_true o1, Bool.and_self, Bool.not_true, cond_false, Option.bind_some]
    dsimp only
    rw [decide_eq_false (by omega), cond_false, small_eq o2 (by omega), Option.bind_some]
    dsimp only
    unfold expVal at hbd ⊢
    cases hs : expSign r with
    | false =>
     rw [hs] at hbd
     simp only [cond_false] at hbd ⊢
     rw [Int.one_mul, wrap_i64 (by omega) (by omega)]
    | true =>
     rw [hs] at hbd
     simp only [cond_true] at hbd ⊢
     rw [show -1 * (dec (expBody r) : Int) = -(dec (expBody r) : Int) by omega, wrap_i64 (by omega) (by omega)]
   ·rw [if_neg hok]
    by_cases o1 : (decide (expBody r ≠ []) && (expBody r).all isDigit) = true
    ·rw [o1, Bool.not_true, cond_false, Option.bind_some]
     dsimp only
     have o2 : 3 < (expBody r).length := by
      rcases Nat.lt_or_ge 3 (expBody r).length with g | g
      ·exact g
      ·exfalso
       exact hok (by rw [expOk, o1, decide_eq_true g]; rfl)
     rw [decide_eq_true (by omega)]
     rfl
    ·have o1' : (decide (expBody r ≠ []) && (expBody r).all isDigit) = false := by simpa using o1
     rw [o1']
     rfl
def decFin (m : Bool) (w p rest : Str) : Option (Bool × Nat × Int) := match expo rest with
 | none => none
 | some k => if w = [] then none else some (m, dec (w ++ p), k - (p.length : Int))
def decOf (s : Str) : Option (Bool × Nat × Int) :=
 let b := body s
 let w := b.takeWhile isDigit
 let rest := b.dropWhile isDigit
 if rest.head? = some 46 then (if rest.tail.takeWhile isDigit = [] then none else decFin (signOf s) w (rest.tail.takeWhile isDigit) (rest.tail.dropWhile isDigit)) else decFin (signOf s) w [] rest
def finN (N : Nat) (e : Int) : Nat := if e < 0 then N else N * 10 ^ e.toNat
def finD (e : Int) : Nat := if e < 0 then 10 ^ (-e).toNat else 1
theorem finD_pos (e : Int) : 0 < finD e := by
 unfold finD
 split
 ·exact pos_ten _
 ·omega
theorem fin_dl {N : Nat} {e : Int} (h : dl N <= 1000) (h1 : -2000 <= e) (h2 : e <= 2000) : dl (finN N e) <= 4000 /\ dl (finD e) <= 4000 := by
 unfold finN finD
 by_cases g : e < 0
 ·rw [if_pos g, if_pos g]
  have := dl_ten (-e).toNat
  omega
 ·rw [if_neg g, if_neg g]
  have := dl_ten e.toNat
  have := dl_mul N (10 ^ e.toNat)
  have d1 : dl 1 = 1 := dl_ten 0
  omega
theorem all_dl {s : Str} (h : s.all isDigit = true) : dl (dec s) <= s.length := dl_le.2 (by
 have := dec_lt _ s rfl h
 omega)
theorem pfin_eq {m : Bool} {w p rest : Str} {z : FracD} (hw : w.all isDigit = true) (hp : p.all isDigit = true) (hl : w.length + p.length <= 1000) (hr : rest.length <= 1000) :
  ((exact_exponent rest).bind fun v7 =>
 (cond (decide (w = []))
 (some ((), true, z, ()))
 (some ((), (!v7.2.1), z, ())) : Option (Unit × (Bool × ((Str × (Str × Unit)) × Unit)))).bind fun r8 =>
 cond r8.2.1
 (some ((([], ([], ())) : FracD), (10 : Int), ()))
 ((cat w p).bind fun v9 =>
 (exact_parse v9).bind fun v10 =>
 (cond (decide ((IntKind.i64.wrap (v7.1 - (p.length : Int))) < 0))
 (let v11 : Int := IntKind.i64.wrap (0 - (IntKind.i64.wrap (v7.1 - (p.length : Int))))
 (exact_ten v11).bind fun v12 =>
 some ((), (), r8.2.2.1, (m, (v10.1, v12)), ()))
 ((exact_ten (IntKind.i64.wrap (v7.1 - (p.length : Int)))).bind fun v13 =>
 (exact_nat__times v10.1 v13.1).bind fun v14 =>
 some ((), (), r8.2.2.1, (m, (v14.1, ([1], ()))), ())) : Option (Unit × (Unit × ((Str × (Str × Unit)) × ((Bool × ((List Int) × ((List Int) × Unit))) × Unit))))).bind fun r15 =>
 (exact_number__write r15.2.2.2.1).bind fun v16 =>
 some (v16.1, v16.2.1, ()))) = some (match decFin m w p rest with | none => (([], [], ()), 10, ()) | some (m, N, e) => fracOut m (finN N e) (finD e)) := by
 rw [exponent_eq hr, Option.bind_some]
 unfold decFin
 cases he : expo rest with
 | none =>
  dsimp only
  cases decide (w = []) <;> rfl
 | some k =>
  have hk := expo_bound he
  dsimp only
  by_cases hw0 : w = []
  ·rw [if_pos hw0, decide_eq_true hw0]
   rfl
  ·have hall : (w ++ p).all isDigit = true := by rw [List.all_append, hw, hp]; rfl
   have hdl := all_dl hall
   rw [List.length_append] at hdl
   have hw' : IntKind.i64.wrap (k - (p.length : Int)) = k - (p.length : Int) := wrap_i64 (by omega) (by omega)
   rw [if_neg hw0, decide_eq_false hw0, cond_false, Option.bind_some]
   dsimp only
   rw [Bool.not_true, cond_false, cat_ok (by omega), Option.bind_some, parse_eq hall (by rw [List.length_append]; omega), Option.bind_some]
   dsimp only
   rw [hw']
   obtain ⟨f1, f2⟩ := fin_dl (N := dec (w ++ p)) (e := k - (p.length : Int)) (by omega) (by omega) (by omega)
   have hwr := write_eq (m := m) (finD_pos (k - (p.length : Int))) (show dl (finN (dec (w ++ p)) (k - (p.length : Int))) < 100000 by omega) (by omega)
   have b1 : -2000 <= k - (p.length : Int) /\ k - (p.length : Int) <= 2000 := by omega
   generalize k - (p.length : Int) = e at *
   simp only [finN, finD] at hwr f1 f2 ⊢
   by_cases g : e < 0
   ·obtain ⟨j, hj⟩ : ∃ j : Nat, e = -(j : Int) := ⟨(-e).toNat, by omega⟩
    subst hj
    have w0 : IntKind.i64.wrap (0 - -(j : Int)) = (j : Int) := by rw [wrap_i64 (by omega) (by omega)]; omega
    have ej : (- -(j : Int)).toNat = j := by omega
    rw [if_pos g, if_pos g, ej] at hwr ⊢
    rw [decide_eq_true g, cond_true, w0, ten_eq (by omega), Option.bind_some, Option.bind_some]
    dsimp only
    rw [hwr]
    rfl
   ·obtain ⟨j, hj⟩ : ∃ j : Nat, e = (j : Int) := ⟨e.toNat, by omega⟩
    subst hj
    have ej : ((j : Int)).toNat = j := by omega
    have dj := dl_ten j
    rw [if_neg g, if_neg g, ej] at hwr ⊢
    rw [decide_eq_false g, cond_false, ten_eq (by omega), Option.bind_some]
    dsimp only
    rw [times_eq (by omega) (by omega), Option.bind_some, Option.bind_some]
    dsimp only
    rw [one9, hwr]
    rfl
theorem Parse_eq {s : Str} (h : s.length <= 1000) : exact_Parse s = some (match decOf s with | none => (([], [], ()), 10, ()) | some (m, N, e) => fracOut m (finN N e) (finD e)) := by
 have hb := body_len s
 have ht := tw_len (body s)
 unfold exact_Parse
 rw [decide_eq_false (by omega), cond_false, cut_sign, Option.bind_some]
 dsimp only
 rw [run_eq (by omega), Option.bind_some]
 dsimp only
 rw [cutPrefix_eq, Option.bind_some]
 dsimp only
 unfold decOf
 dsimp only
 have ha := tw_all (body s)
 generalize (body s).takeWhile isDigit = w at *
 generalize (body s).dropWhile isDigit = rest at *
 unfold strip
 by_cases hd : rest.head? = some 46
 ·have hn := head_ne hd
  have htl : rest.tail.length < rest.length := by
   rw [List.length_tail]
   have := List.length_pos_iff.2 hn
   omega
  have ht2 := tw_len rest.tail
  rw [if_pos hd, decide_eq_true hd, cond_true, cond_true, run_eq (by omega), Option.bind_some]
  dsimp only
  have ha2 := tw_all rest.tail
  generalize rest.tail.takeWhile isDigit = p at *
  generalize rest.tail.dropWhile isDigit = r2 at *
  by_cases hp : p = []
  ·rw [if_pos hp, decide_eq_true hp]
   rfl
  ·rw [if_neg hp, decide_eq_false hp, cond_false, Option.bind_some]
   dsimp only
   exact pfin_eq ha ha2 (by omega) (by omega)
 ·rw [if_neg hd, decide_eq_false hd, cond_false, Option.bind_some]
  dsimp only
  exact pfin_eq ha rfl (by simp; omega) (by omega)
theorem rfin_eq {m : Bool} {w p : Str} {k : Int} (_hw0 : w ≠ []) (hw : w.all isDigit = true) (hp : p.all isDigit = true) (hl : w.length + p.length <= 1000) (hk : -1000 < k /\ k < 1000) :
  ((cat w p).bind fun v30 =>
 (chanceryref2_NatOf v30).bind fun v31 =>
 (chanceryref2_Rat__Scaled (m, v31.1, [1], ()) (IntKind.i64.wrap (k - (p.length : Int)))).bind fun v32 =>
 (chanceryref2_Rat__Frac v32.1).bind fun v33 =>
 some (v32.1, v33.2.1, ())) = some (N10 m (finN (dec (w ++ p)) (k - (p.length : Int))) (finD (k - (p.length : Int))), (fracOut m (finN (dec (w ++ p)) (k - (p.length : Int))) (finD (k - (p.length : Int)))).2.1, ()) := by
 have hall : (w ++ p).all isDigit = true := by rw [List.all_append, hw, hp]; rfl
 have hdl := all_dl hall
 rw [List.length_append] at hdl
 have hw' : IntKind.i64.wrap (k - (p.length : Int)) = k - (p.length : Int) := wrap_i64 (by omega) (by omega)
 rw [cat_ok (by omega), Option.bind_some, natof_eq hall (by rw [List.length_append]; omega), Option.bind_some, hw']
 dsimp only
 obtain ⟨f1, f2⟩ := fin_dl (N := dec (w ++ p)) (e := k - (p.length : Int)) (by omega) (by omega) (by omega)
 have hfr := frac_eq (m := m) (finD_pos (k - (p.length : Int))) (show dl (finN (dec (w ++ p)) (k - (p.length : Int))) < 100000 by omega) (by omega)
 have b1 : -2000 <= k - (p.length : Int) /\ k - (p.length : Int) <= 2000 := by omega
 generalize k - (p.length : Int) = e at *
 have hsc : chanceryref2_Rat__Scaled (m, rep 10 (dec (w ++ p)), [1], ()) e = some (N10 m (finN (dec (w ++ p)) e) (finD e), ()) := by
  unfold finN finD
  have d1 : dl 1 = 1 := dl_ten 0
  by_cases g : e < 0
  ·obtain ⟨j, hj⟩ : ∃ j : Nat, e = -(j : Int) := ⟨(-e).toNat, by omega⟩
   subst hj
   have ej : (- -(j : Int)).toNat = j := by omega
   have := Scaled_down (m := m) (n := dec (w ++ p)) (d := 1) (k := j) (by omega) (by omega) (by omega)
   rw [if_pos g, if_pos g, ej]
   rw [Nat.one_mul] at this
   exact this
  ·obtain ⟨j, hj⟩ : ∃ j : Nat, e = (j : Int) := ⟨e.toNat, by omega⟩
   subst hj
   have ej : ((j : Int)).toNat = j := by omega
   rw [if_neg g, if_neg g, ej]
   exact Scaled_up (m := m) (n := dec (w ++ p)) (d := 1) (k := j) (by omega) (by omega)
 rw [hsc, Option.bind_some]
 dsimp only
 have hfr' : chanceryref2_Rat__Frac (N10 m (finN (dec (w ++ p)) e) (finD e)) = _ := hfr
 rw [hfr', Option.bind_some]
theorem ReadDecimal_eq {s : Str} (h : s.length <= 1000) : chanceryref2_ReadDecimal s = some (match decOf s with | none => ((false, [], [], ()), 10, ()) | some (m, N, e) => (N10 m (finN N e) (finD e), (fracOut m (finN N e) (finD e)).2.1, ())) := by
 have hb := body_len s
 have ht := tw_len (body s)
 have hsg : (((chanceryref2_Has s [45]).bind fun v1 =>
 cond v1.1
 ((cut s 1 (s.length : Int)).bind fun v2 =>
 some ((), v2, true, ((false, ([], ([], ()))) : NumD), ()))
 (some ((), s, false, ((false, ([], ([], ()))) : NumD), ())) : Option (Unit × (Str × (Bool × (NumD × Unit))))) ) = some ((), body s, signOf s, (false, [], [], ()), ()) := by
  rw [has_eq, Option.bind_some]
  dsimp only
  unfold body signOf
  by_cases g : s.head? = some 45
  ·rw [decide_eq_true g, cond_true, cut_tail (head_ne g)]
   rfl
  ·rw [decide_eq_false g]
   rfl
 have hcut : ∀ t : Str, cut t 0 ((t.takeWhile isDigit).length : Int) = some (t.takeWhile isDigit) /\ cut t ((t.takeWhile isDigit).length : Int) (t.length : Int) = some (t.dropWhile isDigit) := fun t => by
  have hl := tw_len t
  have e := tw_dw t
  constructor
  ·have := cut_nat (xs := t) (a := 0) (b := (t.takeWhile isDigit).length) (by omega) (by omega)
   have e2 := List.take_left (l₁ := t.takeWhile isDigit) (l₂ := t.dropWhile isDigit)
   rw [e] at e2
   rw [e2, List.drop_zero] at this
   exact this
  ·have := cut_nat (xs := t) (a := (t.takeWhile isDigit).length) (b := t.length) (by omega) (by omega)
   have e2 := List.drop_left (l₁ := t.takeWhile isDigit) (l₂ := t.dropWhile isDigit)
   rw [e] at e2
   rw [List.take_length, e2] at this
   exact this
 unfold chanceryref2_ReadDecimal
 rw [decide_eq_false (by omega), cond_false]
 erw [hsg]
 rw [Option.bind_some]
 dsimp only
 rw [span_eq (by omega), Option.bind_some]
 dsimp only
 rw [(hcut (body s)).1, Option.bind_some, (hcut (body s)).2, Option.bind_some, has_eq, Option.bind_some]
 dsimp only
 unfold decOf
 dsimp only
 have ha := tw_all (body s)
 generalize (body s).takeWhile isDigit = w at *
 generalize (body s).dropWhile isDigit = rest at *
 by_cases hd : rest.head? = some 46
 ·have hn := head_ne hd
  have htl : rest.tail.length < rest.length := by
   rw [List.length_tail]
   have := List.length_pos_iff.2 hn
   omega
  have ht2 := tw_len rest.tail
  have w1 : IntKind.i64.wrap (1 + ((rest.tail.takeWhile isDigit).length : Int)) = ((1 + (rest.tail.takeWhile isDigit).length : Nat) : Int) := by rw [wrap_i64 (by omega) (by omega)]; omega
  obtain ⟨a, t, hat⟩ : ∃ a t, rest = a :: t := by
   cases rest with
   | nil => exact absurd rfl hn
   | cons a t => exact ⟨a, t, rfl⟩
  have hc1 : cut rest 1 ((1 + (rest.tail.takeWhile isDigit).length : Nat) : Int) = some (rest.tail.takeWhile isDigit) := by
   have := cut_nat (xs := rest) (a := 1) (b := 1 + (rest.tail.takeWhile isDigit).length) (by omega) (by omega)
   have e2 := List.take_left (l₁ := rest.tail.takeWhile isDigit) (l₂ := rest.tail.dropWhile isDigit)
   rw [tw_dw] at e2
   subst hat
   dsimp only [List.tail_cons] at *
   rw [Nat.add_comm 1, List.take_succ_cons, List.drop_succ_cons, List.drop_zero, e2] at this
   rw [Nat.add_comm 1]
   exact this
  have hc2 : cut rest ((1 + (rest.tail.takeWhile isDigit).length : Nat) : Int) (rest.length : Int) = some (rest.tail.dropWhile isDigit) := by
   have := cut_nat (xs := rest) (a := 1 + (rest.tail.takeWhile isDigit).length) (b := rest.length) (by omega) (by omega)
   have e2 := List.drop_left (l₁ := rest.tail.takeWhile isDigit) (l₂ := rest.tail.dropWhile isDigit)
   rw [tw_dw] at e2
   rw [List.take_length] at this
   subst hat
   dsimp only [List.tail_cons] at *
   rw [Nat.add_comm 1, List.drop_succ_cons, e2] at this
   rw [Nat.add_comm 1]
   exact this
  rw [if_pos hd, decide_eq_true hd, cond_true, cut_tail hn, Option.bind_some, span_eq (by omega), Option.bind_some]
  dsimp only
  rw [w1, hc1, Option.bind_some, hc2, Option.bind_some]
  have ha2 := tw_all rest.tail
  generalize rest.tail.takeWhile isDigit = p at *
  generalize rest.tail.dropWhile isDigit = r2 at *
  by_cases hp : p = []
  ·rw [if_pos hp, decide_eq_true hp]
   rfl
  ·rw [if_neg hp, decide_eq_false hp, cond_false, Option.bind_some]
   dsimp only
   erw [rexpo_eq (by omega)]
   rw [Option.bind_some]
   unfold decFin
   cases he : expo r2 with
   | none => rfl
   | some k =>
    dsimp only
    by_cases hw0 : w = []
    ·rw [if_pos hw0, decide_eq_true hw0]
     rfl
    ·rw [if_neg hw0, decide_eq_false hw0, cond_false]
     exact rfin_eq hw0 ha ha2 (by omega) (expo_bound he)
 ·rw [if_neg hd, decide_eq_false hd, cond_false, Option.bind_some]
  dsimp only
  erw [rexpo_eq (by omega)]
  rw [Option.bind_some]
  unfold decFin
  cases he : expo rest with
  | none => rfl
  | some k =>
   dsimp only
   by_cases hw0 : w = []
   ·rw [if_pos hw0, decide_eq_true hw0]
    rfl
   ·rw [if_neg hw0, decide_eq_false hw0, cond_false]
    exact rfin_eq hw0 ha rfl (by simp; omega) (expo_bound he)
theorem decOf_dl {s : Str} {m : Bool} {N : Nat} {e : Int} (h : s.length <= 1000) (hd : decOf s = some (m, N, e)) : dl N <= 1000 /\ -2000 <= e /\ e <= 2000 := by
 have hb := body_len s
 have ht := tw_len (body s)
 have ha := tw_all (body s)
 have key : ∀ {w p r : Str}, w.all isDigit = true -> p.all isDigit = true -> w.length + p.length <= 1000 -> decFin (signOf s) w p r = some (m, N, e) -> dl N <= 1000 /\ -2000 <= e /\ e <= 2000 := by
  intro w p r h1 h2 h3 h4
  unfold decFin at h4
  cases he : expo r with
  | none => rw [he] at h4; cases h4
  | some k =>
   have hk := expo_bound he
   rw [he] at h4
   dsimp only at h4
   split at h4
   ·cases h4
   ·cases h4
    have hdl := all_dl (s := w ++ p) (by rw [List.all_append, h1, h2]; rfl)
    rw [List.length_append] at hdl
    omega
 unfold decOf at hd
 dsimp only at hd
 generalize (body s).takeWhile isDigit = w at *
 generalize (body s).dropWhile isDigit = rest at *
 split at hd
 ·have ht2 := tw_len rest.tail
  have htl : rest.tail.length <= rest.length := by rw [List.length_tail]; omega
  split at hd
  ·cases hd
  ·exact key ha (tw_all _) (by omega) hd
 ·exact key ha rfl (by simp; omega) hd
end Go.Proofs.YtmbejoibeninmaaGreatDoor
