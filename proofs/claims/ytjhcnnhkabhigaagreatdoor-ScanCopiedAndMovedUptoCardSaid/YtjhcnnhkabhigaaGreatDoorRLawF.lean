import Derived.Test.YtjhcnnhkabhigaaGreatDoorRLawE
namespace Go.Proofs.YtjhcnnhkabhigaaGreatDoor
open Go Go.Fe

/-! ### One token -/
abbrev opsS : Str := [43, 45, 42, 47, 94, 38, 61, 60, 62, 37, 40, 41, 44, 59, 123, 125]
def sideP (s : Str) : Nat := quoP (s.getD 0 0) s s.length 1
noncomputable def tokC (c : UInt8) (s : Str) : Nat × Nat :=
  if isBlank c = true then (0, runP isBlank s)
  else if c = 34 then (2, sideP s)
  else if c = 35 then faultP s
  else if c = 39 then (4, if sideP s = 0 then 0 else sheetedP s (sideP s))
  else if isDigit c = true then (if 0 < rowsP s then (4, rowsP s) else (1, numP s))
  else if (isLetter c || (decide (c = 95) || decide (c = 36))) = true then wordP s
  else if (pre s [60, 61] || (pre s [62, 61] || pre s [60, 62])) = true then (8, 2)
  else if 0 ≤ Lib.indexByte opsS c then (8, 1) else (8, 0)
noncomputable def tokP (s : Str) : Nat × Nat := tokC (s.getD 0 0) s

theorem sideP_le (s : Str) : sideP s ≤ s.length := quoP_le _ _ _ _
theorem tokP_le {s : Str} (h0 : 0 < s.length) : (tokP s).2 ≤ s.length := by
  have a1 := runP_le isBlank s
  have a2 := sideP_le s
  have a3 := faultP_le h0
  have a4 := sheetedP_le (s := s) (n := sideP s)
  have a5 := rowsP_le s
  have a6 := numP_le s
  have a7 := wordP_le s
  unfold tokP tokC
  split
  · exact a1
  · split
    · exact a2
    · split
      · exact a3
      · split
        · dsimp only
          split <;> omega
        · split
          · split
            · exact a5
            · exact a6
          · split
            · exact a7
            · split
              · rename_i h
                rw [Bool.or_eq_true, Bool.or_eq_true] at h
                rcases h with h | h | h <;> exact pre_len h
              · split
                · exact h0
                · exact Nat.zero_le _

theorem byte_back (c : UInt8) : byteOfInt (ofByte c) = c := by
  rw [ofByte_eq]
  simp [byteOfInt]
theorem fquo {s : Str} (hs : s.length ≤ 1000000) (c : UInt8) (h : s.getD 0 0 = c) : fscan_quoted s (ofByte c) = some ((sideP s : Int), ()) := by
  rw [quoted_eq hs, sideP, h]
theorem orB (a b : Bool) : (cond a (some (true, ())) (some (b, ())) : Option (Bool × Unit)) = some (a || b, ()) := by cases a <;> rfl

theorem next_eq {s : Str} (hs : s.length ≤ 1000000) (h0 : 0 < s.length) : fscan_next s = out2 (tokP s) := by
  have hl : s.length < 1099511627776 := by omega
  have hx : idx s 0 = some (s.getD 0 0) := idx_get (i := 0) h0
  unfold fscan_next
  rw [hx, Option.bind_some]
  unfold tokP
  have hq := fquo hs (s.getD 0 0) rfl
  generalize s.getD 0 0 = c at *
  have e : ∀ n : Nat, n < 256 → decide (ofByte c = (n : Int)) = decide (c = UInt8.ofNat n) := fun n h => byte_dec c n h
  have e32 : decide (ofByte c = 32) = decide (c = 32) := e 32 (by omega)
  have e9 : decide (ofByte c = 9) = decide (c = 9) := e 9 (by omega)
  have e34 : decide (ofByte c = 34) = decide (c = 34) := e 34 (by omega)
  have e35 : decide (ofByte c = 35) = decide (c = 35) := e 35 (by omega)
  have e39 : decide (ofByte c = 39) = decide (c = 39) := e 39 (by omega)
  have e95 : decide (ofByte c = 95) = decide (c = 95) := e 95 (by omega)
  have e36 : decide (ofByte c = 36) = decide (c = 36) := e 36 (by omega)
  unfold tokC
  rw [e32, e9, orB, Option.bind_some]
  change cond (isBlank c) _ _ = _
  cases hb : isBlank c with
  | true =>
    rw [cond_true, run_next_1_eq hl, Option.bind_some, if_pos rfl]
    rfl
  | false =>
    rw [cond_false, if_neg (by decide), e34]
    by_cases h34 : c = 34
    · rw [decide_eq_true h34, cond_true, hq, Option.bind_some, if_pos h34]
      rfl
    rw [decide_eq_false h34, cond_false, if_neg h34, e35]
    by_cases h35 : c = 35
    · rw [decide_eq_true h35, cond_true, if_pos h35, HasPrefix_eq, Option.bind_some]
      dsimp only
      change cond (pre s kRef) _ _ = _
      cases hr : pre s kRef with
      | true =>
        rw [cond_true, faultP, if_pos hr]
        rfl
      | false =>
        rw [cond_false]
        have hf := faults_eq s
        have hf' := headF_is s hr
        rw [← hf']
        exact (congrArg (fun o => Option.bind o _) hf).trans rfl
    rw [decide_eq_false h35, cond_false, if_neg h35, e39]
    by_cases h39 : c = 39
    · rw [decide_eq_true h39, cond_true, if_pos h39, hq, Option.bind_some]
      dsimp only
      have := sideP_le s
      by_cases hz : sideP s = 0
      · rw [if_pos hz, hz]
        rfl
      · have c0 : (0 : Int) < (sideP s : Int) := by omega
        rw [if_neg hz, decide_eq_true c0, cond_true, sheeted_eq hs _ (by omega)]
        rfl
    rw [decide_eq_false h39, cond_false, if_neg h39, fdigit_eq, Option.bind_some]
    dsimp only
    cases hd : isDigit c with
    | true =>
      rw [cond_true, if_pos rfl, rows_eq hs, Option.bind_some]
      dsimp only
      by_cases hz : 0 < rowsP s
      · have c0 : (0 : Int) < (rowsP s : Int) := by omega
        rw [if_pos hz, decide_eq_true c0, cond_true]
        rfl
      · have c0 : ¬(0 : Int) < (rowsP s : Int) := by omega
        rw [if_neg hz, decide_eq_false c0, cond_false, number_eq hs, Option.bind_some]
        rfl
    | false =>
      rw [cond_false, if_neg (by decide), fletter_eq, Option.bind_some]
      dsimp only
      rw [e95, e36, orB, orB, Option.bind_some]
      dsimp only
      cases hw : (isLetter c || (decide (c = 95) || decide (c = 36))) with
      | true =>
        rw [cond_true, if_pos rfl, fword_eq hs, Option.bind_some]
      | false =>
        rw [cond_false, if_neg (by decide)]
        change (((cond (pre s [60, 61]) (some (true, ())) (cond (pre s [62, 61]) (some (true, ())) (some (pre s [60, 62], ()))) : Option (Bool × Unit))).bind fun r23 => cond r23.1 (some (8, 2, ())) ((sIndexByte (opsS, ofByte c, ())).bind fun v24 => cond (decide (0 ≤ v24.1)) (some (8, 1, ())) (some (8, 0, ())))) = _
        rw [orB, orB, Option.bind_some]
        dsimp only
        cases hp : (pre s [60, 61] || (pre s [62, 61] || pre s [60, 62])) with
        | true => rfl
        | false =>
          rw [cond_false, if_neg (by decide), sIndexByte]
          dsimp only
          rw [byte_back, Option.bind_some]
          by_cases hi : 0 ≤ Lib.indexByte opsS c
          · rw [if_pos hi, decide_eq_true hi]
            rfl
          · rw [if_neg hi, decide_eq_false hi]
            rfl

theorem blank_run {s : Str} (h0 : 0 < s.length) : 0 < runP isBlank s ↔ isBlank (s.getD 0 0) = true := by
  have h := run_drop (p := isBlank) (s := s) (k := 0)
  rw [List.drop_zero] at h
  rw [h]
  exact ⟨fun g => g.2, fun g => ⟨h0, g⟩⟩

theorem Token_eq {s : Str} (hs : s.length ≤ 1000000) (h0 : 0 < s.length) : chanceryref2_Token s = out2 (tokP s) := by
  have hl : s.length < 1099511627776 := by omega
  have hx : idx s 0 = some (s.getD 0 0) := idx_get (i := 0) h0
  unfold chanceryref2_Token
  rw [hx, Option.bind_some, span_Token_1_eq hl, Option.bind_some]
  dsimp only
  have hbr := blank_run h0
  unfold tokP
  have hq : chanceryref2_closing s = some ((sideP s : Int), ()) := closing_eq hs h0
  generalize s.getD 0 0 = c at *
  have e : ∀ n : Nat, n < 256 → decide (ofByte c = (n : Int)) = decide (c = UInt8.ofNat n) := fun n h => byte_dec c n h
  have e34 : decide (ofByte c = 34) = decide (c = 34) := e 34 (by omega)
  have e35 : decide (ofByte c = 35) = decide (c = 35) := e 35 (by omega)
  have e39 : decide (ofByte c = 39) = decide (c = 39) := e 39 (by omega)
  have e95 : decide (ofByte c = 95) = decide (c = 95) := e 95 (by omega)
  have e36 : decide (ofByte c = 36) = decide (c = 36) := e 36 (by omega)
  unfold tokC
  by_cases hb : isBlank c = true
  · have c0 : (0 : Int) < (runP isBlank s : Int) := by have := hbr.2 hb; omega
    rw [decide_eq_true c0, cond_true, if_pos hb]
    rfl
  have c0 : ¬(0 : Int) < (runP isBlank s : Int) := fun g => hb (hbr.1 (by omega))
  rw [decide_eq_false c0, cond_false, if_neg hb, e34]
  by_cases h34 : c = 34
  · rw [decide_eq_true h34, cond_true, hq, Option.bind_some, if_pos h34]
    rfl
  rw [decide_eq_false h34, cond_false, if_neg h34, e35]
  by_cases h35 : c = 35
  · rw [decide_eq_true h35, cond_true, if_pos h35, rfaults_eq, Option.bind_some]
    exact resR_is s
  rw [decide_eq_false h35, cond_false, if_neg h35, e39]
  by_cases h39 : c = 39
  · rw [decide_eq_true h39, cond_true, if_pos h39, hq, Option.bind_some]
    dsimp only
    have := sideP_le s
    generalize sideP s = q at *
    by_cases hz : q = 0
    · subst hz
      rfl
    · have z0 : ¬(q : Int) = 0 := by omega
      rw [if_neg hz, decide_eq_false z0, cond_false]
      by_cases hlt : q < s.length
      · have z1 : ¬(s.length : Int) ≤ (q : Int) := by omega
        have e33 : decide (ofByte (s.getD q 0) = 33) = decide (s.getD q 0 = 33) := byte_dec _ 33 (by omega)
        rw [decide_eq_false z1, cond_false, idx_get hlt, Option.bind_some, e33, Option.bind_some]
        dsimp only
        by_cases g : s.getD q 0 = 33
        · have hdr : (s.drop (q + 1)).length < 1099511627776 := by simp; omega
          rw [decide_eq_true g, Bool.not_true, cond_false, wsucc (show q < 9223372036854775807 by omega), cut_from (show q + 1 ≤ s.length by omega), Option.bind_some, span_refByte_eq hdr, Option.bind_some]
          dsimp only
          have hsec := second_eq hs hlt
          rw [wsucc (show q < 9223372036854775807 by omega)] at hsec
          rw [hsec, longRef_eq hs (side2_le hlt), Option.bind_some, sheetedP, if_pos ⟨hlt, g⟩]
          rfl
        · rw [decide_eq_false g, Bool.not_false, cond_true, sheetedP, if_neg (fun x => g x.2)]
          rfl
      · have z1 : (s.length : Int) ≤ (q : Int) := by omega
        rw [decide_eq_true z1, cond_true, Option.bind_some, sheetedP, if_neg (fun x => hlt x.1)]
        rfl
  rw [decide_eq_false h39, cond_false, if_neg h39, rdigit_eq, Option.bind_some]
  dsimp only
  cases hd : isDigit c with
  | true =>
    rw [cond_true, if_pos rfl, span_Digit_eq hl, Option.bind_some]
    dsimp only
    rw [colon_eq]
    have hR : rowsP s = if runP isDigit s < s.length ∧ s.getD (runP isDigit s) 0 = 58 ∧ isR (s.take (side2 s (runP isDigit s))) = true then side2 s (runP isDigit s) else 0 := rfl
    have r1 := runP_le isDigit s
    generalize runP isDigit s = n at *
    by_cases hc : n < s.length ∧ s.getD n 0 = 58
    · have hdr : (s.drop (n + 1)).length < 1099511627776 := by simp; omega
      have hsec := second_eq hs hc.1
      rw [wsucc (show n < 9223372036854775807 by omega)] at hsec
      rw [decide_eq_true hc, Option.bind_some]
      dsimp only
      rw [cond_true, wsucc (show n < 9223372036854775807 by omega), cut_from (show n + 1 ≤ s.length by omega), Option.bind_some, span_refByte_eq hdr, Option.bind_some]
      dsimp only
      rw [hsec, cut_to (side2_le hc.1), Option.bind_some, risRef_eq, Option.bind_some]
      dsimp only
      by_cases g : isR (s.take (side2 s n)) = true
      · have hz : rowsP s = side2 s n := by rw [hR, if_pos ⟨hc.1, hc.2, g⟩]
        rw [g, cond_true, hz, if_pos (by unfold side2; omega)]
        rfl
      · have g' : isR (s.take (side2 s n)) = false := by simpa using g
        have hz : rowsP s = 0 := by rw [hR, if_neg (fun x => g x.2.2)]
        rw [g', cond_false, hz, if_neg (by omega), Option.bind_some]
        dsimp only
        rw [numberLength_eq hs]
        rfl
    · rw [decide_eq_false hc, Option.bind_some]
      dsimp only
      have hz : rowsP s = 0 := by rw [hR, if_neg (fun x => hc ⟨x.1, x.2.1⟩)]
      rw [cond_false, Option.bind_some, hz, if_neg (by omega)]
      dsimp only
      rw [numberLength_eq hs]
      rfl
  | false =>
    rw [cond_false, if_neg (by decide), rletter_eq, Option.bind_some]
    dsimp only
    rw [e95, e36, orB, orB, Option.bind_some]
    dsimp only
    cases hw : (isLetter c || (decide (c = 95) || decide (c = 36))) with
    | true =>
      rw [cond_true, if_pos rfl, rword_eq hs, Option.bind_some]
    | false =>
      rw [cond_false, if_neg (by decide), Has_eq, Has_eq, Has_eq]
      change (((cond (pre s [60, 61]) (some (true, ())) (cond (pre s [62, 61]) (some (true, ())) (some (pre s [60, 62], ()))) : Option (Bool × Unit))).bind fun r23 => cond r23.1 (some (8, 2, ())) ((chanceryref2_Index opsS (ofByte c)).bind fun v24 => cond (decide (0 ≤ v24.1)) (some (8, 1, ())) (some (8, 0, ())))) = _
      rw [orB, orB, Option.bind_some]
      dsimp only
      cases hp : (pre s [60, 61] || (pre s [62, 61] || pre s [60, 62])) with
      | true => rfl
      | false =>
        rw [cond_false, if_neg (by decide), Index_eq (by decide) c, Option.bind_some]
        by_cases hi : 0 ≤ Lib.indexByte opsS c
        · rw [if_pos hi, decide_eq_true hi]
          rfl
        · rw [if_neg hi, decide_eq_false hi]
          rfl
end Go.Proofs.YtjhcnnhkabhigaaGreatDoor
