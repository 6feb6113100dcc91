import Derived.Test.YtfbnnjmhlkafiaaDoorLawL
namespace Go.Proofs.YtfbnnjmhlkafiaaDoor
open Go Go.Fe

theorem errD_spec (x : RefD) {y : RefD × (Int × Unit)} (h : y = if errD x = 0 then (x, 0, ()) else (Z0, errD x, ())) : some y = some (if errD x = 0 then (x, 0, ()) else (Z0, errD x, ())) := by rw [h]

theorem last_p (x : RefD) : (cond (!decide (errD x = 0)) (some (([], (0, (0, (0, (0, (0, (false, (false, (false, (false, ())))))))))), errD x, ())) (some (x, 0, ())) : Option (RefD × (Int × Unit))) = some (cond (decide (errD x = 0)) x Z0, errD x, ()) := by
  cases h : decide (errD x = 0) with
  | true =>
    have : errD x = 0 := of_decide_eq_true h
    simp [this]
  | false => rfl

theorem sheetOf_len (s : Str) : (sheetOf s).2.1.length ≤ s.length := by
  cases s with
  | nil => simp [sheetOf]
  | cons x r =>
    simp only [sheetOf]
    split
    · have h := quoted_len r.length r (Nat.le_refl _)
      cases hq : (quoted r).2 with
      | none => simp
      | some q =>
        have h1 := h.2 q hq
        have h2 : (Lib.trimPrefix q [33]).length ≤ q.length := by
          unfold Lib.trimPrefix
          split
          · rw [List.length_drop]; omega
          · exact Nat.le_refl _
        simp only [List.length_cons]
        omega
    · have := cutB_len 33 (x :: r)
      split
      · exact Nat.le_refl _
      · exact this.2

theorem parse_eq (s : Str) : ∃ (x : RefD) (e : Int), cellref_Parse s = some (x, e, ()) ∧ chanceryref2_ReadRef s = some (x, e, ()) := by
  by_cases h5 : (500 : Int) < (s.length : Int)
  · exact ⟨_, _, by simp only [cellref_Parse, h5, decide_true, cond_true]; rfl, by simp only [readRef_def, h5, decide_true, cond_true]⟩
  by_cases hR : s = [35, 82, 69, 70, 33]
  · exact ⟨_, _, by simp only [cellref_Parse, h5, hR, decide_true, decide_false, cond_true, cond_false]; rfl, by simp only [readRef_def, h5, hR, decide_true, decide_false, cond_true, cond_false]; rfl⟩
  have hs : s.length ≤ 500 := by omega
  have hsh := sheet_eq hs hR
  have hhd := refHead_eq hs
  obtain ⟨t, ht⟩ : ∃ t, (sheetOf s).1 = t := ⟨_, rfl⟩
  obtain ⟨rest, hr⟩ : ∃ r, (sheetOf s).2.1 = r := ⟨_, rfl⟩
  obtain ⟨ok, hok⟩ : ∃ b, (sheetOf s).2.2 = b := ⟨_, rfl⟩
  rw [ht, hr, hok] at hsh hhd
  have hrl : rest.length ≤ 500 := by have := sheetOf_len s; rw [hr] at this; omega
  have hcut := strings_Cut_eq (s := rest) (c := 58) (by omega)
  have hcol := colon_loop (s := rest) (t := t) hrl Z0 Z0
  obtain ⟨hf, hl⟩ := cutB_len 58 rest
  obtain ⟨f, hf'⟩ : ∃ f, (cutB 58 rest).1 = f := ⟨_, rfl⟩
  obtain ⟨l, hl'⟩ : ∃ f, (cutB 58 rest).2.1 = f := ⟨_, rfl⟩
  obtain ⟨two, htwo⟩ : ∃ f, (cutB 58 rest).2.2 = f := ⟨_, rfl⟩
  rw [hf'] at hf
  rw [hl'] at hl
  rw [hf', hl', htwo] at hcut hcol
  have pf := place_eq (s := f) (by omega)
  have pl := place_eq (s := l) (by omega)
  have rf := readSide_eq (s := f) (by omega)
  have rl := readSide_eq (s := l) (by omega)
  have i0 : decide ((0 : Int) = 0) = true := rfl
  have i1 : decide ((1 : Int) = 0) = false := rfl
  have i2 : decide ((2 : Int) = 0) = false := rfl
  have i3 : decide ((1 : Int) = 2) = false := rfl
  have i4 : decide ((2 : Int) = 2) = true := rfl
  have i5 : decide ((0 : Int) = 2) = false := rfl
  have k2 : decide ((3 : Int) = 0) = false := rfl
  cases ok with
  | false =>
    simp only [Bool.false_eq_true, if_false] at hhd
    cases two with
    | false => exact ⟨_, _, by simp only [cellref_Parse, h5, hR, decide_false, decide_true, cond_false, cond_true, hsh, Option.bind_some, hcut, pf, pl, Bool.not_true, Bool.not_false, cond_some', cond_pair, Bool.cond_self] <;> rfl, by simp only [readRef_def, h5, hR, decide_false, decide_true, cond_false, cond_true, hhd, Option.bind_some, refTail, hcol, Bool.not_true, Bool.not_false] <;> rfl⟩
    | true => exact ⟨_, _, by simp only [cellref_Parse, h5, hR, decide_false, decide_true, cond_false, cond_true, hsh, Option.bind_some, hcut, pf, pl, Bool.not_true, Bool.not_false, cond_some', cond_pair, Bool.cond_self] <;> rfl, by simp only [readRef_def, h5, hR, decide_false, decide_true, cond_false, cond_true, hhd, Option.bind_some, refTail, hcol, Bool.not_true, Bool.not_false] <;> rfl⟩
  | true =>
  simp only [if_true] at hhd
  cases hfa : sdFine f with
  | false =>
    rw [hfa] at pf
    obtain ⟨o, ho⟩ := rf.1 hfa
    cases two with
    | false => exact ⟨_, _, by simp only [cellref_Parse, h5, hR, decide_false, decide_true, cond_false, cond_true, hsh, Option.bind_some, hcut, pf, pl, Bool.not_true, Bool.not_false, cond_some', cond_pair, Bool.cond_self] <;> rfl, by simp only [readRef_def, h5, hR, decide_false, decide_true, cond_false, cond_true, hhd, Option.bind_some, refTail, hcol, Bool.not_true, Bool.not_false, ho, i0] <;> rfl⟩
    | true =>
      cases hfb : sdFine l with
      | false =>
        obtain ⟨o', ho'⟩ := rl.1 hfb
        exact ⟨_, _, by simp only [cellref_Parse, h5, hR, decide_false, decide_true, cond_false, cond_true, hsh, Option.bind_some, hcut, pf, pl, Bool.not_true, Bool.not_false, cond_some', cond_pair, Bool.cond_self] <;> rfl, by simp only [readRef_def, h5, hR, decide_false, decide_true, cond_false, cond_true, hhd, Option.bind_some, refTail, hcol, Bool.not_true, Bool.not_false, ho, ho', i0] <;> rfl⟩
      | true =>
        have ho' := rl.2 hfb
        exact ⟨_, _, by simp only [cellref_Parse, h5, hR, decide_false, decide_true, cond_false, cond_true, hsh, Option.bind_some, hcut, pf, pl, Bool.not_true, Bool.not_false, cond_some', cond_pair, Bool.cond_self] <;> rfl, by simp only [readRef_def, h5, hR, decide_false, decide_true, cond_false, cond_true, hhd, Option.bind_some, refTail, hcol, Bool.not_true, Bool.not_false, ho, ho', i0] <;> rfl⟩
  | true =>
  rw [hfa] at pf
  have ho := rf.2 hfa
  have vf := values_eq hfa
  obtain ⟨s1, s2, s3, s4⟩ := side_facts hfa
  have code : ∀ x : Str, (if 1073741824 ≤ rowV x ∨ 1073741824 ≤ colV x then (2 : Int) else 1) = cond (over x) 2 1 := by
    intro x
    unfold over
    by_cases g : 1073741824 ≤ rowV x <;> by_cases g' : 1073741824 ≤ colV x <;> simp [g, g']
  rw [code] at ho
  have cz : ∀ b : Bool, decide ((cond b (2 : Int) 1) = 0) = false := by intro b; cases b <;> rfl
  have c2 : ∀ b : Bool, decide ((cond b (2 : Int) 1) = 2) = b := by intro b; cases b <;> rfl
  have ct : ∀ b : Bool, decide ((cond b (2 : Int) 0) = 0) = !b := by intro b; cases b <;> rfl
  cases two with
  | false =>
    cases e1 : decide (sdL f = []) with
    | true => exact ⟨_, _, by simp only [cellref_Parse, h5, hR, decide_false, decide_true, cond_false, cond_true, hsh, Option.bind_some, hcut, pf, pl, Bool.not_true, Bool.not_false, cond_some', cond_pair, Bool.cond_self, e1] <;> rfl, by
        cases e2 : decide (sdN f = []) <;> simp only [readRef_def, h5, hR, decide_false, decide_true, cond_false, cond_true, hhd, Option.bind_some, refTail, hcol, Bool.not_true, Bool.not_false, ho, s1, s2, e1, e2, i1, cz, beq_self_eq_true] <;> rfl⟩
    | false =>
    cases e2 : decide (sdN f = []) with
    | true => exact ⟨_, _, by simp only [cellref_Parse, h5, hR, decide_false, decide_true, cond_false, cond_true, hsh, Option.bind_some, hcut, pf, pl, Bool.not_true, Bool.not_false, cond_some', cond_pair, Bool.cond_self, e1, e2, beq_self_eq_true] <;> rfl, by simp only [readRef_def, h5, hR, decide_false, decide_true, cond_false, cond_true, hhd, Option.bind_some, refTail, hcol, Bool.not_true, Bool.not_false, ho, s1, s2, e1, e2, i1, cz, beq_self_eq_true] <;> rfl⟩
    | false =>
    cases ov : over f with
    | true =>
      rw [ov] at vf ho
      exact ⟨_, _, by simp only [cellref_Parse, h5, hR, decide_false, decide_true, cond_false, cond_true, hsh, Option.bind_some, hcut, pf, pl, Bool.not_true, Bool.not_false, cond_some', cond_pair, Bool.cond_self, e1, e2, beq_self_eq_true, vf, i2] <;> rfl, by simp only [readRef_def, h5, hR, decide_false, decide_true, cond_false, cond_true, hhd, Option.bind_some, refTail, hcol, Bool.not_true, Bool.not_false, ho, s1, s2, e1, e2, i1, i2, i4, beq_self_eq_true] <;> rfl⟩
    | false =>
      rw [ov] at vf ho
      exact ⟨_, _, by simp only [cellref_Parse, h5, hR, decide_false, decide_true, cond_false, cond_true, hsh, Option.bind_some, hcut, pf, pl, Bool.not_true, Bool.not_false, cond_some', cond_pair, Bool.cond_self, e1, e2, beq_self_eq_true, vf, i0, ordered_eq, CheckD] <;> rfl, by simp only [readRef_def, h5, hR, decide_false, decide_true, cond_false, cond_true, hhd, Option.bind_some, refTail, hcol, Bool.not_true, Bool.not_false, ho, s1, s2, s3, s4, e1, e2, i1, i3, beq_self_eq_true, RefErrorD, cond_some', cond_pair, Bool.cond_self] <;> rfl⟩
  | true =>
  cases hfb : sdFine l with
  | false =>
    rw [hfb] at pl
    obtain ⟨o', ho'⟩ := rl.1 hfb
    exact ⟨_, _, by simp only [cellref_Parse, h5, hR, decide_false, decide_true, cond_false, cond_true, hsh, Option.bind_some, hcut, pf, pl, Bool.not_true, Bool.not_false, cond_some', cond_pair, Bool.cond_self] <;> rfl, by simp only [readRef_def, h5, hR, decide_false, decide_true, cond_false, cond_true, hhd, Option.bind_some, refTail, hcol, Bool.not_true, Bool.not_false, ho, ho', i0, cz] <;> rfl⟩
  | true =>
  rw [hfb] at pl
  have ho' := rl.2 hfb
  have vl := values_eq hfb
  obtain ⟨q1, q2, q3, q4⟩ := side_facts hfb
  rw [code] at ho'
  cases m1 : (decide (sdL f = []) == decide (sdL l = [])) with
  | false =>
    exact ⟨_, _, by simp only [cellref_Parse, h5, hR, decide_false, decide_true, cond_false, cond_true, hsh, Option.bind_some, hcut, pf, pl, Bool.not_true, Bool.not_false, cond_some', cond_pair, Bool.cond_self, m1] <;> rfl, by
      cases m2 : (decide (sdN f = []) == decide (sdN l = [])) <;> simp only [readRef_def, h5, hR, decide_false, decide_true, cond_false, cond_true, hhd, Option.bind_some, refTail, hcol, Bool.not_true, Bool.not_false, ho, ho', s1, s2, q1, q2, i1, cz, m1, m2] <;> rfl⟩
  | true =>
  cases m2 : (decide (sdN f = []) == decide (sdN l = [])) with
  | false => exact ⟨_, _, by simp only [cellref_Parse, h5, hR, decide_false, decide_true, cond_false, cond_true, hsh, Option.bind_some, hcut, pf, pl, Bool.not_true, Bool.not_false, cond_some', cond_pair, Bool.cond_self, m1, m2] <;> rfl, by simp only [readRef_def, h5, hR, decide_false, decide_true, cond_false, cond_true, hhd, Option.bind_some, refTail, hcol, Bool.not_true, Bool.not_false, ho, ho', s1, s2, q1, q2, i1, cz, m1, m2] <;> rfl⟩
  | true =>
  cases ov : over f with
  | true =>
    rw [ov] at vf ho
    exact ⟨_, _, by simp only [cellref_Parse, h5, hR, decide_false, decide_true, cond_false, cond_true, hsh, Option.bind_some, hcut, pf, pl, Bool.not_true, Bool.not_false, cond_some', cond_pair, Bool.cond_self, m1, m2, vf, i2] <;> rfl, by simp only [readRef_def, h5, hR, decide_false, decide_true, cond_false, cond_true, hhd, Option.bind_some, refTail, hcol, Bool.not_true, Bool.not_false, ho, ho', s1, s2, q1, q2, i1, i2, i4, cz, m1, m2] <;> rfl⟩
  | false =>
  rw [ov] at vf ho
  cases ov2 : over l with
  | true =>
    rw [ov2] at vl ho'
    exact ⟨_, _, by simp only [cellref_Parse, h5, hR, decide_false, decide_true, cond_false, cond_true, hsh, Option.bind_some, hcut, pf, pl, Bool.not_true, Bool.not_false, cond_some', cond_pair, Bool.cond_self, m1, m2, vf, vl, i0, i2] <;> rfl, by simp only [readRef_def, h5, hR, decide_false, decide_true, cond_false, cond_true, hhd, Option.bind_some, refTail, hcol, Bool.not_true, Bool.not_false, ho, ho', s1, s2, q1, q2, i1, i2, i3, i4, m1, m2] <;> rfl⟩
  | false =>
  rw [ov2] at vl ho'
  have e4 : decide (sdN l = []) = decide (sdN f = []) := (beq_iff_eq.1 m2).symm
  have e3 : decide (sdL l = []) = decide (sdL f = []) := (beq_iff_eq.1 m1).symm
  cases e1 : decide (sdL f = []) <;> cases e2 : decide (sdN f = []) <;> rw [e1] at e3 <;> rw [e2] at e4
  · exact ⟨_, _, by simp only [cellref_Parse, h5, hR, decide_false, decide_true, cond_false, cond_true, hsh, Option.bind_some, hcut, pf, pl, Bool.not_true, Bool.not_false, cond_some', cond_pair, Bool.cond_self, vf, vl, i0, i1, e1, e2, e3, e4, beq_self_eq_true, ordered_eq, CheckD] <;> rfl, by simp only [readRef_def, h5, hR, decide_false, decide_true, cond_false, cond_true, hhd, Option.bind_some, refTail, hcol, Bool.not_true, Bool.not_false, ho, ho', s1, s2, s3, s4, q1, q2, q3, q4, i1, i3, e1, e2, e3, e4, beq_self_eq_true, Sorted_eq, RefErrorD, cond_some', cond_pair, Bool.cond_self] <;> rfl⟩
  · exact ⟨_, _, by simp only [cellref_Parse, h5, hR, decide_false, decide_true, cond_false, cond_true, hsh, Option.bind_some, hcut, pf, pl, Bool.not_true, Bool.not_false, cond_some', cond_pair, Bool.cond_self, vf, vl, i0, k2, e1, e2, e3, e4, beq_self_eq_true, ordered_eq, CheckD] <;> rfl, by simp only [readRef_def, h5, hR, decide_false, decide_true, cond_false, cond_true, hhd, Option.bind_some, refTail, hcol, Bool.not_true, Bool.not_false, ho, ho', s1, s2, s3, s4, q1, q2, q3, q4, i1, i3, e1, e2, e3, e4, beq_self_eq_true, Sorted_eq, RefErrorD, cond_some', cond_pair, Bool.cond_self] <;> rfl⟩
  · exact ⟨_, _, by simp only [cellref_Parse, h5, hR, decide_false, decide_true, cond_false, cond_true, hsh, Option.bind_some, hcut, pf, pl, Bool.not_true, Bool.not_false, cond_some', cond_pair, Bool.cond_self, vf, vl, i0, i2, e1, e2, e3, e4, beq_self_eq_true, ordered_eq, CheckD] <;> rfl, by simp only [readRef_def, h5, hR, decide_false, decide_true, cond_false, cond_true, hhd, Option.bind_some, refTail, hcol, Bool.not_true, Bool.not_false, ho, ho', s1, s2, s3, s4, q1, q2, q3, q4, i1, i3, e1, e2, e3, e4, beq_self_eq_true, Sorted_eq, RefErrorD, cond_some', cond_pair, Bool.cond_self] <;> rfl⟩
  · exact ⟨_, _, by simp only [cellref_Parse, h5, hR, decide_false, decide_true, cond_false, cond_true, hsh, Option.bind_some, hcut, pf, pl, Bool.not_true, Bool.not_false, cond_some', cond_pair, Bool.cond_self, vf, vl, i0, k2, e1, e2, e3, e4, beq_self_eq_true, ordered_eq, CheckD] <;> rfl, by simp only [readRef_def, h5, hR, decide_false, decide_true, cond_false, cond_true, hhd, Option.bind_some, refTail, hcol, Bool.not_true, Bool.not_false, ho, ho', s1, s2, s3, s4, q1, q2, q3, q4, i1, i3, e1, e2, e3, e4, beq_self_eq_true, Sorted_eq, RefErrorD, cond_some', cond_pair, Bool.cond_self] <;> rfl⟩

theorem refParse_law (s : Str) : chancerylaw2_RefParseMatches s = some (true, ()) := by
  obtain ⟨x, e, h1, h2⟩ := parse_eq s
  simp only [chancerylaw2_RefParseMatches, refs_true, h1, h2, Option.bind_some, Bool.not_true, cond_false]
  simp [Ty.beq]
end Go.Proofs.YtfbnnjmhlkafiaaDoor
