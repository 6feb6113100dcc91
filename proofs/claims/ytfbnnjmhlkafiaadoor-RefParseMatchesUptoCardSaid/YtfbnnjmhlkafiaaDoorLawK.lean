import Derived.Test.YtfbnnjmhlkafiaaDoorLawJ
namespace Go.Proofs.YtfbnnjmhlkafiaaDoor
open Go Go.Fe

/-! ### The reference's reader, in two parts -/
abbrev RefD := Str × (Int × (Int × (Int × (Int × (Int × (Bool × (Bool × (Bool × (Bool × Unit)))))))))
def Z0 : RefD := ([], 0, 0, 0, 0, 0, false, false, false, false, ())
noncomputable def refHead (a0 : Str) : Option ((Unit × (Str × (Str × ((Str × (Int × (Int × (Int × (Int × (Int × (Bool × (Bool × (Bool × (Bool × Unit)))))))))) × Unit)))) ⊕ (Unit × (Int × ((Str × (Int × (Int × (Int × (Int × (Int × (Bool × (Bool × (Bool × (Bool × Unit)))))))))) × Unit)))) :=
  (cond (!decide (a0 = []))
  ((idx a0 0).bind fun v1 =>
  some ((), (decide ((ofByte v1) = 39)), ([], (0, (0, (0, (0, (0, (false, (false, (false, (false, ())))))))))), ()))
  (some ((), false, ([], (0, (0, (0, (0, (0, (false, (false, (false, (false, ())))))))))), ())) : Option (Unit × (Bool × ((Str × (Int × (Int × (Int × (Int × (Int × (Bool × (Bool × (Bool × (Bool × Unit)))))))))) × Unit)))).bind fun r2 =>
  cond r2.2.1
  ((loop (chanceryref2_ReadRef_l538 a0) ((), [], 1, r2.2.2.1, ())).bind fun r11 =>
  (cond (decide (r11.2.1 = []))
  (some ((), true, r11.2.2.2.1, ()))
  (let v12 : Bool := (decide ((a0.length : Int) ≤ (IntKind.i64.wrap (r11.2.2.1 + 1))))
  cond v12
  (some ((), true, r11.2.2.2.1, ()))
  ((idx a0 (IntKind.i64.wrap (r11.2.2.1 + 1))).bind fun v13 =>
  some ((), (!decide ((ofByte v13) = 33)), r11.2.2.2.1, ()))) : Option (Unit × (Bool × ((Str × (Int × (Int × (Int × (Int × (Int × (Bool × (Bool × (Bool × (Bool × Unit)))))))))) × Unit)))).bind fun r14 =>
  cond r14.2.1
  (some (.inr ((), 10, ([], (0, (0, (0, (0, (0, (false, (false, (false, (false, ())))))))))), ())))
  ((cut a0 (IntKind.i64.wrap (r11.2.2.1 + 2)) (a0.length : Int)).bind fun v15 =>
  some (.inl ((), r11.2.1, v15, r14.2.2.1, ()))))
  ((loop (chanceryref2_ReadRef_l578 a0) ((), [], a0, 0, r2.2.2.1, ())).bind fun r20 =>
  (match r20 with
  | .inl z21 => (some (.inl ((), z21.2.1, z21.2.2.1, z21.2.2.2.1, ())))
  | .inr z22 => (some (.inr ((), z22.2.1, z22.2.2.1, ())))))

noncomputable def refTail (z24 : (Unit × (Str × (Str × ((Str × (Int × (Int × (Int × (Int × (Int × (Bool × (Bool × (Bool × (Bool × Unit)))))))))) × Unit))))) : Option ((Str × (Int × (Int × (Int × (Int × (Int × (Bool × (Bool × (Bool × (Bool × Unit)))))))))) × (Int × Unit)) :=
  ((loop (chanceryref2_ReadRef_l603 z24) ((), z24.2.2.1, [], false, 0, z24.2.2.2.1, ())).bind fun r28 =>
  (chanceryref2_readSide r28.2.1).bind fun v29 =>
  (cond r28.2.2.2.1
  ((chanceryref2_readSide r28.2.2.1).bind fun v30 =>
  some ((), (), (), v30.2.1, r28.2.2.2.2.1, v29.1, v30.1, ()))
  (some ((), (), (), 1, r28.2.2.2.2.1, v29.1, v29.1, ())) : Option (Unit × (Unit × (Unit × (Int × ((Str × (Int × (Int × (Int × (Int × (Int × (Bool × (Bool × (Bool × (Bool × Unit)))))))))) × ((Int × (Int × (Bool × (Bool × Unit)))) × ((Int × (Int × (Bool × (Bool × Unit)))) × Unit)))))))).bind fun r31 =>
  (cond (decide (v29.2.1 = 0))
  (some ((), (), (), true, r31.2.2.2.2.1, r31.2.2.2.2.2.1, r31.2.2.2.2.2.2.1, ()))
  (cond ((decide (r31.2.2.2.1 = 0)))
  (some ((), (), (), true, r31.2.2.2.2.1, r31.2.2.2.2.2.1, r31.2.2.2.2.2.2.1, ()))
  (let v32 : Bool := (!((decide (r31.2.2.2.2.2.1.1 < 0)) == (decide (r31.2.2.2.2.2.2.1.1 < 0))))
  cond v32
  (some ((), (), (), true, r31.2.2.2.2.1, r31.2.2.2.2.2.1, r31.2.2.2.2.2.2.1, ()))
  (let v33 : Bool := (!((decide (r31.2.2.2.2.2.1.2.1 < 0)) == (decide (r31.2.2.2.2.2.2.1.2.1 < 0))))
  cond v33
  (some ((), (), (), true, r31.2.2.2.2.1, r31.2.2.2.2.2.1, r31.2.2.2.2.2.2.1, ()))
  (cond (!r28.2.2.2.1)
  (cond (decide (r31.2.2.2.2.2.1.1 < 0))
  (some ((), (), (), (true), r31.2.2.2.2.1, r31.2.2.2.2.2.1, r31.2.2.2.2.2.2.1, ()))
  (let v34 : Bool := ((decide (r31.2.2.2.2.2.1.2.1 < 0)))
  some ((), (), (), v34, r31.2.2.2.2.1, r31.2.2.2.2.2.1, r31.2.2.2.2.2.2.1, ())))
  (some ((), (), (), false, r31.2.2.2.2.1, r31.2.2.2.2.2.1, r31.2.2.2.2.2.2.1, ())))))) : Option (Unit × (Unit × (Unit × (Bool × ((Str × (Int × (Int × (Int × (Int × (Int × (Bool × (Bool × (Bool × (Bool × Unit)))))))))) × ((Int × (Int × (Bool × (Bool × Unit)))) × ((Int × (Int × (Bool × (Bool × Unit)))) × Unit)))))))).bind fun r35 =>
  cond r35.2.2.2.1
  (some (([], (0, (0, (0, (0, (0, (false, (false, (false, (false, ())))))))))), 10, ()))
  ((cond (decide (v29.2.1 = 2))
  (some ((), (), (), true, r35.2.2.2.2.1, r35.2.2.2.2.2.1, r35.2.2.2.2.2.2.1, ()))
  (some ((), (), (), (decide (r31.2.2.2.1 = 2)), r35.2.2.2.2.1, r35.2.2.2.2.2.1, r35.2.2.2.2.2.2.1, ())) : Option (Unit × (Unit × (Unit × (Bool × ((Str × (Int × (Int × (Int × (Int × (Int × (Bool × (Bool × (Bool × (Bool × Unit)))))))))) × ((Int × (Int × (Bool × (Bool × Unit)))) × ((Int × (Int × (Bool × (Bool × Unit)))) × Unit)))))))).bind fun r36 =>
  cond r36.2.2.2.1
  (some (([], (0, (0, (0, (0, (0, (false, (false, (false, (false, ())))))))))), 2, ()))
  (let v37 : (Str × (Int × (Int × (Int × (Int × (Int × (Bool × (Bool × (Bool × (Bool × Unit)))))))))) := (z24.2.1, 0, mx r36.2.2.2.2.2.1.1 0, mx r36.2.2.2.2.2.1.2.1 0, 0, 0, r36.2.2.2.2.2.1.2.2.1, r36.2.2.2.2.2.1.2.2.2.1, false, false, ())
  (cond (!r28.2.2.2.1)
  (some ((), (), (), r36.2.2.2.2.1, r36.2.2.2.2.2.2.1, v37, ()))
  (cond (decide (r36.2.2.2.2.2.1.1 < 0))
  (some ((), (), (), r36.2.2.2.2.1, r36.2.2.2.2.2.2.1, (v37.1, (3, v37.2.2)), ()))
  (cond (decide (r36.2.2.2.2.2.1.2.1 < 0))
  (some ((), (), (), r36.2.2.2.2.1, r36.2.2.2.2.2.2.1, (v37.1, (2, v37.2.2)), ()))
  (some ((), (), (), r36.2.2.2.2.1, r36.2.2.2.2.2.2.1, (v37.1, (1, v37.2.2)), ())))) : Option (Unit × (Unit × (Unit × ((Str × (Int × (Int × (Int × (Int × (Int × (Bool × (Bool × (Bool × (Bool × Unit)))))))))) × ((Int × (Int × (Bool × (Bool × Unit)))) × ((Str × (Int × (Int × (Int × (Int × (Int × (Bool × (Bool × (Bool × (Bool × Unit)))))))))) × Unit))))))).bind fun r38 =>
  (cond r28.2.2.2.1
  (let v39 : (Str × (Int × (Int × (Int × (Int × (Int × (Bool × (Bool × (Bool × (Bool × Unit)))))))))) := (r38.2.2.2.2.2.1.1, (r38.2.2.2.2.2.1.2.1, (r38.2.2.2.2.2.1.2.2.1, (r38.2.2.2.2.2.1.2.2.2.1, (mx r38.2.2.2.2.1.1 0, (mx r38.2.2.2.2.1.2.1 0, (r38.2.2.2.2.2.1.2.2.2.2.2.2.1, (r38.2.2.2.2.2.1.2.2.2.2.2.2.2.1, r38.2.2.2.2.1.2.2))))))))
  (chanceryref2_Sorted v39).bind fun v40 =>
  some ((), (), r38.2.2.2.1, v40.1, ()))
  (some ((), (), r38.2.2.2.1, r38.2.2.2.2.2.1, ())) : Option (Unit × (Unit × ((Str × (Int × (Int × (Int × (Int × (Int × (Bool × (Bool × (Bool × (Bool × Unit)))))))))) × ((Str × (Int × (Int × (Int × (Int × (Int × (Bool × (Bool × (Bool × (Bool × Unit)))))))))) × Unit))))).bind fun r41 =>
  let v42 : (Str × (Int × (Int × (Int × (Int × (Int × (Bool × (Bool × (Bool × (Bool × Unit)))))))))) := r41.2.2.2.1
  (chanceryref2_RefError v42).bind fun v43 =>
  cond (!decide (v43.1 = 0))
  (some (([], (0, (0, (0, (0, (0, (false, (false, (false, (false, ())))))))))), v43.1, ()))
  (let v44 : (Str × (Int × (Int × (Int × (Int × (Int × (Bool × (Bool × (Bool × (Bool × Unit)))))))))) := r41.2.2.2.1
  some (v44, 0, ())))))

theorem readRef_def (a0 : Str) : chanceryref2_ReadRef a0 =
  cond (decide (500 < (a0.length : Int)))
  (some (([], (0, (0, (0, (0, (0, (false, (false, (false, (false, ())))))))))), 3, ()))
  (cond (decide (a0 = [35, 82, 69, 70, 33]))
  (some (([], (4, (0, (0, (0, (0, (false, (false, (false, (false, ())))))))))), 0, ()))
  ((refHead a0).bind fun r23 =>
  (match r23 with
  | .inl z24 => refTail z24
  | .inr z45 => (some (z45.2.2.1, z45.2.1, ()))))) := rfl

theorem title_loop {s : Str} (hs : s.length ≤ 500) (z : RefD) : ∀ (n : Nat) (rem t : Str) (i : Nat), rem.length ≤ n → s.drop i = rem → i ≤ s.length → t.length ≤ i →
    ∃ j : Nat, Halts (chanceryref2_ReadRef_l538 s) n ((), t, (i : Int), z, ()) ((), t ++ (quoted rem).1, (j : Int), z, ()) ∧ (match (quoted rem).2 with
      | none => j = s.length
      | some q => j < s.length ∧ s.drop (j + 1) = q)
  | n, [], t, i, hn, hd, hi, ht => by
    have hl : s.length ≤ i := by
      have := congrArg List.length hd
      simp at this
      omega
    have hg : ¬ ((i : Int) < (s.length : Int)) := by omega
    refine ⟨i, .done ?_, by show i = s.length; omega⟩
    simp only [chanceryref2_ReadRef_l538, hg, decide_false, cond_false, Option.bind_some, quoted, List.append_nil]
  | 0, x :: r, t, i, hn, hd, hi, ht => by simp at hn
  | n + 1, x :: r, t, i, hn, hd, hi, ht => by
    obtain ⟨hl, hx, hr⟩ := drop_eq hd
    have hg : ((i : Int) < (s.length : Int)) := by omega
    have hix : idx s (i : Int) = some x := by rw [idx_nat, hx]
    have w1 := wrap_succ (i := i) (by omega)
    have w2 := wrap_succ (i := i + 1) (by omega)
    have c1 : cut s (i : Int) ((i + 1 : Nat) : Int) = some [x] := by
      rw [cut_nat (by omega) (by omega)]
      congr 1
      rw [List.take_succ_eq_append_getElem hl, List.drop_append_of_le_length (by simp; omega)]
      rw [List.getElem?_eq_getElem hl] at hx
      cases hx
      simp
    have c2 : cat t [x] = some (t ++ [x]) := cat_ok (by simp; omega)
    by_cases h39 : x = 39
    · subst h39
      have a39 : ofByte (39 : UInt8) = 39 := rfl
      match r, hr, hn, hd with
      | [], hr, hn, hd =>
        have hl2 : s.length ≤ i + 1 := by
          have := congrArg List.length hr
          simp at this
          omega
        have hg2 : ¬ (((i + 1 : Nat) : Int) < (s.length : Int)) := by omega
        refine ⟨i, .done ?_, ⟨hl, hr⟩⟩
        simp only [chanceryref2_ReadRef_l538, hg, decide_true, cond_true, hix, Option.bind_some, a39, Bool.not_true, cond_false, w1, hg2, decide_false]
        simp [quoted]
      | y :: r', hr, hn, hd =>
        obtain ⟨hl2, hy, hr'⟩ := drop_eq hr
        have hg2 : (((i + 1 : Nat) : Int) < (s.length : Int)) := by omega
        have hiy : idx s ((i + 1 : Nat) : Int) = some y := by rw [idx_nat, hy]
        by_cases hy39 : y = 39
        · subst hy39
          obtain ⟨j, ih, hj⟩ := title_loop hs z n r' (t ++ [39]) (i + 2) (by simp at hn; omega) hr' (by omega) (by simp; omega)
          have e : t ++ (quoted (39 :: 39 :: r')).1 = t ++ [39] ++ (quoted r').1 := by simp [quoted]
          refine ⟨j, ?_, by simpa [quoted] using hj⟩
          rw [e]
          refine .step ?_ ih
          simp only [chanceryref2_ReadRef_l538, hg, decide_true, cond_true, hix, Option.bind_some, a39, Bool.not_true, cond_false, w1, hg2, hiy, c1, c2, w2]
        · have ny : ¬ (ofByte y = 39) := by rw [byte39]; exact hy39
          refine ⟨i, .done ?_, by simp only [quoted, if_true, hy39, if_false]; exact ⟨hl, hr⟩⟩
          simp only [chanceryref2_ReadRef_l538, hg, decide_true, cond_true, hix, Option.bind_some, a39, Bool.not_true, cond_false, w1, hg2, hiy, ny, decide_false]
          simp [quoted, hy39]
    · have nx : ¬ (ofByte x = 39) := by rw [byte39]; exact h39
      obtain ⟨j, ih, hj⟩ := title_loop hs z n r (t ++ [x]) (i + 1) (by simp at hn; omega) hr (by omega) (by simp; omega)
      have e : t ++ (quoted (x :: r)).1 = t ++ [x] ++ (quoted r).1 ∧ (quoted (x :: r)).2 = (quoted r).2 := by
        match r with
        | [] => simp [quoted, h39]
        | y :: r' => simp [quoted, h39]
      refine ⟨j, ?_, by rw [e.2]; exact hj⟩
      rw [e.1]
      refine .step ?_ ih
      simp only [chanceryref2_ReadRef_l538, hg, decide_true, cond_true, hix, Option.bind_some, nx, decide_false, cond_false, Bool.not_false, w1, c1, c2]

/-- A division at a byte, by a loop. -/
theorem cut_parts {s : Str} {i : Nat} (h : i < s.length) : cut s 0 (i : Int) = some (s.take i) ∧ cut s ((i + 1 : Nat) : Int) (s.length : Int) = some (s.drop (i + 1)) := by
  constructor
  · have := cut_nat (xs := s) (a := 0) (b := i) (by omega) (by omega)
    simpa using this
  · rw [cut_nat (by omega) (by omega), List.take_length]

theorem bang_loop {s : Str} (hs : s.length ≤ 500) (z : RefD) : loop (chanceryref2_ReadRef_l578 s) ((), [], s, 0, z, ()) = some (
    if (cutB 33 s).2.2 = true then (if isPlain (cutB 33 s).1 = true then .inl ((), (cutB 33 s).1, (cutB 33 s).2.1, z, ()) else .inr ((), 10, Z0, ())) else .inl ((), [], s, z, ())) := by
  have key : ∀ i, i < s.length → (∀ j, j < i → (s[j]?).all (fun c => !decide (c = 33)) = true) → chanceryref2_ReadRef_l578 s ((), [], s, (i : Int), z, ()) =
      some (if (s[i]?).all (fun c => !decide (c = 33)) = true then .inl ((), [], s, ((i + 1 : Nat) : Int), z, ()) else .inr (if isPlain (s.take i) = true then .inl ((), s.take i, s.drop (i + 1), z, ()) else .inr ((), 10, Z0, ()))) := fun i hi _ => by
    have hg : ((i : Int) < (s.length : Int)) := by omega
    have hb := byteIs s[i] 33 (by omega)
    have hc := cut_parts hi
    have hp := RPlain_eq (s := s.take i) (by simp; omega)
    simp only [chanceryref2_ReadRef_l578, hg, decide_true, cond_true, idx_lt hi, Option.bind_some, wrap_succ (i := i) (by omega), hc, hp, List.getElem?_eq_getElem hi, Option.all_some]
    by_cases h : s[i] = 33
    · have : ofByte s[i] = 33 := hb.2 h
      simp only [this, decide_true, cond_true, h]
      cases isPlain (s.take i) <;> rfl
    · have : ¬ ofByte s[i] = 33 := fun e => h (hb.1 e)
      simp only [this, decide_false, cond_false, h]
      rfl
  rcases Halts.scan (f := chanceryref2_ReadRef_l578 s) (fun i => ((), [], s, (i : Int), z, ())) (fun i => (s[i]?).all (fun c => !decide (c = 33))) s.length (r := .inl ((), [], s, z, ()))
    (fun i => if isPlain (s.take i) = true then .inl ((), s.take i, s.drop (i + 1), z, ()) else .inr ((), 10, Z0, ())) key (fun _ => by simp [chanceryref2_ReadRef_l578]) with ⟨h1, h2⟩ | ⟨i, hi, h1, h3, h2⟩
  · have hl := h2.loop (by omega)
    rw [show ((0 : Nat) : Int) = 0 from rfl] at hl
    rw [hl, cutB_none (c := 33) (s := s) (fun i hc => by
      have hi : i < s.length := by
        rcases Nat.lt_or_ge i s.length with h | h
        · exact h
        · rw [List.getElem?_eq_none h] at hc; cases hc
      have := h1 i hi
      rw [hc] at this
      simp at this)]
    simp
  · have hl := h2.loop (by omega)
    rw [show ((0 : Nat) : Int) = 0 from rfl] at hl
    have hc : s[i]? = some 33 := by
      rw [List.getElem?_eq_getElem hi] at h1 ⊢
      simpa using h1
    rw [hl, cutB_some (c := 33) hc (fun k hk e => by
      have := h3 k hk
      rw [e] at this
      simp at this)]
    simp

theorem colon_loop {s t : Str} (hs : s.length ≤ 500) (z z' : RefD) : loop (chanceryref2_ReadRef_l603 ((), t, s, z, ())) ((), s, [], false, 0, z', ()) = some ((), (cutB 58 s).1, (cutB 58 s).2.1, (cutB 58 s).2.2, z', ()) := by
  have key : ∀ i, i < s.length → (∀ j, j < i → (s[j]?).all (fun c => !decide (c = 58)) = true) → chanceryref2_ReadRef_l603 ((), t, s, z, ()) ((), s, [], false, (i : Int), z', ()) =
      some (if (s[i]?).all (fun c => !decide (c = 58)) = true then .inl ((), s, [], false, ((i + 1 : Nat) : Int), z', ()) else .inr ((), s.take i, s.drop (i + 1), true, z', ())) := fun i hi _ => by
    have hg : ((i : Int) < (s.length : Int)) := by omega
    have hb := byteIs s[i] 58 (by omega)
    have hc := cut_parts hi
    simp only [chanceryref2_ReadRef_l603, hg, decide_true, cond_true, idx_lt hi, Option.bind_some, wrap_succ (i := i) (by omega), hc, List.getElem?_eq_getElem hi, Option.all_some]
    by_cases h : s[i] = 58
    · have : ofByte s[i] = 58 := hb.2 h
      simp only [this, decide_true, cond_true, h]
      rfl
    · have : ¬ ofByte s[i] = 58 := fun e => h (hb.1 e)
      simp only [this, decide_false, cond_false, h]
      rfl
  rcases Halts.scan (f := chanceryref2_ReadRef_l603 ((), t, s, z, ())) (fun i => ((), s, [], false, (i : Int), z', ())) (fun i => (s[i]?).all (fun c => !decide (c = 58))) s.length (r := ((), s, [], false, z', ()))
    (fun i => ((), s.take i, s.drop (i + 1), true, z', ())) key (fun _ => by simp [chanceryref2_ReadRef_l603]) with ⟨h1, h2⟩ | ⟨i, hi, h1, h3, h2⟩
  · have hl := h2.loop (by omega)
    rw [show ((0 : Nat) : Int) = 0 from rfl] at hl
    rw [hl, cutB_none (c := 58) (s := s) (fun i hc => by
      have hi : i < s.length := by
        rcases Nat.lt_or_ge i s.length with h | h
        · exact h
        · rw [List.getElem?_eq_none h] at hc; cases hc
      have := h1 i hi
      rw [hc] at this
      simp at this)]
  · have hl := h2.loop (by omega)
    rw [show ((0 : Nat) : Int) = 0 from rfl] at hl
    have hc : s[i]? = some 58 := by
      rw [List.getElem?_eq_getElem hi] at h1 ⊢
      simpa using h1
    rw [hl, cutB_some (c := 58) hc (fun k hk e => by
      have := h3 k hk
      rw [e] at this
      simp at this)]

theorem refHead_eq {s : Str} (hs : s.length ≤ 500) : refHead s = some (if (sheetOf s).2.2 = true then .inl ((), (sheetOf s).1, (sheetOf s).2.1, Z0, ()) else .inr ((), 10, Z0, ())) := by
  cases s with
  | nil =>
    have h := bang_loop (s := []) (by simp) Z0
    simp only [cutB] at h
    have h' : loop (chanceryref2_ReadRef_l578 []) ((), [], [], 0, ([], (0, (0, (0, (0, (0, (false, (false, (false, (false, ())))))))))), ()) = some (.inl ((), [], [], Z0, ())) := h
    simp only [refHead, decide_true, Bool.not_true, cond_false, Option.bind_some, h']
    rfl
  | cons x r =>
    have i0 : idx (x :: r) 0 = some x := rfl
    have e0 : decide ((x :: r : Str) = []) = false := by simp
    by_cases h39 : x = 39
    · subst h39
      have a39 : ofByte (39 : UInt8) = 39 := rfl
      obtain ⟨j, hj, hq⟩ := title_loop hs Z0 r.length r [] 1 (Nat.le_refl _) rfl (by simp) (by simp)
      have hl := hj.loop (by simp at hs; omega)
      rw [show ((1 : Nat) : Int) = 1 from rfl, List.nil_append] at hl
      have hl' : loop (chanceryref2_ReadRef_l538 (39 :: r)) ((), [], 1, ([], (0, (0, (0, (0, (0, (false, (false, (false, (false, ())))))))))), ()) = some ((), (quoted r).1, (j : Int), Z0, ()) := hl
      simp only [refHead, e0, Bool.not_false, cond_true, i0, Option.bind_some, a39, decide_true, hl', sheetOf, if_true]
      have hjs : (j : Int) < 1000 := by
        cases hh : (quoted r).2 with
        | none => rw [hh] at hq; simp only at hq; omega
        | some q => rw [hh] at hq; have := hq.1; omega
      have w1 := wrap_succ (i := j) (by omega)
      have w2 : IntKind.i64.wrap ((j : Int) + 2) = ((j + 2 : Nat) : Int) := by rw [wrap_i64 (by omega) (by omega)]; omega
      cases hh : (quoted r).2 with
      | none =>
        rw [hh] at hq
        simp only at hq
        have hle : ((39 :: r : Str).length : Int) ≤ ((j + 1 : Nat) : Int) := by omega
        cases ht : decide ((quoted r).1 = []) with
        | true => simp only [cond_true, Option.bind_some]; rfl
        | false => simp only [cond_false, w1, hle, decide_true, cond_true, Option.bind_some]; rfl
      | some q =>
        rw [hh] at hq
        simp only at hq
        cases ht : decide ((quoted r).1 = []) with
        | true =>
          have : (quoted r).1 = [] := of_decide_eq_true ht
          simp only [cond_true, Option.bind_some, this]
          simp
          rfl
        | false =>
          have hne : (quoted r).1 ≠ [] := of_decide_eq_false ht
          have hpos : decide (0 < (quoted r).1.length) = true := decide_eq_true (List.length_pos_iff.2 hne)
          cases q with
          | nil =>
            have hle : ((39 :: r : Str).length : Int) ≤ ((j + 1 : Nat) : Int) := by
              have := congrArg List.length hq.2
              rw [List.length_drop, List.length_nil] at this
              omega
            simp only [cond_false, w1, hle, decide_true, cond_true, Option.bind_some]
            rfl
          | cons y q' =>
            obtain ⟨hl2, hy, hr'⟩ := drop_eq hq.2
            have hle : ¬ ((39 :: r : Str).length : Int) ≤ ((j + 1 : Nat) : Int) := by omega
            have hiy : idx (39 :: r) ((j + 1 : Nat) : Int) = some y := by rw [idx_nat, hy]
            have hc : cut (39 :: r) ((j + 2 : Nat) : Int) ((39 :: r : Str).length : Int) = some q' := by rw [cut_nat (by omega) (by omega), List.take_length, hr']
            have hb := byteIs y 33 (by omega)
            simp only [cond_false, w1, hle, decide_false, hiy, Option.bind_some, w2, hc, hpos, Bool.and_true]
            by_cases h33 : y = 33
            · have h1 : ofByte y = 33 := hb.2 h33
              subst h33
              simp [h1, Lib.hasPrefix, Lib.trimPrefix, List.isPrefixOf, Z0]
            · have h1 : ¬ ofByte y = 33 := fun e => h33 (hb.1 e)
              simp [h1, Lib.hasPrefix, List.isPrefixOf, Ne.symm h33, Z0]
    · have nx : ¬ (ofByte x = 39) := by rw [byte39]; exact h39
      have h := bang_loop hs Z0
      have h' : loop (chanceryref2_ReadRef_l578 (x :: r)) ((), [], x :: r, 0, ([], (0, (0, (0, (0, (0, (false, (false, (false, (false, ())))))))))), ()) = _ := h
      simp only [refHead, e0, Bool.not_false, cond_true, i0, Option.bind_some, nx, decide_false, cond_false, h', sheetOf, h39, if_false]
      cases (cutB 33 (x :: r)).2.2 <;> cases isPlain (cutB 33 (x :: r)).1 <;> simp
end Go.Proofs.YtfbnnjmhlkafiaaDoor
