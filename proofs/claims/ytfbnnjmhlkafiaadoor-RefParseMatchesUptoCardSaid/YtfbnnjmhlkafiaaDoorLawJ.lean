import Derived.Test.YtfbnnjmhlkafiaaDoorLawI
namespace Go.Proofs.YtfbnnjmhlkafiaaDoor
open Go Go.Fe

theorem strip_cases (s : Str) : ((s.takeWhile is36).length = 0 ∧ stripD s = (s.dropWhile is36, false)) ∨ ((s.takeWhile is36).length = 1 ∧ stripD s = (s.dropWhile is36, true)) ∨ (2 ≤ (s.takeWhile is36).length ∧ ∃ r, stripD s = (36 :: r, true)) := by
  match s with
  | [] => exact .inl ⟨rfl, rfl⟩
  | x :: r =>
    by_cases hx : x = 36
    · subst hx
      match r with
      | [] => exact .inr (.inl ⟨rfl, rfl⟩)
      | y :: t =>
        by_cases hy : y = 36
        · subst hy
          exact .inr (.inr ⟨by simp [is36], _, rfl⟩)
        · exact .inr (.inl ⟨by simp [is36, hy], by simp [stripD, is36, hy]⟩)
    · exact .inl ⟨by simp [is36, hx], by simp [stripD, is36, hx]⟩

theorem all_takeWhile (p : UInt8 → Bool) : ∀ s : Str, (s.takeWhile p).all p = true
  | [] => rfl
  | x :: r => by
    cases h : p x with
    | true => simp only [List.takeWhile_cons, h, if_true, List.all_cons, all_takeWhile p r, Bool.and_self]
    | false => simp [h]
theorem drop_more (s : Str) (i : Nat) (p : UInt8 → Bool) : s.drop (i + ((s.drop i).takeWhile p).length) = (s.drop i).dropWhile p := by
  rw [← drop_takeWhile p (s.drop i), List.drop_drop]
theorem len_more {s : Str} {i : Nat} (p : UInt8 → Bool) (h : i ≤ s.length) : i + ((s.drop i).takeWhile p).length ≤ s.length := by
  have := takeWhile_len p (s.drop i)
  rw [List.length_drop] at this
  omega
theorem lt_drop {s : Str} {i : Nat} (h : i ≤ s.length) : ((i : Int) < (s.length : Int)) ↔ ¬ s.drop i = [] := by
  rw [List.drop_eq_nil_iff]
  omega

theorem dec_loop {D : Str} (hD : D.length ≤ 10) (ha : D.all isDigit = true) (z9 : Unit × (Unit × (Unit × (Unit × (Str × ((Str × Unit) × ((Int × (Int × (Bool × (Bool × Unit)))) × ((Int × (Int × (Bool × (Bool × Unit)))) × ((Int × Unit) × Unit))))))))) (hz : z9.2.2.2.2.1 = D)
    (u v : Int × (Int × (Bool × (Bool × Unit)))) : loop (chanceryref2_readSide_l1622 z9) ((), (), 0, 0, u, v, ()) = some ((), (), (dec D : Int), u, v, ()) := by
  have hall := List.all_eq_true.1 ha
  have key : ∀ i, i < D.length → chanceryref2_readSide_l1622 z9 ((), (), (dec (D.take i) : Int), (i : Int), u, v, ()) = some (.inl ((), (), (dec (D.take (i + 1)) : Int), ((i + 1 : Nat) : Int), u, v, ())) := fun i hi => by
    have hg : ((i : Int) < (D.length : Int)) := by omega
    have h1 : isDigit D[i] = true := hall _ (List.getElem_mem hi)
    simp only [isDigit, decide_eq_true_eq] at h1
    have hs := dec_small (s := D.take i) (by simp; omega) (by rw [List.all_eq_true]; exact fun x hx => hall x (List.mem_of_mem_take hx))
    rw [dec_take hi]
    generalize dec (D.take i) = m at *
    simp only [chanceryref2_readSide_l1622, hz, hg, decide_true, cond_true, idx_lt hi, Option.bind_some, wrap_succ (i := i) (by omega), ofByte_eq]
    rw [wrap_u8i (by omega) (by omega), wrap_i64 (n := 10 * (m : Int)) (by omega) (by omega), wrap_i64 (n := ((D[i].toNat : Int) - 48)) (by omega) (by omega), wrap_i64 (by omega) (by omega)]
    have e : 10 * (m : Int) + ((D[i].toNat : Int) - 48) = ((10 * m + (D[i].toNat - 48) : Nat) : Int) := by omega
    rw [e]
  have he : chanceryref2_readSide_l1622 z9 ((), (), (dec (D.take D.length) : Int), (D.length : Int), u, v, ()) = some (.inr ((), (), (dec D : Int), u, v, ())) := by
    simp [chanceryref2_readSide_l1622, hz]
  have := (Halts.along (n := 0) (f := chanceryref2_readSide_l1622 z9) (fun i : Nat => ((), (), (dec (D.take i) : Int), (i : Int), u, v, ())) (r := ((), (), (dec D : Int), u, v, ())) D.length key (.done he)).loop (by omega)
  exact this

/-- The row, or -1; the column, or -1. -/
def rowV (s : Str) : Int := if sdN s = [] then -1 else (dec (sdN s) : Int) - 1
def colV (s : Str) : Int := if sdL s = [] then -1 else (number (sdL s) : Int) - 1

theorem head48 {D : Str} (h : D ≠ []) : ∃ c, idx D 0 = some c ∧ decide (ofByte c = 48) = Lib.hasPrefix D [48] := by
  cases D with
  | nil => exact absurd rfl h
  | cons c r =>
    refine ⟨c, rfl, ?_⟩
    have := byteIs c 48 (by omega)
    have e : (48 : UInt8) = UInt8.ofNat 48 := rfl
    simp only [Lib.hasPrefix, List.isPrefixOf, Bool.and_true]
    by_cases hc : c = 48
    · subst hc; rfl
    · have h1 : ¬ ofByte c = 48 := fun h => hc (this.1 h)
      simp [h1, Ne.symm hc]

noncomputable def sideTail (A W : Str) (z9 : (Unit × (Unit × (Unit × (Unit × (Str × ((Str × Unit) × ((Int × (Int × (Bool × (Bool × Unit)))) × ((Int × (Int × (Bool × (Bool × Unit)))) × ((Int × Unit) × Unit)))))))))) : Option ((Int × (Int × (Bool × (Bool × Unit)))) × (Int × Unit)) :=
  ((cond (decide (1 < (A.length : Int)))
  (some ((), (), true, z9.2.2.2.2.2.2.1, z9.2.2.2.2.2.2.2.1, ()))
  (let v10 : Bool := (decide (z9.2.2.2.2.2.2.2.2.1.1 < (z9.2.2.2.2.2.1.1.length : Int)))
  cond v10
  (some ((), (), true, z9.2.2.2.2.2.2.1, z9.2.2.2.2.2.2.2.1, ()))
  (cond (decide (W = []))
  (let v11 : Bool := ((decide (z9.2.2.2.2.1 = [])))
  cond v11
  (some ((), (), true, z9.2.2.2.2.2.2.1, z9.2.2.2.2.2.2.2.1, ()))
  (cond ((decide (7 < (W.length : Int))))
  (some ((), (), true, z9.2.2.2.2.2.2.1, z9.2.2.2.2.2.2.2.1, ()))
  (cond ((decide (10 < (z9.2.2.2.2.1.length : Int))))
  (some ((), (), true, z9.2.2.2.2.2.2.1, z9.2.2.2.2.2.2.2.1, ()))
  (cond (!decide (z9.2.2.2.2.1 = []))
  ((idx z9.2.2.2.2.1 0).bind fun v12 =>
  let v13 : Bool := ((decide ((ofByte v12) = 48)))
  some ((), (), v13, z9.2.2.2.2.2.2.1, z9.2.2.2.2.2.2.2.1, ()))
  (some ((), (), false, z9.2.2.2.2.2.2.1, z9.2.2.2.2.2.2.2.1, ()))))))
  (cond (false)
  (some ((), (), true, z9.2.2.2.2.2.2.1, z9.2.2.2.2.2.2.2.1, ()))
  (cond ((decide (7 < (W.length : Int))))
  (some ((), (), true, z9.2.2.2.2.2.2.1, z9.2.2.2.2.2.2.2.1, ()))
  (cond ((decide (10 < (z9.2.2.2.2.1.length : Int))))
  (some ((), (), true, z9.2.2.2.2.2.2.1, z9.2.2.2.2.2.2.2.1, ()))
  (cond (!decide (z9.2.2.2.2.1 = []))
  ((idx z9.2.2.2.2.1 0).bind fun v14 =>
  let v15 : Bool := ((decide ((ofByte v14) = 48)))
  some ((), (), v15, z9.2.2.2.2.2.2.1, z9.2.2.2.2.2.2.2.1, ()))
  (some ((), (), false, z9.2.2.2.2.2.2.1, z9.2.2.2.2.2.2.2.1, ())))))))) : Option (Unit × (Unit × (Bool × ((Int × (Int × (Bool × (Bool × Unit)))) × ((Int × (Int × (Bool × (Bool × Unit)))) × Unit)))))).bind fun r16 =>
  cond r16.2.2.1
  (let v17 : (Int × (Int × (Bool × (Bool × Unit)))) := r16.2.2.2.2.1
  some (v17, 0, ()))
  ((cond (!decide (z9.2.2.2.2.1 = []))
  ((loop (chanceryref2_readSide_l1622 z9) ((), (), 0, 0, r16.2.2.2.1, r16.2.2.2.2.1, ())).bind fun r20 =>
  some ((), (), r20.2.2.2.1, (IntKind.i64.wrap (r20.2.2.1 - 1), r20.2.2.2.2.1.2), ()))
  (some ((), (), r16.2.2.2.1, r16.2.2.2.2.1, ())) : Option (Unit × (Unit × ((Int × (Int × (Bool × (Bool × Unit)))) × ((Int × (Int × (Bool × (Bool × Unit)))) × Unit))))).bind fun r21 =>
  (cond (!decide (W = []))
  ((chanceryref2_Column W).bind fun v22 =>
  some ((), (), r21.2.2.1, (r21.2.2.2.1.1, (v22.1, r21.2.2.2.1.2.2)), ()))
  (some ((), (), r21.2.2.1, r21.2.2.2.1, ())) : Option (Unit × (Unit × ((Int × (Int × (Bool × (Bool × Unit)))) × ((Int × (Int × (Bool × (Bool × Unit)))) × Unit))))).bind fun r23 =>
  (cond (decide (1073741824 ≤ r23.2.2.2.1.1))
  (some ((), (), true, r23.2.2.1, r23.2.2.2.1, ()))
  (some ((), (), (decide (1073741824 ≤ r23.2.2.2.1.2.1)), r23.2.2.1, r23.2.2.2.1, ())) : Option (Unit × (Unit × (Bool × ((Int × (Int × (Bool × (Bool × Unit)))) × ((Int × (Int × (Bool × (Bool × Unit)))) × Unit)))))).bind fun r24 =>
  cond r24.2.2.1
  (let v25 : (Int × (Int × (Bool × (Bool × Unit)))) := r24.2.2.2.2.1
  some (v25, 2, ()))
  (let v26 : (Int × (Int × (Bool × (Bool × Unit)))) := r24.2.2.2.2.1
  some (v26, 1, ()))))

theorem readSide_def (a0 : Str) : chanceryref2_readSide a0 =
  ((chanceryref2_readSide_1 0 a0).bind fun v1 =>
  (chanceryref2_readSide_1x v1.2.2.2.1.1 v1.2.2.2.2.1.1).bind fun v2 =>
  (cond (decide (v2.1 = []))
  ((chanceryref2_readSide_1xx v2.2.2.2.1.1 v2.2.2.2.2.1.1).bind fun v3 =>
  some (.inl ((), (), (), (), v3.1, v3.2.2.2.2.1, (0, (0, (false, (false, ())))), ((-1), ((-1), (decide ((v1.1.length : Int) = 1), (false, ())))), v3.2.2.2.1, ())))
  ((chanceryref2_readSide_1xxx v2.2.2.2.1.1 v2.2.2.2.2.1.1).bind fun v4 =>
  (chanceryref2_readSide_1xx v4.2.2.2.1.1 v4.2.2.2.2.1.1).bind fun v5 =>
  (cond (decide (1 < (v4.1.length : Int)))
  (some ((), (), (), (), true, v5.2.2.2.2.1, (0, (0, (false, (false, ())))), ((-1), ((-1), (false, (decide ((v1.1.length : Int) = 1), ())))), v5.2.2.2.1, ()))
  (cond (decide ((v4.1.length : Int) = 1))
  (some ((), (), (), (), ((decide (v5.1 = []))), v5.2.2.2.2.1, (0, (0, (false, (false, ())))), ((-1), ((-1), (false, (decide ((v1.1.length : Int) = 1), ())))), v5.2.2.2.1, ()))
  (some ((), (), (), (), false, v5.2.2.2.2.1, (0, (0, (false, (false, ())))), ((-1), ((-1), (false, (decide ((v1.1.length : Int) = 1), ())))), v5.2.2.2.1, ()))) : Option (Unit × (Unit × (Unit × (Unit × (Bool × ((Str × Unit) × ((Int × (Int × (Bool × (Bool × Unit)))) × ((Int × (Int × (Bool × (Bool × Unit)))) × ((Int × Unit) × Unit)))))))))).bind fun r6 =>
  cond r6.2.2.2.2.1
  (let v7 : (Int × (Int × (Bool × (Bool × Unit)))) := r6.2.2.2.2.2.2.2.1
  some (.inr ((), 0, v7, ())))
  (some (.inl ((), (), (), (), v5.1, r6.2.2.2.2.2.1, r6.2.2.2.2.2.2.1, (r6.2.2.2.2.2.2.2.1.1, (r6.2.2.2.2.2.2.2.1.2.1, (decide ((v4.1.length : Int) = 1), r6.2.2.2.2.2.2.2.1.2.2.2))), r6.2.2.2.2.2.2.2.2.1, ())))) : Option ((Unit × (Unit × (Unit × (Unit × (Str × ((Str × Unit) × ((Int × (Int × (Bool × (Bool × Unit)))) × ((Int × (Int × (Bool × (Bool × Unit)))) × ((Int × Unit) × Unit))))))))) ⊕ (Unit × (Int × ((Int × (Int × (Bool × (Bool × Unit)))) × Unit))))).bind fun r8 =>
  (match r8 with
  | .inl z9 => sideTail v1.1 v2.1 z9
  | .inr z27 => (some (z27.2.2.1, z27.2.1, ())))) := rfl

theorem sideTail_eq {s A W D : Str} {i : Nat} {ar ac : Bool} (x : Int × (Int × (Bool × (Bool × Unit)))) (hi : i ≤ s.length) (hW : W.all isLetter = true) (hD : D.all isDigit = true) :
    (((decide (1 < A.length) || (!decide (s.drop i = []) || ((decide (W = []) && decide (D = [])) || (decide (7 < W.length) || (decide (10 < D.length) || Lib.hasPrefix D [48]))))) = true →
      ∃ o, sideTail A W ((), (), (), (), D, (s, ()), x, (-1, -1, ar, ac, ()), ((i : Int), ()), ()) = some (o, 0, ())) ∧
    ((decide (1 < A.length) || (!decide (s.drop i = []) || ((decide (W = []) && decide (D = [])) || (decide (7 < W.length) || (decide (10 < D.length) || Lib.hasPrefix D [48]))))) = false →
      sideTail A W ((), (), (), (), D, (s, ()), x, (-1, -1, ar, ac, ()), ((i : Int), ()), ()) = some ((if D = [] then -1 else (dec D : Int) - 1, if W = [] then -1 else (number W : Int) - 1, ar, ac, ()),
        if 1073741824 ≤ (if D = [] then -1 else (dec D : Int) - 1) ∨ 1073741824 ≤ (if W = [] then -1 else (number W : Int) - 1) then 2 else 1, ()))) := by
  have u1 : decide ((1 : Int) < (A.length : Int)) = decide (1 < A.length) := by simp only [decide_eq_decide]; omega
  have u7 : decide ((7 : Int) < (W.length : Int)) = decide (7 < W.length) := by simp only [decide_eq_decide]; omega
  have u10 : decide ((10 : Int) < (D.length : Int)) = decide (10 < D.length) := by simp only [decide_eq_decide]; omega
  have ui : decide ((i : Int) < (s.length : Int)) = !decide (s.drop i = []) := by
    by_cases h : s.drop i = []
    · have := (not_congr (lt_drop hi)).2 (by simp [h])
      simp [h, this]
    · have := (lt_drop hi).2 h
      simp [h, this]
  have ci : ∀ (b : Bool) (y z : Option ((Int × (Int × (Bool × (Bool × Unit)))) × (Int × Unit))), b = true → cond b y z = y := fun b y z h => by rw [h]; rfl
  cases p1 : decide (1 < A.length) with
  | true => exact ⟨fun _ => ⟨_, by simp only [sideTail, u1, p1, cond_true, Option.bind_some]; rfl⟩, fun h => by simp at h⟩
  | false =>
  cases p2 : decide (s.drop i = []) with
  | false => exact ⟨fun _ => ⟨_, by simp only [sideTail, u1, p1, ui, p2, Bool.not_false, cond_true, cond_false, Option.bind_some]; rfl⟩, fun h => by simp at h⟩
  | true =>
  cases pW : decide (W = []) with
  | true =>
    have hW0 : W = [] := of_decide_eq_true pW
    cases pD : decide (D = []) with
    | true => exact ⟨fun _ => ⟨_, by simp only [sideTail, u1, p1, ui, p2, pW, pD, Bool.not_true, cond_true, cond_false, Option.bind_some]; rfl⟩, fun h => by simp at h⟩
    | false =>
    have hD0 : D ≠ [] := of_decide_eq_false pD
    have p7' : decide (7 < W.length) = false := by rw [hW0]; rfl
    have p7 : decide ((7 : Int) < (W.length : Int)) = false := by rw [u7, p7']
    cases p10 : decide (10 < D.length) with
    | true => exact ⟨fun _ => ⟨_, by simp only [sideTail, u1, p1, ui, p2, pW, pD, p7, u10, p10, Bool.not_true, cond_true, cond_false, Option.bind_some]; rfl⟩, fun h => by simp at h⟩
    | false =>
    obtain ⟨c, hc, hc48⟩ := head48 hD0
    have hlen : D.length ≤ 10 := by have := of_decide_eq_false p10; omega
    have hds := dec_small hlen hD
    have dl := dec_loop hlen hD ((), (), (), (), D, (s, ()), x, (-1, -1, ar, ac, ()), ((i : Int), ()), ()) rfl
    have wd := wrap_i64 (n := (dec D : Int) - 1) (by omega) (by omega)
    cases p48 : Lib.hasPrefix D [48] with
    | true =>
      rw [p48] at hc48
      exact ⟨fun _ => ⟨_, by simp only [sideTail, u1, p1, ui, p2, pW, pD, p7, u10, p10, hc, hc48, Bool.not_true, Bool.not_false, cond_true, cond_false, Option.bind_some]; rfl⟩, fun h => by simp at h⟩
    | false =>
      rw [p48] at hc48
      refine ⟨fun h => by simp [hW0] at h, fun _ => ?_⟩
      simp only [sideTail, u1, p1, ui, p2, pW, pD, p7, u10, p10, hc, hc48, Bool.not_true, Bool.not_false, cond_true, cond_false, Option.bind_some, dl, wd, hD0, hW0, if_false, if_true, decide_true]
      by_cases g : 1073741824 ≤ (dec D : Int) - 1 <;> simp [g]
  | false =>
    have hW0 : W ≠ [] := of_decide_eq_false pW
    cases p7 : decide (7 < W.length) with
    | true => exact ⟨fun _ => ⟨_, by simp only [sideTail, u1, p1, ui, p2, pW, u7, p7, Bool.not_true, cond_true, cond_false, Option.bind_some]; rfl⟩, fun h => by simp at h⟩
    | false =>
    have hlW : W.length ≤ 7 := by have := of_decide_eq_false p7; omega
    have hcol := RColumn_eq hW0 hlW hW
    cases p10 : decide (10 < D.length) with
    | true => exact ⟨fun _ => ⟨_, by simp only [sideTail, u1, p1, ui, p2, pW, u7, p7, u10, p10, Bool.not_true, cond_true, cond_false, Option.bind_some]; rfl⟩, fun h => by simp at h⟩
    | false =>
    have hlen : D.length ≤ 10 := by have := of_decide_eq_false p10; omega
    have hds := dec_small hlen hD
    have dl := dec_loop hlen hD ((), (), (), (), D, (s, ()), x, (-1, -1, ar, ac, ()), ((i : Int), ()), ()) rfl
    have wd := wrap_i64 (n := (dec D : Int) - 1) (by omega) (by omega)
    cases pD : decide (D = []) with
    | true =>
      have hD0 : D = [] := of_decide_eq_true pD
      subst hD0
      refine ⟨fun h => by simp [Lib.hasPrefix, List.isPrefixOf] at h, fun _ => ?_⟩
      simp only [sideTail, u1, p1, ui, p2, pW, u7, p7, u10, p10, pD, Bool.not_true, Bool.not_false, cond_true, cond_false, Option.bind_some, hcol, hW0, if_false, if_true]
      by_cases g : 1073741824 ≤ (number W : Int) - 1 <;> simp [g]
    | false =>
    have hD0 : D ≠ [] := of_decide_eq_false pD
    obtain ⟨c, hc, hc48⟩ := head48 hD0
    cases p48 : Lib.hasPrefix D [48] with
    | true =>
      rw [p48] at hc48
      exact ⟨fun _ => ⟨_, by simp only [sideTail, u1, p1, ui, p2, pW, pD, u7, p7, u10, p10, hc, hc48, Bool.not_true, Bool.not_false, cond_true, cond_false, Option.bind_some]; rfl⟩, fun h => by simp at h⟩
    | false =>
      rw [p48] at hc48
      refine ⟨fun h => by simp at h, fun _ => ?_⟩
      simp only [sideTail, u1, p1, ui, p2, pW, pD, u7, p7, u10, p10, hc, hc48, Bool.not_true, Bool.not_false, cond_true, cond_false, Option.bind_some, dl, wd, hD0, hcol, hW0, if_false]
      by_cases g : 1073741824 ≤ (dec D : Int) - 1 <;> by_cases g' : 1073741824 ≤ (number W : Int) - 1 <;> simp [g, g']

theorem readSide_eq {s : Str} (hs : s.length ≤ 500) :
    (sdFine s = false → ∃ o, chanceryref2_readSide s = some (o, 0, ())) ∧
    (sdFine s = true → chanceryref2_readSide s = some ((rowV s, colV s, sdR s, sdC s, ()), if 1073741824 ≤ rowV s ∨ 1073741824 ≤ colV s then 2 else 1, ())) := by
  have hA : ∃ A, s.takeWhile is36 = A := ⟨_, rfl⟩
  obtain ⟨A, hA⟩ := hA
  have h1 := take1 (s := s) (i := 0) (by omega) (by omega)
  rw [List.drop_zero, hA, Nat.zero_add] at h1
  have hA1 : A.length ≤ s.length := by rw [← hA]; exact takeWhile_len _ _
  have d1 : s.drop A.length = s.dropWhile is36 := by rw [← hA]; exact drop_takeWhile _ _
  have h2 := take2 (s := s) (i := A.length) hA1 (by omega)
  rw [d1] at h2
  obtain ⟨W, hW⟩ : ∃ W, (s.dropWhile is36).takeWhile isLetter = W := ⟨_, rfl⟩
  rw [hW] at h2
  have hW1 : A.length + W.length ≤ s.length := by have := len_more isLetter hA1; rwa [d1, hW] at this
  have d2 : s.drop (A.length + W.length) = (s.dropWhile is36).dropWhile isLetter := by have := drop_more s A.length isLetter; rwa [d1, hW] at this
  have h3 := take3 (s := s) (i := A.length + W.length) hW1 (by omega)
  have h4 := take4 (s := s) (i := A.length + W.length) hW1 (by omega)
  obtain ⟨s2, hs2⟩ : ∃ s2, (s.dropWhile is36).dropWhile isLetter = s2 := ⟨_, rfl⟩
  rw [d2, hs2] at h3 h4
  rw [hs2] at d2
  have hWl : W.all isLetter = true := by rw [← hW]; exact all_takeWhile _ _
  have hd : ∀ r : Str, (36 :: r).takeWhile isLetter = [] ∧ (36 :: r).dropWhile isLetter = 36 :: r ∧ (36 :: r).takeWhile isDigit = [] ∧ (36 :: r).dropWhile isDigit = 36 :: r := fun r => ⟨rfl, rfl, rfl, rfl⟩
  have x0 : ((0 : Int), ((0 : Int), (false, (false, ())))) = (0, (0, (false, (false, ())))) := rfl
  rw [readSide_def, show (0 : Int) = ((0 : Nat) : Int) from rfl, h1]
  simp only [Option.bind_some, h2]
  -- behind the letters
  have i3 := len_more is36 hW1
  rw [d2] at i3
  obtain ⟨B, hB⟩ : ∃ B, s2.takeWhile is36 = B := ⟨_, rfl⟩
  obtain ⟨s3, hs3⟩ : ∃ s3, s2.dropWhile is36 = s3 := ⟨_, rfl⟩
  rw [hB] at i3 h4
  have h5 := take3 (s := s) (i := A.length + W.length + B.length) i3 (by omega)
  have d3 : s.drop (A.length + W.length + B.length) = s3 := by have := drop_more s (A.length + W.length) is36; rwa [d2, hB, hs3] at this
  rw [d3] at h5
  have i4 := len_more isDigit i3
  rw [d3] at i4
  have i4' := len_more isDigit hW1
  rw [d2] at i4'
  have d4 : s.drop (A.length + W.length + B.length + (s3.takeWhile isDigit).length) = s3.dropWhile isDigit := by have := drop_more s (A.length + W.length + B.length) isDigit; rwa [d3] at this
  have d4' : s.drop (A.length + W.length + (s2.takeWhile isDigit).length) = s2.dropWhile isDigit := by have := drop_more s (A.length + W.length) isDigit; rwa [d2] at this
  have t1 := sideTail_eq (A := A) (W := W) (D := s3.takeWhile isDigit) (ar := decide ((B.length : Int) = 1)) (ac := decide ((A.length : Int) = 1)) (0, (0, (false, (false, ())))) i4 hWl (all_takeWhile _ _)
  have t2 := sideTail_eq (A := A) (W := W) (D := s2.takeWhile isDigit) (ar := decide ((A.length : Int) = 1)) (ac := false) (0, (0, (false, (false, ())))) i4' hWl (all_takeWhile _ _)
  rw [d4] at t1
  rw [d4'] at t2
  have hAc : ∀ b : Bool, (b = true → A.length = 1) → (b = false → A.length = 0) → decide ((A.length : Int) = 1) = b := by
    intro b ht hf
    cases b with
    | true => rw [ht rfl]; rfl
    | false => rw [hf rfl]; rfl
  rcases Nat.lt_or_ge 1 A.length with hbig | hsmall
  · -- two marks
    have hst : ∃ r, stripD s = (36 :: r, true) := by
      rcases strip_cases s with ⟨h, _⟩ | ⟨h, _⟩ | ⟨_, h⟩
      · rw [hA] at h; omega
      · rw [hA] at h; omega
      · exact h
    obtain ⟨r, hst⟩ := hst
    have hL : sdL s = [] := by simp only [sdL, hst]; exact (hd r).1
    have hU : sdU s = 36 :: r := by simp only [sdU, hst]; exact (hd r).2.1
    have hE : sdE s = (36 :: r, true) := by simp only [sdE, hL, if_true, hU, hst]
    have hV : sdV s = 36 :: r := by simp only [sdV, hE]; exact (hd r).2.2.2
    have hf : sdFine s = false := by simp [sdFine, hV]
    refine ⟨fun _ => ?_, fun h => by rw [hf] at h; cases h⟩
    have hb : decide (1 < A.length) = true := decide_eq_true hbig
    cases pW : decide (W = []) with
    | true =>
      simp only [h3, Option.bind_some, cond_true]
      exact t2.1 (by rw [hb]; rfl)
    | false =>
      have tl := t1.1 (by rw [hb]; rfl)
      simp only [h4, Option.bind_some, cond_false, h5]
      by_cases b1 : 1 < B.length
      · have e1 : decide ((1 : Int) < (B.length : Int)) = true := by rw [decide_eq_true_eq]; omega
        simp only [e1, cond_true, Option.bind_some]
        exact ⟨_, rfl⟩
      · have e1 : decide ((1 : Int) < (B.length : Int)) = false := by rw [decide_eq_false_iff_not]; omega
        by_cases b2 : B.length = 1
        · have e2 : decide ((B.length : Int) = 1) = true := by rw [decide_eq_true_eq]; omega
          rw [e2] at tl
          cases pD : decide (s3.takeWhile isDigit = []) with
          | true => simp only [e1, e2, pD, cond_true, cond_false, Option.bind_some]; exact ⟨_, rfl⟩
          | false => simp only [e1, e2, pD, cond_true, cond_false, Option.bind_some]; exact tl
        · have e2 : decide ((B.length : Int) = 1) = false := by rw [decide_eq_false_iff_not]; omega
          rw [e2] at tl
          simp only [e1, e2, cond_false, Option.bind_some]
          exact tl
  · -- one mark or none
    have hst : stripD s = (s.dropWhile is36, decide ((A.length : Int) = 1)) := by
      rcases strip_cases s with ⟨h, h'⟩ | ⟨h, h'⟩ | ⟨h, _⟩
      · rw [hA] at h; rw [h', h]; rfl
      · rw [hA] at h; rw [h', h]; rfl
      · rw [hA] at h; omega
    have hL : sdL s = W := by simp only [sdL, hst]; exact hW
    have hU : sdU s = s2 := by simp only [sdU, hst]; exact hs2
    have hb : decide (1 < A.length) = false := decide_eq_false (by omega)
    cases pW : decide (W = []) with
    | true =>
      have hW0 : W = [] := of_decide_eq_true pW
      have hE : sdE s = (s2, decide ((A.length : Int) = 1)) := by simp only [sdE, hL, hW0, if_true, hU, hst]
      have hN : sdN s = s2.takeWhile isDigit := by simp only [sdN, hE]
      have hV : sdV s = s2.dropWhile isDigit := by simp only [sdV, hE]
      have hR : sdR s = decide ((A.length : Int) = 1) := by simp only [sdR, hE]
      have hC : sdC s = false := by simp [sdC, hL, hW0]
      have w7 : decide (7 < W.length) = false := by rw [hW0]; rfl
      have w7' : decide (W.length ≤ 7) = true := by rw [hW0]; rfl
      have n10 : decide (10 < (s2.takeWhile isDigit).length) = !decide ((s2.takeWhile isDigit).length ≤ 10) := by
        by_cases h : (s2.takeWhile isDigit).length ≤ 10
        · simp [h]
        · simp [h]; omega
      simp only [h3, Option.bind_some, cond_true]
      rw [hb, w7, n10, pW] at t2
      simp only [sdFine, hL, hN, hV, hR, pW, w7', rowV, colV, hC]
      constructor
      · intro hfine
        apply t2.1
        revert hfine
        cases decide (s2.dropWhile isDigit = []) <;> cases decide (s2.takeWhile isDigit = []) <;> cases decide ((s2.takeWhile isDigit).length ≤ 10) <;> cases Lib.hasPrefix (s2.takeWhile isDigit) [48] <;> simp
      · intro hfine
        apply t2.2
        revert hfine
        cases decide (s2.dropWhile isDigit = []) <;> cases decide (s2.takeWhile isDigit = []) <;> cases decide ((s2.takeWhile isDigit).length ≤ 10) <;> cases Lib.hasPrefix (s2.takeWhile isDigit) [48] <;> simp
    | false =>
      have hW0 : W ≠ [] := of_decide_eq_false pW
      have hC : sdC s = decide ((A.length : Int) = 1) := by simp [sdC, hL, hW0, hst]
      simp only [h4, Option.bind_some, cond_false, h5]
      rcases Nat.lt_or_ge 1 B.length with b1 | b1
      · have hst2 : ∃ r, stripD s2 = (36 :: r, true) := by
          rcases strip_cases s2 with ⟨h, _⟩ | ⟨h, _⟩ | ⟨_, h⟩
          · rw [hB] at h; omega
          · rw [hB] at h; omega
          · exact h
        obtain ⟨r, hst2⟩ := hst2
        have hE : sdE s = (36 :: r, true) := by simp only [sdE, hL, hW0, if_false, hU, hst2]
        have hV : sdV s = 36 :: r := by simp only [sdV, hE]; exact (hd r).2.2.2
        have hf : sdFine s = false := by simp [sdFine, hV]
        have e1 : decide ((1 : Int) < (B.length : Int)) = true := by rw [decide_eq_true_eq]; omega
        refine ⟨fun _ => ?_, fun h => by rw [hf] at h; cases h⟩
        simp only [e1, cond_true, Option.bind_some]
        exact ⟨_, rfl⟩
      · have e1 : decide ((1 : Int) < (B.length : Int)) = false := by rw [decide_eq_false_iff_not]; omega
        have hst2 : stripD s2 = (s3, decide ((B.length : Int) = 1)) := by
          rcases strip_cases s2 with ⟨h, h'⟩ | ⟨h, h'⟩ | ⟨h, _⟩
          · rw [hB] at h; rw [h', h, hs3]; rfl
          · rw [hB] at h; rw [h', h, hs3]; rfl
          · rw [hB] at h; omega
        have hE : sdE s = (s3, decide ((B.length : Int) = 1)) := by simp only [sdE, hL, hW0, if_false, hU, hst2]
        have hN : sdN s = s3.takeWhile isDigit := by simp only [sdN, hE]
        have hV : sdV s = s3.dropWhile isDigit := by simp only [sdV, hE]
        have hR : sdR s = decide ((B.length : Int) = 1) := by simp only [sdR, hE]
        have w7 : decide (7 < W.length) = !decide (W.length ≤ 7) := by
          by_cases h : W.length ≤ 7
          · simp [h]
          · simp [h]; omega
        have n10 : decide (10 < (s3.takeWhile isDigit).length) = !decide ((s3.takeWhile isDigit).length ≤ 10) := by
          by_cases h : (s3.takeWhile isDigit).length ≤ 10
          · simp [h]
          · simp [h]; omega
        rw [hb, w7, n10, pW] at t1
        simp only [sdFine, hL, hN, hV, hR, pW, rowV, colV, hC]
        by_cases b2 : B.length = 1
        · have e2 : decide ((B.length : Int) = 1) = true := by rw [decide_eq_true_eq]; omega
          rw [e2] at t1 ⊢
          cases pD : decide (s3.takeWhile isDigit = []) with
          | true =>
            simp only [e1, cond_true, cond_false, Option.bind_some]
            exact ⟨fun _ => ⟨_, rfl⟩, fun h => by simp at h⟩
          | false =>
            simp only [e1, cond_true, cond_false, Option.bind_some]
            rw [pD] at t1
            constructor
            · intro hfine
              apply t1.1
              revert hfine
              cases decide (s3.dropWhile isDigit = []) <;> cases decide (W.length ≤ 7) <;> cases decide ((s3.takeWhile isDigit).length ≤ 10) <;> cases Lib.hasPrefix (s3.takeWhile isDigit) [48] <;> simp
            · intro hfine
              apply t1.2
              revert hfine
              cases decide (s3.dropWhile isDigit = []) <;> cases decide (W.length ≤ 7) <;> cases decide ((s3.takeWhile isDigit).length ≤ 10) <;> cases Lib.hasPrefix (s3.takeWhile isDigit) [48] <;> simp
        · have e2 : decide ((B.length : Int) = 1) = false := by rw [decide_eq_false_iff_not]; omega
          rw [e2] at t1 ⊢
          simp only [e1, cond_false, Option.bind_some]
          constructor
          · intro hfine
            apply t1.1
            revert hfine
            cases decide (s3.dropWhile isDigit = []) <;> cases decide (W.length ≤ 7) <;> cases decide ((s3.takeWhile isDigit).length ≤ 10) <;> cases Lib.hasPrefix (s3.takeWhile isDigit) [48] <;> cases decide (s3.takeWhile isDigit = []) <;> simp
          · intro hfine
            apply t1.2
            revert hfine
            cases decide (s3.dropWhile isDigit = []) <;> cases decide (W.length ≤ 7) <;> cases decide ((s3.takeWhile isDigit).length ≤ 10) <;> cases Lib.hasPrefix (s3.takeWhile isDigit) [48] <;> cases decide (s3.takeWhile isDigit = []) <;> simp
end Go.Proofs.YtfbnnjmhlkafiaaDoor
