import Derived.Test.YtmnegopgidckoaaDoorLawF
namespace Go.Proofs.YtmnegopgidckoaaDoor
open Go Go.Fe

theorem idx_some {s : Str} {i : Nat} (h : i < s.length) : idx s (i : Int) = some (s.getD i 0) := by rw [idx_lt h, getD_lt h]
theorem cut_drop {s : Str} {i : Nat} (h : i ≤ s.length) : cut s (i : Int) (s.length : Int) = some (s.drop i) := by
  rw [cut_nat h (Nat.le_refl _), List.take_length]
theorem sp_nib_le (r : Str) : ∀ k, nib r k ≤ 15 := nib_le r

theorem mk_int {α : Type} {n : Int} (m : Nat) (h : n = (m : Int)) (hm : m ≤ 68719476736) (z : α) : mk n n z = some (List.replicate m z) := by
  subst h
  exact mk_nat hm
/-- The ways ahead of the codes; what follows is T. -/
theorem chain (md : UInt8) (r : Str) (n : Nat) (T : Option (Str × (Int × Unit))) (y : Str × Nat) (hT : ¬ r.length < 136 → T = some (y.1, (y.2 : Int), ())) :
    (cond (decide (1 < (ofByte md)))
  (some ([], 8, ()))
  ((cond (decide ((ofByte md) = 0))
  (some ((decide ((r.length : Int) < (n : Int))), ()))
  (some (false, ())) : Option (Bool × Unit)).bind fun r12 =>
  cond r12.1
  (some ([], 11, ()))
  ((cond (decide ((ofByte md) = 0))
  (some ((decide ((n : Int) < (r.length : Int))), ()))
  (some (false, ())) : Option (Bool × Unit)).bind fun r13 =>
  cond r13.1
  (some ([], 4, ()))
  (cond (decide ((ofByte md) = 0))
  (some (r, 0, ()))
  (cond (decide ((r.length : Int) < 136))
  (some ([], 11, ()))
  T)))) : Option (Str × (Int × Unit))) = some ((if 1 < md.toNat then ([], 8)
  else if md.toNat = 0 then
    if r.length < n then ([], 11) else if n < r.length then ([], 4) else (r, 0)
  else if r.length < 136 then ([], 11) else y).1, ((if 1 < md.toNat then ([], 8)
  else if md.toNat = 0 then
    if r.length < n then ([], 11) else if n < r.length then ([], 4) else (r, 0)
  else if r.length < 136 then ([], 11) else y).2 : Int), ()) := by
  by_cases h1 : 1 < md.toNat
  · have c1 : (1 < ofByte md) := by rw [ofByte_eq]; omega
    simp only [c1, decide_true, cond_true, if_pos h1]
    rfl
  · have c1 : ¬(1 < ofByte md) := by rw [ofByte_eq]; omega
    by_cases h0 : md.toNat = 0
    · have c0 : decide (ofByte md = 0) = true := by rw [ofByte_eq]; simp [h0]
      by_cases g1 : r.length < n
      · have d1 : ((r.length : Int) < (n : Int)) := by omega
        simp only [c1, decide_false, cond_false, c0, cond_true, Option.bind_some, d1, decide_true, if_pos g1, if_neg h1, if_pos h0]
        rfl
      · have d1 : ¬((r.length : Int) < (n : Int)) := by omega
        by_cases g2 : n < r.length
        · have d2 : ((n : Int) < (r.length : Int)) := by omega
          simp only [c1, decide_false, cond_false, c0, cond_true, Option.bind_some, d1, d2, decide_true, if_neg g1, if_pos g2, if_neg h1, if_pos h0]
          rfl
        · have d2 : ¬((n : Int) < (r.length : Int)) := by omega
          simp only [c1, decide_false, cond_false, c0, cond_true, Option.bind_some, d1, d2, if_neg g1, if_neg g2, if_neg h1, if_pos h0]
          rfl
    · have c0 : decide (ofByte md = 0) = false := by rw [ofByte_eq]; simp; omega
      by_cases g1 : r.length < 136
      · have d1 : ((r.length : Int) < 136) := by omega
        simp only [c1, decide_false, cond_false, c0, Option.bind_some, d1, decide_true, cond_true, if_pos g1, if_neg h1, if_neg h0]
        rfl
      · have d1 : ¬((r.length : Int) < 136) := by omega
        simp only [c1, decide_false, cond_false, c0, Option.bind_some, d1, if_neg g1, if_neg h1, if_neg h0]
        exact hT g1
theorem rchain (md : UInt8) (r : Str) (n : Nat) (T : Option (Str × (Int × Unit))) (y : Str × Nat) (hT : ¬ r.length < 136 → T = some (y.1, (y.2 : Int), ())) :
    (cond (decide (1 < (ofByte md)))
  (some ([], 8, ()))
  (cond (decide ((ofByte md) = 0))
  (cond (decide ((r.length : Int) < (n : Int)))
  (some ([], 11, ()))
  (cond (decide ((n : Int) < (r.length : Int)))
  (some ([], 4, ()))
  (some (r, 0, ()))))
  (cond (decide ((r.length : Int) < 136))
  (some ([], 11, ()))
  T)) : Option (Str × (Int × Unit))) = some ((if 1 < md.toNat then ([], 8)
  else if md.toNat = 0 then
    if r.length < n then ([], 11) else if n < r.length then ([], 4) else (r, 0)
  else if r.length < 136 then ([], 11) else y).1, ((if 1 < md.toNat then ([], 8)
  else if md.toNat = 0 then
    if r.length < n then ([], 11) else if n < r.length then ([], 4) else (r, 0)
  else if r.length < 136 then ([], 11) else y).2 : Int), ()) := by
  rw [← chain md r n T y hT]
  generalize decide (1 < ofByte md) = b1
  generalize decide (ofByte md = 0) = b2
  generalize decide ((r.length : Int) < (n : Int)) = b3
  generalize decide ((n : Int) < (r.length : Int)) = b4
  generalize decide ((r.length : Int) < 136) = b5
  cases b1 <;> cases b2 <;> cases b3 <;> cases b4 <;> cases b5 <;> rfl

theorem Unpack_rest (r : Str) (n : Nat) (hn : n ≤ 4294967296) (hr : ¬ r.length < 136) (hr' : r.length ≤ 2000000) : ((mk 272 272 0).bind fun v14 =>
  (loop (squash_Unpack_l336 v14 r) ((), 0, v14, ())).bind fun r20 =>
  (squash_codes r20.2.1).bind fun v21 =>
  cond (!v21.2.1)
  (some ([], 4, ()))
  ((cut r 136 (r.length : Int)).bind fun v22 =>
  (squash_newDecoder r20.2.1).bind fun v23 =>
  (squash_unpacked (n : Int) v22 0 v23.2.1.1 v23.2.1.2.1 v23.2.2.1).bind fun v24 =>
  some (v24.1, v24.2.1, ())) : Option (Str × (Int × Unit))) = some ((if sp (nib r) 272 15 ≤ 32768 then body (r.drop 136) (nib r) n else ([], 4)).1, ((if sp (nib r) 272 15 ≤ 32768 then body (r.drop 136) (nib r) n else ([], 4)).2 : Int), ()) := by
  have hlen := lengths_loop r (by omega)
  obtain ⟨o, hcodes⟩ := codes_eq (nib r)
  have hmk : mk (272 : Int) 272 (0 : Int) = some (List.replicate 272 0) := mk_int 272 rfl (by omega) 0
  have hc2 : cut r 136 (r.length : Int) = some (r.drop 136) := cut_drop (s := r) (i := 136) (by omega)
  obtain ⟨x, hun⟩ := unpacked_eq (r.drop 136) (by simp; omega) (nib r) (n := n) hn
  have hnd := newDecoder_eq (nib r)
  generalize lens (nib r) 272 = L at *
  rw [hmk, Option.bind_some, hlen, Option.bind_some]
  dsimp only
  rw [hcodes, Option.bind_some]
  dsimp only
  by_cases g2 : sp (nib r) 272 15 ≤ 32768
  · rw [decide_eq_true g2, Bool.not_true, cond_false, hc2, Option.bind_some, hnd, Option.bind_some]
    dsimp only
    rw [hun, Option.bind_some, if_pos g2]
  · rw [decide_eq_false g2, Bool.not_false, cond_true, if_neg g2]
    rfl

theorem Unpack_eq (s : Str) (hs : s.length ≤ 2000000) : squash_Unpack s = some ((unpackS s).1, ((unpackS s).2 : Int), ()) := by
  unfold unpackS
  by_cases h5 : s.length < 5
  · have c : ((s.length : Int) < 5) := by omega
    simp only [squash_Unpack, c, decide_true, cond_true, if_pos h5]
    rfl
  · have c : ¬((s.length : Int) < 5) := by omega
    have hd := head_bor s (by omega)
    have i0 := idx_lt (xs := s) (show 0 < s.length by omega)
    have i1 := idx_lt (xs := s) (show 1 < s.length by omega)
    have i2 := idx_lt (xs := s) (show 2 < s.length by omega)
    have i3 := idx_lt (xs := s) (show 3 < s.length by omega)
    have i4 := idx_some (s := s) (show 4 < s.length by omega)
    have hcut := cut_drop (s := s) (show 5 ≤ s.length by omega)
    have hh := head_lt s
    have hl : (s.drop 5).length = s.length - 5 := by simp
    rw [if_neg h5]
    have j0 : idx s 0 = some s[0] := i0
    have j1 : idx s 1 = some s[1] := i1
    have j2 : idx s 2 = some s[2] := i2
    have j3 : idx s 3 = some s[3] := i3
    have j4 : idx s 4 = some (s.getD 4 0) := i4
    have jc : cut s 5 (s.length : Int) = some (s.drop 5) := hcut
    have s24 : shc 24 = some 24 := rfl
    have s16 : shc 16 = some 16 := rfl
    have s8 : shc 8 = some 8 := rfl
    simp only [squash_Unpack, c, decide_false, cond_false, s24, s16, s8, j0, j1, j2, j3, j4, jc, Option.bind_some, hd]
    exact chain _ _ _ _ _ (fun hr => Unpack_rest _ _ (by omega) hr (by omega))

theorem Unsquash_rest (r : Str) (n : Nat) (hn : n ≤ 4294967296) (hr : ¬ r.length < 136) (hr' : r.length ≤ 2000000) : ((loop (chanceryref2_Unsquash_l427 r) ((), 0, [], ())).bind fun r11 =>
  (chanceryref2_codesOf r11.2.1).bind fun v12 =>
  cond (!v12.2.1)
  (some ([], 4, ()))
  ((cut r 136 (r.length : Int)).bind fun v13 =>
  (chanceryref2_bitsOf v13).bind fun v14 =>
  (loop (chanceryref2_Unsquash_l579 ((n : Int), ()) v14 v12) (0, [], ())).bind fun r39 =>
  (match r39 with
  | .inl z40 => ((loop (chanceryref2_Unsquash_l597 v14) (z40.1, ())).bind fun r43 =>
  (match r43 with
  | .inl z44 => (cond (decide (z44.1 < (v14.1.length : Int)))
  (some ([], 4, ()))
  (some (z40.2.1, 0, ())))
  | .inr z45 => (some z45)))
  | .inr z46 => (some z46))) : Option (Str × (Int × Unit))) = some ((if sp (nib r) 272 15 ≤ 32768 then body (r.drop 136) (nib r) n else ([], 4)).1, ((if sp (nib r) 272 15 ≤ 32768 then body (r.drop 136) (nib r) n else ([], 4)).2 : Int), ()) := by
  have hlen := rlengths_loop r (by omega)
  have hcodes := codesOf_eq (nib r)
  have hc2 : cut r 136 (r.length : Int) = some (r.drop 136) := cut_drop (s := r) (i := 136) (by omega)
  have hd : (r.drop 136).length ≤ 2000000 := by simp; omega
  have hbits := bitsOf_eq (r.drop 136) hd
  rw [hlen, Option.bind_some]
  dsimp only
  rw [hcodes, Option.bind_some]
  by_cases g2 : sp (nib r) 272 15 ≤ 32768
  · have hrun := (rrun_eq (r.drop 136) hd (nib r) g2 (sp_nib_le r) (true, ()) (n := n) hn n 0 [] (by simp) (by simp) (by omega)).loop (by omega)
    have hrb := run_eq (r.drop 136) hd (nib r) (n := n) hn n 0 [] (by simp) (by simp) (by omega)
    have htl := rtail_eq (r.drop 136) hd
    generalize r.drop 136 = u at *
    have hrun' : loop (chanceryref2_Unsquash_l579 ((n : Int), ()) (bitsL u (8 * u.length), ()) (codes (nib r) 16 0, true, ())) (0, [], ()) = _ := hrun
    rw [if_pos g2, if_pos g2]
    dsimp only
    rw [Bool.not_true, cond_false, hc2, Option.bind_some, hbits, Option.bind_some, hrun', Option.bind_some]
    unfold body
    rcases hrb with ⟨a', out', h1, h2, h3, h4⟩ | ⟨e, rd, h1, h2⟩
    · rw [h1]
      dsimp only
      rcases htl ((8 - a' % 8) % 8) a' rfl h2 with ⟨a2, k1, k2, k3⟩ | ⟨k1, k2⟩
      · have k := k3.loop (by omega)
        rw [k2, k, Option.bind_some]
        dsimp only
        rw [bitsL_len]
        by_cases q : a2 < 8 * u.length
        · have q' : ((a2 : Int) < ((8 * u.length : Nat) : Int)) := by omega
          rw [decide_eq_true q', cond_true, if_pos q]
          rfl
        · have q' : ¬((a2 : Int) < ((8 * u.length : Nat) : Int)) := by omega
          rw [decide_eq_false q', cond_false, if_neg q]
          rfl
      · have k := k2.loop (by omega)
        rw [k1, k, Option.bind_some]
        rfl
    · rw [h1]
  · rw [if_neg g2, if_neg g2]
    rfl

theorem Unsquash_eq (s : Str) (hs : s.length ≤ 2000000) : chanceryref2_Unsquash s = some ((unpackS s).1, ((unpackS s).2 : Int), ()) := by
  unfold unpackS
  by_cases h5 : s.length < 5
  · have c : ((s.length : Int) < 5) := by omega
    simp only [chanceryref2_Unsquash, c, decide_true, cond_true, if_pos h5]
    rfl
  · have c : ¬((s.length : Int) < 5) := by omega
    have hb4 : chanceryref2_bitsOf (s.take 4) = some (bitsL (s.take 4) 32, ()) := by
      rw [bitsOf_eq _ (by simp; omega)]
      simp [show min 4 s.length = 4 by omega]
    have hn4 : chanceryref2_numberOf (bitsL (s.take 4) 32) = some ((head s : Int), ()) := by
      have h := numberOf_eq (s.take 4) 0 32 (by omega)
      have e : head (s.take 4) = head s := by simp [head, List.getD, List.getElem?_take]
      rw [head_val, e] at h
      simpa [bitsL] using h
    have hcut4 : cut s 0 4 = some (s.take 4) := by
      have := cut_nat (xs := s) (a := 0) (b := 4) (by omega) (by omega)
      simpa using this
    have i4 := idx_some (s := s) (show 4 < s.length by omega)
    have hcut : cut s 5 (s.length : Int) = some (s.drop 5) := cut_drop (s := s) (i := 5) (by omega)
    have hh := head_lt s
    have hl : (s.drop 5).length = s.length - 5 := by simp
    have j4 : idx s 4 = some (s.getD 4 0) := i4
    rw [if_neg h5]
    simp only [chanceryref2_Unsquash, c, decide_false, cond_false, hcut4, hb4, hn4, j4, hcut, Option.bind_some]
    exact rchain _ _ _ _ _ (fun hr => Unsquash_rest _ _ (by omega) hr (by omega))

theorem mod_some (a : Int) {m : Int} (h : m ≠ 0) : ∃ r, chancerylaw2_mod a m = some (r, ()) := by
  simp only [chancerylaw2_mod, rem, if_neg h, Option.bind_some]
  exact ⟨_, rfl⟩

theorem mn_len (s : Str) (m : Nat) : mn (s.length : Int) (m : Int) = ((min s.length m : Nat) : Int) := by
  unfold mn
  split <;> omega

theorem unpack_law (s : Str) (n : Int) (hs : s.length ≤ 1048576) : chancerylaw2_SquashUnpackMatches s n = some (true, ()) := by
  have h0 := Unpack_eq [0, 0, 0, 2, 0, 65, 66] (by simp)
  have e0 : unpackS [0, 0, 0, 2, 0, 65, 66] = ([65, 66], 0) := by decide
  rw [e0] at h0
  have hc : cut s 0 (mn (s.length : Int) 400) = some (s.take 400) := by
    have e := mn_len s 400
    have h := cut_nat (xs := s) (a := 0) (b := min s.length 400) (by omega) (by omega)
    rw [show ((400 : Nat) : Int) = 400 from rfl] at e
    rw [e]
    rw [show ((0 : Nat) : Int) = 0 from rfl] at h
    rw [h, List.drop_zero]
    by_cases g : s.length ≤ 400
    · rw [Nat.min_eq_left g, List.take_length, List.take_of_length_le g]
    · rw [Nat.min_eq_right (by omega)]
  have hl : (s.take 400).length ≤ 400 := by simp; omega
  unfold chancerylaw2_SquashUnpackMatches
  rw [h0, Option.bind_some]
  change ((some (false, ()) : Option (Bool × Unit)).bind _) = _
  rw [Option.bind_some, cond_false, hc, Option.bind_some]
  generalize s.take 400 = t at *
  have step1 : ∃ b : Bool, ((cond (decide (4 ≤ (t.length : Int)))
  ((rem n 4).bind fun v4 =>
  some ((!decide (v4 = 0)), ()))
  (some (false, ())) : Option (Bool × Unit))) = some (b, ()) ∧ (b = true → 4 ≤ t.length) := by
    by_cases g : 4 ≤ t.length
    · have g' : (4 : Int) ≤ (t.length : Int) := by omega
      exact ⟨!decide (n.tmod 4 = 0), by simp [g', rem], fun _ => g⟩
    · have g' : ¬((4 : Int) ≤ (t.length : Int)) := by omega
      exact ⟨false, by simp [g'], fun h => by cases h⟩
  obtain ⟨b, hb, hb4⟩ := step1
  rw [hb, Option.bind_some]
  have step2 : ∃ u : Str, ((cond b
  ((chancerylaw2_mod n 3).bind fun v6 =>
  (shc 3).bind fun v7 =>
  (cat [0, 0] (bytesStr [IntKind.u8.wrap v6.1, IntKind.u8.wrap (shr .i64 n v7)])).bind fun v8 =>
  (cut t 4 (t.length : Int)).bind fun v9 =>
  (cat v8 v9).bind fun v10 =>
  some (v10, ()))
  (some (t, ())) : Option (Str × Unit))) = some (u, ()) ∧ u.length ≤ 400 := by
    cases b with
    | false => exact ⟨t, rfl, hl⟩
    | true =>
      obtain ⟨r, hr⟩ := mod_some n (m := 3) (by omega)
      have h4 := hb4 rfl
      have hcut : cut t 4 (t.length : Int) = some (t.drop 4) := cut_drop (s := t) (i := 4) h4
      have h3 : shc 3 = some 3 := rfl
      simp only [cond_true, hr, h3, Option.bind_some, hcut]
      rw [cat_ok (by simp [bytesStr])]
      simp only [Option.bind_some]
      rw [cat_ok (by simp [bytesStr]; omega)]
      exact ⟨_, rfl, by simp [bytesStr]; omega⟩
  obtain ⟨u, hu, hul⟩ := step2
  rw [hu, Option.bind_some]
  have step3 : ∃ b : Bool, ((cond (decide (4 ≤ (u.length : Int)))
  ((idx u 0).bind fun v12 =>
  cond (!decide ((ofByte v12) = 0))
  (cond (true)
  (cond ((decide (5 < (u.length : Int))))
  ((idx u 4).bind fun v13 =>
  some ((decide ((ofByte v13) = 1)), ()))
  (some (false, ())))
  (some (false, ())))
  ((idx u 1).bind fun v14 =>
  let v15 : Bool := ((!decide ((ofByte v14) = 0)))
  cond v15
  (cond ((decide (5 < (u.length : Int))))
  ((idx u 4).bind fun v16 =>
  some ((decide ((ofByte v16) = 1)), ()))
  (some (false, ())))
  (some (false, ()))))
  (some (false, ())) : Option (Bool × Unit))) = some (b, ()) ∧ (b = true → 2 ≤ u.length) := by
    by_cases g : 4 ≤ u.length
    · have g' : (4 : Int) ≤ (u.length : Int) := by omega
      have i0 : idx u 0 = some (u.getD 0 0) := idx_some (s := u) (i := 0) (by omega)
      have i1 : idx u 1 = some (u.getD 1 0) := idx_some (s := u) (i := 1) (by omega)
      have key : ∃ b : Bool, (cond ((decide (5 < (u.length : Int))))
  ((idx u 4).bind fun v13 =>
  some ((decide ((ofByte v13) = 1)), ()))
  (some (false, ())) : Option (Bool × Unit)) = some (b, ()) := by
        by_cases g5 : 5 < u.length
        · have g5' : (5 : Int) < (u.length : Int) := by omega
          have i4 : idx u 4 = some (u.getD 4 0) := idx_some (s := u) (i := 4) (by omega)
          exact ⟨decide ((ofByte (u.getD 4 0)) = 1), by simp only [g5', decide_true, cond_true, i4, Option.bind_some]⟩
        · have g5' : ¬((5 : Int) < (u.length : Int)) := by omega
          exact ⟨false, by simp only [g5', decide_false, cond_false]⟩
      obtain ⟨kb, hkb⟩ := key
      simp only [g', decide_true, cond_true, i0, i1, Option.bind_some, hkb]
      cases h1 : decide (ofByte (u.getD 0 0) = 0) with
      | false => exact ⟨kb, rfl, fun _ => by omega⟩
      | true =>
        cases h2 : decide (ofByte (u.getD 1 0) = 0) with
        | false => exact ⟨kb, rfl, fun _ => by omega⟩
        | true => exact ⟨false, rfl, fun _ => by omega⟩
    · have g' : ¬((4 : Int) ≤ (u.length : Int)) := by omega
      exact ⟨false, by simp [g'], fun h => by cases h⟩
  obtain ⟨b3, hb3, hb3'⟩ := step3
  rw [hb3, Option.bind_some]
  have step4 : ∃ w : Str, ((cond b3
  ((cut u 2 (u.length : Int)).bind fun v18 =>
  (cat [0, 0] v18).bind fun v19 =>
  some (v19, ()))
  (some (u, ())) : Option (Str × Unit))) = some (w, ()) ∧ w.length ≤ 400 := by
    cases b3 with
    | false => exact ⟨u, rfl, hul⟩
    | true =>
      have h2 := hb3' rfl
      have hcut : cut u 2 (u.length : Int) = some (u.drop 2) := cut_drop (s := u) (i := 2) h2
      simp only [cond_true, hcut, Option.bind_some]
      rw [cat_ok (by simp; omega)]
      exact ⟨_, rfl, by simp; omega⟩
  obtain ⟨w, hw, hwl⟩ := step4
  rw [hw, Option.bind_some]
  have q1 := Unpack_eq w (by omega)
  have q2 := Unsquash_eq w (by omega)
  rw [q1, Option.bind_some, q2, Option.bind_some]
  simp
end Go.Proofs.YtmnegopgidckoaaDoor
