/- Characters that are read; marks; the reference's tokens. -/
import Derived.Test.YtkjkjebmkmkgfaaDoorLawB
namespace Go.Proofs.YtkjkjebmkmkgfaaDoor
open Go Go.Fe

def lossOf (bad : Bool) (n : Int) : TA3 := if bad = true then [(5, 0, n, 0, [], ())] else []
theorem char_eq {v : Str} (hv : v ≠ []) (b i s f : Bool) (link : Str) {o : TA5} {l : TA3} (ho : o.length < 100000) (hl : l.length < 100000) :
    marked_reader__characterx v [b, i, s, f] link o l = some (((runeOf v).2 : Int), (), ((), (), [b, i, s, f], link, ()), o ++ [(codeC v, 0, attrsOf b i s f link, ())], l ++ lossOf (badC v) (o.length : Int), ()) := by
  have hr := rune_n hv
  have w : IntKind.i64.wrap ((runeOf v).1 : Int) = ((runeOf v).1 : Int) := wrap_i64 (by omega) (by omega)
  have w63 : IntKind.i64.wrap 63 = 63 := wrap_i64 (by omega) (by omega)
  have c1 : cat l [(5, 0, (o.length : Int), 0, [], ())] = some (l ++ [(5, 0, (o.length : Int), 0, [], ())]) := cat_ok (by rw [List.length_singleton]; omega)
  have c2 : ∀ x, cat o [x] = some (o ++ [x]) := fun x => cat_ok (by rw [List.length_singleton]; omega)
  unfold marked_reader__characterx
  simp only [sRune, Option.bind_some, pChar_eq, w]
  by_cases e : runeOf v = (65533, 1)
  · have hb : badC v = true := by unfold badC; rw [decide_eq_true e]; rfl
    have e1 : ((runeOf v).1 : Int) = 65533 := by rw [e]; rfl
    have e2 : ((runeOf v).2 : Int) = 1 := by rw [e]; rfl
    simp only [e1, e2, decide_true, cond_true, Option.bind_some, c1, w63, attrs_eq, c2, codeC, hb, if_true, lossOf]
  · have hb : badC v = !okC ((runeOf v).1 : Nat) := by unfold badC; rw [decide_eq_false e]; rfl
    have hne : (decide (((runeOf v).1 : Int) = 65533) && decide (((runeOf v).2 : Int) = 1)) = false := by
      rw [← Bool.not_eq_true, Bool.and_eq_true, decide_eq_true_eq, decide_eq_true_eq]
      rintro ⟨h1, h2⟩
      exact e (Prod.ext (by simp only; omega) (by simp only; omega))
    have go : ∀ X : Bool, X = !okC ((runeOf v).1 : Nat) → ((cond X ((cat l [(5, 0, (o.length : Int), 0, [], ())]).bind fun v5 => some ((), 63, ((), (), [b, i, s, f], link, ()), o, v5, ())) (some ((), ((runeOf v).1 : Int), ((), (), [b, i, s, f], link, ()), o, l, ())) : Option (Unit × (Int × (TA2 × TA0)))).bind fun r6 =>
        ((marked_reader__attrs (r6.2.2.2.1, (r6.2.2.2.2.1, r6.2.2.1.2.2))).bind fun v7 => some v7.2.1).bind fun v8 =>
        (cat r6.2.2.2.1 [(IntKind.i64.wrap r6.2.1, 0, v8, ())]).bind fun v9 =>
        some (((runeOf v).2 : Int), (), ((), ((), r6.2.2.1.2.2)), v9, r6.2.2.2.2.1, ())) = some (((runeOf v).2 : Int), (), ((), (), [b, i, s, f], link, ()), o ++ [(codeC v, 0, attrsOf b i s f link, ())], l ++ lossOf (badC v) (o.length : Int), ()) := by
      intro X hX
      rw [← hX] at hb
      cases X with
      | true => simp only [cond_true, Option.bind_some, c1, w63, attrs_eq, c2, codeC, hb, if_true, lossOf]
      | false => simp only [cond_false, Option.bind_some, w, attrs_eq, c2, codeC, hb, Bool.false_eq_true, if_false, lossOf, List.append_nil]
    by_cases e1 : ((runeOf v).1 : Int) = 65533
    · have e2 : ¬ ((runeOf v).2 : Int) = 1 := fun e2 => by rw [decide_eq_true e1, decide_eq_true e2] at hne; cases hne
      rw [decide_eq_true e1, decide_eq_false e2]
      simp only [cond_true, cond_false, Option.bind_some]
      exact go _ rfl
    · rw [decide_eq_false e1]
      simp only [cond_false, Option.bind_some]
      exact go _ rfl

/-! ### Marks -/
def togOf (s : Str) : Option (Nat × Nat) :=
  if Lib.hasPrefix s [42, 42] = true then some (0, 2) else if Lib.hasPrefix s [42] = true then some (1, 1) else if Lib.hasPrefix s [126, 126] = true then some (2, 2) else if Lib.hasPrefix s [96] = true then some (3, 1) else none
def marksL : List TA11 := [([42, 42], [98, 111, 108, 100], ()), ([42], [105, 116, 97, 108, 105, 99], ()), ([126, 126], [115, 116, 114, 105, 107, 101], ()), ([96], [102, 105, 120, 101, 100], ())]
theorem tog_step (s : Str) (on : List Bool) (link : Str) (o : TA5) (l : TA3) {k : Nat} {m : TA11} (hk : k < 4) (hm : marksL[k]? = some m) :
    marked_reader__togglex_l1 s ((), (k : Int), ((), (), on, link, ()), o, l, ()) =
      some (if Lib.hasPrefix s m.1 = true then .inr (.inr ((), (m.1.length : Int), ((), (), on.set k (!on.getD k false), link, ()), o, l, ())) else .inl ((), ((k + 1 : Nat) : Int), ((), (), on, link, ()), o, l, ())) := by
  have e1 : (k : Int) < 4 := by omega
  have e2 : idx ([([42, 42], [98, 111, 108, 100], ()), ([42], [105, 116, 97, 108, 105, 99], ()), ([126, 126], [115, 116, 114, 105, 107, 101], ()), ([96], [102, 105, 120, 101, 100], ())] : List TA11) (k : Int) = some m := by
    rw [idx_nat]; exact hm
  have e3 : inb (k : Int) 4 = true := inb_nat hk
  unfold marked_reader__togglex_l1
  simp only [e1, decide_true, cond_true, e2, Option.bind_some, sHasPrefix, e3, chk_t, wsuc (show k < 9223372036854775807 by omega), Int.toNat_natCast]
  cases Lib.hasPrefix s m.1 <;> simp
theorem toggle_eq (s : Str) (on : List Bool) (link : Str) (o : TA5) (l : TA3) : marked_reader__togglex s on link o l =
    some (match togOf s with
      | some (k, n) => ((n : Int), (), ((), (), on.set k (!on.getD k false), link, ()), o, l, ())
      | none => (0, (), ((), (), on, link, ()), o, l, ())) := by
  have h0 := tog_step s on link o l (k := 0) (by omega) rfl
  have h1 := tog_step s on link o l (k := 1) (by omega) rfl
  have h2 := tog_step s on link o l (k := 2) (by omega) rfl
  have h3 := tog_step s on link o l (k := 3) (by omega) rfl
  have h4 : marked_reader__togglex_l1 s ((), ((4 : Nat) : Int), ((), (), on, link, ()), o, l, ()) = some (.inr (.inl ((), ((), (), on, link, ()), o, l, ()))) := by
    unfold marked_reader__togglex_l1
    simp
  unfold togOf
  unfold marked_reader__togglex
  by_cases p0 : Lib.hasPrefix s [42, 42] = true
  · rw [if_pos p0] at h0 ⊢
    rw [show (0 : Int) = ((0 : Nat) : Int) from rfl, (Halts.done (n := 0) h0).loop (by omega)]
    rfl
  rw [if_neg p0] at h0 ⊢
  by_cases p1 : Lib.hasPrefix s [42] = true
  · rw [if_pos p1] at h1 ⊢
    rw [show (0 : Int) = ((0 : Nat) : Int) from rfl, (Halts.step h0 (Halts.done (n := 0) h1)).loop (by omega)]
    rfl
  rw [if_neg p1] at h1 ⊢
  by_cases p2 : Lib.hasPrefix s [126, 126] = true
  · rw [if_pos p2] at h2 ⊢
    rw [show (0 : Int) = ((0 : Nat) : Int) from rfl, (Halts.step h0 (Halts.step h1 (Halts.done (n := 0) h2))).loop (by omega)]
    rfl
  rw [if_neg p2] at h2 ⊢
  by_cases p3 : Lib.hasPrefix s [96] = true
  · rw [if_pos p3] at h3 ⊢
    rw [show (0 : Int) = ((0 : Nat) : Int) from rfl, (Halts.step h0 (Halts.step h1 (Halts.step h2 (Halts.done (n := 0) h3)))).loop (by omega)]
    rfl
  rw [if_neg p3] at h3 ⊢
  rw [show (0 : Int) = ((0 : Nat) : Int) from rfl, (Halts.step h0 (Halts.step h1 (Halts.step h2 (Halts.step h3 (Halts.done (n := 0) h4))))).loop (by omega)]
  rfl

/-! ### The reference's tokens -/
theorem ascii_rune {s : Str} (h : s ≠ []) (ha : at0 s 0 < 128) : runeOf s = (at0 s 0, 1) := by
  rw [runeOf_eq h]
  exact if_pos ha
theorem rune_ascii {s : Str} (h : s ≠ []) (ha : (runeOf s).1 < 128) : at0 s 0 = (runeOf s).1 := by
  have h0 := at0_lt s 0
  have h1 := at0_lt s 1
  rw [runeOf_eq h] at ha ⊢
  unfold Lib.decodeN at ha ⊢
  by_cases a : at0 s 0 < 128
  · rw [if_pos a]
  · rw [if_neg a] at ha ⊢
    repeat' split at ha
    all_goals (simp only at ha; omega)
def isB (t : TA4) (c : Int) : Bool := !t.2.2.1 && (!t.2.2.2.1 && decide (t.1 = c))
theorem is_eq (t : TA4) {c : Int} (h : 0 ≤ c) (h' : c < 256) : chanceryref2_token__is t c = some (isB t c, ()) := by
  unfold chanceryref2_token__is isB
  rw [wrap_i64 (by omega) (by omega)]
  cases t.2.2.1 <;> cases t.2.2.2.1 <;> rfl
/-- A token is a mark: its byte is, without a \ ahead of it. -/
theorem is_tk {s : Str} (h : s ≠ []) {c : Nat} (h1 : 32 ≤ c) (h2 : c ≤ 126) : isB (tk s) (c : Int) = (!escS s && decide (at0 s 0 = c)) := by
  unfold isB tk
  simp only
  cases he : escS s with
  | true => rfl
  | false =>
    have hh : hdS s = s := by unfold hdS; rw [he]; rfl
    rw [hh]
    by_cases ha : at0 s 0 = c
    · have hr := ascii_rune h (by omega)
      have ho : okC ((runeOf s).1 : Nat) = true := by
        rw [hr]; unfold okC; simp only [decide_eq_true_eq]; omega
      have hb : badC s = false := by
        unfold badC
        rw [ho, hr, decide_eq_false (by intro e; have := congrArg Prod.fst e; simp only at this; omega)]
        rfl
      have hc : codeC s = (c : Int) := by unfold codeC; rw [hb, hr, ← ha]; rfl
      rw [hb, hc]
      simp [ha]
    · rw [decide_eq_false ha]
      cases hb : badC s with
      | true => rfl
      | false =>
        have hc : codeC s = ((runeOf s).1 : Nat) := by unfold codeC; rw [hb]; rfl
        rw [hc, decide_eq_false (fun e => ha (by
          have e' : (runeOf s).1 = c := by omega
          rw [rune_ascii h (by omega), e']))]
        rfl
theorem tok_step {s0 : Str} {p : Nat} (hp : p < s0.length) (hs : s0.length ≤ 100000) {acc : List TA4} (ha : acc.length ≤ 100000) :
    chanceryref2_tokens_l1 s0 ((), (p : Int), acc, ()) = some (.inl ((), ((p + szS (s0.drop p) : Nat) : Int), acc ++ [tk (s0.drop p)], ())) := by
  have hne : s0.drop p ≠ [] := by
    intro e
    have := congrArg List.length e
    rw [List.length_drop, List.length_nil] at this
    omega
  obtain ⟨s, hsd⟩ : ∃ s, s0.drop p = s := ⟨_, rfl⟩
  have hlen : s.length = s0.length - p := by rw [← hsd, List.length_drop]
  rw [hsd] at hne ⊢
  have e1 : (p : Int) < (s0.length : Int) := by omega
  have e2 : idx s0 (p : Int) = some s0[p] := idx_lt hp
  have hb0 : ofByte s0[p] = (at0 s 0 : Int) := by
    rw [ofByte_eq, ← hsd]
    unfold at0
    rw [List.getD_eq_getElem?_getD, List.getElem?_drop, Nat.add_zero, List.getElem?_eq_getElem hp]
    rfl
  have e4 : IntKind.i64.wrap ((p : Int) + 1) = ((p + 1 : Nat) : Int) := wsuc (by omega)
  have hesc : escS s = (decide ((at0 s 0 : Int) = 92) && decide (((p + 1 : Nat) : Int) < (s0.length : Int))) := by
    unfold escS
    congr 1
    · apply decide_eq_decide.2; omega
    · apply decide_eq_decide.2; omega
  have hh := hdS_ne hne
  have hrn := rune_n hh
  have hsz := szS_bounds hne
  have hcat : ∀ x : TA4, cat acc [x] = some (acc ++ [x]) := fun x => cat_ok (by rw [List.length_singleton]; omega)
  -- the rest of the round, at the token's first character
  have tail : ∀ (q : Nat) (t0 : TA4), s0.drop q = hdS s → q ≤ s0.length → t0.2.2.2.1 = false → t0.2.1 = ((q - p : Nat) : Int) → p ≤ q → q ≤ p + 1 → q + (runeOf (hdS s)).2 = p + szS s →
      ((cut s0 (q : Int) (s0.length : Int)).bind fun v5 =>
        (chanceryref2_Rune v5).bind fun v6 =>
        ((cond (decide (v6.2.1 = 0))
        (some ((), (), true, acc, t0, ()))
        ((chanceryref2_Char v6.1).bind fun v7 =>
        some ((), (), (!v7.1), acc, t0, ())) : Option (Unit × (Unit × (Bool × ((List TA4) × (TA4 × Unit)))))).bind fun r8 =>
        cond r8.2.2.1
        (some ((), (), 63, mx v6.2.1 1, r8.2.2.2.1, (r8.2.2.2.2.1.1, (r8.2.2.2.2.1.2.1, (r8.2.2.2.2.1.2.2.1, (true, ())))), ()))
        (some ((), (), v6.1, v6.2.1, r8.2.2.2.1, r8.2.2.2.2.1, ())) : Option (Unit × (Unit × (Int × (Int × ((List TA4) × (TA4 × Unit))))))).bind fun r9 =>
        let v10 : TA4 := (r9.2.2.1, (IntKind.i64.wrap (r9.2.2.2.2.2.1.2.1 + r9.2.2.2.1), r9.2.2.2.2.2.1.2.2))
        (cat r9.2.2.2.2.1 [v10]).bind fun v11 =>
        (some (.inl ((), IntKind.i64.wrap ((q : Int) + r9.2.2.2.1), v11, ())) : Option ((Unit × (Int × ((List TA4) × Unit))) ⊕ (Unit × ((List TA4) × Unit)))))
      = some (.inl ((), ((p + szS s : Nat) : Int), acc ++ [(codeC (hdS s), (szS s : Int), t0.2.2.1, badC (hdS s), ())], ())) := by
    intro q t0 hq hql htb ht1 hpq hpq1 hsum
    have hql : ((q : Int) + ((runeOf (hdS s)).2 : Int)) = ((p + szS s : Nat) : Int) := by omega
    have w1 : IntKind.i64.wrap ((q : Int) + ((runeOf (hdS s)).2 : Int)) = ((p + szS s : Nat) : Int) := by rw [hql, wrap_i64 (by omega) (by omega)]
    have w2 : IntKind.i64.wrap (t0.2.1 + ((runeOf (hdS s)).2 : Int)) = (szS s : Int) := by rw [ht1, wrap_i64 (by omega) (by omega)]; omega
    have hcut : cut s0 (q : Int) (s0.length : Int) = some (hdS s) := by rw [cut_nat (by omega) (Nat.le_refl _), List.take_length, hq]
    rw [hcut, Option.bind_some, Rune_eq hh, Option.bind_some]
    unfold runeR
    by_cases e : runeOf (hdS s) = (65533, 1)
    · have hb : badC (hdS s) = true := by unfold badC; rw [decide_eq_true e]; rfl
      have m1 : mx ((0 : Nat) : Int) 1 = ((runeOf (hdS s)).2 : Int) := by rw [e]; rfl
      rw [if_pos e]
      simp only [show ((0 : Nat) : Int) = 0 from rfl, decide_true, cond_true, Option.bind_some]
      rw [show mx 0 1 = ((runeOf (hdS s)).2 : Int) from m1, w1, w2, hcat]
      simp only [Option.bind_some, codeC, hb, if_true]
    · have hn0 : ¬ ((runeOf (hdS s)).2 : Int) = 0 := by omega
      have hb : badC (hdS s) = !okC ((runeOf (hdS s)).1 : Nat) := by unfold badC; rw [decide_eq_false e]; rfl
      have m1 : mx ((runeOf (hdS s)).2 : Int) 1 = ((runeOf (hdS s)).2 : Int) := by unfold mx; split <;> omega
      rw [if_neg e]
      simp only [decide_eq_false hn0, cond_false, rChar_eq, Option.bind_some, ← hb]
      cases hbb : badC (hdS s) with
      | true =>
        simp only [cond_true, Option.bind_some, m1, w1, w2, hcat, codeC, hbb, if_true]
      | false =>
        have e3 : t0.2.2 = (t0.2.2.1, false, ()) := by rw [← htb]
        simp only [cond_false, Option.bind_some, w1, w2, hcat, codeC, hbb, Bool.false_eq_true, if_false]
        rw [e3]
  unfold chanceryref2_tokens_l1 tk
  simp only [e1, decide_true, cond_true, e2, Option.bind_some, hb0, e4]
  by_cases h92 : (at0 s 0 : Int) = 92
  · by_cases hl : ((p + 1 : Nat) : Int) < (s0.length : Int)
    · have he : escS s = true := by rw [hesc, decide_eq_true h92, decide_eq_true hl]; rfl
      have hd : hdS s = s.drop 1 := by unfold hdS; rw [he]; rfl
      have hz : szS s = 1 + (runeOf (hdS s)).2 := by unfold szS; rw [he]; rfl
      simp only [h92, hl, decide_true, cond_true, Option.bind_some]
      rw [he]
      exact tail (p + 1) (0, (1, (true, (false, ())))) (by rw [hd, ← hsd, List.drop_drop]) (by omega) rfl (by simp only; omega) (by omega) (by omega) (by omega)
    · have he : escS s = false := by rw [hesc, decide_eq_false hl, Bool.and_false]
      have hd : hdS s = s := by unfold hdS; rw [he]; rfl
      have hz : szS s = (runeOf (hdS s)).2 := by unfold szS; rw [he]; simp
      simp only [h92, hl, decide_true, decide_false, cond_true, cond_false, Option.bind_some]
      rw [he]
      exact tail p (0, (0, (false, (false, ())))) (by rw [hd, hsd]) (by omega) rfl (by simp) (by omega) (by omega) (by omega)
  · have he : escS s = false := by rw [hesc, decide_eq_false h92, Bool.false_and]
    have hd : hdS s = s := by unfold hdS; rw [he]; rfl
    have hz : szS s = (runeOf (hdS s)).2 := by unfold szS; rw [he]; simp
    simp only [h92, decide_false, cond_false, Option.bind_some]
    rw [he]
    exact tail p (0, (0, (false, (false, ())))) (by rw [hd, hsd]) (by omega) rfl (by simp) (by omega) (by omega) (by omega)
theorem tokens_halts {s0 : Str} (hs : s0.length ≤ 50000) : ∀ (n p : Nat) (acc : List TA4), s0.length - p ≤ n → p ≤ s0.length → acc.length ≤ p → Halts (chanceryref2_tokens_l1 s0) n ((), (p : Int), acc, ()) ((), acc ++ (toks (s0.drop p)).map tk, ())
  | n, p, acc, hn, hp, ha => by
    by_cases e : p = s0.length
    · refine Halts.done ?_
      rw [e, List.drop_length, toks_nil]
      simp [chanceryref2_tokens_l1]
    · have hne : s0.drop p ≠ [] := by
        intro e'
        have := congrArg List.length e'
        rw [List.length_drop, List.length_nil] at this
        omega
      have hz := szS_bounds hne
      rw [List.length_drop] at hz
      cases n with
      | zero => omega
      | succ n =>
        refine Halts.step (tok_step (by omega) (by omega) (by omega)) ?_
        have ih := tokens_halts hs n (p + szS (s0.drop p)) (acc ++ [tk (s0.drop p)]) (by omega) (by omega) (by rw [List.length_append, List.length_singleton]; omega)
        rw [toks_cons hne, List.map_cons]
        have e3 : nx (s0.drop p) = s0.drop (p + szS (s0.drop p)) := by unfold nx; rw [List.drop_drop]
        rw [e3]
        have e4 : acc ++ tk (s0.drop p) :: (toks (s0.drop (p + szS (s0.drop p)))).map tk = acc ++ [tk (s0.drop p)] ++ (toks (s0.drop (p + szS (s0.drop p)))).map tk := by simp
        rw [e4]
        exact ih
theorem tokens_eq {s : Str} (h : s.length ≤ 50000) : chanceryref2_tokens s = some ((toks s).map tk, ()) := by
  unfold chanceryref2_tokens
  have := (tokens_halts h s.length 0 [] (by omega) (Nat.zero_le _) (Nat.le_refl _)).loop (by omega)
  rw [show (0 : Int) = ((0 : Nat) : Int) from rfl, this]
  rfl
end Go.Proofs.YtkjkjebmkmkgfaaDoor
