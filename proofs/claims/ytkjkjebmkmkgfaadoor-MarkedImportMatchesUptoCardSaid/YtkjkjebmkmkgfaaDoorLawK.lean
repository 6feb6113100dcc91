/- A paragraph is read alike by both. -/
import Derived.Test.YtkjkjebmkmkgfaaDoorLawJ
namespace Go.Proofs.YtkjkjebmkmkgfaaDoor
open Go Go.Fe

noncomputable def refMid (t : Str) (a b : Int) (w : Str) (o : TA5) (l : TA3) : Option (Unit × (Unit × (Str × (Unit × (TA5 × (TA3 × TA1)))))) :=
  ((cond (decide (1 ≤ a))
  (cond ((decide (a ≤ 6)))
  ((cut t a (t.length : Int)).bind fun v12 =>
  (chanceryref2_Has v12 [32]).bind fun v13 =>
  some ((), (), (), v13.1, o, l, ()))
  (some ((), (), (), false, o, l, ())))
  (some ((), (), (), false, o, l, ())) : Option (Unit × (Unit × (Unit × (Bool × TA0))))).bind fun r14 =>
  cond r14.2.2.2.1
  ((chanceryref2_Decimal a).bind fun v15 =>
  (cut t (IntKind.i64.wrap (a + 1)) (t.length : Int)).bind fun v16 =>
  some ((), (), v16, (), r14.2.2.2.2.1, r14.2.2.2.2.2.1, [([104, 101, 97, 100], v15.1, ())], ()))
  (((rem b 2).bind fun v17 =>
  cond (decide (v17 = 0))
  (cond ((decide (b ≤ 16)))
  ((chanceryref2_Has w [45, 32]).bind fun v18 =>
  cond v18.1
  (some ((), (), (), true, r14.2.2.2.2.1, r14.2.2.2.2.2.1, ()))
  ((chanceryref2_Has w [49, 46, 32]).bind fun v19 =>
  some ((), (), (), (v19.1), r14.2.2.2.2.1, r14.2.2.2.2.2.1, ())))
  (some ((), (), (), false, r14.2.2.2.2.1, r14.2.2.2.2.2.1, ())))
  (some ((), (), (), false, r14.2.2.2.2.1, r14.2.2.2.2.2.1, ())) : Option (Unit × (Unit × (Unit × (Bool × TA0))))).bind fun r20 =>
  cond r20.2.2.2.1
  ((cond (decide (0 < b))
  ((quo .i64 b 2).bind fun v21 =>
  (chanceryref2_Decimal v21).bind fun v22 =>
  (cat [] [([108, 101, 118, 101, 108], v22.1, ())]).bind fun v23 =>
  some ((), (), (), r20.2.2.2.2.1, r20.2.2.2.2.2.1, v23, ()))
  (some ((), (), (), r20.2.2.2.2.1, r20.2.2.2.2.2.1, [], ())) : Option (Unit × (Unit × (Unit × (TA5 × (TA3 × TA1)))))).bind fun r24 =>
  (idx w 0).bind fun v25 =>
  cond (decide ((ofByte v25) = 45))
  ((cat r24.2.2.2.2.2.1 [([108, 105, 115, 116], [98, 117, 108, 108, 101, 116], ())]).bind fun v26 =>
  (cut w 2 (w.length : Int)).bind fun v27 =>
  some ((), (), v27, (), r24.2.2.2.1, r24.2.2.2.2.1, v26, ()))
  ((cat r24.2.2.2.2.2.1 [([108, 105, 115, 116], [110, 117, 109, 98, 101, 114], ())]).bind fun v28 =>
  (cut w 3 (w.length : Int)).bind fun v29 =>
  some ((), (), v29, (), r24.2.2.2.1, r24.2.2.2.2.1, v28, ())))
  (some ((), (), t, (), r20.2.2.2.2.1, r20.2.2.2.2.2.1, [], ()))) : Option (Unit × (Unit × (Str × (Unit × (TA5 × (TA3 × TA1)))))))
noncomputable def refTail (t : Str) (i : Int) (o : TA5) (l : TA3) : Option ((Unit × (Unit × (Int × TA0))) ⊕ (Unit × (Unit × TA0))) :=
  (chanceryref2_span_Marked_1 t).bind fun v9 =>
  (chanceryref2_span_Marked_2 t).bind fun v10 =>
  (cut t v10.1 (t.length : Int)).bind fun v11 =>
  (refMid t v9.1 v10.1 v11 o l).bind fun r30 =>
  (chanceryref2_MarkedLine r30.2.2.1 (r30.2.2.2.2.1.length : Int)).bind fun v31 =>
  (cat r30.2.2.2.2.1 v31.1).bind fun v32 =>
  (cat v32 [(10, 0, r30.2.2.2.2.2.2.1, ())]).bind fun v33 =>
  (cat r30.2.2.2.2.2.1 v31.2.1).bind fun v34 =>
  some (.inl ((), (), IntKind.i64.wrap (i + 1), v33, v34, ()))

theorem bullet_ne {w : Str} (h : Lib.hasPrefix w [45, 32] = true) : ∃ r, w = 45 :: 32 :: r := by
  unfold Lib.hasPrefix at h
  rw [List.isPrefixOf_iff_prefix] at h
  obtain ⟨r, hr⟩ := h
  exact ⟨r, hr.symm⟩
theorem number_ne {w : Str} (h : Lib.hasPrefix w [49, 46, 32] = true) : ∃ r, w = 49 :: 46 :: 32 :: r := by
  unfold Lib.hasPrefix at h
  rw [List.isPrefixOf_iff_prefix] at h
  obtain ⟨r, hr⟩ := h
  exact ⟨r, hr.symm⟩
theorem refMid_eq {t : Str} (ht : t.length ≤ 50000) (o : TA5) (l : TA3) :
    refMid t (lead 35 t : Int) (lead 32 t : Int) (t.drop (lead 32 t)) o l = some ((), (), (mkOf t).1, (), o, l, (mkOf t).2, ()) := by
  have h35 := lead_le 35 t
  have h32 := lead_le 32 t
  have hrem : rem (lead 32 t : Int) 2 = some ((lead 32 t % 2 : Nat) : Int) := rem_nat (b := 2) (by omega)
  have hquo : quo .i64 (lead 32 t : Int) 2 = some ((lead 32 t / 2 : Nat) : Int) := quo_nat (b := 2) (by omega) (by omega)
  have hw1 := wsuc (show lead 35 t < 9223372036854775807 by omega)
  unfold refMid mkOf
  by_cases hh : 1 ≤ lead 35 t ∧ lead 35 t ≤ 6 ∧ Lib.hasPrefix (t.drop (lead 35 t)) [32] = true
  · have e1 : (1 : Int) ≤ (lead 35 t : Int) := by omega
    have e2 : (lead 35 t : Int) ≤ 6 := by omega
    have hpl := pre_len hh.2.2
    rw [List.length_drop, List.length_singleton] at hpl
    rw [if_pos hh]
    simp only [e1, e2, decide_true, cond_true, cut_end h35, Option.bind_some, has_eq, hh.2.2, dec_dig (by omega : lead 35 t ≤ 9), hw1, cut_end (by omega : lead 35 t + 1 ≤ t.length)]
  · rw [if_neg hh]
    have hcond : ((cond (decide (1 ≤ (lead 35 t : Int)))
        (cond ((decide ((lead 35 t : Int) ≤ 6)))
        ((cut t (lead 35 t : Int) (t.length : Int)).bind fun v12 =>
        (chanceryref2_Has v12 [32]).bind fun v13 =>
        some ((), (), (), v13.1, o, l, ()))
        (some ((), (), (), false, o, l, ())))
        (some ((), (), (), false, o, l, ())) : Option (Unit × (Unit × (Unit × (Bool × TA0)))))) = some ((), (), (), false, o, l, ()) := by
      by_cases h1 : 1 ≤ lead 35 t
      · by_cases h2 : lead 35 t ≤ 6
        · have h3 : Lib.hasPrefix (t.drop (lead 35 t)) [32] = false := by
            rw [← Bool.not_eq_true]
            exact fun h => hh ⟨h1, h2, h⟩
          rw [decide_eq_true (by omega : (1 : Int) ≤ (lead 35 t : Int)), decide_eq_true (by omega : (lead 35 t : Int) ≤ 6), cond_true, cond_true, cut_end h35, Option.bind_some, has_eq, h3, Option.bind_some]
        · rw [decide_eq_true (by omega : (1 : Int) ≤ (lead 35 t : Int)), decide_eq_false (by omega : ¬ (lead 35 t : Int) ≤ 6), cond_true, cond_false]
      · rw [decide_eq_false (by omega : ¬ (1 : Int) ≤ (lead 35 t : Int)), cond_false]
    rw [hcond, Option.bind_some]
    simp only [cond_false, hrem, Option.bind_some]
    have hlev : ∀ (o : TA5) (l : TA3), lead 32 t ≤ 16 → ((cond (decide (0 < (lead 32 t : Int)))
        ((quo .i64 (lead 32 t : Int) 2).bind fun v21 =>
        (chanceryref2_Decimal v21).bind fun v22 =>
        (cat [] [([108, 101, 118, 101, 108], v22.1, ())]).bind fun v23 =>
        some ((), (), (), o, l, v23, ()))
        (some ((), (), (), o, l, [], ())) : Option (Unit × (Unit × (Unit × (TA5 × (TA3 × TA1))))))) = some ((), (), (), o, l, lev (lead 32 t), ()) := by
      intro o l h16
      unfold lev
      by_cases h0 : 0 < lead 32 t
      · have hc : ∀ (x : TA11), cat ([] : List TA11) [x] = some [x] := fun x => cat_ok (xs := []) (ys := [x]) (by simp)
        rw [decide_eq_true (by omega : 0 < (lead 32 t : Int)), cond_true, hquo, Option.bind_some, dec_dig (by omega), Option.bind_some, hc, Option.bind_some, if_pos h0]
      · rw [decide_eq_false (by omega : ¬ 0 < (lead 32 t : Int)), cond_false, if_neg h0]
    by_cases hc : lead 32 t % 2 = 0 ∧ lead 32 t ≤ 16
    · rw [if_pos hc]
      have e1 : ((lead 32 t % 2 : Nat) : Int) = 0 := by omega
      have e2 : (lead 32 t : Int) ≤ 16 := by omega
      by_cases hp1 : Lib.hasPrefix (t.drop (lead 32 t)) [45, 32] = true
      · rw [if_pos hp1]
        obtain ⟨r, hr⟩ := bullet_ne hp1
        have hi : idx (t.drop (lead 32 t)) 0 = some 45 := by rw [hr]; rfl
        have hd : decide (ofByte 45 = 45) = true := rfl
        have hl : 2 ≤ (t.drop (lead 32 t)).length := by rw [hr]; simp
        have hcut : cut (t.drop (lead 32 t)) 2 ((t.drop (lead 32 t)).length : Int) = some ((t.drop (lead 32 t)).drop 2) := cut_end (a := 2) hl
        simp only [e1, e2, decide_true, cond_true, has_eq, hp1, Option.bind_some]
        rw [hlev o l hc.2]
        simp only [hi, Option.bind_some, hd, cond_true, lev_cat, hcut, List.drop_drop]
      · have hp1' : Lib.hasPrefix (t.drop (lead 32 t)) [45, 32] = false := by simpa using hp1
        rw [if_neg hp1]
        by_cases hp2 : Lib.hasPrefix (t.drop (lead 32 t)) [49, 46, 32] = true
        · rw [if_pos hp2]
          obtain ⟨r, hr⟩ := number_ne hp2
          have hi : idx (t.drop (lead 32 t)) 0 = some 49 := by rw [hr]; rfl
          have hd : decide (ofByte 49 = 45) = false := rfl
          have hl : 3 ≤ (t.drop (lead 32 t)).length := by rw [hr]; simp
          have hcut : cut (t.drop (lead 32 t)) 3 ((t.drop (lead 32 t)).length : Int) = some ((t.drop (lead 32 t)).drop 3) := cut_end (a := 3) hl
          simp only [e1, e2, decide_true, cond_true, has_eq, hp1', hp2, cond_false, Option.bind_some]
          rw [hlev o l hc.2]
          simp only [hi, Option.bind_some, hd, cond_false, lev_cat, hcut, List.drop_drop]
        · have hp2' : Lib.hasPrefix (t.drop (lead 32 t)) [49, 46, 32] = false := by simpa using hp2
          rw [if_neg hp2]
          simp only [e1, e2, decide_true, cond_true, has_eq, hp1', hp2', cond_false, Option.bind_some]
    · rw [if_neg hc]
      by_cases hodd : lead 32 t % 2 = 0
      · have e1 : ((lead 32 t % 2 : Nat) : Int) = 0 := by omega
        have e2 : ¬ (lead 32 t : Int) ≤ 16 := fun h => hc ⟨hodd, by omega⟩
        simp only [e1, e2, decide_true, decide_false, cond_true, cond_false, Option.bind_some]
      · have e1 : ¬ ((lead 32 t % 2 : Nat) : Int) = 0 := by omega
        simp only [e1, decide_false, cond_false, Option.bind_some]
theorem refTail_eq {t : Str} (ht : t.length ≤ 50000) {i : Nat} (hi : i < 100000) {o ol : TA5} {l ll : TA3} (hm : chanceryref2_MarkedLine (mkOf t).1 (o.length : Int) = some (ol, ll, ()))
    (ho : o.length ≤ 50000) (hl : l.length ≤ 50000) (hol : ol.length ≤ 50000) (hll : ll.length ≤ 50000) :
    refTail t (i : Int) o l = some (.inl ((), (), ((i + 1 : Nat) : Int), (o ++ ol) ++ [(10, 0, (mkOf t).2, ())], l ++ ll, ())) := by
  have w1 := wsuc (show i < 9223372036854775807 by omega)
  have c1 : cat o ol = some (o ++ ol) := cat_ok (by omega)
  have c2 : cat (o ++ ol) [((10, 0, (mkOf t).2, ()) : Int × (Int × TA1))] = some ((o ++ ol) ++ [(10, 0, (mkOf t).2, ())]) := cat_ok (by rw [List.length_append, List.length_singleton]; omega)
  have c3 : cat l ll = some (l ++ ll) := cat_ok (by omega)
  unfold refTail
  simp only [span1_eq ht, span2_eq ht, Option.bind_some, cut_end (lead_le 32 t), refMid_eq ht, hm, c1, c2, c3, w1]
theorem ref_mid {L : List Str} {i : Nat} (hi : i + 1 < L.length) (hn : L.length ≤ 50000) (o : TA5) (l : TA3) (hx : L[i].length ≤ 50000) :
    chanceryref2_Marked_l1 (L, ()) ((), (), (i : Int), o, l, ()) = refTail (trimR L[i]) (i : Int) o l := by
  have hil : i < L.length := by omega
  have e1 : (i : Int) < ((L, ()).1.length : Int) := by simp only; omega
  have wn : IntKind.i64.wrap (((L, ()).1.length : Int) - 1) = ((L.length - 1 : Nat) : Int) := by simp only; rw [wrap_i64 (by omega) (by omega)]; omega
  have e2 : ¬ (i : Int) = ((L.length - 1 : Nat) : Int) := by omega
  unfold chanceryref2_Marked_l1
  simp only [wn]
  simp only [e1, decide_true, cond_true, idx_lt hil, Option.bind_some, e2, decide_false, cond_false]
  have hts := suf13 L[i]
  by_cases h : L[i] = []
  · rw [dif_pos h] at hts
    have : trimR L[i] = L[i] := by unfold trimR Lib.trimSuffix; rw [hts]; rfl
    simp only [h, decide_true, Bool.not_true, cond_false, Option.bind_some]
    rw [h] at this
    rw [this]
    rfl
  · rw [dif_neg h] at hts
    have hl := List.length_pos_iff.2 h
    have wl : IntKind.i64.wrap ((L[i].length : Int) - 1) = ((L[i].length - 1 : Nat) : Int) := by rw [wrap_i64 (by omega) (by omega)]; omega
    have hb : decide (ofByte (L[i][L[i].length - 1]'(by omega)) = 13) = decide ((L[i][L[i].length - 1]'(by omega)) = 13) := by
      congr 1
      rw [ofByte_eq]
      apply propext
      constructor
      · intro e
        exact UInt8.toNat_inj.1 (by show _ = 13; omega)
      · intro e
        rw [e]; rfl
    simp only [h, decide_false, Bool.not_false, cond_true, wl, idx_lt (by omega : L[i].length - 1 < L[i].length), Option.bind_some, hb]
    by_cases h13 : (L[i][L[i].length - 1]'(by omega)) = 13
    · rw [decide_eq_true h13] at hts
      have : trimR L[i] = L[i].take (L[i].length - 1) := by unfold trimR Lib.trimSuffix; rw [hts]; rfl
      have hcut : cut L[i] 0 ((L[i].length - 1 : Nat) : Int) = some (L[i].take (L[i].length - 1)) := by
        rw [show (0 : Int) = ((0 : Nat) : Int) from rfl, cut_nat (Nat.zero_le _) (by omega)]
        rfl
      simp only [h13, decide_true, cond_true, hcut, Option.bind_some]
      rw [this]
      rfl
    · rw [decide_eq_false h13] at hts
      have : trimR L[i] = L[i] := by unfold trimR Lib.trimSuffix; rw [hts]; rfl
      simp only [h13, decide_false, cond_false, Option.bind_some]
      rw [this]
      rfl
theorem ref_last {L : List Str} {i : Nat} (hi : i + 1 = L.length) (hn : L.length ≤ 50000) (o : TA5) (l : TA3) :
    chanceryref2_Marked_l1 (L, ()) ((), (), (i : Int), o, l, ()) = if L[i]'(by omega) = [] ∧ 0 < i then some (.inr ((), (), o, l, ())) else refTail (L[i]'(by omega)) (i : Int) o l := by
  have hil : i < L.length := by omega
  have e1 : (i : Int) < ((L, ()).1.length : Int) := by simp only; omega
  have wn : IntKind.i64.wrap (((L, ()).1.length : Int) - 1) = (i : Int) := by simp only; rw [wrap_i64 (by omega) (by omega)]; omega
  unfold chanceryref2_Marked_l1
  simp only [wn]
  simp only [e1, decide_true, cond_true, idx_lt hil, Option.bind_some]
  by_cases h : L[i] = []
  · by_cases h0 : 0 < i
    · rw [if_pos ⟨h, h0⟩]
      have e2 : (0 : Int) < (i : Int) := by omega
      simp only [h, decide_true, cond_true, e2, Option.bind_some]
    · rw [if_neg (fun x => h0 x.2)]
      have e2 : ¬ (0 : Int) < (i : Int) := by omega
      simp only [h, decide_true, cond_true, e2, decide_false, cond_false, Option.bind_some]
      rfl
  · rw [if_neg (fun x => h x.1)]
    simp only [h, decide_false, cond_false, Option.bind_some]
    rfl
theorem ref_end {L : List Str} (o : TA5) (l : TA3) : chanceryref2_Marked_l1 (L, ()) ((), (), (L.length : Int), o, l, ()) = some (.inr ((), (), o, l, ())) := by
  unfold chanceryref2_Marked_l1
  simp only [Int.lt_irrefl, decide_false, cond_false]
end Go.Proofs.YtkjkjebmkmkgfaaDoor
