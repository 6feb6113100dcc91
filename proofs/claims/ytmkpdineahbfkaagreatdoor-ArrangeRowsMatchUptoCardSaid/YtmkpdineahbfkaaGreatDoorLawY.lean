/- The law. -/
import Derived.Test.YtmkpdineahbfkaaGreatDoorLawX
namespace Go.Proofs.YtmkpdineahbfkaaGreatDoor
open Go Go.Fe

theorem sorts_true : chancerylaw2_sorts = some (true, ()) := by kernel_rfl
theorem want_stop {v : Val} {K : TA11} {e : Int} (h : e ≠ 0) (t : Nat) : chancerylaw2_ArrangeRowsMatch_l1 K ((), e, (t : Int), qv v, ()) = some (.inr ((), e, qv v, ())) := by
  unfold chancerylaw2_ArrangeRowsMatch_l1
  by_cases h1 : (t : Int) < (K.length : Int)
  · simp only [h1, h, decide_true, decide_false, cond_true, Option.bind_some, cond_false]
  · simp only [h1, decide_false, cond_false, Option.bind_some]
theorem want_halts {v : Val} {K : TA11} (hl : K.length ≤ 1000) : ∀ (n t : Nat), K.length - t = n → t ≤ K.length →
    Halts (chancerylaw2_ArrangeRowsMatch_l1 K) (n + 1) ((), 0, (t : Int), qv v, ()) ((), (if (K.drop t).any (kbad v) = true then 2 else 0), qv v, ())
  | n, t, hn, ht => by
    by_cases h : t < K.length
    · have e1 : (t : Int) < (K.length : Int) := by omega
      have hd : K.drop t = K[t] :: K.drop (t + 1) := List.drop_eq_getElem_cons h
      have w1 := wsuc (show t < 9223372036854775807 by omega)
      have hc : (qv v).2.2.2.2.2.2.2.1 = vcols v := rfl
      rw [hd, List.any_cons]
      have stop : kbad v K[t] = true → chancerylaw2_ArrangeRowsMatch_l1 K ((), 0, (t : Int), qv v, ()) = some (.inl ((), 2, ((t + 1 : Nat) : Int), qv v, ())) := fun hb => by
        unfold kbad at hb
        unfold chancerylaw2_ArrangeRowsMatch_l1
        by_cases h0 : K[t].1 < 0
        · simp only [e1, decide_true, cond_true, Option.bind_some, idx_lt h, h0, w1]
        · have h1 : vcols v ≤ K[t].1 := by
            rw [decide_eq_false h0, Bool.false_or] at hb
            exact of_decide_eq_true hb
          simp only [e1, decide_true, cond_true, Option.bind_some, idx_lt h, h0, decide_false, cond_false, hc, h1, w1]
      cases hb : kbad v K[t] with
      | true =>
        rw [Bool.true_or, if_pos rfl]
        exact Halts.step (stop hb) (Halts.done (want_stop (by decide) _))
      | false =>
        rw [Bool.false_or]
        cases n with
        | zero => omega
        | succ n =>
        refine Halts.step ?_ (want_halts hl n (t + 1) (by omega) (by omega))
        unfold kbad at hb
        rw [Bool.or_eq_false_iff] at hb
        have h0 : ¬ K[t].1 < 0 := of_decide_eq_false hb.1
        have h1 : ¬ vcols v ≤ K[t].1 := of_decide_eq_false hb.2
        unfold chancerylaw2_ArrangeRowsMatch_l1
        simp only [e1, decide_true, cond_true, Option.bind_some, idx_lt h, h0, decide_false, cond_false, hc, h1, w1]
    · have e1 : ¬ (t : Int) < (K.length : Int) := by omega
      rw [List.drop_of_length_le (by omega), List.any_nil, if_neg (by decide)]
      refine Halts.done ?_
      unfold chancerylaw2_ArrangeRowsMatch_l1
      simp only [e1, decide_false, cond_false, Option.bind_some]
/-- What the program answers is what is wanted; all tests are met. -/
theorem arrange_put {v : Val} (hv : vb v ≤ 1048576) {K : TA11} {k : Int} (h60 : v.kids.length ≤ 60) (h80 : K.length ≤ 80) {W O : Int} {Z : List Int} {G : List TA8} {x : TA0}
    (hrows : arrange_Rows v K = some (Z, W, ())) (hgroups : arrange_Groups v k = some (G, O, ())) (hx : x = qv v)
    (hwant : loop (chancerylaw2_ArrangeRowsMatch_l1 K) ((), (if aerr v = 0 ∧ 64 < K.length then 3 else aerr v), 0, x, ()) = some ((), W, x, ()))
    (hother : O = if aerr v = 0 ∧ (k < 0 ∨ vcols v ≤ k) then 2 else aerr v) (hWZ : W ≠ 0 → Z = []) (hOG : O ≠ 0 → G = [])
    (hZ : W = 0 → (Z.length : Int) = vrows v ∧ loop (chancerylaw2_ArrangeRowsMatch_l2 (Z, W, ()) K) ((), ((), ()), 0, x, ()) = some (.inl ((), ((), ()), x, ())))
    (hG : O = 0 → loop (chancerylaw2_ArrangeRowsMatch_l4 (G, O, ()) k) ((), ((), ()), 0, 0, x, ()) = some (.inl ((), vrows v, x, ()))) :
    chancerylaw2_ArrangeRowsMatch v K k = some (true, ()) := by
  have e1 : ¬ 60 < (v.kids.length : Int) := by omega
  have e2 : ¬ 80 < (K.length : Int) := by omega
  have hr : x.2.2.2.2.2.2.1 = vrows v := by rw [hx]; rfl
  have hc : x.2.2.2.2.2.2.2.1 = vcols v := by rw [hx]; rfl
  have hq : (v.data.1, (v.data.2.1.1, (v.data.2.1.2.1, (v.data.2.2.1, (v.data.2.2.2.1, (v.data.2.2.2.2.1, (v.data.2.2.2.2.2.1, (v.data.2.2.2.2.2.2.1, (v.kids, ()))))))))) = x := by rw [hx]; rfl
  have hw1 : (cond (decide (aerr v = 0)) (some ((), (decide (64 < (K.length : Int))), x, ())) (some ((), false, x, ())) : Option TA10) = some ((), decide (aerr v = 0 ∧ 64 < K.length), x, ()) := by
    by_cases h : aerr v = 0
    · rw [decide_eq_true h, cond_true]
      congr 3
      by_cases h2 : 64 < K.length
      · rw [decide_eq_true (by omega), decide_eq_true ⟨h, h2⟩]
      · rw [decide_eq_false (by omega), decide_eq_false (fun x => h2 x.2)]
    · rw [decide_eq_false h, cond_false, decide_eq_false (fun x => h x.1)]
  have hw2 : (cond (decide (aerr v = 0 ∧ 64 < K.length)) (some ((), 3, x, ())) (some ((), aerr v, x, ())) : Option (Unit × TA18)) = some ((), (if aerr v = 0 ∧ 64 < K.length then 3 else aerr v), x, ()) := by
    by_cases h : aerr v = 0 ∧ 64 < K.length
    · rw [decide_eq_true h, cond_true, if_pos h]
    · rw [decide_eq_false h, cond_false, if_neg h]
  have hw3 : (cond (decide (aerr v = 0)) (cond (decide (k < 0)) (some ((), true, x, ())) (some ((), (decide (vcols v ≤ k)), x, ()))) (some ((), false, x, ())) : Option TA10) = some ((), decide (aerr v = 0 ∧ (k < 0 ∨ vcols v ≤ k)), x, ()) := by
    by_cases h : aerr v = 0
    · rw [decide_eq_true h, cond_true]
      by_cases h2 : k < 0
      · rw [decide_eq_true h2, cond_true, decide_eq_true ⟨h, .inl h2⟩]
      · rw [decide_eq_false h2, cond_false]
        congr 3
        by_cases h3 : vcols v ≤ k
        · rw [decide_eq_true h3, decide_eq_true ⟨h, .inr h3⟩]
        · rw [decide_eq_false h3, decide_eq_false (fun x => x.2.elim h2 h3)]
    · rw [decide_eq_false h, cond_false, decide_eq_false (fun x => h x.1)]
  have hw4 : (cond (decide (aerr v = 0 ∧ (k < 0 ∨ vcols v ≤ k))) (some ((), 2, x, ())) (some ((), aerr v, x, ())) : Option (Unit × TA18)) = some ((), O, x, ()) := by
    rw [hother]
    by_cases h : aerr v = 0 ∧ (k < 0 ∨ vcols v ≤ k)
    · rw [decide_eq_true h, cond_true, if_pos h]
    · rw [decide_eq_false h, cond_false, if_neg h]
  unfold chancerylaw2_ArrangeRowsMatch
  simp only [sorts_true, Option.bind_some, Bool.not_true, cond_false, e1, decide_false, e2, hq]
  simp only [show x.1 = v.data.1 from by rw [hx]; rfl, show x.2.1 = v.data.2.1.1 from by rw [hx]; rfl, show x.2.2.1 = v.data.2.1.2.1 from by rw [hx]; rfl, show x.2.2.2.1 = v.data.2.2.1 from by rw [hx]; rfl, show x.2.2.2.2.1 = v.data.2.2.2.1 from by rw [hx]; rfl,
    show x.2.2.2.2.2.1 = v.data.2.2.2.2.1 from by rw [hx]; rfl, show x.2.2.2.2.2.2.1 = v.data.2.2.2.2.2.1 from by rw [hx]; rfl, show x.2.2.2.2.2.2.2.1 = v.data.2.2.2.2.2.2.1 from by rw [hx]; rfl, show x.2.2.2.2.2.2.2.2.1 = v.kids from by rw [hx]; rfl]
  simp only [remade, hrows, hgroups, array_ref hv, Option.bind_some]
  rw [hw1]
  simp only [Option.bind_some]
  rw [hw2]
  simp only [Option.bind_some]
  rw [hwant]
  simp only [Option.bind_some, hc]
  rw [hw3]
  simp only [Option.bind_some]
  rw [hw4]
  simp only [Option.bind_some, decide_true, Bool.not_true, cond_false]
  by_cases hW : W = 0
  · obtain ⟨z1, z2⟩ := hZ hW
    subst hW
    by_cases hO : O = 0
    · have g := hG hO
      subst hO
      simp only [decide_true, Bool.not_true, cond_false, cond_true, Option.bind_some, hr, z1, z2, g]
    · have g := hOG hO
      subst g
      simp only [hO, decide_true, decide_false, Bool.not_true, Bool.not_false, cond_false, cond_true, Option.bind_some, hr, z1, z2, List.length_nil, Int.ofNat_zero, Int.lt_irrefl]
  · have z := hWZ hW
    subst z
    by_cases hO : O = 0
    · have g := hG hO
      subst hO
      simp only [hW, decide_true, decide_false, Bool.not_true, Bool.not_false, cond_false, cond_true, Option.bind_some, hr, g, List.length_nil, Int.ofNat_zero, Int.lt_irrefl]
    · have g := hOG hO
      subst g
      simp only [hW, hO, decide_false, Bool.not_false, cond_false, cond_true, Option.bind_some, List.length_nil, Int.ofNat_zero, Int.lt_irrefl]
theorem arrange_law {v : Val} (hv : vb v ≤ 1048576) (K : TA11) (k : Int) : chancerylaw2_ArrangeRowsMatch v K k = some (true, ()) := by
  by_cases h60 : v.kids.length ≤ 60
  · by_cases h80 : K.length ≤ 80
    · have hq : ∀ e : Int, e ≠ 0 → loop (chancerylaw2_ArrangeRowsMatch_l1 K) ((), e, 0, qv v, ()) = some ((), e, qv v, ()) := fun e he =>
        (Halts.done (n := 0) (want_stop he 0)).loop (by omega)
      by_cases ha : aerr v = 0
      · have h5 : verr v = 0 ∧ vkind v = 5 := by
          unfold aerr at ha
          by_cases e : verr v = 0
          · rw [if_neg (fun h => h e)] at ha
            by_cases e5 : vkind v = 5
            · exact ⟨e, e5⟩
            · rw [if_neg e5] at ha; omega
          · rw [if_pos e] at ha; exact absurd ha e
        obtain ⟨R, C, A⟩ := arr_of h5.1 h5.2 h60 hv
        have hm := A.most
        have hR : R ≤ 60 := by
          have h2 : R * 1 ≤ R * C := Nat.mul_le_mul_left R A.c1
          omega
        have hrow : vrows v = (R : Int) := A.rows
        have hcol : vcols v = (C : Int) := A.cols
        obtain ⟨G, O, hg, hO, hOG, hG⟩ : ∃ G O, arrange_Groups v k = some (G, O, ()) ∧ O = (if aerr v = 0 ∧ (k < 0 ∨ vcols v ≤ k) then 2 else aerr v) ∧ (O ≠ 0 → G = []) ∧
            (O = 0 → loop (chancerylaw2_ArrangeRowsMatch_l4 (G, O, ()) k) ((), ((), ()), 0, 0, qv v, ()) = some (.inl ((), vrows v, qv v, ()))) := by
          by_cases hk : k < 0 ∨ vcols v ≤ k
          · exact ⟨[], 2, Groups_col hv ha hk, by rw [if_pos ⟨ha, hk⟩], fun _ => rfl, fun h => absurd h (by decide)⟩
          · obtain ⟨G, g1, g2, g3⟩ := Groups_ok hv ha A (show 0 ≤ k by omega) (by omega)
            refine ⟨G, 0, g3, by rw [if_neg (fun h => hk h.2), ha], fun h => absurd rfl h, fun _ => ?_⟩
            rw [hrow]
            exact (outer_halts A (show 0 ≤ k by omega) (by omega) hR (G := G) (by omega) (0, ()) G.length 0 0 (by omega) (Nat.zero_le _) g1 (fun h => absurd h (by decide))).loop (by omega)
        by_cases hl : K.length ≤ 64
        · have hn : ¬ (aerr v = 0 ∧ 64 < K.length) := fun h => by omega
          have hw := (want_halts (v := v) (K := K) (by omega) K.length 0 (by omega) (Nat.zero_le _)).loop (by omega)
          cases hk : K.any (kbad v) with
          | true =>
            rw [List.drop_zero, if_pos hk] at hw
            exact arrange_put hv h60 h80 (Rows_key hv ha hl hk) hg rfl (by rw [if_neg hn, ha]; exact hw) hO (fun _ => rfl) hOG (fun h => absurd h (by decide)) hG
          | false =>
            rw [List.drop_zero, if_neg (by rw [hk]; decide)] at hw
            obtain ⟨hK, Z, z1, z2, z3⟩ := Rows_ok hv ha hl hk A
            exact arrange_put hv h60 h80 z3 hg rfl (by rw [if_neg hn, ha]; exact hw) hO (fun h => absurd rfl h) hOG
              (fun _ => ⟨by rw [hrow, z2.length_eq, upto_len], (sorted_halts A hK hl hR z1 z2 (0, ())).loop (by rw [z2.length_eq, upto_len]; omega)⟩) hG
        · exact arrange_put hv h60 h80 (Rows_long hv ha (by omega)) hg rfl (by rw [if_pos ⟨ha, by omega⟩]; exact hq 3 (by decide)) hO (fun _ => rfl) hOG (fun h => absurd h (by decide)) hG
      · have hn : ∀ p, ¬ (aerr v = 0 ∧ p) := fun p h => ha h.1
        exact arrange_put hv h60 h80 (Rows_bad hv K ha) (Groups_bad hv k ha) rfl (by rw [if_neg (hn _)]; exact hq _ ha) (by rw [if_neg (hn _)]) (fun _ => rfl) (fun _ => rfl) (fun h => absurd h ha) (fun h => absurd h ha)
    · have e1 : ¬ 60 < (v.kids.length : Int) := by omega
      have e2 : 80 < (K.length : Int) := by omega
      unfold chancerylaw2_ArrangeRowsMatch
      simp only [sorts_true, Option.bind_some, Bool.not_true, cond_false, e1, e2, decide_false, decide_true, cond_true]
  · have e1 : 60 < (v.kids.length : Int) := by omega
    unfold chancerylaw2_ArrangeRowsMatch
    simp only [sorts_true, Option.bind_some, Bool.not_true, cond_false, e1, decide_true, cond_true]
end Go.Proofs.YtmkpdineahbfkaaGreatDoor
