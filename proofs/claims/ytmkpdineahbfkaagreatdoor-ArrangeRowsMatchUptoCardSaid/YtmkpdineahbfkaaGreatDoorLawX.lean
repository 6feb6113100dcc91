/- Groups, and what is asked of rows. -/
import Derived.Test.YtmkpdineahbfkaaGreatDoorLawW
namespace Go.Proofs.YtmkpdineahbfkaaGreatDoor
open Go Go.Fe

/-! ### Groups -/
/-- Stretches of rows, one behind the other; p k: row k is like the one ahead of it. -/
inductive Ch (p : Nat → Bool) : List TA8 → Nat → Prop
  | nil : Ch p [] 0
  | snoc {l : List TA8} {f n : Nat} : Ch p l f → f < n → (0 < f → p f = false) → (∀ k, f < k → k < n → p k = true) → Ch p (l ++ [((f : Int), (n : Int), ())]) n
def Fr (p : Nat → Bool) : Nat → List TA8 → Nat → Prop
  | a, [], n => a = n
  | a, s :: r, n => ∃ t : Nat, s = ((a : Int), (t : Int), ()) ∧ a < t ∧ (0 < a → p a = false) ∧ (∀ k, a < k → k < t → p k = true) ∧ Fr p t r n
theorem fr_snoc {p : Nat → Bool} {f n : Nat} (h1 : f < n) (h2 : 0 < f → p f = false) (h3 : ∀ k, f < k → k < n → p k = true) : ∀ (l : List TA8) (a : Nat), Fr p a l f → Fr p a (l ++ [((f : Int), (n : Int), ())]) n
  | [], a, h => by
    have h : a = f := h
    subst h
    exact ⟨n, rfl, h1, h2, h3, rfl⟩
  | s :: r, a, ⟨t, e, g1, g2, g3, g4⟩ => ⟨t, e, g1, g2, g3, fr_snoc h1 h2 h3 r t g4⟩
theorem ch_fr {p : Nat → Bool} {l : List TA8} {n : Nat} (h : Ch p l n) : Fr p 0 l n := by
  induction h with
  | nil => rfl
  | snoc _ h1 h2 h3 ih => exact fr_snoc h1 h2 h3 _ _ ih
theorem fr_le {p : Nat → Bool} : ∀ (l : List TA8) (a n : Nat), Fr p a l n → a ≤ n
  | [], a, n, h => Nat.le_of_eq h
  | s :: r, a, n, ⟨t, _, g1, _, _, g4⟩ => by
    have := fr_le r t n g4
    omega
/-- Is a row's item the one's ahead of it? -/
noncomputable def likeP (v : Val) (C : Nat) (k : Int) (i : Nat) : Bool := sameV (itm v C i k) (itm v C (i - 1) k)
theorem groups_halts {v : Val} {R C : Nat} (A : Arr v R C) {k : Int} (h0 : 0 ≤ k) (hk : k < C) (r3 : TA10) (hr : r3.2.2.1 = qv v) : ∀ (n i : Nat) (out : List TA8), R - i = n → i ≤ R → Ch (likeP v C k) out i → out.length ≤ i →
    ∃ out', Ch (likeP v C k) out' R ∧ out'.length ≤ R ∧ Halts (arrange_Groups_l1 r3 k) n ((), (), (i : Int), qv v, out, ()) ((), out', ())
  | n, i, out, hn, hi, hc, ho => by
    have hm := A.most
    have hR : R ≤ 60 := by
      have h2 : R * 1 ≤ R * C := Nat.mul_le_mul_left R A.c1
      omega
    have hrow : (qv v).2.2.2.2.2.2.1 = (R : Int) := A.rows
    by_cases h : i < R
    · cases n with
      | zero => omega
      | succ n =>
      have q1 : R - (i + 1) = n := by omega
      have q2 : i + 1 ≤ R := by omega
      have e1 : (i : Int) < (R : Int) := by omega
      have g1 : idx (qv v).2.2.2.2.2.2.2.2.1 (IntKind.i64.wrap (IntKind.i64.wrap ((i : Int) * (qv v).2.2.2.2.2.2.2.1) + k)) = some (itm v C i k) := itm_idx A h h0 hk
      have w1 := wsuc (show i < 9223372036854775807 by omega)
      have app : (hp : 0 < i → likeP v C k i = false) → ∃ out', Ch (likeP v C k) out' R ∧ out'.length ≤ R ∧ Halts (arrange_Groups_l1 r3 k) n ((), (), ((i + 1 : Nat) : Int), qv v, out ++ [((i : Int), ((i + 1 : Nat) : Int), ())], ()) ((), out', ()) := fun hp =>
        groups_halts A h0 hk r3 hr n (i + 1) _ (by omega) (by omega) (.snoc hc (by omega) hp (fun q q1 q2 => by omega)) (by rw [List.length_append, List.length_singleton]; omega)
      have hcat : cat out [((i : Int), ((i + 1 : Nat) : Int), ())] = some (out ++ [((i : Int), ((i + 1 : Nat) : Int), ())]) := cat_ok (by rw [List.length_singleton]; omega)
      by_cases hz : 0 < i
      · have e2 : (0 : Int) < (i : Int) := by omega
        have wp := zpred (i := i) hz (by omega)
        have g2 : idx (qv v).2.2.2.2.2.2.2.2.1 (IntKind.i64.wrap (IntKind.i64.wrap (((i - 1 : Nat) : Int) * (qv v).2.2.2.2.2.2.2.1) + k)) = some (itm v C (i - 1) k) := itm_idx A (by omega) h0 hk
        have hs : value_Same (itm v C i k) (itm v C (i - 1) k) = some (likeP v C k i, ()) := Same_eq (itm_ok A h h0 hk).2.2
        cases hp : likeP v C k i with
        | false =>
          obtain ⟨out', f1, f2, f3⟩ := app (fun _ => hp)
          refine ⟨out', f1, f2, Halts.step ?_ f3⟩
          unfold arrange_Groups_l1
          simp only [hr, hrow, e1, decide_true, cond_true, e2, g1, wp, g2, hs, hp, Option.bind_some, cond_false, w1, hcat]
        | true =>
          cases hc with
          | nil => omega
          | @snoc l f _ c1 c2 c3 c4 =>
            have hl : (l ++ [((f : Int), (i : Int), ())] : List TA8).length = l.length + 1 := by rw [List.length_append, List.length_singleton]
            have hl2 : (l ++ [((f : Int), ((i + 1 : Nat) : Int), ())] : List TA8).length ≤ i + 1 := by
              rw [hl] at ho
              rw [List.length_append, List.length_singleton]
              omega
            have hch : Ch (likeP v C k) (l ++ [((f : Int), ((i + 1 : Nat) : Int), ())]) (i + 1) := .snoc c1 (by omega) c3 (fun q q1 q2 => by
              by_cases e : q = i
              · subst e; exact hp
              · exact c4 q q1 (by omega))
            obtain ⟨out', f1, f2, f3⟩ := groups_halts A h0 hk r3 hr n (i + 1) _ q1 q2 hch hl2
            have wl := zpred (i := l.length + 1) (by omega) (by omega)
            rw [Nat.add_sub_cancel] at wl
            have hin : inb (l.length : Int) (l.length + 1) = true := inb_nat (by omega)
            have hget : (l ++ [((f : Int), (i : Int), ())] : List TA8).getD l.length (0, (0, ())) = ((f : Int), (i : Int), ()) := by
              rw [List.getD_eq_getElem?_getD, List.getElem?_append_right (Nat.le_refl _), Nat.sub_self]; rfl
            have hset : (l ++ [((f : Int), (i : Int), ())] : List TA8).set l.length ((f : Int), (((i + 1 : Nat) : Int), ())) = l ++ [((f : Int), ((i + 1 : Nat) : Int), ())] := by
              rw [List.set_append_right _ _ (Nat.le_refl _), Nat.sub_self]; rfl
            refine ⟨out', f1, f2, Halts.step ?_ f3⟩
            unfold arrange_Groups_l1
            simp only [hr, hrow, e1, decide_true, cond_true, e2, g1, wp, g2, hs, hp, Option.bind_some, hl, wl, hin, chk_t, Int.toNat_natCast, hget, w1, hset]
      · have e2 : ¬ (0 : Int) < (i : Int) := by omega
        obtain ⟨out', f1, f2, f3⟩ := app (fun h => absurd h hz)
        refine ⟨out', f1, f2, Halts.step ?_ f3⟩
        unfold arrange_Groups_l1
        simp only [hr, hrow, e1, decide_true, cond_true, e2, decide_false, Option.bind_some, cond_false, w1, hcat]
    · have : i = R := by omega
      subst this
      refine ⟨out, hc, ho, Halts.done ?_⟩
      unfold arrange_Groups_l1
      simp only [hr, hrow, Int.lt_irrefl, decide_false, cond_false]
theorem Groups_bad {v : Val} (hb : vb v ≤ 1048576) (k : Int) (h : aerr v ≠ 0) : arrange_Groups v k = some ([], aerr v, ()) := by
  unfold arrange_Groups
  simp only [tn_eq, array_prog hb, Option.bind_some, h, decide_false, Bool.not_false, cond_true]
theorem Groups_col {v : Val} (hb : vb v ≤ 1048576) {k : Int} (h : aerr v = 0) (hk : k < 0 ∨ vcols v ≤ k) : arrange_Groups v k = some ([], 2, ()) := by
  unfold arrange_Groups
  simp only [tn_eq, array_prog hb, Option.bind_some, h, decide_true, Bool.not_true, cond_false]
  by_cases h0 : k < 0
  · simp only [h0, decide_true, cond_true, Option.bind_some]
  · have h1 : v.data.2.2.2.2.2.2.1 ≤ k := hk.resolve_left h0
    simp only [h0, decide_false, cond_false, Option.bind_some, h1, decide_true, cond_true]
theorem Groups_ok {v : Val} (hb : vb v ≤ 1048576) {k : Int} (h : aerr v = 0) {R C : Nat} (A : Arr v R C) (h0 : 0 ≤ k) (hk : k < C) : ∃ G, Fr (likeP v C k) 0 G R ∧ G.length ≤ R ∧ arrange_Groups v k = some (G, 0, ()) := by
  have e1 : ¬ k < 0 := by omega
  have e2 : ¬ v.data.2.2.2.2.2.2.1 ≤ k := by
    have : v.data.2.2.2.2.2.2.1 = (C : Int) := A.cols
    omega
  have hm := A.most
  have hR : R ≤ 60 := by
    have h2 : R * 1 ≤ R * C := Nat.mul_le_mul_left R A.c1
    omega
  obtain ⟨G, g1, g2, g3⟩ := groups_halts A h0 hk ((), decide (v.data.2.2.2.2.2.2.1 ≤ k), qv v, ()) rfl R 0 [] (by omega) (Nat.zero_le _) .nil (Nat.zero_le _)
  have hlp : loop (arrange_Groups_l1 ((), decide (v.data.2.2.2.2.2.2.1 ≤ k), qv v, ()) k) ((), (), 0, qv v, [], ()) = some ((), G, ()) := g3.loop (by omega)
  refine ⟨G, ch_fr g1, g2, ?_⟩
  unfold qv at hlp
  unfold arrange_Groups
  simp only [tn_eq, array_prog hb, Option.bind_some, h, decide_true, Bool.not_true, cond_false, e1, decide_false]
  simp only [e2, decide_false] at hlp ⊢
  rw [cond_false, hlp]
  rfl

/-! ### What is asked of groups -/
section
variable {v : Val} {R C : Nat} (A : Arr v R C) {k : Int} (h0 : 0 ≤ k) (hk : k < C)
include A h0 hk
theorem item_eq {i : Nat} (hi : i < R) : chancerylaw2_ArrangeRowsMatch_1 (i : Int) k (qv v).1 (qv v).2.1 (qv v).2.2.1 (qv v).2.2.2.1 (qv v).2.2.2.2.1 (qv v).2.2.2.2.2.1 (qv v).2.2.2.2.2.2.1 (qv v).2.2.2.2.2.2.2.1 (qv v).2.2.2.2.2.2.2.2.1 = some (itm v C i k, (), qv v, ()) := by
  have g : idx (qv v).2.2.2.2.2.2.2.2.1 (IntKind.i64.wrap (IntKind.i64.wrap ((i : Int) * (qv v).2.2.2.2.2.2.2.1) + k)) = some (itm v C i k) := itm_idx A hi h0 hk
  unfold chancerylaw2_ArrangeRowsMatch_1
  rw [g, Option.bind_some, tn_eq]
  try rfl
omit A h0 hk in
theorem like_from {a t : Nat} (ht : t ≤ R) (h : ∀ q, a < q → q < t → likeP v C k q = true) : ∀ q, a ≤ q → q < t → itm v C q k = itm v C a k
  | 0, h1, _ => by
    have : a = 0 := by omega
    rw [this]
  | q + 1, h1, h2 => by
    by_cases e : a = q + 1
    · rw [e]
    · have h3 := h (q + 1) (by omega) h2
      have h4 : itm v C (q + 1) k = itm v C q k := by
        unfold likeP sameV at h3
        simpa using h3
      rw [h4]
      exact like_from ht h q (by omega) (by omega)
theorem inner_halts {a t : Nat} (hat : a < t) (ht : t ≤ R) (h : ∀ q, a < q → q < t → likeP v C k q = true) (hR : R ≤ 60) : ∀ (n i : Nat), t - i = n → a < i → i ≤ t →
    Halts (chancerylaw2_ArrangeRowsMatch_l3 k) n ((), ((), ()), (), (i : Int), qv v, ((a : Int), (t : Int), ()), ()) (.inl ((), ((), ()), (), qv v, ((a : Int), (t : Int), ()), ()))
  | n, i, hn, h1, h2 => by
    by_cases hi : i < t
    · cases n with
      | zero => omega
      | succ n =>
      have e1 : (i : Int) < (t : Int) := by omega
      have g1 := item_eq A h0 hk (show i < R by omega)
      have g2 := item_eq A h0 hk (show a < R by omega)
      have hs : chanceryref2_SameValue (itm v C i k) (itm v C a k) = some (true, ()) := by
        rw [rSame_eq (itm_ok A (by omega) h0 hk).2.2, like_from ht h i (by omega) hi, sameV_self]
      have w1 := wsuc (show i < 9223372036854775807 by omega)
      refine Halts.step ?_ (inner_halts hat ht h hR n (i + 1) (by omega) (by omega) (by omega))
      unfold chancerylaw2_ArrangeRowsMatch_l3
      simp only [e1, decide_true, cond_true, g1, Option.bind_some, g2, hs, Bool.not_true, cond_false, w1]
    · have e1 : ¬ (i : Int) < (t : Int) := by omega
      refine Halts.done ?_
      unfold chancerylaw2_ArrangeRowsMatch_l3
      simp only [e1, decide_false, cond_false]
theorem outer_halts (hR : R ≤ 60) {G : List TA8} (hG : G.length ≤ 1000) (z : Int × Unit) : ∀ (n a j : Nat), G.length - j = n → j ≤ G.length → Fr (likeP v C k) a (G.drop j) R → (0 < j → 0 < a) →
    Halts (chancerylaw2_ArrangeRowsMatch_l4 (G, z) k) n ((), ((), ()), (a : Int), (j : Int), qv v, ()) (.inl ((), (R : Int), qv v, ()))
  | n, a, j, hn, hj, hf, hpos => by
    by_cases h : j < G.length
    · cases n with
      | zero => omega
      | succ n =>
      rw [List.drop_eq_getElem_cons h] at hf
      obtain ⟨t, f1, f2, f3, f4, f5⟩ := hf
      have ht := fr_le _ _ _ f5
      have e1 : (j : Int) < ((G, z).1.length : Int) := by simp only; omega
      have hi : idx (G, z).1 (j : Int) = some ((a : Int), (t : Int), ()) := by rw [← f1]; exact idx_lt h
      have e3 : ¬ (t : Int) ≤ (a : Int) := by omega
      have hrow : (qv v).2.2.2.2.2.2.1 = (R : Int) := A.rows
      have e4 : ¬ (R : Int) < (t : Int) := by omega
      have w1 := wsuc (show a < 9223372036854775807 by omega)
      have wj := wsuc (show j < 9223372036854775807 by omega)
      have hlp := (inner_halts A h0 hk f2 ht f4 hR (t - (a + 1)) (a + 1) rfl (by omega) (by omega)).loop (by omega)
      have g1 := item_eq A h0 hk (show a < R by omega)
      refine Halts.step ?_ (outer_halts hR hG z n t (j + 1) (by omega) (by omega) f5 (fun _ => by omega))
      by_cases hj0 : 0 < j
      · have e5 : (0 : Int) < (j : Int) := by omega
        have ha := hpos hj0
        have wa := zpred (i := a) ha (by omega)
        have g2 := item_eq A h0 hk (show a - 1 < R by omega)
        have hs : chanceryref2_SameValue (itm v C a k) (itm v C (a - 1) k) = some (false, ()) := by
          rw [rSame_eq (itm_ok A (by omega) h0 hk).2.2]
          have : sameV (itm v C a k) (itm v C (a - 1) k) = false := f3 ha
          rw [this]
        rw [hrow] at g1 g2
        unfold chancerylaw2_ArrangeRowsMatch_l4
        simp only [e1, decide_true, cond_true, hi, Option.bind_some, Bool.not_true, cond_false, e3, decide_false, hrow, e4, w1, hlp, e5, g1, wa, g2, hs, wj]
      · have e5 : ¬ (0 : Int) < (j : Int) := by omega
        unfold chancerylaw2_ArrangeRowsMatch_l4
        simp only [e1, decide_true, cond_true, hi, Option.bind_some, Bool.not_true, cond_false, e3, decide_false, hrow, e4, w1, hlp, e5, wj]
    · have e1 : ¬ (j : Int) < ((G, z).1.length : Int) := by simp only; omega
      rw [List.drop_of_length_le (by omega)] at hf
      have hf : a = R := hf
      subst hf
      refine Halts.done ?_
      unfold chancerylaw2_ArrangeRowsMatch_l4
      simp only [e1, decide_false, cond_false]
end

/-! ### What is asked of sorted rows -/
theorem index_halts {xs : List Int} {a : Int} (h : a ∉ xs) (hl : xs.length ≤ 1000) : Halts (slices_Index_int_int__l1 xs a) (0 + xs.length) (((0 : Nat) : Int), ()) (.inl ()) := by
  refine Halts.along (fun i => ((i : Int), ())) xs.length (fun i hi => ?_) (.done ?_)
  · have e1 : (i : Int) < (xs.length : Int) := by omega
    have e2 : ¬ a = xs[i] := fun e => h (by rw [e]; exact List.getElem_mem hi)
    have w1 := wsuc (show i < 9223372036854775807 by omega)
    unfold slices_Index_int_int__l1
    simp only [e1, decide_true, cond_true, idx_lt hi, Option.bind_some, e2, decide_false, cond_false, w1]
  · unfold slices_Index_int_int__l1
    simp only [Int.lt_irrefl, decide_false, cond_false]
theorem contains_no {xs : List Int} {a : Int} (h : a ∉ xs) (hl : xs.length ≤ 1000) : slices_Contains_int_int_ xs a = some (false, ()) := by
  have hlp : loop (slices_Index_int_int__l1 xs a) (0, ()) = some (.inl ()) := (index_halts h hl).loop (by omega)
  unfold slices_Contains_int_int_ slices_Index_int_int_
  rw [hlp]
  rfl
section
variable {v : Val} {R C : Nat} (A : Arr v R C) {K : TA11} (hK : ∀ k ∈ K, 0 ≤ k.1 ∧ k.1 < C) (hl : K.length ≤ 64)
include A hK hl
theorem ahead_halts {i j : Nat} (hi : i < R) (hj : j < R) : ∀ (n t : Nat), K.length - t = n → t ≤ K.length → ∃ r, Halts (chancerylaw2_ahead_ArrangeRowsMatch_1_l1 K (i : Int) (j : Int)) n (((), ()), (t : Int), qv v, ()) r ∧
      (match r with
      | .inl z10 => (some (decide ((i : Int) < (j : Int)), ((), ()), z10.2.1, ()) : Option (Bool × (TA20 × (TA0 × Unit))))
      | .inr z11 => (some (z11.2.1, ((), ()), z11.2.2.1, ()))) = some (if ck v C (K.drop t) i j ≠ 0 then decide (ck v C (K.drop t) i j < 0) else decide ((i : Int) < (j : Int)), ((), ()), qv v, ())
  | n, t, hn, ht => by
    by_cases h : t < K.length
    · have hk := hK _ (List.getElem_mem h)
      have e1 : (t : Int) < (K.length : Int) := by omega
      have g1 := item_eq A hk.1 hk.2 hi
      have g2 := item_eq A hk.1 hk.2 hj
      have o1 := itm_ok A hi hk.1 hk.2
      have o2 := itm_ok A hj hk.1 hk.2
      have ho := rOrder_eq o1.1.1 o2.1.1 o1.1.2 o2.1.2
      have hbd := ov_bound (itm v C i K[t].1) (itm v C j K[t].1)
      have wn : IntKind.i64.wrap (0 - ov (itm v C i K[t].1) (itm v C j K[t].1)) = -ov (itm v C i K[t].1) (itm v C j K[t].1) := by rw [wrap_i64 (by omega) (by omega)]; omega
      have hd : K.drop t = K[t] :: K.drop (t + 1) := List.drop_eq_getElem_cons h
      have w1 := wsuc (show t < 9223372036854775807 by omega)
      have key : chancerylaw2_ahead_ArrangeRowsMatch_1_l1 K (i : Int) (j : Int) (((), ()), (t : Int), qv v, ()) = some (if okey1 K[t].2.1 (itm v C i K[t].1) (itm v C j K[t].1) ≠ 0 then .inr (.inr (((), ()), decide (okey1 K[t].2.1 (itm v C i K[t].1) (itm v C j K[t].1) < 0), qv v, ())) else .inl (((), ()), ((t + 1 : Nat) : Int), qv v, ())) := by
        unfold chancerylaw2_ahead_ArrangeRowsMatch_1_l1
        simp only [e1, decide_true, cond_true, idx_lt h, Option.bind_some, g1, g2, tn_eq, ho, w1]
        unfold okey1 vkind
        generalize ov (itm v C i K[t].1) (itm v C j K[t].1) = c at *
        cases K[t].2.1 with
        | false =>
          simp only [cond_false, Option.bind_some, Bool.false_eq_true, false_and, if_false]
          by_cases hc : c = 0 <;> simp [hc]
        | true =>
          by_cases q1 : (itm v C i K[t].1).data.1 = 0
          · simp only [q1, decide_true, Bool.not_true, cond_true, cond_false, Option.bind_some]
            by_cases hc : c = 0 <;> simp [hc]
          · by_cases q2 : (itm v C j K[t].1).data.1 = 0
            · simp only [q1, q2, decide_true, decide_false, Bool.not_true, Bool.not_false, cond_true, cond_false, Option.bind_some]
              by_cases hc : c = 0 <;> simp [hc]
            · simp only [q1, q2, decide_false, Bool.not_false, cond_true, Option.bind_some, wn]
              by_cases hc : c = 0
              · simp [hc]
              · have hc' : ¬ -c = 0 := by omega
                simp [hc, q1, q2]
      by_cases hz : okey1 K[t].2.1 (itm v C i K[t].1) (itm v C j K[t].1) = 0
      · rw [if_neg (fun x => x hz)] at key
        cases n with
        | zero => omega
        | succ n =>
        obtain ⟨r, h1, h2⟩ := ahead_halts hi hj n (t + 1) (by omega) (by omega)
        refine ⟨r, Halts.step key h1, ?_⟩
        have e : ck v C (K[t] :: K.drop (t + 1)) i j = ck v C (K.drop (t + 1)) i j := by rw [ck, if_neg (fun x => x hz)]
        rw [h2, hd, e]
      · rw [if_pos hz] at key
        refine ⟨_, Halts.done key, ?_⟩
        have e : ck v C (K[t] :: K.drop (t + 1)) i j = okey1 K[t].2.1 (itm v C i K[t].1) (itm v C j K[t].1) := by rw [ck, if_pos hz]
        rw [hd, e, if_pos hz]
    · have e1 : ¬ (t : Int) < (K.length : Int) := by omega
      refine ⟨.inl (((), ()), qv v, ()), Halts.done ?_, ?_⟩
      · unfold chancerylaw2_ahead_ArrangeRowsMatch_1_l1
        simp only [e1, decide_false, cond_false]
      · rw [List.drop_of_length_le (by omega), ck, if_neg (fun x => x rfl)]
theorem ahead_eq {x y : Int} (h : rlt v R C K x y) : chancerylaw2_ahead_ArrangeRowsMatch_1 x y K (qv v).1 (qv v).2.1 (qv v).2.2.1 (qv v).2.2.2.1 (qv v).2.2.2.2.1 (qv v).2.2.2.2.2.1 (qv v).2.2.2.2.2.2.1 (qv v).2.2.2.2.2.2.2.1 (qv v).2.2.2.2.2.2.2.2.1 = some (true, ((), ()), qv v, ()) := by
  obtain ⟨i, j, rfl, rfl, hi, hj, h⟩ := h
  obtain ⟨r, h1, h2⟩ := ahead_halts A hK hl hi hj K.length 0 (by omega) (Nat.zero_le _)
  have hlp : loop (chancerylaw2_ahead_ArrangeRowsMatch_1_l1 K (i : Int) (j : Int)) (((), ()), 0, qv v, ()) = some r := h1.loop (by omega)
  have e : (if ck v C K i j ≠ 0 then decide (ck v C K i j < 0) else decide ((i : Int) < (j : Int))) = true := by
    rcases h with h | ⟨h, h'⟩
    · rw [if_pos (by omega)]; exact decide_eq_true h
    · rw [if_neg (by omega)]; exact decide_eq_true (by omega)
  rw [List.drop_zero, e] at h2
  unfold chancerylaw2_ahead_ArrangeRowsMatch_1
  rw [q_eta, hlp]
  exact h2
theorem sorted_halts (hR : R ≤ 60) {Z : List Int} (hZ : Srt (rlt v R C K) Z) (hp : Z.Perm (upto R)) (z : Int × Unit) : Halts (chancerylaw2_ArrangeRowsMatch_l2 (Z, z) K) (0 + Z.length) ((), ((), ()), ((0 : Nat) : Int), qv v, ()) (.inl ((), ((), ()), qv v, ())) := by
  have hlen : Z.length = R := by rw [hp.length_eq, upto_len]
  refine Halts.along (fun i => ((), ((), ()), (i : Int), qv v, ())) Z.length (fun i hi => ?_) (.done ?_)
  · have e1 : (i : Int) < ((Z, z).1.length : Int) := by simp only; omega
    have hm := mem_upto.1 (hp.mem_iff.1 (List.getElem_mem hi))
    have hix : idx (Z, z).1 (i : Int) = some Z[i] := idx_lt hi
    have e2 : ¬ Z[i] < 0 := by omega
    have hrow : (qv v).2.2.2.2.2.2.1 = (R : Int) := A.rows
    have e3 : ¬ (R : Int) ≤ Z[i] := by omega
    have hcut : cut (Z, z).1 0 (i : Int) = some (Z.take i) := by
      show cut Z 0 (i : Int) = _
      rw [show (0 : Int) = ((0 : Nat) : Int) from rfl, cut_nat (Nat.zero_le _) (by omega)]
      rfl
    have hno : Z[i] ∉ Z.take i := by
      intro h
      obtain ⟨j, hj, e⟩ := List.getElem_of_mem h
      rw [List.length_take] at hj
      rw [List.getElem_take] at e
      have := srt_get hZ (show j < i by omega) hi
      rw [e] at this
      exact rlt_ir A hK _ this
    have hcon := contains_no hno (by rw [List.length_take]; omega)
    have w1 := wsuc (show i < 9223372036854775807 by omega)
    by_cases h0 : 0 < i
    · have e4 : (0 : Int) < (i : Int) := by omega
      have wp := zpred (i := i) h0 (by omega)
      have hix' : idx (Z, z).1 ((i - 1 : Nat) : Int) = some (Z[i - 1]'(by omega)) := idx_lt (by omega)
      have ha := ahead_eq A hK hl (srt_get hZ (show i - 1 < i by omega) hi)
      rw [hrow] at ha
      unfold chancerylaw2_ArrangeRowsMatch_l2
      simp only [e1, decide_true, cond_true, hix, Option.bind_some, e2, decide_false, cond_false, hrow, e3, hcut, hcon, e4, wp, hix', ha, Bool.not_true, w1]
    · have e4 : ¬ (0 : Int) < (i : Int) := by omega
      unfold chancerylaw2_ArrangeRowsMatch_l2
      simp only [e1, decide_true, cond_true, hix, Option.bind_some, e2, decide_false, cond_false, hrow, e3, hcut, hcon, e4, w1]
  · have e1 : ¬ (Z.length : Int) < ((Z, z).1.length : Int) := by simp only; omega
    unfold chancerylaw2_ArrangeRowsMatch_l2
    simp only [e1, decide_false, cond_false]
end
end Go.Proofs.YtmkpdineahbfkaaGreatDoor
