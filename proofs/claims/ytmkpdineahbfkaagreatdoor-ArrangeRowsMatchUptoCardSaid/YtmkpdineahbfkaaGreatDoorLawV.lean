/- The stable sort of up to sixty. -/
import Derived.Test.YtmkpdineahbfkaaGreatDoorLawU
namespace Go.Proofs.YtmkpdineahbfkaaGreatDoor
open Go Go.Fe

section
variable {K : TA11} {Q : TA0} {lt : Int → Int → Prop}
def st9 (a b : Nat) (d : List Int) (K : TA11) (Q : TA0) : TA9 := ((), ((), ((), ())), (a : Int), (b : Int), d, (K, ()), Q, ())
def st7 (a : Nat) (d : List Int) (K : TA11) (Q : TA0) : TA7 := ((), ((), ((), ())), (a : Int), d, (K, ()), Q, ())
theorem l1_go (tr : ∀ x y z, lt x y → lt y z → lt x z) {P X S : List Int} {a b n : Nat} (ha : P.length = a) (hb : a + X.length = b) (hn : b ≤ n) (hl : b + S.length < 100000) (hp : X.Pairwise (Tell K Q lt)) :
    ∃ Z, Srt lt Z ∧ Z.Perm X ∧ slices_stableCmpFunc_int__Rows_1_l1 (n : Int) (st9 a b (P ++ (X ++ S)) K Q) = some (.inl (st9 b (b + 20) (P ++ (Z ++ S)) K Q)) := by
  subst ha
  obtain ⟨Z, h1, h2, h3⟩ := ins_eq (K := K) (Q := Q) tr (P := P) (X := X) (S := S) hp (by omega) hb
  refine ⟨Z, h1, h2, ?_⟩
  have e : (b : Int) ≤ (n : Int) := by omega
  have w := zadd (i := b) (j := 20) (by omega)
  unfold slices_stableCmpFunc_int__Rows_1_l1 st9
  simp only [e, decide_true, cond_true]
  rw [h3]
  simp only [Option.bind_some]
  rw [show (20 : Int) = ((20 : Nat) : Int) from rfl, w]
theorem l1_end {d : List Int} {a b n : Nat} (hn : n < b) : slices_stableCmpFunc_int__Rows_1_l1 (n : Int) (st9 a b d K Q) = some (.inr (st7 a d K Q)) := by
  have e : ¬ (b : Int) ≤ (n : Int) := by omega
  unfold slices_stableCmpFunc_int__Rows_1_l1 st9 st7
  simp only [e, decide_false, cond_false]
theorem l2_go (tr : ∀ x y z, lt x y → lt y z → lt x z) (ir : ∀ x, ¬ lt x x) {P X Y S d0 : List Int} {a m b n bs : Nat} (ha : P.length = a) (hm : a + X.length = m) (hb : m + Y.length = b) (hbs : a + bs = m) (hX : X ≠ []) (hY : Y ≠ []) (hn : b ≤ n) (hl : b + S.length + bs < 100000)
    (hsX : Srt lt X) (hsY : Srt lt Y) (hc : ∀ x ∈ X, ∀ y ∈ Y, Tell K Q lt x y) :
    ∃ Z, Srt lt Z ∧ Z.Perm (X ++ Y) ∧ slices_stableCmpFunc_int__Rows_1_l2 (n : Int) (st7 bs d0 K Q) (st9 a b (P ++ (X ++ (Y ++ S))) K Q) = some (.inl (st9 b (b + 2 * bs) (P ++ (Z ++ S)) K Q)) := by
  obtain ⟨Z, h1, h2, h3⟩ := sym_eq (K := K) (Q := Q) tr ir rounds P X Y S a m b (by unfold rounds; omega) hX hY ha hm hb (by omega) hsX hsY hc
  refine ⟨Z, h1, h2, ?_⟩
  have e : (b : Int) ≤ (n : Int) := by omega
  have w := zadd (i := a) (j := bs) (by omega)
  rw [hbs] at w
  have w2 : IntKind.i64.wrap (2 * (bs : Int)) = ((2 * bs : Nat) : Int) := by rw [wrap_i64 (by omega) (by omega)]; omega
  have w3 := zadd (i := b) (j := 2 * bs) (by omega)
  unfold symF at h3
  unfold slices_stableCmpFunc_int__Rows_1_l2 st9 st7 slices_symMergeCmpFunc_int__Rows_1
  simp only [e, decide_true, cond_true, w]
  rw [h3]
  simp only [Option.bind_some, w2, w3]
theorem l2_end {d d0 : List Int} {a b n bs : Nat} (hn : n < b) : slices_stableCmpFunc_int__Rows_1_l2 (n : Int) (st7 bs d0 K Q) (st9 a b d K Q) = some (.inr (st7 a d K Q)) := by
  have e : ¬ (b : Int) ≤ (n : Int) := by omega
  unfold slices_stableCmpFunc_int__Rows_1_l2 st9 st7
  simp only [e, decide_false, cond_false]
theorem l3_end {d : List Int} {bs n : Nat} (hn : n ≤ bs) : slices_stableCmpFunc_int__Rows_1_l3 (n : Int) (st7 bs d K Q) = some (.inr ((), ((), ((), ())), d, (K, ()), Q, ())) := by
  have e : ¬ (bs : Int) < (n : Int) := by omega
  unfold slices_stableCmpFunc_int__Rows_1_l3 st7
  simp only [e, decide_false, cond_false]
/-- A round over the blocks: those in pairs, and what is left of a pair. -/
theorem l3_go {d d' : List Int} {bs a n k : Nat} (hn : bs < n) (hs : n + bs < 100000) (ha : a ≤ n) (hk : k < 1000000) (h : Halts (slices_stableCmpFunc_int__Rows_1_l2 (n : Int) (st7 bs d K Q)) k (st9 0 (2 * bs) d K Q) (st7 a d' K Q)) {d2 : List Int}
    (h2 : (if a + bs < n then symF rounds (a : Int) ((a + bs : Nat) : Int) (n : Int) d' K Q else some ((), ((), ((), ())), d', (K, ()), Q, ())) = some ((), ((), ((), ())), d2, (K, ()), Q, ())) :
    slices_stableCmpFunc_int__Rows_1_l3 (n : Int) (st7 bs d K Q) = some (.inl (st7 (2 * bs) d2 K Q)) := by
  have e : (bs : Int) < (n : Int) := by omega
  have w2 : IntKind.i64.wrap (2 * (bs : Int)) = ((2 * bs : Nat) : Int) := by rw [wrap_i64 (by omega) (by omega)]; omega
  have w3 : IntKind.i64.wrap ((bs : Int) * 2) = ((2 * bs : Nat) : Int) := by rw [wrap_i64 (by omega) (by omega)]; omega
  have w := zadd (i := a) (j := bs) (by omega)
  have hlp := h.loop (by omega)
  unfold st9 at hlp
  unfold slices_stableCmpFunc_int__Rows_1_l3
  rw [show (st7 bs d K Q).2.2.1 = (bs : Int) from rfl, show (st7 bs d K Q).2.2.2.1 = d from rfl, show (st7 bs d K Q).2.2.2.2.1 = (K, ()) from rfl, show (st7 bs d K Q).2.2.2.2.2.1 = Q from rfl, w2, w3]
  rw [show (0 : Int) = ((0 : Nat) : Int) from rfl, hlp, decide_eq_true e, cond_true, Option.bind_some]
  rw [show (st7 a d' K Q).2.2.1 = (a : Int) from rfl, show (st7 a d' K Q).2.2.2.1 = d' from rfl, show (st7 a d' K Q).2.2.2.2.1 = (K, ()) from rfl, show (st7 a d' K Q).2.2.2.2.2.1 = Q from rfl, w]
  by_cases g : a + bs < n
  · rw [if_pos g] at h2
    unfold symF at h2
    rw [decide_eq_true (by omega : ((a + bs : Nat) : Int) < (n : Int)), cond_true]
    unfold slices_symMergeCmpFunc_int__Rows_1
    simp only []
    rw [h2]
    rfl
  · rw [if_neg g] at h2
    rw [decide_eq_false (by omega : ¬ ((a + bs : Nat) : Int) < (n : Int)), cond_false, Option.bind_some]
    simp only [Option.some.injEq, Prod.mk.injEq, true_and, and_true] at h2
    rw [h2]
    rfl
theorem stable_put {X Z d1 : List Int} {a k1 k3 : Nat} (hk1 : k1 < 1000) (hk3 : k3 < 1000) (h1 : Halts (slices_stableCmpFunc_int__Rows_1_l1 (X.length : Int)) k1 (st9 0 20 X K Q) (st7 a d1 K Q)) {d2 : List Int}
    (h2 : slices_insertionSortCmpFunc_int__Rows_1 (a : Int) (X.length : Int) d1 K Q.1 Q.2.1 Q.2.2.1 Q.2.2.2.1 Q.2.2.2.2.1 Q.2.2.2.2.2.1 Q.2.2.2.2.2.2.1 Q.2.2.2.2.2.2.2.1 Q.2.2.2.2.2.2.2.2.1 = some ((), ((), ((), ())), d2, (K, ()), Q, ()))
    (h3 : Halts (slices_stableCmpFunc_int__Rows_1_l3 (X.length : Int)) k3 (st7 20 d2 K Q) ((), ((), ((), ())), Z, (K, ()), Q, ())) :
    slices_SortStableFunc_int_int__Rows_1 X K Q.1 Q.2.1 Q.2.2.1 Q.2.2.2.1 Q.2.2.2.2.1 Q.2.2.2.2.2.1 Q.2.2.2.2.2.2.1 Q.2.2.2.2.2.2.2.1 Q.2.2.2.2.2.2.2.2.1 = some ((), ((), ((), ())), Z, (K, ()), Q, ()) := by
  have l1 := h1.loop (by omega)
  have l3 := h3.loop (by omega)
  unfold slices_SortStableFunc_int_int__Rows_1 slices_stableCmpFunc_int__Rows_1
  rw [q_eta]
  unfold st9 at l1
  rw [show (0 : Int) = ((0 : Nat) : Int) from rfl, show (20 : Int) = ((20 : Nat) : Int) from rfl, l1, Option.bind_some]
  rw [show (st7 a d1 K Q).2.2.1 = (a : Int) from rfl, show (st7 a d1 K Q).2.2.2.1 = d1 from rfl, show (st7 a d1 K Q).2.2.2.2.1 = (K, ()) from rfl, show (st7 a d1 K Q).2.2.2.2.2.1 = Q from rfl]
  simp only []
  rw [h2, Option.bind_some]
  unfold st7 at l3
  simp only []
  rw [l3]
  rfl
theorem stable_eq (tr : ∀ x y z, lt x y → lt y z → lt x z) (ir : ∀ x, ¬ lt x x) {X : List Int} (hn : X.length ≤ 60) (hp : X.Pairwise (Tell K Q lt)) :
    ∃ Z, Srt lt Z ∧ Z.Perm X ∧ slices_SortStableFunc_int_int__Rows_1 X K Q.1 Q.2.1 Q.2.2.1 Q.2.2.2.1 Q.2.2.2.2.1 Q.2.2.2.2.2.1 Q.2.2.2.2.2.2.1 Q.2.2.2.2.2.2.2.1 Q.2.2.2.2.2.2.2.2.1 = some ((), ((), ((), ())), Z, (K, ()), Q, ()) := by
  by_cases c1 : X.length < 20
  · obtain ⟨Z, z1, z2, z3⟩ := ins_eq (K := K) (Q := Q) tr (P := []) (X := X) (S := []) hp (by simp only [List.length_nil]; omega) (b := X.length) (by simp)
    rw [List.nil_append, List.append_nil, List.nil_append, List.append_nil] at z3
    exact ⟨Z, z1, z2, stable_put (k1 := 0) (k3 := 0) (by omega) (by omega) (Halts.done (l1_end c1)) z3 (Halts.done (l3_end (by omega)))⟩
  -- the first block
  obtain ⟨A, B, rfl, hA⟩ : ∃ A B, X = A ++ B ∧ A.length = 20 := ⟨X.take 20, X.drop 20, (List.take_append_drop _ _).symm, by rw [List.length_take]; omega⟩
  obtain ⟨pA, pB, pAB⟩ := List.pairwise_append.1 hp
  obtain ⟨ZA, a1, a2, a3⟩ := l1_go (K := K) (Q := Q) tr (P := []) (X := A) (S := B) (a := 0) (b := 20) (n := (A ++ B).length) rfl (by omega) (by omega) (by rw [List.length_append] at hn; omega) pA
  rw [List.nil_append, List.nil_append] at a3
  have lA : ZA.length = 20 := by rw [a2.length_eq, hA]
  have nA : ZA ≠ [] := fun e => by rw [e] at lA; cases lA
  rw [List.length_append, hA] at hn c1
  by_cases c2 : B.length < 20
  · obtain ⟨ZB, b1, b2, b3⟩ := ins_eq (K := K) (Q := Q) tr (P := ZA) (X := B) (S := []) pB (by rw [List.length_nil]; omega) (b := (A ++ B).length) (by rw [List.length_append]; omega)
    rw [List.append_nil, List.append_nil, lA] at b3
    have s1 := Halts.step (n := 0) a3 (Halts.done (l1_end (a := 20) (b := 40) (by rw [List.length_append]; omega)))
    by_cases c3 : B = []
    · subst c3
      have : ZB = [] := List.eq_nil_of_length_eq_zero (by rw [b2.length_eq]; rfl)
      subst this
      exact ⟨ZA ++ [], by simpa using a1, by simpa using a2, stable_put (k1 := 1) (k3 := 0) (by omega) (by omega) s1 b3 (Halts.done (l3_end (n := (A ++ []).length) (bs := 20) (by rw [List.length_append, List.length_nil]; omega)))⟩
    · have lB := List.length_pos_iff.2 c3
      have lZ : ZB.length = B.length := b2.length_eq
      obtain ⟨Z, z1, z2, z3⟩ := sym_eq (K := K) (Q := Q) tr ir rounds [] ZA ZB [] 0 20 (A ++ B).length (by unfold rounds; omega) nA (fun e => by rw [e, List.length_nil] at lZ; omega) rfl (by omega) (by rw [List.length_append]; omega) (by rw [List.length_append, List.length_nil]; omega) a1 b1
        (fun x hx y hy => pAB x (a2.mem_iff.1 hx) y (b2.mem_iff.1 hy))
      rw [List.append_nil, List.append_nil, List.nil_append, List.nil_append] at z3
      refine ⟨Z, z1, z2.trans (a2.append b2), stable_put (k1 := 1) (k3 := 1) (by omega) (by omega) s1 b3 ?_⟩
      have r1 := l3_go (K := K) (Q := Q) (d := ZA ++ ZB) (d' := ZA ++ ZB) (bs := 20) (a := 0) (n := (A ++ B).length) (k := 0) (by rw [List.length_append]; omega) (by rw [List.length_append]; omega) (Nat.zero_le _) (by omega) (Halts.done (l2_end (by rw [List.length_append]; omega))) (d2 := Z) (by
        rw [if_pos (by rw [List.length_append]; omega)]; exact z3)
      exact Halts.step r1 (Halts.done (l3_end (by rw [List.length_append]; omega)))
  -- the second block
  obtain ⟨B, C, rfl, hB⟩ : ∃ B' C, B = B' ++ C ∧ B'.length = 20 := ⟨B.take 20, B.drop 20, (List.take_append_drop _ _).symm, by rw [List.length_take]; omega⟩
  rw [List.length_append, hB] at hn c2
  obtain ⟨pB, pC, pBC⟩ := List.pairwise_append.1 pB
  obtain ⟨ZB, b1, b2, b3⟩ := l1_go (K := K) (Q := Q) tr (P := ZA) (X := B) (S := C) (a := 20) (b := 40) (n := (A ++ (B ++ C)).length) lA (by omega) (by simp only [List.length_append]; omega) (by omega) pB
  have lB : ZB.length = 20 := by rw [b2.length_eq, hB]
  have nB : ZB ≠ [] := fun e => by rw [e] at lB; cases lB
  have cAB : ∀ x ∈ ZA, ∀ y ∈ ZB, Tell K Q lt x y := fun x hx y hy => pAB x (a2.mem_iff.1 hx) y (by simp [b2.mem_iff.1 hy])
  -- the third one, in either case
  obtain ⟨ZC, q1, q2, d1, hins, a', k1, hk1, hH⟩ : ∃ ZC, Srt lt ZC ∧ ZC.Perm C ∧ ∃ d1, (d1 = ZA ++ (ZB ++ C) ∨ d1 = ZA ++ (ZB ++ ZC)) ∧ ∃ (a' k1 : Nat), k1 < 1000 ∧
      Halts (slices_stableCmpFunc_int__Rows_1_l1 ((A ++ (B ++ C)).length : Int)) k1 (st9 0 20 (A ++ (B ++ C)) K Q) (st7 a' d1 K Q) ∧
      slices_insertionSortCmpFunc_int__Rows_1 (a' : Int) ((A ++ (B ++ C)).length : Int) d1 K Q.1 Q.2.1 Q.2.2.1 Q.2.2.2.1 Q.2.2.2.2.1 Q.2.2.2.2.2.1 Q.2.2.2.2.2.2.1 Q.2.2.2.2.2.2.2.1 Q.2.2.2.2.2.2.2.2.1 = some ((), ((), ((), ())), ZA ++ (ZB ++ ZC), (K, ()), Q, ()) := by
    by_cases c3 : C.length < 20
    · obtain ⟨ZC, q1, q2, q3⟩ := ins_eq (K := K) (Q := Q) tr (P := ZA ++ ZB) (X := C) (S := []) pC (by simp only [List.length_append, List.length_nil]; omega) (b := (A ++ (B ++ C)).length) (by simp only [List.length_append]; omega)
      rw [List.append_nil, List.append_nil, List.length_append, lA, lB, List.append_assoc, List.append_assoc] at q3
      exact ⟨ZC, q1, q2, _, .inl rfl, 40, 2, by omega, Halts.step a3 (Halts.step b3 (Halts.done (l1_end (by simp only [List.length_append]; omega)))), q3⟩
    · obtain ⟨ZC, q1, q2, q3⟩ := l1_go (K := K) (Q := Q) tr (P := ZA ++ ZB) (X := C) (S := []) (a := 40) (b := 60) (n := (A ++ (B ++ C)).length) (by rw [List.length_append]; omega) (by omega) (by simp only [List.length_append]; omega) (by rw [List.length_nil]; omega) pC
      have lC : ZC.length = 20 := by rw [q2.length_eq]; omega
      obtain ⟨ZD, r1, r2, r3⟩ := ins_eq (K := K) (Q := Q) tr (P := ZA ++ (ZB ++ ZC)) (X := []) (S := []) List.Pairwise.nil (by simp only [List.length_append, List.length_nil]; omega) (b := (A ++ (B ++ C)).length) (by simp only [List.length_append, List.length_nil]; omega)
      have : ZD = [] := List.eq_nil_of_length_eq_zero (by rw [r2.length_eq]; rfl)
      subst this
      have e60 : (ZA ++ (ZB ++ ZC)).length = 60 := by simp only [List.length_append]; omega
      rw [List.append_nil, List.append_nil, e60] at r3
      rw [List.append_nil, List.append_nil, List.append_assoc, List.append_assoc] at q3
      exact ⟨ZC, q1, q2, _, .inr rfl, 60, 3, by omega, Halts.step a3 (Halts.step b3 (Halts.step q3 (Halts.done (l1_end (by simp only [List.length_append]; omega))))), r3⟩
  obtain ⟨hH, hI⟩ := hH
  have lC : ZC.length = C.length := q2.length_eq
  obtain ⟨ZAB, ab1, ab2, ab3⟩ := l2_go (K := K) (Q := Q) tr ir (P := []) (X := ZA) (Y := ZB) (S := ZC) (d0 := ZA ++ (ZB ++ ZC)) (a := 0) (m := 20) (b := 40) (n := (A ++ (B ++ C)).length) (bs := 20) rfl (by omega) (by omega) rfl nA nB (by simp only [List.length_append]; omega) (by omega) a1 b1 cAB
  rw [List.nil_append, List.nil_append] at ab3
  have lAB : ZAB.length = 40 := by rw [ab2.length_eq, List.length_append]; omega
  have r1 := l3_go (K := K) (Q := Q) (d := ZA ++ (ZB ++ ZC)) (d' := ZAB ++ ZC) (bs := 20) (a := 40) (n := (A ++ (B ++ C)).length) (k := 1) (by simp only [List.length_append]; omega) (by simp only [List.length_append]; omega) (by simp only [List.length_append]; omega) (by omega)
    (Halts.step ab3 (Halts.done (l2_end (by simp only [List.length_append]; omega)))) (d2 := ZAB ++ ZC) (by rw [if_neg (by simp only [List.length_append]; omega)])
  have pAll : (ZAB ++ ZC).Perm (A ++ (B ++ C)) := by
    have := (ab2.trans (a2.append b2)).append q2
    rwa [List.append_assoc] at this
  by_cases c3 : C = []
  · subst c3
    have : ZC = [] := List.eq_nil_of_length_eq_zero (by rw [lC]; rfl)
    subst this
    exact ⟨ZAB ++ [], by simpa using ab1, pAll, stable_put hk1 (k3 := 1) (by omega) hH hI (Halts.step r1 (Halts.done (l3_end (n := (A ++ (B ++ [])).length) (bs := 2 * 20) (by simp only [List.length_append, List.length_nil]; omega))))⟩
  · have lC0 := List.length_pos_iff.2 c3
    obtain ⟨Z, z1, z2, z3⟩ := sym_eq (K := K) (Q := Q) tr ir rounds [] ZAB ZC [] 0 40 (A ++ (B ++ C)).length (by unfold rounds; omega) (fun e => by rw [e] at lAB; cases lAB) (fun e => by rw [e, List.length_nil] at lC; omega) rfl (by omega) (by simp only [List.length_append]; omega) (by simp only [List.length_append, List.length_nil]; omega) ab1 q1
      (fun x hx y hy => by
        rcases List.mem_append.1 (ab2.mem_iff.1 hx) with hx | hx
        · exact pAB x (a2.mem_iff.1 hx) y (by simp [q2.mem_iff.1 hy])
        · exact pBC x (b2.mem_iff.1 hx) y (q2.mem_iff.1 hy))
    rw [List.append_nil, List.append_nil, List.nil_append, List.nil_append] at z3
    have r2 := l3_go (K := K) (Q := Q) (d := ZAB ++ ZC) (d' := ZAB ++ ZC) (bs := 40) (a := 0) (n := (A ++ (B ++ C)).length) (k := 0) (by simp only [List.length_append]; omega) (by simp only [List.length_append]; omega) (Nat.zero_le _) (by omega) (Halts.done (l2_end (by simp only [List.length_append]; omega))) (d2 := Z) (by
      rw [if_pos (by simp only [List.length_append]; omega)]; exact z3)
    exact ⟨Z, z1, z2.trans pAll, stable_put hk1 (k3 := 2) (by omega) hH hI (Halts.step r1 (Halts.step r2 (Halts.done (l3_end (by simp only [List.length_append]; omega)))))⟩
end
end Go.Proofs.YtmkpdineahbfkaaGreatDoor
