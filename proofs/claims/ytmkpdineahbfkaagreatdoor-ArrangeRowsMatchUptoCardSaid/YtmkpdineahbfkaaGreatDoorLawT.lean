/- Two sorted stretches become one. -/
import Derived.Test.YtmkpdineahbfkaaGreatDoorLawS
namespace Go.Proofs.YtmkpdineahbfkaaGreatDoor
open Go Go.Fe

theorem half {i j : Nat} (h : i + j < 1000000000) : IntKind.i64.wrap (shr .u64 (IntKind.u64.wrap (IntKind.i64.wrap ((i : Int) + (j : Int)))) 1) = (((i + j) / 2 : Nat) : Int) := by
  rw [zadd (by omega), wrap_u64i (by omega) (by omega), shr_nat, show 2 ^ min 1 IntKind.u64.bits = 2 from rfl, wrap_i64 (by omega) (by omega)]
theorem shc1 : shc 1 = some 1 := rfl
/-- Is it so? -/
noncomputable def yes (p : Prop) : Bool := @decide p (Classical.propDecidable p)
theorem yes_t {p : Prop} : yes p = true ↔ p := by unfold yes; simp
theorem yes_f {p : Prop} : yes p = false ↔ ¬ p := by unfold yes; simp

section
variable {K : TA11} {Q : TA0} {lt : Int → Int → Prop}
theorem tell (tr : ∀ x y z, lt x y → lt y z → lt x z) (ir : ∀ x, ¬ lt x x) {x y : Int} (h : Tell K Q lt x y) : ∃ r, Wd K Q y x r ∧ (decide (r < 0) = yes (lt y x)) ∧ (¬ lt y x → lt x y) := by
  obtain ⟨r, h1, h2, h3⟩ := h
  refine ⟨r, h1, ?_, fun h => h3 (fun e => h (h2 e))⟩
  rw [Bool.eq_iff_iff, decide_eq_true_iff, yes_t]
  exact ⟨h2, fun h => by
    by_cases e : r < 0
    · exact e
    · exact absurd (tr _ _ _ h (h3 e)) (ir y)⟩

/-! ### One before many -/
theorem find1 (tr : ∀ x y z, lt x y → lt y z → lt x z) (ir : ∀ x, ¬ lt x x) {P Y S : List Int} {x : Int} {m b : Nat} (hm : P.length + 1 = m) (hb : m + Y.length = b) (hl : b + S.length < 1000000) (hs : Srt lt Y) (hc : ∀ y ∈ Y, Tell K Q lt x y) :
    ∃ Y1 Y2, Y = Y1 ++ Y2 ∧ (∀ y ∈ Y1, lt y x) ∧ (∀ y ∈ Y2, lt x y) ∧
      Halts (slices_symMergeCmpFunc_int__Rows_1_l1 (P.length : Int)) Y.length ((), ((), ((), ())), (m : Int), (b : Int), P ++ (x :: (Y ++ S)), (K, ()), Q, ()) ((), ((), ((), ())), ((m + Y1.length : Nat) : Int), P ++ (x :: (Y ++ S)), (K, ()), Q, ()) := by
  have hd : P ++ (x :: (Y ++ S)) = (P ++ [x]) ++ (Y ++ S) := by simp
  have hlen : (P ++ (x :: (Y ++ S))).length = b + S.length := by simp only [List.length_append, List.length_cons]; omega
  have gx : (P ++ (x :: (Y ++ S))).getD P.length 0 = x := ls_at rfl
  have ix : inb (P.length : Int) (P ++ (x :: (Y ++ S))).length = true := inb_nat (by rw [hlen]; omega)
  have gy : ∀ h (h1 : m ≤ h) (h2 : h < b), (P ++ (x :: (Y ++ S))).getD h 0 = Y[h - m]'(by omega) := fun h h1 h2 => by
    rw [hd]
    exact ls_in (by rw [List.length_append, List.length_singleton]; omega) (by omega)
  have key := halves (f := slices_symMergeCmpFunc_int__Rows_1_l1 (P.length : Int)) (fun i j => ((), ((), ((), ())), (i : Int), (j : Int), P ++ (x :: (Y ++ S)), (K, ()), Q, ())) (fun i => ((), ((), ((), ())), (i : Int), P ++ (x :: (Y ++ S)), (K, ()), Q, ()))
    (fun h => yes (lt ((P ++ (x :: (Y ++ S))).getD h 0) x)) (lo := m) (hi := b) (fun i j h1 h2 h3 => by
      have e1 : (i : Int) < (j : Int) := by omega
      have hh := half (i := i) (j := j) (by omega)
      have i1 : inb (((i + j) / 2 : Nat) : Int) (P ++ (x :: (Y ++ S))).length = true := inb_nat (by rw [hlen]; omega)
      have g := gy ((i + j) / 2) (by omega) (by omega)
      obtain ⟨r, hw, hr, _⟩ := tell tr ir (hc _ (List.getElem_mem (show (i + j) / 2 - m < Y.length by omega)))
      rw [← g] at hw hr
      unfold Wd at hw
      have w1 := wsuc (show (i + j) / 2 < 9223372036854775807 by omega)
      unfold slices_symMergeCmpFunc_int__Rows_1_l1
      simp only [e1, decide_true, cond_true, shc1, Option.bind_some, hh, i1, ix, chk_t, Int.toNat_natCast, gx, hw, hr, w1]
      cases yes (lt ((P ++ (x :: (Y ++ S))).getD ((i + j) / 2) 0) x) <;> rfl) (fun i _ _ => by
      unfold slices_symMergeCmpFunc_int__Rows_1_l1
      simp only [Int.lt_irrefl, decide_false, cond_false]) (fun h k h1 h2 h3 hp => by
      rw [yes_t, gy k (by omega) h3] at hp
      rw [yes_t, gy h h1 (by omega)]
      by_cases e : h = k
      · subst e; exact hp
      · exact tr _ _ _ (srt_get hs (show h - m < k - m by omega) (by omega)) hp)
  obtain ⟨t, t1, t2, t3, t4, t5⟩ := key Y.length m b (Nat.le_refl _) (by omega) (Nat.le_refl _) (by omega) (fun h h1 h2 => by omega) (fun h h1 h2 => by omega)
  have hY1 : (Y.take (t - m)).length = t - m := by rw [List.length_take]; omega
  refine ⟨Y.take (t - m), Y.drop (t - m), (List.take_append_drop _ _).symm, ?_, ?_, ?_⟩
  · intro y hy
    obtain ⟨k, hk, rfl⟩ := List.getElem_of_mem hy
    rw [hY1] at hk
    have := t4 (m + k) (by omega) (by omega)
    rw [yes_t, gy (m + k) (by omega) (by omega)] at this
    rw [List.getElem_take]
    simpa only [Nat.add_sub_cancel_left] using this
  · intro y hy
    obtain ⟨k, hk, rfl⟩ := List.getElem_of_mem hy
    rw [List.length_drop] at hk
    have := t5 (t + k) (by omega) (by omega)
    rw [yes_f, gy (t + k) (by omega) (by omega)] at this
    obtain ⟨r, _, _, h3⟩ := tell tr ir (hc _ (List.getElem_mem (show t + k - m < Y.length by omega)))
    rw [List.getElem_drop]
    have e : t - m + k = t + k - m := by omega
    simp only [e]
    exact h3 this
  · rw [hY1, show m + (t - m) = t by omega]
    exact t3
theorem move1 {P R : List Int} {x : Int} {r5 : TA7} {t : Nat} : ∀ (B A : List Int), P.length + A.length + B.length + 1 = t → t + R.length < 1000000 → r5.2.2.1 = (t : Int) →
    Halts (slices_symMergeCmpFunc_int__Rows_1_l2 r5) B.length ((), ((), ((), ())), ((P.length + A.length : Nat) : Int), P ++ (A ++ (x :: (B ++ R))), (K, ()), Q, ()) ((), ((), ((), ())), P ++ ((A ++ B) ++ (x :: R)), (K, ()), Q, ())
  | [], A, ht, hl, hr => by
    have w := zpred (i := t) (by omega) (by omega)
    have e : t - 1 = P.length + A.length := by rw [List.length_nil] at ht; omega
    rw [e] at w
    refine Halts.done ?_
    unfold slices_symMergeCmpFunc_int__Rows_1_l2
    simp only [hr, w, Int.lt_irrefl, decide_false, cond_false, List.append_nil, List.nil_append]
  | y :: B, A, ht, hl, hr => by
    rw [List.length_cons] at ht
    have w := zpred (i := t) (by omega) (by omega)
    have e1 : ((P.length + A.length : Nat) : Int) < ((t - 1 : Nat) : Int) := by omega
    have w1 := wsuc (show P.length + A.length < 9223372036854775807 by omega)
    have ih := move1 (P := P) (R := R) (x := x) (r5 := r5) B (A ++ [y]) (by rw [List.length_append, List.length_singleton]; omega) hl hr
    have hd : P ++ (A ++ (x :: (y :: B ++ R))) = (P ++ A) ++ x :: ([] ++ y :: (B ++ R)) := by simp
    have hd' : P ++ (A ++ [y] ++ (x :: (B ++ R))) = (P ++ A) ++ y :: ([] ++ x :: (B ++ R)) := by simp
    have hp : (P ++ A).length = P.length + A.length := List.length_append
    have hlen : ∀ a b : Int, ((P ++ A) ++ a :: ([] ++ b :: (B ++ R))).length = P.length + A.length + B.length + R.length + 2 := fun a b => by simp only [List.length_append, List.length_cons, List.length_nil]; omega
    have i1 : ∀ a b : Int, inb ((P.length + A.length : Nat) : Int) ((P ++ A) ++ a :: ([] ++ b :: (B ++ R))).length = true := fun a b => inb_nat (by rw [hlen]; omega)
    have i2 : ∀ a b : Int, inb ((P.length + A.length + 1 : Nat) : Int) ((P ++ A) ++ a :: ([] ++ b :: (B ++ R))).length = true := fun a b => inb_nat (by rw [hlen]; omega)
    have g1 : ((P ++ A) ++ x :: ([] ++ y :: (B ++ R))).getD (P.length + A.length) 0 = x := ls_at hp
    have g2 : ((P ++ A) ++ x :: ([] ++ y :: (B ++ R))).getD (P.length + A.length + 1) 0 = y := ls_at2 hp rfl
    have s1 : ((P ++ A) ++ x :: ([] ++ y :: (B ++ R))).set (P.length + A.length) y = (P ++ A) ++ y :: ([] ++ y :: (B ++ R)) := ls_set hp
    have s2 : ((P ++ A) ++ y :: ([] ++ y :: (B ++ R))).set (P.length + A.length + 1) x = (P ++ A) ++ y :: ([] ++ x :: (B ++ R)) := ls_set2 hp rfl
    have e2 : P.length + (A ++ [y]).length = P.length + A.length + 1 := by rw [List.length_append, List.length_singleton]; omega
    have e3 : P ++ ((A ++ [y] ++ B) ++ (x :: R)) = P ++ ((A ++ y :: B) ++ (x :: R)) := by simp
    rw [e2, hd', e3] at ih
    rw [hd, List.length_cons]
    refine Halts.step ?_ ih
    unfold slices_symMergeCmpFunc_int__Rows_1_l2
    simp only [hr, w, e1, decide_true, cond_true, w1, i1, i2, chk_t, Option.bind_some, Int.toNat_natCast, g1, g2, s1, s2]

/-! ### One behind many -/
theorem find2 (tr : ∀ x y z, lt x y → lt y z → lt x z) (ir : ∀ x, ¬ lt x x) {P X S : List Int} {y : Int} {m : Nat} (hm : P.length + X.length = m) (hl : m + S.length + 1 < 1000000) (hs : Srt lt X) (hc : ∀ x ∈ X, Tell K Q lt x y) :
    ∃ X1 X2, X = X1 ++ X2 ∧ (∀ x ∈ X1, lt x y) ∧ (∀ x ∈ X2, lt y x) ∧
      Halts (slices_symMergeCmpFunc_int__Rows_1_l3 (m : Int)) X.length ((), ((), ((), ())), (P.length : Int), (m : Int), P ++ (X ++ (y :: S)), (K, ()), Q, ()) ((), ((), ((), ())), ((P.length + X1.length : Nat) : Int), P ++ (X ++ (y :: S)), (K, ()), Q, ()) := by
  have hd : P ++ (X ++ (y :: S)) = (P ++ X) ++ y :: S := by simp
  have hlen : (P ++ (X ++ (y :: S))).length = m + S.length + 1 := by simp only [List.length_append, List.length_cons]; omega
  have gy : (P ++ (X ++ (y :: S))).getD m 0 = y := by rw [hd]; exact ls_at (by rw [List.length_append]; exact hm)
  have iy : inb (m : Int) (P ++ (X ++ (y :: S))).length = true := inb_nat (by rw [hlen]; omega)
  have gx : ∀ h (h1 : P.length ≤ h) (h2 : h < m), (P ++ (X ++ (y :: S))).getD h 0 = X[h - P.length]'(by omega) := fun h h1 h2 => ls_in (by omega) (by omega)
  have key := halves (f := slices_symMergeCmpFunc_int__Rows_1_l3 (m : Int)) (fun i j => ((), ((), ((), ())), (i : Int), (j : Int), P ++ (X ++ (y :: S)), (K, ()), Q, ())) (fun i => ((), ((), ((), ())), (i : Int), P ++ (X ++ (y :: S)), (K, ()), Q, ()))
    (fun h => !yes (lt y ((P ++ (X ++ (y :: S))).getD h 0))) (lo := P.length) (hi := m) (fun i j h1 h2 h3 => by
      have e1 : (i : Int) < (j : Int) := by omega
      have hh := half (i := i) (j := j) (by omega)
      have i1 : inb (((i + j) / 2 : Nat) : Int) (P ++ (X ++ (y :: S))).length = true := inb_nat (by rw [hlen]; omega)
      have g := gx ((i + j) / 2) (by omega) (by omega)
      obtain ⟨r, hw, hr, _⟩ := tell tr ir (hc _ (List.getElem_mem (show (i + j) / 2 - P.length < X.length by omega)))
      rw [← g] at hw hr
      unfold Wd at hw
      have w1 := wsuc (show (i + j) / 2 < 9223372036854775807 by omega)
      unfold slices_symMergeCmpFunc_int__Rows_1_l3
      simp only [e1, decide_true, cond_true, shc1, Option.bind_some, hh, i1, iy, chk_t, Int.toNat_natCast, gy, hw, hr, w1]
      cases yes (lt y ((P ++ (X ++ (y :: S))).getD ((i + j) / 2) 0)) <;> rfl) (fun i _ _ => by
      unfold slices_symMergeCmpFunc_int__Rows_1_l3
      simp only [Int.lt_irrefl, decide_false, cond_false]) (fun h k h1 h2 h3 hp => by
      rw [Bool.not_eq_true', yes_f, gx k (by omega) h3] at hp
      rw [Bool.not_eq_true', yes_f, gx h h1 (by omega)]
      by_cases e : h = k
      · subst e; exact hp
      · exact fun hh => hp (tr _ _ _ hh (srt_get hs (show h - P.length < k - P.length by omega) (by omega))))
  obtain ⟨t, t1, t2, t3, t4, t5⟩ := key X.length P.length m (Nat.le_refl _) (by omega) (Nat.le_refl _) (by omega) (fun h h1 h2 => by omega) (fun h h1 h2 => by omega)
  have hX1 : (X.take (t - P.length)).length = t - P.length := by rw [List.length_take]; omega
  refine ⟨X.take (t - P.length), X.drop (t - P.length), (List.take_append_drop _ _).symm, ?_, ?_, ?_⟩
  · intro x hx
    obtain ⟨k, hk, rfl⟩ := List.getElem_of_mem hx
    rw [hX1] at hk
    have := t4 (P.length + k) (by omega) (by omega)
    rw [Bool.not_eq_true', yes_f, gx (P.length + k) (by omega) (by omega)] at this
    obtain ⟨r, _, _, h3⟩ := tell tr ir (hc _ (List.getElem_mem (show P.length + k - P.length < X.length by omega)))
    have := h3 this
    rw [List.getElem_take]
    simpa only [Nat.add_sub_cancel_left] using this
  · intro x hx
    obtain ⟨k, hk, rfl⟩ := List.getElem_of_mem hx
    rw [List.length_drop] at hk
    have := t5 (t + k) (by omega) (by omega)
    rw [Bool.not_eq_false', yes_t, gx (t + k) (by omega) (by omega)] at this
    rw [List.getElem_drop]
    have e : t - P.length + k = t + k - P.length := by omega
    simp only [e]
    exact this
  · rw [hX1, show P.length + (t - P.length) = t by omega]
    exact t3
theorem move2 {P R : List Int} {y : Int} {r14 : TA7} {t : Nat} : ∀ (n : Nat) (A B : List Int), A.length = n → P.length = t → t + A.length + B.length + R.length + 1 < 1000000 → r14.2.2.1 = (t : Int) →
    Halts (slices_symMergeCmpFunc_int__Rows_1_l4 r14) n ((), ((), ((), ())), ((t + A.length : Nat) : Int), P ++ (A ++ (y :: (B ++ R))), (K, ()), Q, ()) ((), ((), ((), ())), P ++ (y :: ((A ++ B) ++ R)), (K, ()), Q, ())
  | 0, A, B, hA, ht, hl, hr => by
    have : A = [] := List.eq_nil_of_length_eq_zero hA
    subst this
    refine Halts.done ?_
    unfold slices_symMergeCmpFunc_int__Rows_1_l4
    simp only [hr, List.length_nil, Nat.add_zero, Int.lt_irrefl, decide_false, cond_false, List.nil_append]
  | n + 1, A, B, hA, ht, hl, hr => by
    rcases List.eq_nil_or_concat A with rfl | ⟨A', x, rfl⟩
    · cases hA
    rw [List.concat_eq_append] at *
    have hA' : A'.length = n := by simpa using hA
    rw [List.length_append, List.length_singleton] at hl ⊢
    have ih := move2 (P := P) (R := R) (y := y) (r14 := r14) (t := t) n A' (x :: B) hA' ht (by rw [List.length_cons]; omega) hr
    have e1 : (t : Int) < ((t + (A'.length + 1) : Nat) : Int) := by omega
    have w := zpred (i := t + (A'.length + 1)) (by omega) (by omega)
    have e2 : t + (A'.length + 1) - 1 = t + A'.length := by omega
    rw [e2] at w
    have hd : P ++ (A' ++ [x] ++ (y :: (B ++ R))) = (P ++ A') ++ x :: ([] ++ y :: (B ++ R)) := by simp
    have hd' : P ++ (A' ++ (y :: (x :: B ++ R))) = (P ++ A') ++ y :: ([] ++ x :: (B ++ R)) := by simp
    have hp : (P ++ A').length = t + A'.length := by rw [List.length_append, ht]
    have hlen : ∀ a b : Int, ((P ++ A') ++ a :: ([] ++ b :: (B ++ R))).length = t + A'.length + B.length + R.length + 2 := fun a b => by simp only [List.length_append, List.length_cons, List.length_nil]; omega
    have i1 : ∀ a b : Int, inb ((t + (A'.length + 1) : Nat) : Int) ((P ++ A') ++ a :: ([] ++ b :: (B ++ R))).length = true := fun a b => inb_nat (by rw [hlen]; omega)
    have i2 : ∀ a b : Int, inb ((t + A'.length : Nat) : Int) ((P ++ A') ++ a :: ([] ++ b :: (B ++ R))).length = true := fun a b => inb_nat (by rw [hlen]; omega)
    have g1 : ((P ++ A') ++ x :: ([] ++ y :: (B ++ R))).getD (t + A'.length) 0 = x := ls_at hp
    have g2 : ((P ++ A') ++ x :: ([] ++ y :: (B ++ R))).getD (t + (A'.length + 1)) 0 = y := ls_at2 hp rfl
    have s1 : ((P ++ A') ++ x :: ([] ++ y :: (B ++ R))).set (t + (A'.length + 1)) x = (P ++ A') ++ x :: ([] ++ x :: (B ++ R)) := ls_set2 hp rfl
    have s2 : ((P ++ A') ++ x :: ([] ++ x :: (B ++ R))).set (t + A'.length) y = (P ++ A') ++ y :: ([] ++ x :: (B ++ R)) := ls_set hp
    have e3 : P ++ (y :: ((A' ++ x :: B) ++ R)) = P ++ (y :: ((A' ++ [x] ++ B) ++ R)) := by simp
    rw [hd', e3] at ih
    rw [hd]
    refine Halts.step ?_ ih
    unfold slices_symMergeCmpFunc_int__Rows_1_l4
    simp only [hr, e1, decide_true, cond_true, w, i1, i2, chk_t, Option.bind_some, Int.toNat_natCast, g1, g2, s1, s2]

/-! ### Where both are cut -/
theorem find3 (tr : ∀ x y z, lt x y → lt y z → lt x z) (ir : ∀ x, ¬ lt x x) {P X Y S : List Int} {a m b mid lo hi : Nat} (ha : P.length = a) (hm : a + X.length = m) (hb : m + Y.length = b) (hl : b + S.length < 1000000)
    (hsX : Srt lt X) (hsY : Srt lt Y) (hc : ∀ x ∈ X, ∀ y ∈ Y, Tell K Q lt x y) (h1 : a ≤ lo) (h2 : lo ≤ hi) (h3 : hi ≤ m) (h4 : hi ≤ mid) (h5 : mid + m ≤ lo + b) :
    ∃ t, lo ≤ t ∧ t ≤ hi ∧
      Halts (slices_symMergeCmpFunc_int__Rows_1_l5 (mid : Int) (m : Int)) (hi - lo) ((), ((), ((), ())), (lo : Int), (hi : Int), P ++ (X ++ (Y ++ S)), (K, ()), Q, ()) ((), ((), ((), ())), (t : Int), P ++ (X ++ (Y ++ S)), (K, ()), Q, ()) ∧
      (∀ c (_ : lo ≤ c) (_ : c < t), ∃ (i1 : c - a < X.length) (i2 : mid - 1 - c < Y.length), lt X[c - a] Y[mid - 1 - c]) ∧ (∀ c (_ : t ≤ c) (_ : c < hi), ∃ (i1 : c - a < X.length) (i2 : mid - 1 - c < Y.length), lt Y[mid - 1 - c] X[c - a]) := by
  have hd : P ++ (X ++ (Y ++ S)) = (P ++ X) ++ (Y ++ S) := by simp
  have hlen : (P ++ (X ++ (Y ++ S))).length = b + S.length := by simp only [List.length_append]; omega
  have gx : ∀ c (_ : lo ≤ c) (_ : c < hi), (P ++ (X ++ (Y ++ S))).getD c 0 = X[c - a]'(by omega) := fun c _ _ => ls_in (by omega) (by omega)
  have gy : ∀ c (_ : lo ≤ c) (_ : c < hi), (P ++ (X ++ (Y ++ S))).getD (mid + m - 1 - c) 0 = Y[mid - 1 - c]'(by omega) := fun c g1 g2 => by
    rw [hd]
    exact ls_in (by rw [List.length_append]; omega) (by omega)
  have key := halves (f := slices_symMergeCmpFunc_int__Rows_1_l5 (mid : Int) (m : Int)) (fun i j => ((), ((), ((), ())), (i : Int), (j : Int), P ++ (X ++ (Y ++ S)), (K, ()), Q, ())) (fun i => ((), ((), ((), ())), (i : Int), P ++ (X ++ (Y ++ S)), (K, ()), Q, ()))
    (fun c => !yes (lt ((P ++ (X ++ (Y ++ S))).getD (mid + m - 1 - c) 0) ((P ++ (X ++ (Y ++ S))).getD c 0))) (lo := lo) (hi := hi) (fun i j q1 q2 q3 => by
      have e1 : (i : Int) < (j : Int) := by omega
      have hh := half (i := i) (j := j) (by omega)
      have w1 := zadd (i := mid) (j := m) (by omega)
      have w2 := zpred (i := mid + m) (by omega) (by omega)
      have w3 := zsub (i := mid + m - 1) (j := (i + j) / 2) (by omega) (by omega)
      have i1 : inb (((i + j) / 2 : Nat) : Int) (P ++ (X ++ (Y ++ S))).length = true := inb_nat (by rw [hlen]; omega)
      have i2 : inb ((mid + m - 1 - (i + j) / 2 : Nat) : Int) (P ++ (X ++ (Y ++ S))).length = true := inb_nat (by rw [hlen]; omega)
      have g := gx ((i + j) / 2) (by omega) (by omega)
      have g' := gy ((i + j) / 2) (by omega) (by omega)
      obtain ⟨r, hw, hr, _⟩ := tell tr ir (hc _ (List.getElem_mem (show (i + j) / 2 - a < X.length by omega)) _ (List.getElem_mem (show mid - 1 - (i + j) / 2 < Y.length by omega)))
      rw [← g, ← g'] at hw hr
      unfold Wd at hw
      have w4 := wsuc (show (i + j) / 2 < 9223372036854775807 by omega)
      unfold slices_symMergeCmpFunc_int__Rows_1_l5
      simp only [e1, decide_true, cond_true, shc1, Option.bind_some, hh, w1, w2, w3, i1, i2, chk_t, Int.toNat_natCast, hw, hr, w4]
      cases yes (lt ((P ++ (X ++ (Y ++ S))).getD (mid + m - 1 - (i + j) / 2) 0) ((P ++ (X ++ (Y ++ S))).getD ((i + j) / 2) 0)) <;> rfl) (fun i _ _ => by
      unfold slices_symMergeCmpFunc_int__Rows_1_l5
      simp only [Int.lt_irrefl, decide_false, cond_false]) (fun h k q1 q2 q3 hp => by
      rw [Bool.not_eq_true', yes_f, gx k (by omega) q3, gy k (by omega) q3] at hp
      rw [Bool.not_eq_true', yes_f, gx h q1 (by omega), gy h q1 (by omega)]
      by_cases e : h = k
      · subst e; exact hp
      · exact fun hh => hp (tr _ _ _ (tr _ _ _ (srt_get hsY (show mid - 1 - k < mid - 1 - h by omega) (by omega)) hh) (srt_get hsX (show h - a < k - a by omega) (by omega))))
  obtain ⟨t, t1, t2, t3, t4, t5⟩ := key (hi - lo) lo hi (Nat.le_refl _) h2 (Nat.le_refl _) (Nat.le_refl _) (fun h g1 g2 => by omega) (fun h g1 g2 => by omega)
  refine ⟨t, t1, t2, t3, fun c g1 g2 => ⟨by omega, by omega, ?_⟩, fun c g1 g2 => ⟨by omega, by omega, ?_⟩⟩
  · have := t4 c g1 g2
    rw [Bool.not_eq_true', yes_f, gx c g1 (by omega), gy c g1 (by omega)] at this
    obtain ⟨r, _, _, q⟩ := tell tr ir (hc _ (List.getElem_mem (show c - a < X.length by omega)) _ (List.getElem_mem (show mid - 1 - c < Y.length by omega)))
    exact q this
  · have := t5 c g1 g2
    rw [Bool.not_eq_false', yes_t, gx c (by omega) g2, gy c (by omega) g2] at this
    exact this
end
end Go.Proofs.YtmkpdineahbfkaaGreatDoor
