/- Insertion, swaps and rotation. -/
import Derived.Test.YtmkpdineahbfkaaGreatDoorLawA
import Derived.Test.YtmkpdineahbfkaaGreatDoorRLawJ
namespace Go.Proofs.YtmkpdineahbfkaaGreatDoor
open Go Go.Fe

theorem zpred {i : Nat} (h0 : 0 < i) (h : i < 9223372036854775807) : IntKind.i64.wrap ((i : Int) - 1) = ((i - 1 : Nat) : Int) := by
  rw [wrap_i64 (by omega) (by omega)]; omega
theorem zadd {i j : Nat} (h : i + j < 9223372036854775807) : IntKind.i64.wrap ((i : Int) + (j : Int)) = ((i + j : Nat) : Int) := by
  rw [wrap_i64 (by omega) (by omega)]; rfl
theorem zsub {i j : Nat} (h0 : j ≤ i) (h : i < 9223372036854775807) : IntKind.i64.wrap ((i : Int) - (j : Int)) = ((i - j : Nat) : Int) := by
  rw [wrap_i64 (by omega) (by omega)]; omega

/-- What the comparison says of y and x, in that order. -/
def Wd (K : TA11) (Q : TA0) (y x r : Int) : Prop :=
  arrange_Rows_1 y x K Q.1 Q.2.1 Q.2.2.1 Q.2.2.2.1 Q.2.2.2.2.1 Q.2.2.2.2.2.1 Q.2.2.2.2.2.2.1 Q.2.2.2.2.2.2.2.1 Q.2.2.2.2.2.2.2.2.1 = some (r, (), (), (K, ()), Q, ())

section
variable {K : TA11} {Q : TA0} {lt : Int → Int → Prop}
/-- Two that the comparison tells apart, the second behind the first at the beginning. -/
def Tell (K : TA11) (Q : TA0) (lt : Int → Int → Prop) (x y : Int) : Prop := ∃ r, Wd K Q y x r ∧ (r < 0 → lt y x) ∧ (¬ r < 0 → lt x y)

theorem ins_in (tr : ∀ x y z, lt x y → lt y z → lt x z) {P : List Int} {y : Int} : ∀ (n : Nat) (A B : List Int), A.length = n → Srt lt A → (∀ x ∈ A, Tell K Q lt x y) → P.length + A.length + B.length < 1000000 →
    ∃ A1 A2, A = A1 ++ A2 ∧ (∀ x ∈ A1, lt x y) ∧ (∀ x ∈ A2, lt y x) ∧
      Halts (slices_insertionSortCmpFunc_int__Rows_1_l1 (P.length : Int)) n ((), ((), ((), ())), ((P.length + A.length : Nat) : Int), P ++ (A ++ y :: B), (K, ()), Q, ()) ((), ((), ((), ())), P ++ (A1 ++ y :: (A2 ++ B)), (K, ()), Q, ())
  | 0, A, B, hA, _, _, _ => by
    have : A = [] := List.eq_nil_of_length_eq_zero hA
    subst this
    refine ⟨[], [], rfl, by simp, by simp, Halts.done ?_⟩
    unfold slices_insertionSortCmpFunc_int__Rows_1_l1
    simp only [List.length_nil, Nat.add_zero, Int.lt_irrefl, decide_false, cond_false, Option.bind_some, List.nil_append]
  | n + 1, A, B, hA, hs, hc, hl => by
    rcases List.eq_nil_or_concat A with rfl | ⟨A', x, rfl⟩
    · cases hA
    · rw [List.concat_eq_append] at *
      obtain ⟨r, hw, h1, h2⟩ := hc x (by simp)
      unfold Wd at hw
      have hA' : A'.length = n := by simpa using hA
      rw [List.length_append, List.length_singleton] at hl ⊢
      have hs' := srt_app.1 hs
      have e1 : (P.length : Int) < ((P.length + (A'.length + 1) : Nat) : Int) := by omega
      have e2 := zpred (i := P.length + (A'.length + 1)) (by omega) (by omega)
      have e3 : P.length + (A'.length + 1) - 1 = P.length + A'.length := by omega
      rw [e3] at e2
      have hd : P ++ (A' ++ [x] ++ y :: B) = (P ++ A') ++ x :: ([] ++ y :: B) := by simp
      have hd' : P ++ (A' ++ y :: (x :: B)) = (P ++ A') ++ y :: ([] ++ x :: B) := by simp
      have hp : (P ++ A').length = P.length + A'.length := List.length_append
      have hlen : ((P ++ A') ++ x :: ([] ++ y :: B)).length = P.length + A'.length + B.length + 2 := by simp only [List.length_append, List.length_cons, List.length_nil]; omega
      have i1 : inb ((P.length + (A'.length + 1) : Nat) : Int) ((P ++ A') ++ x :: ([] ++ y :: B)).length = true := inb_nat (by rw [hlen]; omega)
      have i2 : inb ((P.length + A'.length : Nat) : Int) ((P ++ A') ++ x :: ([] ++ y :: B)).length = true := inb_nat (by rw [hlen]; omega)
      have g1 : ((P ++ A') ++ x :: ([] ++ y :: B)).getD (P.length + A'.length) 0 = x := ls_at hp
      have g2 : ((P ++ A') ++ x :: ([] ++ y :: B)).getD (P.length + (A'.length + 1)) 0 = y := ls_at2 hp rfl
      have s1 : ((P ++ A') ++ x :: ([] ++ y :: B)).set (P.length + (A'.length + 1)) x = (P ++ A') ++ x :: ([] ++ x :: B) := ls_set2 hp rfl
      have s2 : ((P ++ A') ++ x :: ([] ++ x :: B)).set (P.length + A'.length) y = (P ++ A') ++ y :: ([] ++ x :: B) := ls_set hp
      have i3 : inb ((P.length + A'.length : Nat) : Int) ((P ++ A') ++ x :: ([] ++ x :: B)).length = true := inb_nat (by simp only [List.length_append, List.length_cons, List.length_nil]; omega)
      by_cases hr : r < 0
      · obtain ⟨A1, A2, rfl, f1, f2, f3⟩ := ins_in (P := P) (y := y) tr n A' (x :: B) hA' hs'.1 (fun z hz => hc z (by simp [hz])) (by rw [List.length_cons]; omega)
        refine ⟨A1, A2 ++ [x], by simp, f1, ?_, ?_⟩
        · intro z hz
          rcases List.mem_append.1 hz with hz | hz
          · exact f2 z hz
          · rw [List.mem_singleton.1 hz]; exact h1 hr
        · have e4 : A1 ++ y :: (A2 ++ [x] ++ B) = A1 ++ y :: (A2 ++ x :: B) := by simp
          rw [e4]
          refine Halts.step ?_ f3
          rw [hd, hd']
          unfold slices_insertionSortCmpFunc_int__Rows_1_l1
          simp only [e1, decide_true, cond_true, e2, i1, i2, chk_t, Option.bind_some, Int.toNat_natCast, g1, g2, hw, hr, s1, i3, s2]
      · have hxy := h2 hr
        refine ⟨A' ++ [x], [], by simp, ?_, by simp, Halts.done ?_⟩
        · intro z hz
          rcases List.mem_append.1 hz with hz | hz
          · exact tr z x y (hs'.2.2 z hz x (by simp)) hxy
          · rw [List.mem_singleton.1 hz]; exact hxy
        · rw [List.nil_append, hd]
          unfold slices_insertionSortCmpFunc_int__Rows_1_l1
          simp only [e1, decide_true, cond_true, e2, i1, i2, chk_t, Option.bind_some, Int.toNat_natCast, g1, g2, hw, hr, decide_false, cond_false]
theorem ins_out (tr : ∀ x y z, lt x y → lt y z → lt x z) {P S : List Int} : ∀ (B A : List Int), A ≠ [] → Srt lt A → (∀ x ∈ A, ∀ y ∈ B, Tell K Q lt x y) → B.Pairwise (Tell K Q lt) → P.length + A.length + B.length + S.length < 1000000 →
    ∃ Z, Srt lt Z ∧ Z.Perm (A ++ B) ∧
      Halts (slices_insertionSortCmpFunc_int__Rows_1_l2 ((P.length + A.length + B.length : Nat) : Int) (P.length : Int)) B.length ((), ((), ((), ())), ((P.length + A.length : Nat) : Int), P ++ (A ++ (B ++ S)), (K, ()), Q, ()) ((), ((), ((), ())), P ++ (Z ++ S), (K, ()), Q, ())
  | [], A, _, hs, _, _, hl => by
    refine ⟨A, hs, by simp, Halts.done ?_⟩
    unfold slices_insertionSortCmpFunc_int__Rows_1_l2
    simp only [List.length_nil, Nat.add_zero, Int.lt_irrefl, decide_false, cond_false, List.nil_append]
  | y :: B, A, hA, hs, hc, hp, hl => by
    rw [List.length_cons] at hl
    obtain ⟨A1, A2, rfl, h1, h2, h3⟩ := ins_in (K := K) (Q := Q) tr (P := P) (y := y) A.length A (B ++ S) rfl hs (fun x hx => hc x hx y (by simp)) (by rw [List.length_append]; omega)
    have hs' := srt_app.1 hs
    have hp' := List.pairwise_cons.1 hp
    obtain ⟨Z, z1, z2, z3⟩ := ins_out (P := P) (S := S) tr B (A1 ++ y :: A2) (by simp) (by
        refine srt_app.2 ⟨hs'.1, List.pairwise_cons.2 ⟨h2, hs'.2.1⟩, fun x hx z hz => ?_⟩
        rcases List.mem_cons.1 hz with rfl | hz
        · exact h1 x hx
        · exact hs'.2.2 x hx z hz) (by
        intro x hx z hz
        rcases List.mem_append.1 hx with hx | hx
        · exact hc x (by simp [hx]) z (by simp [hz])
        · rcases List.mem_cons.1 hx with rfl | hx
          · exact hp'.1 z hz
          · exact hc x (by simp [hx]) z (by simp [hz])) hp'.2 (by
        simp only [List.length_append, List.length_cons] at hl ⊢
        omega)
    refine ⟨Z, z1, z2.trans ?_, ?_⟩
    · have : (A1 ++ y :: A2 ++ B).Perm (y :: (A1 ++ A2 ++ B)) := by simpa only [List.append_assoc, List.cons_append] using List.perm_middle (l₁ := A1) (l₂ := A2 ++ B) (a := y)
      exact this.trans List.perm_middle.symm
    · have e1 : ((P.length + (A1 ++ A2).length : Nat) : Int) < ((P.length + (A1 ++ A2).length + (y :: B).length : Nat) : Int) := by rw [List.length_cons]; omega
      have hlp := h3.loop (by omega)
      have w1 := wsuc (show P.length + (A1 ++ A2).length < 9223372036854775807 by omega)
      have e2 : P.length + (A1 ++ A2).length + 1 = P.length + (A1 ++ y :: A2).length := by simp; omega
      have e3 : P.length + (A1 ++ A2).length + (y :: B).length = P.length + (A1 ++ y :: A2).length + B.length := by simp; omega
      have e4 : P ++ (A1 ++ A2 ++ (y :: B ++ S)) = P ++ (A1 ++ A2 ++ y :: (B ++ S)) := by simp
      have e5 : P ++ (A1 ++ y :: (A2 ++ (B ++ S))) = P ++ (A1 ++ y :: A2 ++ (B ++ S)) := by simp
      rw [e2] at w1
      rw [e3] at e1 ⊢
      rw [List.length_cons]
      refine Halts.step ?_ z3
      rw [e4]
      unfold slices_insertionSortCmpFunc_int__Rows_1_l2
      simp only [e1, decide_true, cond_true, hlp, Option.bind_some, w1, e5]
theorem ins_eq (tr : ∀ x y z, lt x y → lt y z → lt x z) {P X S : List Int} (hp : X.Pairwise (Tell K Q lt)) (hl : P.length + X.length + S.length < 1000000) {b : Nat} (hb : P.length + X.length = b) :
    ∃ Z, Srt lt Z ∧ Z.Perm X ∧ slices_insertionSortCmpFunc_int__Rows_1 (P.length : Int) (b : Int) (P ++ (X ++ S)) K Q.1 Q.2.1 Q.2.2.1 Q.2.2.2.1 Q.2.2.2.2.1 Q.2.2.2.2.2.1 Q.2.2.2.2.2.2.1 Q.2.2.2.2.2.2.2.1 Q.2.2.2.2.2.2.2.2.1 = some ((), ((), ((), ())), P ++ (Z ++ S), (K, ()), Q, ()) := by
  subst hb
  have w1 := wsuc (show P.length < 9223372036854775807 by omega)
  cases X with
  | nil =>
    refine ⟨[], List.Pairwise.nil, List.Perm.refl _, ?_⟩
    have hd : Halts (slices_insertionSortCmpFunc_int__Rows_1_l2 ((P.length + ([] : List Int).length : Nat) : Int) (P.length : Int)) 0 ((), ((), ((), ())), ((P.length + 1 : Nat) : Int), P ++ ([] ++ S), (K, ()), Q, ()) ((), ((), ((), ())), P ++ ([] ++ S), (K, ()), Q, ()) := by
      refine Halts.done ?_
      unfold slices_insertionSortCmpFunc_int__Rows_1_l2
      have : ¬ ((P.length + 1 : Nat) : Int) < ((P.length + ([] : List Int).length : Nat) : Int) := by rw [List.length_nil]; omega
      simp only [this, decide_false, cond_false]
    have hlp := hd.loop (by omega)
    unfold slices_insertionSortCmpFunc_int__Rows_1
    simp only [w1]
    rw [show (Q.1, (Q.2.1, (Q.2.2.1, (Q.2.2.2.1, (Q.2.2.2.2.1, (Q.2.2.2.2.2.1, (Q.2.2.2.2.2.2.1, (Q.2.2.2.2.2.2.2.1, (Q.2.2.2.2.2.2.2.2.1, ()))))))))) = Q from rfl, hlp]
    rfl
  | cons x B =>
    have hp' := List.pairwise_cons.1 hp
    obtain ⟨Z, z1, z2, z3⟩ := ins_out (K := K) (Q := Q) tr (P := P) (S := S) B [x] (by simp) (List.pairwise_singleton _ _) (fun a ha y hy => by rw [List.mem_singleton.1 ha]; exact hp'.1 y hy) hp'.2 (by simp only [List.length_cons, List.length_nil] at hl ⊢; omega)
    refine ⟨Z, z1, by simpa using z2, ?_⟩
    have hlp := z3.loop (by simp only [List.length_cons] at hl; omega)
    have e1 : P.length + [x].length + B.length = P.length + (x :: B).length := by simp; omega
    rw [e1] at hlp
    unfold slices_insertionSortCmpFunc_int__Rows_1
    simp only [w1]
    rw [show (Q.1, (Q.2.1, (Q.2.2.1, (Q.2.2.2.1, (Q.2.2.2.2.1, (Q.2.2.2.2.2.1, (Q.2.2.2.2.2.2.1, (Q.2.2.2.2.2.2.2.1, (Q.2.2.2.2.2.2.2.2.1, ()))))))))) = Q from rfl]
    rw [show P ++ (x :: B ++ S) = P ++ ([x] ++ (B ++ S)) by simp, show P.length + 1 = P.length + [x].length from rfl, hlp]
    rfl

/-! ### Swaps -/
theorem swap_in {P M S : List Int} {k2 : Nat} : ∀ (A2 B2 A1 B1 : List Int), A2.length = B2.length → A1.length = B1.length → P.length + B1.length + A2.length + M.length = k2 → k2 + A1.length + B2.length + S.length < 1000000 →
    Halts (slices_swapRangeCmpFunc_int__Rows_1_l1 ((A1.length + A2.length : Nat) : Int) (k2 : Int) (P.length : Int)) A2.length ((), ((), ((), ())), (A1.length : Int), P ++ (B1 ++ (A2 ++ (M ++ (A1 ++ (B2 ++ S))))), (K, ()), Q, ())
      ((), ((), ((), ())), P ++ ((B1 ++ B2) ++ (M ++ ((A1 ++ A2) ++ S))), (K, ()), Q, ())
  | [], B2, A1, B1, h1, h2, h3, h4 => by
    have : B2 = [] := List.eq_nil_of_length_eq_zero h1.symm
    subst this
    refine Halts.done ?_
    unfold slices_swapRangeCmpFunc_int__Rows_1_l1
    simp only [List.length_nil, Nat.add_zero, Int.lt_irrefl, decide_false, cond_false, List.nil_append, List.append_nil]
  | x :: A2, [], A1, B1, h1, _, _, _ => by cases h1
  | x :: A2, y :: B2, A1, B1, h1, h2, h3, h4 => by
    simp only [List.length_cons] at h1 h3 h4
    have ih := swap_in (P := P) (M := M) (S := S) (k2 := k2) A2 B2 (A1 ++ [x]) (B1 ++ [y]) (by omega) (by simp [h2]) (by simp only [List.length_append, List.length_cons, List.length_nil]; omega) (by simp only [List.length_append, List.length_cons, List.length_nil]; omega)
    have hd : P ++ (B1 ++ (x :: A2 ++ (M ++ (A1 ++ (y :: B2 ++ S))))) = (P ++ B1) ++ x :: ((A2 ++ (M ++ A1)) ++ y :: (B2 ++ S)) := by simp
    have hd' : P ++ (B1 ++ [y] ++ (A2 ++ (M ++ (A1 ++ [x] ++ (B2 ++ S))))) = (P ++ B1) ++ y :: ((A2 ++ (M ++ A1)) ++ x :: (B2 ++ S)) := by simp
    have hp : (P ++ B1).length = P.length + A1.length := by rw [List.length_append, h2]
    have hm : P.length + A1.length + 1 + (A2 ++ (M ++ A1)).length = k2 + A1.length := by simp only [List.length_append]; omega
    have e0 : (A1.length : Int) < ((A1.length + (A2.length + 1) : Nat) : Int) := by omega
    have e1 := zadd (i := P.length) (j := A1.length) (by omega)
    have e2 := zadd (i := k2) (j := A1.length) (by omega)
    have e3 := wsuc (show A1.length < 9223372036854775807 by omega)
    have hlen : ∀ a b : Int, ((P ++ B1) ++ a :: ((A2 ++ (M ++ A1)) ++ b :: (B2 ++ S))).length = k2 + A1.length + B2.length + S.length + 1 := fun a b => by
      simp only [List.length_append, List.length_cons]; omega
    have i1 : ∀ a b : Int, inb ((P.length + A1.length : Nat) : Int) ((P ++ B1) ++ a :: ((A2 ++ (M ++ A1)) ++ b :: (B2 ++ S))).length = true := fun a b => inb_nat (by rw [hlen]; omega)
    have i2 : ∀ a b : Int, inb ((k2 + A1.length : Nat) : Int) ((P ++ B1) ++ a :: ((A2 ++ (M ++ A1)) ++ b :: (B2 ++ S))).length = true := fun a b => inb_nat (by rw [hlen]; omega)
    have g1 : ((P ++ B1) ++ x :: ((A2 ++ (M ++ A1)) ++ y :: (B2 ++ S))).getD (P.length + A1.length) 0 = x := ls_at hp
    have g2 : ((P ++ B1) ++ x :: ((A2 ++ (M ++ A1)) ++ y :: (B2 ++ S))).getD (k2 + A1.length) 0 = y := ls_at2 hp hm
    have s1 : ((P ++ B1) ++ x :: ((A2 ++ (M ++ A1)) ++ y :: (B2 ++ S))).set (P.length + A1.length) y = (P ++ B1) ++ y :: ((A2 ++ (M ++ A1)) ++ y :: (B2 ++ S)) := ls_set hp
    have s2 : ((P ++ B1) ++ y :: ((A2 ++ (M ++ A1)) ++ y :: (B2 ++ S))).set (k2 + A1.length) x = (P ++ B1) ++ y :: ((A2 ++ (M ++ A1)) ++ x :: (B2 ++ S)) := ls_set2 hp hm
    have e4 : (A1 ++ [x]).length + A2.length = A1.length + (x :: A2).length := by simp; omega
    have e5 : (A1 ++ [x]).length = A1.length + 1 := by simp
    rw [e4, e5, hd', List.length_cons] at ih
    have ef : P ++ (B1 ++ [y] ++ B2 ++ (M ++ (A1 ++ [x] ++ A2 ++ S))) = P ++ (B1 ++ y :: B2 ++ (M ++ (A1 ++ x :: A2 ++ S))) := by simp
    rw [ef] at ih
    rw [hd, List.length_cons]
    refine Halts.step ?_ ih
    unfold slices_swapRangeCmpFunc_int__Rows_1_l1
    simp only [e0, decide_true, cond_true, e1, e2, i1, i2, chk_t, Option.bind_some, Int.toNat_natCast, g1, g2, s1, s2, e3]
theorem swap_eq {P A M B S : List Int} (h : A.length = B.length) {a b k : Nat} (ha : P.length = a) (hb : a + A.length + M.length = b) (hk : A.length = k) (hl : b + B.length + S.length < 1000000) :
    slices_swapRangeCmpFunc_int__Rows_1 (a : Int) (b : Int) (k : Int) (P ++ (A ++ (M ++ (B ++ S)))) K Q.1 Q.2.1 Q.2.2.1 Q.2.2.2.1 Q.2.2.2.2.1 Q.2.2.2.2.2.1 Q.2.2.2.2.2.2.1 Q.2.2.2.2.2.2.2.1 Q.2.2.2.2.2.2.2.2.1 = some ((), ((), ((), ())), P ++ (B ++ (M ++ (A ++ S))), (K, ()), Q, ()) := by
  subst ha hk
  have := swap_in (K := K) (Q := Q) (P := P) (M := M) (S := S) (k2 := b) A B [] [] h rfl (by simp only [List.length_nil]; omega) (by simp only [List.length_nil]; omega)
  have hlp := this.loop (by omega)
  simp only [List.length_nil, Nat.zero_add, List.nil_append] at hlp
  unfold slices_swapRangeCmpFunc_int__Rows_1
  rw [show (Q.1, (Q.2.1, (Q.2.2.1, (Q.2.2.2.1, (Q.2.2.2.2.1, (Q.2.2.2.2.2.1, (Q.2.2.2.2.2.2.1, (Q.2.2.2.2.2.2.2.1, (Q.2.2.2.2.2.2.2.2.1, ()))))))))) = Q from rfl, show (0 : Int) = ((0 : Nat) : Int) from rfl, hlp]
  rfl
theorem rot_in {m : Nat} : ∀ (n : Nat) (P X Y S : List Int), X.length + Y.length ≤ n → X ≠ [] → Y ≠ [] → P.length + X.length = m → m + Y.length + S.length < 1000000 →
    ∃ P' X' Y' S', X'.length = Y'.length ∧ P'.length + X'.length = m ∧ P' ++ (Y' ++ (X' ++ S')) = P ++ (Y ++ (X ++ S)) ∧ (P' ++ (X' ++ (Y' ++ S'))).length = (P ++ (X ++ (Y ++ S))).length ∧
      Halts (slices_rotateCmpFunc_int__Rows_1_l1 (m : Int)) n ((), ((), ((), ())), (X.length : Int), (Y.length : Int), P ++ (X ++ (Y ++ S)), (K, ()), Q, ()) ((), ((), ((), ())), (X'.length : Int), P' ++ (X' ++ (Y' ++ S')), (K, ()), Q, ())
  | n, P, X, Y, S, hn, hX, hY, hm, hl => by
    have lX := List.length_pos_iff.2 hX
    have lY := List.length_pos_iff.2 hY
    by_cases he : X.length = Y.length
    · refine ⟨P, X, Y, S, he, hm, rfl, rfl, Halts.done ?_⟩
      have : (X.length : Int) = (Y.length : Int) := by omega
      unfold slices_rotateCmpFunc_int__Rows_1_l1
      simp only [this, decide_true, Bool.not_true, cond_false]
    · cases n with
      | zero => omega
      | succ n =>
      have d0 : decide ((X.length : Int) = (Y.length : Int)) = false := decide_eq_false (by omega)
      have w1 := zsub (i := m) (j := X.length) (by omega) (by omega)
      have e1 : m - X.length = P.length := by omega
      rw [e1] at w1
      by_cases hlt : Y.length < X.length
      · have d1 : decide ((Y.length : Int) < (X.length : Int)) = true := decide_eq_true (by omega)
        obtain ⟨X1, X2, rfl, hx1⟩ : ∃ X1 X2, X = X1 ++ X2 ∧ X1.length = Y.length := ⟨X.take Y.length, X.drop Y.length, (List.take_append_drop _ _).symm, by rw [List.length_take]; omega⟩
        rw [List.length_append] at *
        obtain ⟨P', X', Y', S', f1, f2, f3, f4, f5⟩ := rot_in (m := m) n (P ++ Y) X2 X1 S (by omega) (by intro e; rw [e] at hlt; simp only [List.length_nil] at hlt; omega) (by intro e; rw [e] at hx1; simp only [List.length_nil] at hx1; omega) (by rw [List.length_append]; omega) (by omega)
        refine ⟨P', X', Y', S', f1, f2, by rw [f3]; simp, by rw [f4]; simp only [List.length_append]; omega, ?_⟩
        have sw := swap_eq (K := K) (Q := Q) (P := P) (A := X1) (M := X2) (B := Y) (S := S) (by omega) rfl (b := m) (k := Y.length) (by omega) hx1 (by omega)
        have w2 := zsub (i := X1.length + X2.length) (j := Y.length) (by omega) (by omega)
        have e2 : X1.length + X2.length - Y.length = X2.length := by omega
        rw [e2] at w2
        have ed : P ++ (X1 ++ X2 ++ (Y ++ S)) = P ++ (X1 ++ (X2 ++ (Y ++ S))) := by simp
        have ed' : P ++ Y ++ (X2 ++ (X1 ++ S)) = P ++ (Y ++ (X2 ++ (X1 ++ S))) := by simp
        rw [ed', hx1] at f5
        refine Halts.step ?_ f5
        rw [ed]
        unfold slices_rotateCmpFunc_int__Rows_1_l1
        simp only [List.length_append, d0, Bool.not_false, cond_true, d1, w1, sw, Option.bind_some, w2]
      · have d1 : decide ((Y.length : Int) < (X.length : Int)) = false := decide_eq_false (by omega)
        obtain ⟨Y1, Y2, rfl, hy1⟩ : ∃ Y1 Y2, Y = Y1 ++ Y2 ∧ Y2.length = X.length := ⟨Y.take (Y.length - X.length), Y.drop (Y.length - X.length), (List.take_append_drop _ _).symm, by rw [List.length_drop]; omega⟩
        rw [List.length_append] at *
        obtain ⟨P', X', Y', S', f1, f2, f3, f4, f5⟩ := rot_in (m := m) n P Y2 Y1 (X ++ S) (by omega) (by intro e; rw [e] at hy1; simp only [List.length_nil] at hy1; omega) (by intro e; rw [e] at he; simp only [List.length_nil] at he; omega) (by omega) (by rw [List.length_append]; omega)
        refine ⟨P', X', Y', S', f1, f2, by rw [f3]; simp, by rw [f4]; simp only [List.length_append]; omega, ?_⟩
        have sw := swap_eq (K := K) (Q := Q) (P := P) (A := X) (M := Y1) (B := Y2) (S := S) (by omega) rfl (b := m + Y1.length) (k := X.length) (by omega) rfl (by omega)
        have w2 := zadd (i := m) (j := Y1.length + Y2.length) (by omega)
        have w3 := zsub (i := m + (Y1.length + Y2.length)) (j := X.length) (by omega) (by omega)
        have e3 : m + (Y1.length + Y2.length) - X.length = m + Y1.length := by omega
        rw [e3] at w3
        have w4 := zsub (i := Y1.length + Y2.length) (j := X.length) (by omega) (by omega)
        have e4 : Y1.length + Y2.length - X.length = Y1.length := by omega
        rw [e4] at w4
        have ed : P ++ (X ++ (Y1 ++ Y2 ++ S)) = P ++ (X ++ (Y1 ++ (Y2 ++ S))) := by simp
        rw [hy1] at f5
        refine Halts.step ?_ f5
        rw [ed]
        unfold slices_rotateCmpFunc_int__Rows_1_l1
        simp only [List.length_append, d0, Bool.not_false, cond_true, d1, cond_false, w1, w2, w3, sw, Option.bind_some, w4]
theorem rot_eq {P X Y S : List Int} (hX : X ≠ []) (hY : Y ≠ []) {a m b : Nat} (ha : P.length = a) (hm : a + X.length = m) (hb : m + Y.length = b) (hl : b + S.length < 1000000) :
    slices_rotateCmpFunc_int__Rows_1 (a : Int) (m : Int) (b : Int) (P ++ (X ++ (Y ++ S))) K Q.1 Q.2.1 Q.2.2.1 Q.2.2.2.1 Q.2.2.2.2.1 Q.2.2.2.2.2.1 Q.2.2.2.2.2.2.1 Q.2.2.2.2.2.2.2.1 Q.2.2.2.2.2.2.2.2.1 = some ((), ((), ((), ())), P ++ (Y ++ (X ++ S)), (K, ()), Q, ()) := by
  obtain ⟨P', X', Y', S', f1, f2, f3, f4, f5⟩ := rot_in (K := K) (Q := Q) (m := m) (X.length + Y.length) P X Y S (Nat.le_refl _) hX hY (by omega) (by omega)
  have hlp := f5.loop (by omega)
  have w1 := zsub (i := m) (j := a) (by omega) (by omega)
  have w2 := zsub (i := b) (j := m) (by omega) (by omega)
  have e1 : m - a = X.length := by omega
  have e2 : b - m = Y.length := by omega
  rw [e1] at w1
  rw [e2] at w2
  have w3 := zsub (i := m) (j := X'.length) (by omega) (by omega)
  have e3 : m - X'.length = P'.length := by omega
  rw [e3] at w3
  have hl' : P'.length + X'.length + Y'.length + S'.length < 1000000 := by
    simp only [List.length_append] at f4
    omega
  have sw := swap_eq (K := K) (Q := Q) (P := P') (A := X') (M := []) (B := Y') (S := S') f1 rfl (b := m) (k := X'.length) (by simp only [List.length_nil]; omega) rfl (by omega)
  simp only [List.nil_append] at sw
  unfold slices_rotateCmpFunc_int__Rows_1
  simp only [w1, w2]
  rw [show (Q.1, (Q.2.1, (Q.2.2.1, (Q.2.2.2.1, (Q.2.2.2.2.1, (Q.2.2.2.2.2.1, (Q.2.2.2.2.2.2.1, (Q.2.2.2.2.2.2.2.1, (Q.2.2.2.2.2.2.2.2.1, ()))))))))) = Q from rfl, hlp]
  simp only [Option.bind_some, w3, sw, f3]
end
end Go.Proofs.YtmkpdineahbfkaaGreatDoor
