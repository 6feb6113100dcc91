/- Rows are sorted: places in lists, and search by halves. -/
import Derived.Test.YtmkpdineahbfkaaGreatDoorFun
import Derived.Test.YtmkpdineahbfkaaGreatDoorFeRun
namespace Go.Proofs.YtmkpdineahbfkaaGreatDoor
open Go Go.Fe

/-! ### Search by halves -/
theorem halves {S R : Type} {f : S → Option (S ⊕ R)} (st : Nat → Nat → S) (q : Nat → R) (p : Nat → Bool) {lo hi : Nat}
    (hs : ∀ i j, lo ≤ i → i < j → j ≤ hi → f (st i j) = some (.inl (if p ((i + j) / 2) = true then st ((i + j) / 2 + 1) j else st i ((i + j) / 2))))
    (he : ∀ i, lo ≤ i → i ≤ hi → f (st i i) = some (.inr (q i)))
    (mono : ∀ h k, lo ≤ h → h ≤ k → k < hi → p k = true → p h = true) :
    ∀ (n i j : Nat), lo ≤ i → i ≤ j → j ≤ hi → j - i ≤ n → (∀ h, lo ≤ h → h < i → p h = true) → (∀ h, j ≤ h → h < hi → p h = false) →
      ∃ t, lo ≤ t ∧ t ≤ hi ∧ Halts f n (st i j) (q t) ∧ (∀ h, lo ≤ h → h < t → p h = true) ∧ (∀ h, t ≤ h → h < hi → p h = false)
  | n, i, j, h1, h2, h3, h4, h5, h6 => by
    by_cases e : i = j
    · subst e
      exact ⟨i, h1, h3, Halts.done (he i h1 h3), h5, h6⟩
    · cases n with
      | zero => omega
      | succ n =>
      have hst := hs i j h1 (by omega) h3
      by_cases hp : p ((i + j) / 2) = true
      · rw [if_pos hp] at hst
        obtain ⟨t, g1, g2, g3, g4, g5⟩ := halves st q p hs he mono n ((i + j) / 2 + 1) j (by omega) (by omega) h3 (by omega)
          (fun h a b => mono h ((i + j) / 2) a (by omega) (by omega) hp) h6
        exact ⟨t, g1, g2, Halts.step hst g3, g4, g5⟩
      · rw [if_neg hp] at hst
        obtain ⟨t, g1, g2, g3, g4, g5⟩ := halves st q p hs he mono n i ((i + j) / 2) h1 (by omega) (by omega) (by omega) h5
          (fun h a b => by
            cases hh : p h with
            | false => rfl
            | true => exact absurd (mono ((i + j) / 2) h (by omega) a b hh) hp)
        exact ⟨t, g1, g2, Halts.step hst g3, g4, g5⟩

/-! ### Places in lists -/
section
variable {P M R X T : List Int} {x y v d : Int} {i j k : Nat}
theorem ls_at (h : P.length = i) : (P ++ x :: R).getD i d = x := by
  subst h
  rw [List.getD_eq_getElem?_getD, List.getElem?_append_right (Nat.le_refl _), Nat.sub_self]
  rfl
theorem ls_set (h : P.length = i) : (P ++ x :: R).set i v = P ++ v :: R := by
  subst h
  rw [List.set_append_right _ _ (Nat.le_refl _), Nat.sub_self, List.set_cons_zero]
theorem ls_at2 (hi : P.length = i) (hj : i + 1 + M.length = j) : (P ++ x :: (M ++ y :: R)).getD j d = y := by
  have : P ++ x :: (M ++ y :: R) = (P ++ x :: M) ++ y :: R := by simp
  rw [this]
  exact ls_at (by rw [List.length_append, List.length_cons]; omega)
theorem ls_set2 (hi : P.length = i) (hj : i + 1 + M.length = j) : (P ++ x :: (M ++ y :: R)).set j v = P ++ x :: (M ++ v :: R) := by
  have e : ∀ z : Int, P ++ x :: (M ++ z :: R) = (P ++ x :: M) ++ z :: R := fun z => by simp
  rw [e, e]
  exact ls_set (by rw [List.length_append, List.length_cons]; omega)
theorem ls_in (hk : P.length + i = k) (hi : i < X.length) : (P ++ (X ++ T)).getD k d = X[i] := by
  subst hk
  rw [List.getD_eq_getElem?_getD, List.getElem?_append_right (by omega), List.getElem?_append_left (by omega), List.getElem?_eq_getElem (by omega)]
  simp
end

/-! ### Orders -/
/-- Each before all behind it. -/
def Srt (lt : Int → Int → Prop) (X : List Int) : Prop := X.Pairwise lt
theorem srt_app {lt : Int → Int → Prop} {X Y : List Int} : Srt lt (X ++ Y) ↔ Srt lt X ∧ Srt lt Y ∧ ∀ x ∈ X, ∀ y ∈ Y, lt x y := List.pairwise_append
theorem srt_get {lt : Int → Int → Prop} {X : List Int} (h : Srt lt X) {i j : Nat} (hij : i < j) (hj : j < X.length) : lt (X[i]'(by omega)) X[j] := List.pairwise_iff_getElem.1 h i j (by omega) hj hij
end Go.Proofs.YtmkpdineahbfkaaGreatDoor
