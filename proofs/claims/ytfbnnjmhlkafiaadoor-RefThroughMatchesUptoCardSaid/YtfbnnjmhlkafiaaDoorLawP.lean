import Derived.Test.YtfbnnjmhlkafiaaDoorLawO
namespace Go.Proofs.YtfbnnjmhlkafiaaDoor
open Go Go.Fe

/-! ### The first and the last row that are still there -/
abbrev HullS := Int × (Int × Bool)
/-- first, last and found are those of the rows from low to top. -/
def IsH (W : Int → Option Int) (low top : Int) (h : HullS) : Prop :=
  (h = (0, 0, false) ∧ ∀ p, low ≤ p → p ≤ top → W p = none) ∨
  (h.2.2 = true ∧ (∃ p, low ≤ p ∧ p ≤ top ∧ W p = some h.1) ∧ (∃ p, low ≤ p ∧ p ≤ top ∧ W p = some h.2.1) ∧ ∀ p q, low ≤ p → p ≤ top → W p = some q → h.1 ≤ q ∧ q ≤ h.2.1)
theorem IsH.unique {W : Int → Option Int} {low top : Int} {h h' : HullS} (x : IsH W low top h) (y : IsH W low top h') : h = h' := by
  obtain ⟨f, l, b⟩ := h
  obtain ⟨f', l', b'⟩ := h'
  rcases x with ⟨e, x⟩ | ⟨xb, ⟨p, p1, p2, p3⟩, ⟨p', p1', p2', p3'⟩, xm⟩
  · rcases y with ⟨e', _⟩ | ⟨_, ⟨p, p1, p2, p3⟩, _⟩
    · rw [e, e']
    · rw [x p p1 p2] at p3; cases p3
  · rcases y with ⟨_, y⟩ | ⟨yb, ⟨q, q1, q2, q3⟩, ⟨q', q1', q2', q3'⟩, ym⟩
    · rw [y p p1 p2] at p3; cases p3
    · have a1 := xm q f' q1 q2 q3
      have a2 := xm q' l' q1' q2' q3'
      have a3 := ym p f p1 p2 p3
      have a4 := ym p' l p1' p2' p3'
      simp only at xb yb a1 a2 a3 a4
      subst xb yb
      have e1 : f = f' := by omega
      have e2 : l = l' := by omega
      rw [e1, e2]

/-- Rows from old on, n of them, are kept. -/
def kp (low high old now n : Int) (h : HullS) : HullS :=
  if mx low old ≤ mn high (old + n - 1) then (cond h.2.2 h.1 (now + mx low old - old), now + mn high (old + n - 1) - old, true) else h

theorem mx_eq (a b : Int) : mx a b = if b > a then b else a := rfl
theorem mn_eq (a b : Int) : mn a b = if b < a then b else a := rfl

theorem kp_is {W : Int → Option Int} {low high old now n : Int} {h : HullS} (hn : 1 ≤ n) (hW : ∀ p, old ≤ p → p < old + n → W p = some (now + (p - old))) (hlt : ∀ p q, 0 ≤ p → p < old → W p = some q → q < now) (hlow : 0 ≤ low)
    (hh : IsH W low (mn high (old - 1)) h) : IsH W low (mn high (old + n - 1)) (kp low high old now n h) := by
  unfold kp
  by_cases hc : mx low old ≤ mn high (old + n - 1)
  · rw [if_pos hc]
    right
    have c1 : low ≤ mx low old ∧ old ≤ mx low old ∧ (mx low old = low ∨ mx low old = old) := by rw [mx_eq]; split <;> omega
    have c2 : mn high (old + n - 1) ≤ high ∧ mn high (old + n - 1) ≤ old + n - 1 := by rw [mn_eq]; split <;> omega
    have c3 : mn high (old - 1) ≤ high ∧ mn high (old - 1) ≤ old - 1 ∧ (mn high (old - 1) = high ∨ mn high (old - 1) = old - 1) := by rw [mn_eq]; split <;> omega
    have c4 : mn high (old - 1) = old - 1 := by omega
    generalize mx low old = P at *
    generalize mn high (old + n - 1) = Q at *
    have hQ := hW Q (by omega) (by omega)
    have hP := hW P (by omega) (by omega)
    refine ⟨rfl, ?_, ⟨Q, by omega, by omega, by rw [hQ]; simp only; congr 1; omega⟩, ?_⟩
    · rcases hh with ⟨e, _⟩ | ⟨e, ⟨p, p1, p2, p3⟩, _⟩
      · rw [e]
        exact ⟨P, by omega, by omega, by rw [hP]; simp only [cond_false]; congr 1; omega⟩
      · rw [e]
        exact ⟨p, p1, by omega, p3⟩
    · intro p q p1 p2 p3
      simp only
      by_cases hp : p < old
      · have hq := hlt p q (by omega) hp p3
        rcases hh with ⟨_, e⟩ | ⟨e, _, _, hm⟩
        · rw [e p p1 (by omega)] at p3; cases p3
        · have := hm p q p1 (by omega) p3
          rw [e]
          simp only [cond_true]
          omega
      · have hq := hW p (by omega) (by omega)
        rw [hq] at p3
        cases p3
        rcases hh with ⟨e, _⟩ | ⟨e, ⟨p0, p01, p02, p03⟩, _⟩
        · rw [e]
          simp only [cond_false]
          omega
        · rw [e]
          have := hlt p0 _ (by omega) (by omega) p03
          simp only [cond_true]
          omega
  · rw [if_neg hc]
    have hsame : ∀ p, low ≤ p → p ≤ mn high (old + n - 1) → p ≤ mn high (old - 1) := by
      intro p h1 h2
      rw [mx_eq] at hc
      rw [mn_eq] at hc h2 ⊢
      split at hc <;> split at hc <;> split at h2 <;> split <;> omega
    have hback : ∀ p, p ≤ mn high (old - 1) → p ≤ mn high (old + n - 1) := by
      intro p h1
      rw [mn_eq] at h1 ⊢
      split at h1 <;> split <;> omega
    rcases hh with ⟨e, he⟩ | ⟨e, ⟨p, p1, p2, p3⟩, ⟨p', p1', p2', p3'⟩, hm⟩
    · exact .inl ⟨e, fun p h1 h2 => he p h1 (hsame p h1 h2)⟩
    · exact .inr ⟨e, ⟨p, p1, hback p p2, p3⟩, ⟨p', p1', hback p' p2', p3'⟩, fun p q h1 h2 h3 => hm p q h1 (hsame p h1 h2) h3⟩

/-- Old and new length, and the hull, behind all steps. -/
def hrun (low high : Int) : Steps → Int → Int → HullS → Int × (Int × HullS)
  | [], old, now, h => (old, now, h)
  | v :: r, old, now, h => hrun low high r (if v.1 = 1 then old else old + v.2.1) (if v.1 = 2 then now else now + v.2.1) (if v.1 = 0 then kp low high old now v.2.1 h else h)

theorem hrun_is {W : Int → Option Int} {low high : Int} (hlow : 0 ≤ low) : ∀ (r : Steps) (old now : Int) (h : HullS), Fine r → 0 ≤ old → 
    (∀ j, 0 ≤ j → W (old + j) = (wh r j).map (· + now)) → (∀ p q, 0 ≤ p → p < old → W p = some q → q < now) → IsH W low (mn high (old - 1)) h →
    let x := hrun low high r old now h
    0 ≤ x.1 ∧ (∀ j, 0 ≤ j → W (x.1 + j) = some (x.2.1 + j)) ∧ (∀ p q, 0 ≤ p → p < x.1 → W p = some q → q < x.2.1) ∧ IsH W low (mn high (x.1 - 1)) x.2.2
  | [], old, now, h, _, ho, hW, hlt, hh => by
    refine ⟨ho, fun j hj => ?_, hlt, hh⟩
    show W (old + j) = some (now + j)
    rw [hW j hj]
    simp only [wh, Option.map_some]
    congr 1
    omega
  | v :: r, old, now, h, hf, ho, hW, hlt, hh => by
    have h0 := hf v (List.mem_cons_self ..)
    simp only [hrun]
    by_cases k1 : v.1 = 1
    · have k2 : ¬ v.1 = 2 := by omega
      have k0 : ¬ v.1 = 0 := by omega
      rw [if_pos k1, if_neg k2, if_neg k0]
      refine hrun_is hlow r old (now + v.2.1) h hf.tail ho (fun j hj => ?_) (fun p q h1 h2 h3 => by have := hlt p q h1 h2 h3; omega) hh
      rw [hW j hj]
      simp only [wh, k1, if_true, Option.map_map]
      congr 1
      funext x
      simp only [Function.comp]
      omega
    · by_cases k0 : v.1 = 0
      · have k2 : ¬ v.1 = 2 := by omega
        rw [if_neg k1, if_neg k2, if_pos k0]
        have hkeep : ∀ p, old ≤ p → p < old + v.2.1 → W p = some (now + (p - old)) := fun p h1 h2 => by
          have := hW (p - old) (by omega)
          rw [show old + (p - old) = p by omega] at this
          rw [this]
          simp only [wh, if_neg k1, if_pos k0]
          rw [if_pos (by omega)]
          simp only [Option.map_some]
          congr 1
          omega
        refine hrun_is hlow r (old + v.2.1) (now + v.2.1) _ hf.tail (by omega) (fun j hj => ?_) (fun p q h1 h2 h3 => ?_) (kp_is (by omega) hkeep hlt hlow hh)
        · have := hW (v.2.1 + j) (by omega)
          rw [show old + v.2.1 + j = old + (v.2.1 + j) by omega, this]
          simp only [wh, if_neg k1, if_pos k0]
          rw [if_neg (by omega), show v.2.1 + j - v.2.1 = j by omega, Option.map_map]
          congr 1
          funext x
          simp only [Function.comp]
          omega
        · by_cases hp : p < old
          · have := hlt p q h1 hp h3; omega
          · rw [hkeep p (by omega) h2] at h3
            cases h3
            omega
      · have k2 : v.1 = 2 := by omega
        rw [if_neg k1, if_pos k2, if_neg k0]
        have hcut : ∀ p, old ≤ p → p < old + v.2.1 → W p = none := fun p h1 h2 => by
          have := hW (p - old) (by omega)
          rw [show old + (p - old) = p by omega] at this
          rw [this]
          simp only [wh, if_neg k1, if_neg k0]
          rw [if_pos (by omega)]
          rfl
        refine hrun_is hlow r (old + v.2.1) now h hf.tail (by omega) (fun j hj => ?_) (fun p q h1 h2 h3 => ?_) ?_
        · have := hW (v.2.1 + j) (by omega)
          rw [show old + v.2.1 + j = old + (v.2.1 + j) by omega, this]
          simp only [wh, if_neg k1, if_neg k0]
          rw [if_neg (by omega), show v.2.1 + j - v.2.1 = j by omega]
        · by_cases hp : p < old
          · exact hlt p q h1 hp h3
          · rw [hcut p (by omega) h2] at h3; cases h3
        · have hback : ∀ p, p ≤ mn high (old - 1) → p ≤ mn high (old + v.2.1 - 1) := by
            intro p h1
            rw [mn_eq] at h1 ⊢
            split at h1 <;> split <;> omega
          have hsplit : ∀ p, p ≤ mn high (old + v.2.1 - 1) → p ≤ mn high (old - 1) ∨ (old ≤ p ∧ p < old + v.2.1) := by
            intro p h1
            rw [mn_eq] at h1 ⊢
            split at h1 <;> split <;> omega
          rcases hh with ⟨e, he⟩ | ⟨e, ⟨p, p1, p2, p3⟩, ⟨p', p1', p2', p3'⟩, hm⟩
          · refine .inl ⟨e, fun p h1 h2 => ?_⟩
            rcases hsplit p h2 with h | h
            · exact he p h1 h
            · exact hcut p h.1 h.2
          · refine .inr ⟨e, ⟨p, p1, hback p p2, p3⟩, ⟨p', p1', hback p' p2', p3'⟩, fun p q h1 h2 h3 => ?_⟩
            rcases hsplit p h2 with h | h
            · exact hm p q h1 h h3
            · rw [hcut p h.1 h.2] at h3; cases h3

/-- The hull of a change. -/
def hull (a : Steps) (low high : Int) : HullS := kp low high (hrun low high a 0 0 (0, 0, false)).1 (hrun low high a 0 0 (0, 0, false)).2.1 1073741824 (hrun low high a 0 0 (0, 0, false)).2.2
theorem hull_is {a : Steps} (hf : Fine a) {low high : Int} (hlow : 0 ≤ low) (hhigh : high < 1073741824) : IsH (wh a) low high (hull a low high) := by
  have h := hrun_is (W := wh a) (low := low) (high := high) hlow a 0 0 (0, 0, false) hf (by omega) (fun j hj => by rw [Int.zero_add]; simp) (fun p q h1 h2 _ => by omega) (.inl ⟨rfl, fun p h1 h2 => by
    rw [mn_eq] at h2
    split at h2 <;> omega⟩)
  obtain ⟨h1, h2, h3, h4⟩ := h
  unfold hull
  generalize hrun low high a 0 0 (0, 0, false) = x at *
  have := kp_is (n := 1073741824) (by omega) (fun p hp1 hp2 => by
    have := h2 (p - x.1) (by omega)
    rw [show x.1 + (p - x.1) = p by omega] at this
    exact this) h3 hlow h4
  rw [show mn high (x.1 + 1073741824 - 1) = high by rw [mn_eq]; split <;> omega] at this
  exact this
end Go.Proofs.YtfbnnjmhlkafiaaDoor
