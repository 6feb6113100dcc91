import Derived.Test.YtfbnnjmhlkafiaaDoorLawE
namespace Go.Proofs.YtfbnnjmhlkafiaaDoor
open Go Go.Fe

/-! ### Changes of an axis -/
abbrev Step := Int × (Int × Unit)
abbrev Steps := List Step
/-- The error of a step, or 0. -/
def badOrder (a : Steps) (i : Nat) (v : Step) : Bool := match i with
  | 0 => false
  | j + 1 => match a[j]? with
    | some u => decide (u.1 = v.1) || (decide (u.1 = 2) && decide (v.1 = 1))
    | none => false
def bad (a : Steps) (i : Nat) : Int := match a[i]? with
  | none => 0
  | some v => if v.1 < 0 ∨ 2 < v.1 then 8 else if v.2.1 < 1 ∨ 2147483647 < v.2.1 then 2 else if badOrder a i v = true then 5 else 0
/-- Lengths before and after. -/
def bsum : Steps → Int
  | [] => 0
  | v :: r => (if v.1 = 1 then 0 else v.2.1) + bsum r
def asum : Steps → Int
  | [] => 0
  | v :: r => (if v.1 = 2 then 0 else v.2.1) + asum r
theorem bsum_append (x y : Steps) : bsum (x ++ y) = bsum x + bsum y := by
  induction x with
  | nil => simp [bsum]
  | cons v r ih => simp only [List.cons_append, bsum, ih]; omega
theorem asum_append (x y : Steps) : asum (x ++ y) = asum x + asum y := by
  induction x with
  | nil => simp [asum]
  | cons v r ih => simp only [List.cons_append, asum, ih]; omega
theorem bsum_take {a : Steps} {i : Nat} (h : i < a.length) : bsum (a.take (i + 1)) = bsum (a.take i) + (if a[i].1 = 1 then 0 else a[i].2.1) := by
  rw [List.take_succ_eq_append_getElem h, bsum_append]
  simp [bsum]
theorem asum_take {a : Steps} {i : Nat} (h : i < a.length) : asum (a.take (i + 1)) = asum (a.take i) + (if a[i].1 = 2 then 0 else a[i].2.1) := by
  rw [List.take_succ_eq_append_getElem h, asum_append]
  simp [asum]

theorem bad_fine {a : Steps} {i : Nat} (h : i < a.length) (hb : bad a i = 0) : 0 ≤ a[i].1 ∧ a[i].1 ≤ 2 ∧ 1 ≤ a[i].2.1 ∧ a[i].2.1 ≤ 2147483647 := by
  simp only [bad, List.getElem?_eq_getElem h] at hb
  split at hb
  · cases hb
  · rename_i h1
    split at hb
    · cases hb
    · rename_i h2
      omega
theorem sums_nonneg {a : Steps} (n : Nat) (hn : n ≤ a.length) (h : ∀ j, j < n → bad a j = 0) : 0 ≤ bsum (a.take n) ∧ 0 ≤ asum (a.take n) := by
  induction n with
  | zero => simp [bsum, asum]
  | succ n ih =>
    obtain ⟨h1, h2⟩ := ih (by omega) (fun j hj => h j (by omega))
    obtain ⟨_, _, h3, _⟩ := bad_fine (by omega) (h n (by omega))
    rw [bsum_take (by omega), asum_take (by omega)]
    constructor
    · split <;> omega
    · split <;> omega

theorem check_body {a : Steps} {i : Nat} (hi : i < a.length) (hl : a.length < 1000000000) {x y : Int} (hx : 0 ≤ x ∧ x ≤ 2147483648) (hy : 0 ≤ y ∧ y ≤ 2147483648) :
    axis_Check_l1806 a (x, y, (i : Int), ()) = some (if bad a i = 0 then .inl (if a[i].1 = 1 then x else mn (x + a[i].2.1) 2147483648, if a[i].1 = 2 then y else mn (y + a[i].2.1) 2147483648, ((i + 1 : Nat) : Int), ()) else .inr (.inr (bad a i, ()))) := by
  have hg : ((i : Int) < (a.length : Int)) := by omega
  have w1 := wrap_succ (i := i) (by omega)
  have hbad : bad a i = if a[i].1 < 0 ∨ 2 < a[i].1 then 8 else if a[i].2.1 < 1 ∨ 2147483647 < a[i].2.1 then 2 else if badOrder a i a[i] = true then 5 else 0 := by simp only [bad, List.getElem?_eq_getElem hi]
  rw [hbad]
  generalize hv : a[i] = v
  have hix : idx a (i : Int) = some v := by rw [idx_lt hi, hv]
  simp only [axis_Check_l1806, hg, decide_true, cond_true, hix, Option.bind_some, cond_some', cond_pair, Bool.cond_self, w1]
  by_cases k1 : v.1 < 0
  · simp [k1]
  by_cases k2 : 2 < v.1
  · simp [k1, k2]
  by_cases k3 : v.2.1 < 1
  · simp [k1, k2, k3]
  by_cases k4 : 2147483647 < v.2.1
  · simp [k1, k2, k3, k4]
  have hord : (cond (decide (0 < (i : Int))) ((idx a (IntKind.i64.wrap ((i : Int) - 1))).bind fun v4 =>
      cond (decide (v4.1 = v.1)) (some ((), true, v, ())) ((idx a (IntKind.i64.wrap ((i : Int) - 1))).bind fun v5 => some ((), cond (decide (v5.1 = 2)) (decide (v.1 = 1)) false, v, ()))) (some ((), false, v, ())) : Option (Unit × (Bool × (Step × Unit)))) = some ((), badOrder a i v, v, ()) := by
    cases i with
    | zero => simp [badOrder]
    | succ j =>
      have hj : j < a.length := by omega
      have w : IntKind.i64.wrap (((j + 1 : Nat) : Int) - 1) = (j : Int) := by rw [wrap_i64 (by omega) (by omega)]; omega
      have g0 : (0 : Int) < ((j + 1 : Nat) : Int) := by omega
      simp only [g0, decide_true, cond_true, w, idx_lt hj, Option.bind_some, badOrder, List.getElem?_eq_getElem hj, cond_some', cond_pair, Bool.cond_self]
      cases decide (a[j].1 = v.1) <;> cases decide (a[j].1 = 2) <;> rfl
  simp only [k1, k2, k3, k4, decide_false, cond_false, false_or, if_false]
  rw [hord]
  cases hb : badOrder a i v with
  | true => simp
  | false =>
    have wx := wrap_i64 (n := x + v.2.1) (by omega) (by omega)
    have wy := wrap_i64 (n := y + v.2.1) (by omega) (by omega)
    simp only [Option.bind_some, cond_false, wx, wy]
    by_cases e1 : v.1 = 1 <;> by_cases e2 : v.1 = 2 <;> simp [e1, e2]
theorem axisError_body {a : Steps} {i : Nat} (hi : i < a.length) (hl : a.length < 1000000000) {x y : Int} (hx : 0 ≤ x ∧ x ≤ 1099511627776) (hy : 0 ≤ y ∧ y ≤ 1099511627776) :
    chanceryref2_AxisError_l1072 a (x, y, (i : Int), ()) = some (if bad a i = 0 then .inl (if a[i].1 = 1 then x else mn (x + a[i].2.1) 1099511627776, if a[i].1 = 2 then y else mn (y + a[i].2.1) 1099511627776, ((i + 1 : Nat) : Int), ()) else .inr (.inr (bad a i, ()))) := by
  have hg : ((i : Int) < (a.length : Int)) := by omega
  have w1 := wrap_succ (i := i) (by omega)
  have hbad : bad a i = if a[i].1 < 0 ∨ 2 < a[i].1 then 8 else if a[i].2.1 < 1 ∨ 2147483647 < a[i].2.1 then 2 else if badOrder a i a[i] = true then 5 else 0 := by simp only [bad, List.getElem?_eq_getElem hi]
  rw [hbad]
  generalize hv : a[i] = v
  have hix : idx a (i : Int) = some v := by rw [idx_lt hi, hv]
  simp only [chanceryref2_AxisError_l1072, hg, decide_true, cond_true, hix, Option.bind_some, cond_some', cond_pair, Bool.cond_self, w1]
  by_cases k1 : v.1 < 0
  · simp [k1]
  by_cases k2 : 2 < v.1
  · simp [k1, k2]
  by_cases k3 : v.2.1 < 1
  · simp [k1, k2, k3]
  by_cases k4 : 2147483647 < v.2.1
  · simp [k1, k2, k3, k4]
  have hord : (cond (decide (0 < (i : Int))) ((idx a (IntKind.i64.wrap ((i : Int) - 1))).bind fun v4 =>
      cond (decide (v.1 = v4.1)) (some ((), true, v, ())) ((idx a (IntKind.i64.wrap ((i : Int) - 1))).bind fun v5 => some ((), cond (decide (v5.1 = 2)) (decide (v.1 = 1)) false, v, ()))) (some ((), false, v, ())) : Option (Unit × (Bool × (Step × Unit)))) = some ((), badOrder a i v, v, ()) := by
    cases i with
    | zero => simp [badOrder]
    | succ j =>
      have hj : j < a.length := by omega
      have w : IntKind.i64.wrap (((j + 1 : Nat) : Int) - 1) = (j : Int) := by rw [wrap_i64 (by omega) (by omega)]; omega
      have g0 : (0 : Int) < ((j + 1 : Nat) : Int) := by omega
      simp only [g0, decide_true, cond_true, w, idx_lt hj, Option.bind_some, badOrder, List.getElem?_eq_getElem hj, cond_some', cond_pair, Bool.cond_self]
      rw [show decide (v.1 = a[j].1) = decide (a[j].1 = v.1) by simp only [decide_eq_decide]; exact eq_comm]
      cases decide (a[j].1 = v.1) <;> cases decide (a[j].1 = 2) <;> rfl
  simp only [k1, k2, k3, k4, decide_false, cond_false, false_or, if_false]
  rw [hord]
  cases hb : badOrder a i v with
  | true => simp
  | false =>
    have wx := wrap_i64 (n := x + v.2.1) (by omega) (by omega)
    have wy := wrap_i64 (n := y + v.2.1) (by omega) (by omega)
    simp only [Option.bind_some, cond_false, wx, wy]
    by_cases e1 : v.1 = 1 <;> by_cases e2 : v.1 = 2 <;> simp [e1, e2]

theorem mn_add {x n c : Int} (hn : 0 ≤ n) : mn (mn x c + n) c = mn (x + n) c := by
  unfold mn
  by_cases h1 : c < x
  · rw [if_pos h1]
    by_cases h2 : c < c + n <;> by_cases h3 : c < x + n <;> simp only [h2, h3, if_true, if_false] <;> omega
  · rw [if_neg h1]
theorem mn_le {x c : Int} : mn x c ≤ c := by
  unfold mn
  split <;> omega
theorem mn_nonneg {x c : Int} (hx : 0 ≤ x) (hc : 0 ≤ c) : 0 ≤ mn x c := by
  unfold mn
  split <;> omega
theorem mn_big {x c m : Int} (h : m < c) : (m < mn x c) ↔ m < x := by
  unfold mn
  split <;> omega

/-- A change that is valid. -/
def Valid (a : Steps) : Prop := (∀ i, i < a.length → bad a i = 0) ∧ bsum a ≤ 2147483647 ∧ asum a ≤ 2147483647

theorem axis_run {a : Steps} (hl : a.length < 1000000000) {C : Int} (hC : 0 ≤ C) {f : (Int × (Int × (Int × Unit))) → Option ((Int × (Int × (Int × Unit))) ⊕ ((Int × (Int × Unit)) ⊕ (Int × Unit)))}
    (hf : ∀ (i : Nat) (hi : i < a.length) (x y : Int), 0 ≤ x ∧ x ≤ C → 0 ≤ y ∧ y ≤ C → f (x, y, (i : Int), ()) = some (if bad a i = 0 then .inl (if a[i].1 = 1 then x else mn (x + a[i].2.1) C, if a[i].1 = 2 then y else mn (y + a[i].2.1) C, ((i + 1 : Nat) : Int), ()) else .inr (.inr (bad a i, ()))))
    (he : ∀ x y : Int, f (x, y, (a.length : Int), ()) = some (.inr (.inl (x, y, ())))) :
    ((∀ i, i < a.length → bad a i = 0) → loop f (0, 0, 0, ()) = some (.inl (mn (bsum a) C, mn (asum a) C, ()))) ∧
    (∀ i, i < a.length → bad a i ≠ 0 → (∀ j, j < i → bad a j = 0) → loop f (0, 0, 0, ()) = some (.inr (bad a i, ()))) := by
  have st : ∀ i, i < a.length → (∀ j, j < i → bad a j = 0) → f (mn (bsum (a.take i)) C, mn (asum (a.take i)) C, (i : Int), ()) =
      some (if bad a i = 0 then .inl (mn (bsum (a.take (i + 1))) C, mn (asum (a.take (i + 1))) C, ((i + 1 : Nat) : Int), ()) else .inr (.inr (bad a i, ()))) := fun i hi hj => by
    obtain ⟨n1, n2⟩ := sums_nonneg i (by omega) hj
    rw [hf i hi _ _ ⟨mn_nonneg n1 hC, mn_le⟩ ⟨mn_nonneg n2 hC, mn_le⟩]
    by_cases hb : bad a i = 0
    · obtain ⟨_, _, h3, _⟩ := bad_fine hi hb
      rw [if_pos hb, if_pos hb, bsum_take hi, asum_take hi]
      congr 3
      · split
        · rw [Int.add_zero]
        · exact mn_add (by omega)
      · congr 1
        split
        · rw [Int.add_zero]
        · exact mn_add (by omega)
    · rw [if_neg hb, if_neg hb]
  have s0 : (mn (bsum (a.take 0)) C, mn (asum (a.take 0)) C, ((0 : Nat) : Int), ()) = ((0 : Int), (0 : Int), (0 : Int), ()) := by
    simp [bsum, asum, mn]
    omega
  constructor
  · intro hall
    have := (Halts.along (n := 0) (f := f) (fun i : Nat => (mn (bsum (a.take i)) C, mn (asum (a.take i)) C, (i : Int), ())) (r := .inl (mn (bsum a) C, mn (asum a) C, ())) a.length
      (fun i hi => by rw [st i hi (fun j hj => hall j (by omega)), if_pos (hall i hi)]) (.done (by rw [he]; simp))).loop (by omega)
    rw [s0] at this
    exact this
  · intro i hi hb hj
    have := (Halts.along (n := 0) (f := f) (fun i : Nat => (mn (bsum (a.take i)) C, mn (asum (a.take i)) C, (i : Int), ())) (r := .inr (bad a i, ())) i
      (fun k hk => by rw [st k (by omega) (fun j hj' => hj j (by omega)), if_pos (hj k hk)]) (.done (by rw [st i hi hj, if_neg hb]))).loop (by omega)
    rw [s0] at this
    exact this

theorem axis_eq {a : Steps} (hl : a.length < 1000000000) : ∃ e : Int, axis_Check a = some (e, ()) ∧ chanceryref2_AxisError a = some (e, ()) ∧ (e = 0 → Valid a) := by
  obtain ⟨p1, p2⟩ := axis_run hl (C := 2147483648) (by omega) (f := axis_Check_l1806 a) (fun i hi x y hx hy => check_body hi hl hx hy) (fun x y => by simp [axis_Check_l1806])
  obtain ⟨r1, r2⟩ := axis_run hl (C := 1099511627776) (by omega) (f := chanceryref2_AxisError_l1072 a) (fun i hi x y hx hy => axisError_body hi hl hx hy) (fun x y => by simp [chanceryref2_AxisError_l1072])
  rcases first_fail (fun i => decide (bad a i = 0)) a.length with h | ⟨i, hi, h1, h2⟩
  · have hall : ∀ i, i < a.length → bad a i = 0 := fun i hi => of_decide_eq_true (h i hi)
    have b1 : decide (2147483647 < mn (bsum a) 2147483648) = decide (2147483647 < bsum a) := by simp only [decide_eq_decide]; exact mn_big (by omega)
    have b2 : decide (2147483647 < mn (asum a) 2147483648) = decide (2147483647 < asum a) := by simp only [decide_eq_decide]; exact mn_big (by omega)
    have b3 : decide (2147483647 < mn (bsum a) 1099511627776) = decide (2147483647 < bsum a) := by simp only [decide_eq_decide]; exact mn_big (by omega)
    have b4 : decide (2147483647 < mn (asum a) 1099511627776) = decide (2147483647 < asum a) := by simp only [decide_eq_decide]; exact mn_big (by omega)
    refine ⟨if 2147483647 < bsum a ∨ 2147483647 < asum a then 3 else 0, ?_, ?_, ?_⟩
    · simp only [axis_Check, p1 hall, Option.bind_some, b1, b2]
      by_cases g1 : 2147483647 < bsum a <;> by_cases g2 : 2147483647 < asum a <;> simp [g1, g2]
    · simp only [chanceryref2_AxisError, r1 hall, Option.bind_some, b3, b4]
      by_cases g1 : 2147483647 < bsum a <;> by_cases g2 : 2147483647 < asum a <;> simp [g1, g2]
    · intro he
      refine ⟨hall, ?_, ?_⟩
      · by_cases g1 : 2147483647 < bsum a
        · simp [g1] at he
        · omega
      · by_cases g2 : 2147483647 < asum a
        · simp [g2] at he
        · omega
  · have hb : bad a i ≠ 0 := of_decide_eq_false h1
    have hj : ∀ j, j < i → bad a j = 0 := fun j hj => of_decide_eq_true (h2 j hj)
    refine ⟨bad a i, ?_, ?_, fun he => absurd he hb⟩
    · simp only [axis_Check, p2 i hi hb hj, Option.bind_some]
    · simp only [chanceryref2_AxisError, r2 i hi hb hj, Option.bind_some]

end Go.Proofs.YtfbnnjmhlkafiaaDoor
