import Derived.Test.YtfbnnjmhlkafiaaGreatDoorRLaw2
namespace Go.Proofs.YtfbnnjmhlkafiaaGreatDoor
open Go Go.Fe

/-! ### Changes of an axis -/
abbrev Step := Int × (Int × Unit)
abbrev Steps := List Step
/-- The error of a step, or 0. -/
def badOrder (a : Steps) (i : Nat) (v : Step) : Bool := match i with
  | 0 => false
  | j + 1 => match a[j]? with
    | some u => decide (u.1 = v.1) || (decide (u.1 = 2) && decide (v.1 = 1))
    | none => false
def bad (a : Steps) (i : Nat) : Int := match a[i]? with
  | none => 0
  | some v => if v.1 < 0 ∨ 2 < v.1 then 8 else if v.2.1 < 1 ∨ 2147483647 < v.2.1 then 2 else if badOrder a i v = true then 5 else 0
/-- Lengths before and after. -/
def bsum : Steps → Int
  | [] => 0
  | v :: r => (if v.1 = 1 then 0 else v.2.1) + bsum r
def asum : Steps → Int
  | [] => 0
  | v :: r => (if v.1 = 2 then 0 else v.2.1) + asum r
theorem bsum_append (x y : Steps) : bsum (x ++ y) = bsum x + bsum y := by
  induction x with
  | nil => simp [bsum]
  | cons v r ih => simp only [List.cons_append, bsum, ih]; omega
theorem asum_append (x y : Steps) : asum (x ++ y) = asum x + asum y := by
  induction x with
  | nil => simp [asum]
  | cons v r ih => simp only [List.cons_append, asum, ih]; omega
theorem bsum_take {a : Steps} {i : Nat} (h : i < a.length) : bsum (a.take (i + 1)) = bsum (a.take i) + (if a[i].1 = 1 then 0 else a[i].2.1) := by
  rw [List.take_succ_eq_append_getElem h, bsum_append]
  simp [bsum]
theorem asum_take {a : Steps} {i : Nat} (h : i < a.length) : asum (a.take (i + 1)) = asum (a.take i) + (if a[i].1 = 2 then 0 else a[i].2.1) := by
  rw [List.take_succ_eq_append_getElem h, asum_append]
  simp [asum]

theorem bad_fine {a : Steps} {i : Nat} (h : i < a.length) (hb : bad a i = 0) : 0 ≤ a[i].1 ∧ a[i].1 ≤ 2 ∧ 1 ≤ a[i].2.1 ∧ a[i].2.1 ≤ 2147483647 := by
  simp only [bad, List.getElem?_eq_getElem h] at hb
  split at hb
  · cases hb
  · rename_i h1
    split at hb
    · cases hb
    · rename_i h2
      omega
theorem sums_nonneg {a : Steps} (n : Nat) (hn : n ≤ a.length) (h : ∀ j, j < n → bad a j = 0) : 0 ≤ bsum (a.take n) ∧ 0 ≤ asum (a.take n) := by
  induction n with
  | zero => simp [bsum, asum]
  | succ n ih =>
    obtain ⟨h1, h2⟩ := ih (by omega) (fun j hj => h j (by omega))
    obtain ⟨_, _, h3, _⟩ := bad_fine (by omega) (h n (by omega))
    rw [bsum_take (by omega), asum_take (by omega)]
    constructor
    · split <;> omega
    · split <;> omega

theorem check_body {a : Steps} {i : Nat} (hi : i < a.length) (hl : a.length < 1000000000) {x y : Int} (hx : 0 ≤ x ∧ x ≤ 2147483648) (hy : 0 ≤ y ∧ y ≤ 2147483648) :
    axis_Check_l1 a (x, y, (i : Int), ()) = some (if bad a i = 0 then .inl (if a[i].1 = 1 then x else mn (x + a[i].2.1) 2147483648, if a[i].1 = 2 then y else mn (y + a[i].2.1) 2147483648, ((i + 1 : Nat) : Int), ()) else .inr (.inr (bad a i, ()))) := by
  have hg : ((i : Int) < (a.length : Int)) := by omega
  have w1 := wrap_succ (i := i) (by omega)
  have hbad : bad a i = if a[i].1 < 0 ∨ 2 < a[i].1 then 8 else if a[i].2.1 < 1 ∨ 2147483647 < a[i].2.1 then 2 else if badOrder a i a[i] = true then 5 else 0 := by simp only [bad, List.getElem?_eq_getElem hi]
  rw [hbad]
  generalize hv : a[i] = v
  have hix : idx a (i : Int) = some v := by rw [idx_lt hi, hv]
  simp only [axis_Check_l1, hg, decide_true, cond_true, hix, Option.bind_some, cond_some', cond_pair, Bool.cond_self, w1]
  by_cases k1 : v.1 < 0
  · simp [k1]
  by_cases k2 : 2 < v.1
  · simp [k1, k2]
  by_cases k3 : v.2.1 < 1
  · simp [k1, k2, k3]
  by_cases k4 : 2147483647 < v.2.1
  · simp [k1, k2, k3, k4]
  have hord : (cond (decide (0 < (i : Int))) ((idx a (IntKind.i64.wrap ((i : Int) - 1))).bind fun v4 =>
      cond (decide (v4.1 = v.1)) (some ((), true, v, ())) ((idx a (IntKind.i64.wrap ((i : Int) - 1))).bind fun v5 => some ((), cond (decide (v5.1 = 2)) (decide (v.1 = 1)) false, v, ()))) (some ((), false, v, ())) : Option (Unit × (Bool × (Step × Unit)))) = some ((), badOrder a i v, v, ()) := by
    cases i with
    | zero => simp [badOrder]
    | succ j =>
      have hj : j < a.length := by omega
      have w : IntKind.i64.wrap (((j + 1 : Nat) : Int) - 1) = (j : Int) := by rw [wrap_i64 (by omega) (by omega)]; omega
      have g0 : (0 : Int) < ((j + 1 : Nat) : Int) := by omega
      simp only [g0, decide_true, cond_true, w, idx_lt hj, Option.bind_some, badOrder, List.getElem?_eq_getElem hj, cond_some', cond_pair, Bool.cond_self]
      cases decide (a[j].1 = v.1) <;> cases decide (a[j].1 = 2) <;> rfl
  simp only [k1, k2, k3, k4, decide_false, cond_false, false_or, if_false]
  rw [hord]
  cases hb : badOrder a i v with
  | true => simp
  | false =>
    have wx := wrap_i64 (n := x + v.2.1) (by omega) (by omega)
    have wy := wrap_i64 (n := y + v.2.1) (by omega) (by omega)
    simp only [Option.bind_some, cond_false, wx, wy]
    by_cases e1 : v.1 = 1 <;> by_cases e2 : v.1 = 2 <;> simp [e1, e2]
theorem axisError_body {a : Steps} {i : Nat} (hi : i < a.length) (hl : a.length < 1000000000) {x y : Int} (hx : 0 ≤ x ∧ x ≤ 1099511627776) (hy : 0 ≤ y ∧ y ≤ 1099511627776) :
    chanceryref2_AxisError_l1 a (x, y, (i : Int), ()) = some (if bad a i = 0 then .inl (if a[i].1 = 1 then x else mn (x + a[i].2.1) 1099511627776, if a[i].1 = 2 then y else mn (y + a[i].2.1) 1099511627776, ((i + 1 : Nat) : Int), ()) else .inr (.inr (bad a i, ()))) := by
  have hg : ((i : Int) < (a.length : Int)) := by omega
  have w1 := wrap_succ (i := i) (by omega)
  have hbad : bad a i = if a[i].1 < 0 ∨ 2 < a[i].1 then 8 else if a[i].2.1 < 1 ∨ 2147483647 < a[i].2.1 then 2 else if badOrder a i a[i] = true then 5 else 0 := by simp only [bad, List.getElem?_eq_getElem hi]
  rw [hbad]
  generalize hv : a[i] = v
  have hix : idx a (i : Int) = some v := by rw [idx_lt hi, hv]
  simp only [chanceryref2_AxisError_l1, hg, decide_true, cond_true, hix, Option.bind_some, cond_some', cond_pair, Bool.cond_self, w1]
  by_cases k1 : v.1 < 0
  · simp [k1]
  by_cases k2 : 2 < v.1
  · simp [k1, k2]
  by_cases k3 : v.2.1 < 1
  · simp [k1, k2, k3]
  by_cases k4 : 2147483647 < v.2.1
  · simp [k1, k2, k3, k4]
  have hord : (cond (decide (0 < (i : Int))) ((idx a (IntKind.i64.wrap ((i : Int) - 1))).bind fun v4 =>
      cond (decide (v.1 = v4.1)) (some ((), true, v, ())) ((idx a (IntKind.i64.wrap ((i : Int) - 1))).bind fun v5 => some ((), cond (decide (v5.1 = 2)) (decide (v.1 = 1)) false, v, ()))) (some ((), false, v, ())) : Option (Unit × (Bool × (Step × Unit)))) = some ((), badOrder a i v, v, ()) := by
    cases i with
    | zero => simp [badOrder]
    | succ j =>
      have hj : j < a.length := by omega
      have w : IntKind.i64.wrap (((j + 1 : Nat) : Int) - 1) = (j : Int) := by rw [wrap_i64 (by omega) (by omega)]; omega
      have g0 : (0 : Int) < ((j + 1 : Nat) : Int) := by omega
      simp only [g0, decide_true, cond_true, w, idx_lt hj, Option.bind_some, badOrder, List.getElem?_eq_getElem hj, cond_some', cond_pair, Bool.cond_self]
      rw [show decide (v.1 = a[j].1) = decide (a[j].1 = v.1) by simp only [decide_eq_decide]; exact eq_comm]
      cases decide (a[j].1 = v.1) <;> cases decide (a[j].1 = 2) <;> rfl
  simp only [k1, k2, k3, k4, decide_false, cond_false, false_or, if_false]
  rw [hord]
  cases hb : badOrder a i v with
  | true => simp
  | false =>
    have wx := wrap_i64 (n := x + v.2.1) (by omega) (by omega)
    have wy := wrap_i64 (n := y + v.2.1) (by omega) (by omega)
    simp only [Option.bind_some, cond_false, wx, wy]
    by_cases e1 : v.1 = 1 <;> by_cases e2 : v.1 = 2 <;> simp [e1, e2]

theorem mn_add {x n c : Int} (hn : 0 ≤ n) : mn (mn x c + n) c = mn (x + n) c := by
  unfold mn
  by_cases h1 : c < x
  · rw [if_pos h1]
    by_cases h2 : c < c + n <;> by_cases h3 : c < x + n <;> simp only [h2, h3, if_true, if_false] <;> omega
  · rw [if_neg h1]
theorem mn_le {x c : Int} : mn x c ≤ c := by
  unfold mn
  split <;> omega
theorem mn_nonneg {x c : Int} (hx : 0 ≤ x) (hc : 0 ≤ c) : 0 ≤ mn x c := by
  unfold mn
  split <;> omega
theorem mn_big {x c m : Int} (h : m < c) : (m < mn x c) ↔ m < x := by
  unfold mn
  split <;> omega

/-- A change that is valid. -/
def Valid (a : Steps) : Prop := (∀ i, i < a.length → bad a i = 0) ∧ bsum a ≤ 2147483647 ∧ asum a ≤ 2147483647

theorem axis_run {a : Steps} (hl : a.length < 1000000000) {C : Int} (hC : 0 ≤ C) {f : (Int × (Int × (Int × Unit))) → Option ((Int × (Int × (Int × Unit))) ⊕ ((Int × (Int × Unit)) ⊕ (Int × Unit)))}
    (hf : ∀ (i : Nat) (hi : i < a.length) (x y : Int), 0 ≤ x ∧ x ≤ C → 0 ≤ y ∧ y ≤ C → f (x, y, (i : Int), ()) = some (if bad a i = 0 then .inl (if a[i].1 = 1 then x else mn (x + a[i].2.1) C, if a[i].1 = 2 then y else mn (y + a[i].2.1) C, ((i + 1 : Nat) : Int), ()) else .inr (.inr (bad a i, ()))))
    (he : ∀ x y : Int, f (x, y, (a.length : Int), ()) = some (.inr (.inl (x, y, ())))) :
    ((∀ i, i < a.length → bad a i = 0) → loop f (0, 0, 0, ()) = some (.inl (mn (bsum a) C, mn (asum a) C, ()))) ∧
    (∀ i, i < a.length → bad a i ≠ 0 → (∀ j, j < i → bad a j = 0) → loop f (0, 0, 0, ()) = some (.inr (bad a i, ()))) := by
  have st : ∀ i, i < a.length → (∀ j, j < i → bad a j = 0) → f (mn (bsum (a.take i)) C, mn (asum (a.take i)) C, (i : Int), ()) =
      some (if bad a i = 0 then .inl (mn (bsum (a.take (i + 1))) C, mn (asum (a.take (i + 1))) C, ((i + 1 : Nat) : Int), ()) else .inr (.inr (bad a i, ()))) := fun i hi hj => by
    obtain ⟨n1, n2⟩ := sums_nonneg i (by omega) hj
    rw [hf i hi _ _ ⟨mn_nonneg n1 hC, mn_le⟩ ⟨mn_nonneg n2 hC, mn_le⟩]
    by_cases hb : bad a i = 0
    · obtain ⟨_, _, h3, _⟩ := bad_fine hi hb
      rw [if_pos hb, if_pos hb, bsum_take hi, asum_take hi]
      congr 3
      · split
        · rw [Int.add_zero]
        · exact mn_add (by omega)
      · congr 1
        split
        · rw [Int.add_zero]
        · exact mn_add (by omega)
    · rw [if_neg hb, if_neg hb]
  have s0 : (mn (bsum (a.take 0)) C, mn (asum (a.take 0)) C, ((0 : Nat) : Int), ()) = ((0 : Int), (0 : Int), (0 : Int), ()) := by
    simp [bsum, asum, mn]
    omega
  constructor
  · intro hall
    have := (Halts.along (n := 0) (f := f) (fun i : Nat => (mn (bsum (a.take i)) C, mn (asum (a.take i)) C, (i : Int), ())) (r := .inl (mn (bsum a) C, mn (asum a) C, ())) a.length
      (fun i hi => by rw [st i hi (fun j hj => hall j (by omega)), if_pos (hall i hi)]) (.done (by rw [he]; simp))).loop (by omega)
    rw [s0] at this
    exact this
  · intro i hi hb hj
    have := (Halts.along (n := 0) (f := f) (fun i : Nat => (mn (bsum (a.take i)) C, mn (asum (a.take i)) C, (i : Int), ())) (r := .inr (bad a i, ())) i
      (fun k hk => by rw [st k (by omega) (fun j hj' => hj j (by omega)), if_pos (hj k hk)]) (.done (by rw [st i hi hj, if_neg hb]))).loop (by omega)
    rw [s0] at this
    exact this

theorem axis_eq {a : Steps} (hl : a.length < 1000000000) : ∃ e : Int, axis_Check a = some (e, ()) ∧ chanceryref2_AxisError a = some (e, ()) ∧ (e = 0 → Valid a) := by
  obtain ⟨p1, p2⟩ := axis_run hl (C := 2147483648) (by omega) (f := axis_Check_l1 a) (fun i hi x y hx hy => check_body hi hl hx hy) (fun x y => by simp [axis_Check_l1])
  obtain ⟨r1, r2⟩ := axis_run hl (C := 1099511627776) (by omega) (f := chanceryref2_AxisError_l1 a) (fun i hi x y hx hy => axisError_body hi hl hx hy) (fun x y => by simp [chanceryref2_AxisError_l1])
  rcases first_fail (fun i => decide (bad a i = 0)) a.length with h | ⟨i, hi, h1, h2⟩
  · have hall : ∀ i, i < a.length → bad a i = 0 := fun i hi => of_decide_eq_true (h i hi)
    have b1 : decide (2147483647 < mn (bsum a) 2147483648) = decide (2147483647 < bsum a) := by simp only [decide_eq_decide]; exact mn_big (by omega)
    have b2 : decide (2147483647 < mn (asum a) 2147483648) = decide (2147483647 < asum a) := by simp only [decide_eq_decide]; exact mn_big (by omega)
    have b3 : decide (2147483647 < mn (bsum a) 1099511627776) = decide (2147483647 < bsum a) := by simp only [decide_eq_decide]; exact mn_big (by omega)
    have b4 : decide (2147483647 < mn (asum a) 1099511627776) = decide (2147483647 < asum a) := by simp only [decide_eq_decide]; exact mn_big (by omega)
    refine ⟨if 2147483647 < bsum a ∨ 2147483647 < asum a then 3 else 0, ?_, ?_, ?_⟩
    · simp only [axis_Check, p1 hall, Option.bind_some, b1, b2]
      by_cases g1 : 2147483647 < bsum a <;> by_cases g2 : 2147483647 < asum a <;> simp [g1, g2]
    · simp only [chanceryref2_AxisError, r1 hall, Option.bind_some, b3, b4]
      by_cases g1 : 2147483647 < bsum a <;> by_cases g2 : 2147483647 < asum a <;> simp [g1, g2]
    · intro he
      refine ⟨hall, ?_, ?_⟩
      · by_cases g1 : 2147483647 < bsum a
        · simp [g1] at he
        · omega
      · by_cases g2 : 2147483647 < asum a
        · simp [g2] at he
        · omega
  · have hb : bad a i ≠ 0 := of_decide_eq_false h1
    have hj : ∀ j, j < i → bad a j = 0 := fun j hj => of_decide_eq_true (h2 j hj)
    refine ⟨bad a i, ?_, ?_, fun he => absurd he hb⟩
    · simp only [axis_Check, p2 i hi hb hj, Option.bind_some]
    · simp only [chanceryref2_AxisError, r2 i hi hb hj, Option.bind_some]

end Go.Proofs.YtfbnnjmhlkafiaaGreatDoor

namespace Go.Proofs.YtfbnnjmhlkafiaaGreatDoor
open Go Go.Fe

/-! ### Where a row goes -/
def wh : Steps → Int → Option Int
  | [], p => some p
  | v :: r, p => if v.1 = 1 then (wh r p).map (· + v.2.1) else if v.1 = 0 then (if p < v.2.1 then some p else (wh r (p - v.2.1)).map (· + v.2.1)) else (if p < v.2.1 then none else wh r (p - v.2.1))
/-- Steps that are fine, one by one. -/
def Fine (a : Steps) : Prop := ∀ v ∈ a, 0 ≤ v.1 ∧ v.1 ≤ 2 ∧ 1 ≤ v.2.1 ∧ v.2.1 ≤ 2147483647
theorem Valid.fine {a : Steps} (h : Valid a) : Fine a := fun v hv => by
  obtain ⟨i, hi, rfl⟩ := List.mem_iff_getElem.1 hv
  exact bad_fine hi (h.1 i hi)
theorem Fine.tail {v : Step} {r : Steps} (h : Fine (v :: r)) : Fine r := fun u hu => h u (List.mem_cons_of_mem _ hu)
theorem Fine.sums {a : Steps} (h : Fine a) : 0 ≤ bsum a ∧ 0 ≤ asum a := by
  induction a with
  | nil => simp [bsum, asum]
  | cons v r ih =>
    have := h v (List.mem_cons_self ..)
    have := ih h.tail
    simp only [bsum, asum]
    constructor <;> split <;> omega
theorem wh_nonneg : ∀ {a : Steps} {p q : Int}, Fine a → 0 ≤ p → wh a p = some q → 0 ≤ q ∧ q ≤ p + asum a
  | [], p, q, _, hp, h => by simp only [wh, Option.some.injEq] at h; simp only [asum]; omega
  | v :: r, p, q, hf, hp, h => by
    have h0 := hf v (List.mem_cons_self ..)
    have hs := hf.tail.sums
    simp only [wh] at h
    simp only [asum]
    split at h
    · rename_i k
      obtain ⟨q', h1, rfl⟩ := Option.map_eq_some_iff.1 h
      have := wh_nonneg hf.tail hp h1
      rw [if_neg (by omega)]
      omega
    · split at h
      · rw [if_neg (by omega)]
        split at h
        · simp only [Option.some.injEq] at h; omega
        · obtain ⟨q', h1, rfl⟩ := Option.map_eq_some_iff.1 h
          have := wh_nonneg hf.tail (by omega) h1
          omega
      · split at h
        · cases h
        · have := wh_nonneg hf.tail (by omega) h
          rw [if_pos (by omega)]
          omega

theorem dropS {a : Steps} {i : Nat} {v : Step} {r : Steps} (h : a.drop i = v :: r) : i < a.length ∧ a[i]? = some v ∧ a.drop (i + 1) = r := by
  have hl : i < a.length := by
    rcases Nat.lt_or_ge i a.length with h' | h'
    · exact h'
    · rw [List.drop_eq_nil_of_le h'] at h; cases h
  rw [List.drop_eq_getElem_cons hl] at h
  cases h
  exact ⟨hl, List.getElem?_eq_getElem hl, rfl⟩

/-- What the loop of Where ends with. -/
def whEnd (x : (Int × (Int × Unit)) ⊕ (Int × Unit)) (o : Option Int) (out : Int) : Prop := match x with
  | .inl z => o = some (z.2.1 + z.1 - out) ∧ 0 ≤ z.1 ∧ z.1 ≤ 8589934592 ∧ 0 ≤ z.2.1 ∧ z.2.1 ≤ 8589934592
  | .inr z => z.1 = -1 ∧ o = none ∨ 0 ≤ z.1 ∧ o = some (z.1 - out)

theorem where_loop {a : Steps} (hl : a.length < 1000000000) : ∀ (r : Steps) (i : Nat) (p out : Int), a.drop i = r → i ≤ a.length → Fine r → 0 ≤ p → p ≤ 8589934592 → 0 ≤ out → out + asum r ≤ 2147483647 →
    ∃ x, Halts (chanceryref2_Where_l1 a) r.length (p, out, (i : Int), ()) x ∧ whEnd x (wh r p) out
  | [], i, p, out, hd, hi, hf, hp, hp', ho, hs => by
    have hle : a.length ≤ i := by
      have := congrArg List.length hd
      simp at this
      omega
    have hg : ¬ ((i : Int) < (a.length : Int)) := by omega
    simp only [asum] at hs
    refine ⟨.inl (p, out, ()), .done (by simp only [chanceryref2_Where_l1, hg, decide_false, cond_false]), ?_⟩
    simp only [whEnd, wh]
    refine ⟨by congr 1; omega, hp, hp', ho, by omega⟩
  | v :: r, i, p, out, hd, hi, hf, hp, hp', ho, hs => by
    obtain ⟨hl', hv, hr⟩ := dropS hd
    have h0 := hf v (List.mem_cons_self ..)
    have hsr := hf.tail.sums
    have hg : ((i : Int) < (a.length : Int)) := by omega
    have hix : idx a (i : Int) = some v := by rw [idx_nat, hv]
    have w1 := wrap_succ (i := i) (by omega)
    simp only [asum] at hs
    by_cases k1 : v.1 = 1
    · have hs' : out + v.2.1 + asum r ≤ 2147483647 := by rw [if_neg (by omega)] at hs; omega
      obtain ⟨x, h1, h2⟩ := where_loop hl r (i + 1) p (out + v.2.1) hr (by omega) hf.tail hp hp' (by omega) hs'
      have w2 := wrap_i64 (n := out + v.2.1) (by omega) (by omega)
      refine ⟨x, .step ?_ h1, ?_⟩
      · simp only [chanceryref2_Where_l1, hg, decide_true, cond_true, hix, Option.bind_some, k1, w1, w2]
      · simp only [wh, k1, if_true]
        cases x with
        | inl z =>
          simp only [whEnd] at h2 ⊢
          refine ⟨by rw [h2.1]; simp only [Option.map_some]; congr 1; omega, h2.2⟩
        | inr z =>
          simp only [whEnd] at h2 ⊢
          rcases h2 with ⟨h2, h3⟩ | ⟨h2, h3⟩
          · exact .inl ⟨h2, by rw [h3]; rfl⟩
          · exact .inr ⟨h2, by rw [h3]; simp only [Option.map_some]; congr 1; omega⟩
    · by_cases k0 : v.1 = 0
      · by_cases hlt : p < v.2.1
        · have w2 := wrap_i64 (n := out + p) (by omega) (by omega)
          refine ⟨.inr (out + p, ()), .done ?_, ?_⟩
          · simp only [chanceryref2_Where_l1, hg, decide_true, cond_true, hix, Option.bind_some, k1, k0, hlt, decide_false, cond_false, w2]
            rfl
          · simp only [wh, k1, k0, hlt, if_true, if_false, whEnd]
            exact .inr ⟨by omega, by simp only [show ((0 : Int) = 1) = False by simp, if_false]; congr 1; omega⟩
        · have hs' : out + v.2.1 + asum r ≤ 2147483647 := by rw [if_neg (by omega)] at hs; omega
          obtain ⟨x, h1, h2⟩ := where_loop hl r (i + 1) (p - v.2.1) (out + v.2.1) hr (by omega) hf.tail (by omega) (by omega) (by omega) hs'
          have w2 := wrap_i64 (n := out + v.2.1) (by omega) (by omega)
          have w3 := wrap_i64 (n := p - v.2.1) (by omega) (by omega)
          refine ⟨x, .step ?_ h1, ?_⟩
          · simp only [chanceryref2_Where_l1, hg, decide_true, cond_true, hix, Option.bind_some, k1, k0, hlt, decide_false, cond_false, w1, w2, w3]
            rfl
          · have e : wh (v :: r) p = (wh r (p - v.2.1)).map (· + v.2.1) := by simp only [wh]; rw [if_neg k1, if_pos k0, if_neg hlt]
            rw [e]
            cases x with
            | inl z =>
              simp only [whEnd] at h2 ⊢
              refine ⟨by rw [h2.1]; simp only [Option.map_some]; congr 1; omega, h2.2⟩
            | inr z =>
              simp only [whEnd] at h2 ⊢
              rcases h2 with ⟨h2, h3⟩ | ⟨h2, h3⟩
              · exact .inl ⟨h2, by rw [h3]; rfl⟩
              · exact .inr ⟨h2, by rw [h3]; simp only [Option.map_some]; congr 1; omega⟩
      · by_cases hlt : p < v.2.1
        · refine ⟨.inr (-1, ()), .done ?_, ?_⟩
          · simp only [chanceryref2_Where_l1, hg, decide_true, cond_true, hix, Option.bind_some, k1, k0, hlt, decide_false, cond_false]
          · have e : wh (v :: r) p = none := by simp only [wh]; rw [if_neg k1, if_neg k0, if_pos hlt]
            rw [e]
            exact .inl ⟨rfl, rfl⟩
        · have hs' : out + asum r ≤ 2147483647 := by rw [if_pos (by omega)] at hs; omega
          obtain ⟨x, h1, h2⟩ := where_loop hl r (i + 1) (p - v.2.1) out hr (by omega) hf.tail (by omega) (by omega) ho hs'
          have w3 := wrap_i64 (n := p - v.2.1) (by omega) (by omega)
          refine ⟨x, .step ?_ h1, ?_⟩
          · simp only [chanceryref2_Where_l1, hg, decide_true, cond_true, hix, Option.bind_some, k1, k0, hlt, decide_false, cond_false, w1, w3]
          · have e : wh (v :: r) p = wh r (p - v.2.1) := by simp only [wh]; rw [if_neg k1, if_neg k0, if_neg hlt]
            rw [e]
            exact h2

theorem Where_eq {a : Steps} (hl : a.length < 1000000000) (hv : Valid a) {p : Int} (hp : 0 ≤ p) (hp' : p ≤ 8589934592) : chanceryref2_Where a p = some (match wh a p with
    | some q => q
    | none => -1, ()) := by
  obtain ⟨x, h1, h2⟩ := where_loop hl a 0 p 0 rfl (by omega) hv.fine hp hp' (by omega) (by have := hv.2.2; omega)
  have h3 := h1.loop (by omega)
  rw [show ((0 : Nat) : Int) = 0 from rfl] at h3
  simp only [chanceryref2_Where, h3, Option.bind_some]
  cases x with
  | inl z =>
    simp only [whEnd] at h2
    rw [h2.1]
    simp only
    rw [wrap_i64 (by omega) (by omega)]
    congr 2
    omega
  | inr z =>
    simp only [whEnd] at h2
    rcases h2 with ⟨h2, h4⟩ | ⟨h2, h4⟩
    · rw [h4]
      simp only
      rw [← h2]
    · obtain ⟨z, ⟨⟩⟩ := z
      rw [h4]
      simp
end Go.Proofs.YtfbnnjmhlkafiaaGreatDoor

namespace Go.Proofs.YtfbnnjmhlkafiaaGreatDoor
open Go Go.Fe

/-! ### The first and the last row that are still there -/
abbrev HullS := Int × (Int × Bool)
/-- first, last and found are those of the rows from low to top. -/
def IsH (W : Int → Option Int) (low top : Int) (h : HullS) : Prop :=
  (h = (0, 0, false) ∧ ∀ p, low ≤ p → p ≤ top → W p = none) ∨
  (h.2.2 = true ∧ (∃ p, low ≤ p ∧ p ≤ top ∧ W p = some h.1) ∧ (∃ p, low ≤ p ∧ p ≤ top ∧ W p = some h.2.1) ∧ ∀ p q, low ≤ p → p ≤ top → W p = some q → h.1 ≤ q ∧ q ≤ h.2.1)
theorem IsH.unique {W : Int → Option Int} {low top : Int} {h h' : HullS} (x : IsH W low top h) (y : IsH W low top h') : h = h' := by
  obtain ⟨f, l, b⟩ := h
  obtain ⟨f', l', b'⟩ := h'
  rcases x with ⟨e, x⟩ | ⟨xb, ⟨p, p1, p2, p3⟩, ⟨p', p1', p2', p3'⟩, xm⟩
  · rcases y with ⟨e', _⟩ | ⟨_, ⟨p, p1, p2, p3⟩, _⟩
    · rw [e, e']
    · rw [x p p1 p2] at p3; cases p3
  · rcases y with ⟨_, y⟩ | ⟨yb, ⟨q, q1, q2, q3⟩, ⟨q', q1', q2', q3'⟩, ym⟩
    · rw [y p p1 p2] at p3; cases p3
    · have a1 := xm q f' q1 q2 q3
      have a2 := xm q' l' q1' q2' q3'
      have a3 := ym p f p1 p2 p3
      have a4 := ym p' l p1' p2' p3'
      simp only at xb yb a1 a2 a3 a4
      subst xb yb
      have e1 : f = f' := by omega
      have e2 : l = l' := by omega
      rw [e1, e2]

/-- Rows from old on, n of them, are kept. -/
def kp (low high old now n : Int) (h : HullS) : HullS :=
  if mx low old ≤ mn high (old + n - 1) then (cond h.2.2 h.1 (now + mx low old - old), now + mn high (old + n - 1) - old, true) else h

theorem mx_eq (a b : Int) : mx a b = if b > a then b else a := rfl
theorem mn_eq (a b : Int) : mn a b = if b < a then b else a := rfl

theorem kp_is {W : Int → Option Int} {low high old now n : Int} {h : HullS} (hn : 1 ≤ n) (hW : ∀ p, old ≤ p → p < old + n → W p = some (now + (p - old))) (hlt : ∀ p q, 0 ≤ p → p < old → W p = some q → q < now) (hlow : 0 ≤ low)
    (hh : IsH W low (mn high (old - 1)) h) : IsH W low (mn high (old + n - 1)) (kp low high old now n h) := by
  unfold kp
  by_cases hc : mx low old ≤ mn high (old + n - 1)
  · rw [if_pos hc]
    right
    have c1 : low ≤ mx low old ∧ old ≤ mx low old ∧ (mx low old = low ∨ mx low old = old) := by rw [mx_eq]; split <;> omega
    have c2 : mn high (old + n - 1) ≤ high ∧ mn high (old + n - 1) ≤ old + n - 1 := by rw [mn_eq]; split <;> omega
    have c3 : mn high (old - 1) ≤ high ∧ mn high (old - 1) ≤ old - 1 ∧ (mn high (old - 1) = high ∨ mn high (old - 1) = old - 1) := by rw [mn_eq]; split <;> omega
    have c4 : mn high (old - 1) = old - 1 := by omega
    generalize mx low old = P at *
    generalize mn high (old + n - 1) = Q at *
    have hQ := hW Q (by omega) (by omega)
    have hP := hW P (by omega) (by omega)
    refine ⟨rfl, ?_, ⟨Q, by omega, by omega, by rw [hQ]; simp only; congr 1; omega⟩, ?_⟩
    · rcases hh with ⟨e, _⟩ | ⟨e, ⟨p, p1, p2, p3⟩, _⟩
      · rw [e]
        exact ⟨P, by omega, by omega, by rw [hP]; simp only [cond_false]; congr 1; omega⟩
      · rw [e]
        exact ⟨p, p1, by omega, p3⟩
    · intro p q p1 p2 p3
      simp only
      by_cases hp : p < old
      · have hq := hlt p q (by omega) hp p3
        rcases hh with ⟨_, e⟩ | ⟨e, _, _, hm⟩
        · rw [e p p1 (by omega)] at p3; cases p3
        · have := hm p q p1 (by omega) p3
          rw [e]
          simp only [cond_true]
          omega
      · have hq := hW p (by omega) (by omega)
        rw [hq] at p3
        cases p3
        rcases hh with ⟨e, _⟩ | ⟨e, ⟨p0, p01, p02, p03⟩, _⟩
        · rw [e]
          simp only [cond_false]
          omega
        · rw [e]
          have := hlt p0 _ (by omega) (by omega) p03
          simp only [cond_true]
          omega
  · rw [if_neg hc]
    have hsame : ∀ p, low ≤ p → p ≤ mn high (old + n - 1) → p ≤ mn high (old - 1) := by
      intro p h1 h2
      rw [mx_eq] at hc
      rw [mn_eq] at hc h2 ⊢
      split at hc <;> split at hc <;> split at h2 <;> split <;> omega
    have hback : ∀ p, p ≤ mn high (old - 1) → p ≤ mn high (old + n - 1) := by
      intro p h1
      rw [mn_eq] at h1 ⊢
      split at h1 <;> split <;> omega
    rcases hh with ⟨e, he⟩ | ⟨e, ⟨p, p1, p2, p3⟩, ⟨p', p1', p2', p3'⟩, hm⟩
    · exact .inl ⟨e, fun p h1 h2 => he p h1 (hsame p h1 h2)⟩
    · exact .inr ⟨e, ⟨p, p1, hback p p2, p3⟩, ⟨p', p1', hback p' p2', p3'⟩, fun p q h1 h2 h3 => hm p q h1 (hsame p h1 h2) h3⟩

/-- Old and new length, and the hull, behind all steps. -/
def hrun (low high : Int) : Steps → Int → Int → HullS → Int × (Int × HullS)
  | [], old, now, h => (old, now, h)
  | v :: r, old, now, h => hrun low high r (if v.1 = 1 then old else old + v.2.1) (if v.1 = 2 then now else now + v.2.1) (if v.1 = 0 then kp low high old now v.2.1 h else h)

theorem hrun_is {W : Int → Option Int} {low high : Int} (hlow : 0 ≤ low) : ∀ (r : Steps) (old now : Int) (h : HullS), Fine r → 0 ≤ old → 
    (∀ j, 0 ≤ j → W (old + j) = (wh r j).map (· + now)) → (∀ p q, 0 ≤ p → p < old → W p = some q → q < now) → IsH W low (mn high (old - 1)) h →
    let x := hrun low high r old now h
    0 ≤ x.1 ∧ (∀ j, 0 ≤ j → W (x.1 + j) = some (x.2.1 + j)) ∧ (∀ p q, 0 ≤ p → p < x.1 → W p = some q → q < x.2.1) ∧ IsH W low (mn high (x.1 - 1)) x.2.2
  | [], old, now, h, _, ho, hW, hlt, hh => by
    refine ⟨ho, fun j hj => ?_, hlt, hh⟩
    show W (old + j) = some (now + j)
    rw [hW j hj]
    simp only [wh, Option.map_some]
    congr 1
    omega
  | v :: r, old, now, h, hf, ho, hW, hlt, hh => by
    have h0 := hf v (List.mem_cons_self ..)
    simp only [hrun]
    by_cases k1 : v.1 = 1
    · have k2 : ¬ v.1 = 2 := by omega
      have k0 : ¬ v.1 = 0 := by omega
      rw [if_pos k1, if_neg k2, if_neg k0]
      refine hrun_is hlow r old (now + v.2.1) h hf.tail ho (fun j hj => ?_) (fun p q h1 h2 h3 => by have := hlt p q h1 h2 h3; omega) hh
      rw [hW j hj]
      simp only [wh, k1, if_true, Option.map_map]
      congr 1
      funext x
      simp only [Function.comp]
      omega
    · by_cases k0 : v.1 = 0
      · have k2 : ¬ v.1 = 2 := by omega
        rw [if_neg k1, if_neg k2, if_pos k0]
        have hkeep : ∀ p, old ≤ p → p < old + v.2.1 → W p = some (now + (p - old)) := fun p h1 h2 => by
          have := hW (p - old) (by omega)
          rw [show old + (p - old) = p by omega] at this
          rw [this]
          simp only [wh, if_neg k1, if_pos k0]
          rw [if_pos (by omega)]
          simp only [Option.map_some]
          congr 1
          omega
        refine hrun_is hlow r (old + v.2.1) (now + v.2.1) _ hf.tail (by omega) (fun j hj => ?_) (fun p q h1 h2 h3 => ?_) (kp_is (by omega) hkeep hlt hlow hh)
        · have := hW (v.2.1 + j) (by omega)
          rw [show old + v.2.1 + j = old + (v.2.1 + j) by omega, this]
          simp only [wh, if_neg k1, if_pos k0]
          rw [if_neg (by omega), show v.2.1 + j - v.2.1 = j by omega, Option.map_map]
          congr 1
          funext x
          simp only [Function.comp]
          omega
        · by_cases hp : p < old
          · have := hlt p q h1 hp h3; omega
          · rw [hkeep p (by omega) h2] at h3
            cases h3
            omega
      · have k2 : v.1 = 2 := by omega
        rw [if_neg k1, if_pos k2, if_neg k0]
        have hcut : ∀ p, old ≤ p → p < old + v.2.1 → W p = none := fun p h1 h2 => by
          have := hW (p - old) (by omega)
          rw [show old + (p - old) = p by omega] at this
          rw [this]
          simp only [wh, if_neg k1, if_neg k0]
          rw [if_pos (by omega)]
          rfl
        refine hrun_is hlow r (old + v.2.1) now h hf.tail (by omega) (fun j hj => ?_) (fun p q h1 h2 h3 => ?_) ?_
        · have := hW (v.2.1 + j) (by omega)
          rw [show old + v.2.1 + j = old + (v.2.1 + j) by omega, this]
          simp only [wh, if_neg k1, if_neg k0]
          rw [if_neg (by omega), show v.2.1 + j - v.2.1 = j by omega]
        · by_cases hp : p < old
          · exact hlt p q h1 hp h3
          · rw [hcut p (by omega) h2] at h3; cases h3
        · have hback : ∀ p, p ≤ mn high (old - 1) → p ≤ mn high (old + v.2.1 - 1) := by
            intro p h1
            rw [mn_eq] at h1 ⊢
            split at h1 <;> split <;> omega
          have hsplit : ∀ p, p ≤ mn high (old + v.2.1 - 1) → p ≤ mn high (old - 1) ∨ (old ≤ p ∧ p < old + v.2.1) := by
            intro p h1
            rw [mn_eq] at h1 ⊢
            split at h1 <;> split <;> omega
          rcases hh with ⟨e, he⟩ | ⟨e, ⟨p, p1, p2, p3⟩, ⟨p', p1', p2', p3'⟩, hm⟩
          · refine .inl ⟨e, fun p h1 h2 => ?_⟩
            rcases hsplit p h2 with h | h
            · exact he p h1 h
            · exact hcut p h.1 h.2
          · refine .inr ⟨e, ⟨p, p1, hback p p2, p3⟩, ⟨p', p1', hback p' p2', p3'⟩, fun p q h1 h2 h3 => ?_⟩
            rcases hsplit p h2 with h | h
            · exact hm p q h1 h h3
            · rw [hcut p h.1 h.2] at h3; cases h3

/-- The hull of a change. -/
def hull (a : Steps) (low high : Int) : HullS := kp low high (hrun low high a 0 0 (0, 0, false)).1 (hrun low high a 0 0 (0, 0, false)).2.1 1073741824 (hrun low high a 0 0 (0, 0, false)).2.2
theorem hull_is {a : Steps} (hf : Fine a) {low high : Int} (hlow : 0 ≤ low) (hhigh : high < 1073741824) : IsH (wh a) low high (hull a low high) := by
  have h := hrun_is (W := wh a) (low := low) (high := high) hlow a 0 0 (0, 0, false) hf (by omega) (fun j hj => by rw [Int.zero_add]; simp) (fun p q h1 h2 _ => by omega) (.inl ⟨rfl, fun p h1 h2 => by
    rw [mn_eq] at h2
    split at h2 <;> omega⟩)
  obtain ⟨h1, h2, h3, h4⟩ := h
  unfold hull
  generalize hrun low high a 0 0 (0, 0, false) = x at *
  have := kp_is (n := 1073741824) (by omega) (fun p hp1 hp2 => by
    have := h2 (p - x.1) (by omega)
    rw [show x.1 + (p - x.1) = p by omega] at this
    exact this) h3 hlow h4
  rw [show mn high (x.1 + 1073741824 - 1) = high by rw [mn_eq]; split <;> omega] at this
  exact this
end Go.Proofs.YtfbnnjmhlkafiaaGreatDoor

namespace Go.Proofs.YtfbnnjmhlkafiaaGreatDoor
open Go Go.Fe

theorem hull1_eq {n low old high now first last : Int} {found : Bool} (h1 : 1 ≤ n ∧ n ≤ 2147483648) (h2 : 0 ≤ old ∧ old ≤ 4294967296) (h3 : 0 ≤ now ∧ now ≤ 4294967296) (h4 : 0 ≤ low ∧ low ≤ 4294967296) (h5 : -4294967296 ≤ high ∧ high ≤ 4294967296) :
    cellref_hull_1 n low old high found now first last = some ((), (), (), (), (), (), (), (low, ()), (old, ()), (high, ()), ((kp low high old now n (first, last, found)).2.2, ()), (now, ()), ((kp low high old now n (first, last, found)).1, ()), ((kp low high old now n (first, last, found)).2.1, ()), ()) := by
  have w1 : IntKind.i64.wrap ((IntKind.i64.wrap (old + n)) - 1) = old + n - 1 := by rw [wrap_i64 (n := old + n) (by omega) (by omega), wrap_i64 (by omega) (by omega)]
  simp only [cellref_hull_1, w1, kp]
  by_cases hc : mx low old ≤ mn high (old + n - 1)
  · have c1 : 0 ≤ mx low old ∧ mx low old ≤ 4294967296 := by rw [mx_eq]; split <;> omega
    have c2 : mn high (old + n - 1) ≤ 4294967296 := by rw [mn_eq]; split <;> omega
    generalize mx low old = P at *
    generalize mn high (old + n - 1) = Q at *
    have w2 : IntKind.i64.wrap ((IntKind.i64.wrap (now + P)) - old) = now + P - old := by rw [wrap_i64 (n := now + P) (by omega) (by omega), wrap_i64 (by omega) (by omega)]
    have w3 : IntKind.i64.wrap ((IntKind.i64.wrap (now + Q)) - old) = now + Q - old := by rw [wrap_i64 (n := now + Q) (by omega) (by omega), wrap_i64 (by omega) (by omega)]
    simp only [hc, decide_true, cond_true, if_true, cond_some', cond_pair, Bool.cond_self, Option.bind_some, w2, w3]
    cases found <;> rfl
  · simp only [hc, decide_false, cond_false, if_false]

abbrev U7 : Unit × (Unit × (Unit × (Unit × (Unit × (Unit × (Unit × Unit)))))) := ((), ((), ((), ((), ((), ((), ((), ())))))))

theorem hull_loop {a : Steps} {low high : Int} (hl : a.length < 1000000000) (h4 : 0 ≤ low ∧ low < 1073741824) (h5 : 0 ≤ high ∧ high < 1073741824) : ∀ (r : Steps) (i : Nat) (old now : Int) (h : HullS), a.drop i = r → i ≤ a.length → Fine r → 0 ≤ old → old + bsum r ≤ 2147483647 → 0 ≤ now → now + asum r ≤ 2147483647 →
    (0 ≤ (hrun low high r old now h).1 ∧ (hrun low high r old now h).1 ≤ 2147483647 ∧ 0 ≤ (hrun low high r old now h).2.1 ∧ (hrun low high r old now h).2.1 ≤ 2147483647) ∧
    Halts (cellref_hull_l1 a) r.length ((), (), (), (), (), U7, (i : Int), (h.1, ()), (h.2.1, ()), (h.2.2, ()), (old, ()), (now, ()), (low, ()), (high, ()), ())
      ((), (), (), U7, ((hrun low high r old now h).2.2.1, ()), ((hrun low high r old now h).2.2.2.1, ()), ((hrun low high r old now h).2.2.2.2, ()), (low, ()), ((hrun low high r old now h).1, ()), (high, ()), ((hrun low high r old now h).2.1, ()), ())
  | [], i, old, now, h, hd, hi, hf, ho, hb, hn, ha => by
    have hle : a.length ≤ i := by
      have := congrArg List.length hd
      simp at this
      omega
    have hg : ¬ ((i : Int) < (a.length : Int)) := by omega
    simp only [bsum, asum] at hb ha
    refine ⟨⟨ho, by show old ≤ _; omega, hn, by show now ≤ _; omega⟩, .done ?_⟩
    simp only [cellref_hull_l1, hg, decide_false, cond_false]
    rfl
  | v :: r, i, old, now, h, hd, hi, hf, ho, hb, hn, ha => by
    obtain ⟨hl', hv, hr⟩ := dropS hd
    have h0 := hf v (List.mem_cons_self ..)
    have hsr := hf.tail.sums
    have hg : ((i : Int) < (a.length : Int)) := by omega
    have hix : idx a (i : Int) = some v := by rw [idx_nat, hv]
    have w1 := wrap_succ (i := i) (by omega)
    simp only [bsum, asum] at hb ha
    have hb' : (if v.1 = 1 then old else old + v.2.1) + bsum r ≤ 2147483647 := by split <;> (rename_i k; simp only [k, if_true, if_false] at hb; omega)
    have ha' : (if v.1 = 2 then now else now + v.2.1) + asum r ≤ 2147483647 := by split <;> (rename_i k; simp only [k, if_true, if_false] at ha; omega)
    have ih := hull_loop hl h4 h5 r (i + 1) (if v.1 = 1 then old else old + v.2.1) (if v.1 = 2 then now else now + v.2.1) (if v.1 = 0 then kp low high old now v.2.1 h else h) hr (by omega) hf.tail (by split <;> omega) hb' (by split <;> omega) ha'
    refine ⟨ih.1, .step ?_ ih.2⟩
    have hk := hull1_eq (n := v.2.1) (low := low) (old := old) (high := high) (now := now) (first := h.1) (last := h.2.1) (found := h.2.2) (by omega) (by have := hsr.1; split at hb <;> omega) (by have := hsr.2; split at ha <;> omega) (by omega) (by omega)
    have w2 : IntKind.i64.wrap (now + v.2.1) = now + v.2.1 := wrap_i64 (by have := hsr.2; split at ha <;> omega) (by have := hsr.2; split at ha <;> omega)
    have w3 : IntKind.i64.wrap (old + v.2.1) = old + v.2.1 := wrap_i64 (by have := hsr.1; split at hb <;> omega) (by have := hsr.1; split at hb <;> omega)
    simp only [cellref_hull_l1, hg, decide_true, cond_true, hix, Option.bind_some, hk, cond_some', cond_pair, Bool.cond_self, w1, w2, w3]
    by_cases k1 : v.1 = 1 <;> by_cases k2 : v.1 = 2 <;> by_cases k0 : v.1 = 0 <;> simp [k1, k2, k0]

theorem hull_eq {a : Steps} {low high : Int} (hl : a.length < 1000000000) (hv : Valid a) (h4 : 0 ≤ low ∧ low < 1073741824) (h5 : 0 ≤ high ∧ high < 1073741824) : cellref_hull a low high = some ((hull a low high).1, (hull a low high).2.1, (hull a low high).2.2, ()) := by
  have hs := hv.fine.sums
  obtain ⟨hb, h⟩ := hull_loop hl h4 h5 a 0 0 0 (0, 0, false) rfl (by omega) hv.fine (by omega) (by have := hv.2.1; omega) (by omega) (by have := hv.2.2; omega)
  have h' := h.loop (by omega)
  rw [show ((0 : Nat) : Int) = 0 from rfl] at h'
  have h'' : loop (cellref_hull_l1 a) ((), (), (), (), (), ((), ((), ((), ((), ((), ((), ((), ()))))))), 0, (0, ()), (0, ()), (false, ()), (0, ()), (0, ()), (low, ()), (high, ()), ()) = _ := h'
  have hk := hull1_eq (n := 1073741824) (low := low) (old := (hrun low high a 0 0 (0, 0, false)).1) (high := high) (now := (hrun low high a 0 0 (0, 0, false)).2.1) (first := (hrun low high a 0 0 (0, 0, false)).2.2.1) (last := (hrun low high a 0 0 (0, 0, false)).2.2.2.1) (found := (hrun low high a 0 0 (0, 0, false)).2.2.2.2) (by omega) (by omega) (by omega) (by omega) (by omega)
  simp only [cellref_hull, h'', Option.bind_some, hk]
  rfl
end Go.Proofs.YtfbnnjmhlkafiaaGreatDoor

namespace Go.Proofs.YtfbnnjmhlkafiaaGreatDoor
open Go Go.Fe

/-! ### The reference's first and last row -/
/-- The ends of the steps, and the last end. -/
def plc : Steps → Int → List Int
  | [], at0 => [at0]
  | v :: r, at0 => if v.1 = 1 then plc r at0 else at0 :: (at0 + v.2.1 - 1) :: plc r (at0 + v.2.1)
theorem plc_len : ∀ (r : Steps) (x : Int), (plc r x).length ≤ 2 * r.length + 1
  | [], _ => by simp [plc]
  | v :: r, x => by
    have h1 := plc_len r x
    have h2 := plc_len r (x + v.2.1)
    simp only [plc]
    split <;> simp only [List.length_cons] <;> omega

/-- Behind a row that is there: where its stretch begins and ends. -/
theorem plc_cand : ∀ (r : Steps) (x p q : Int), Fine r → 0 ≤ p → wh r p = some q →
    ∃ o, 0 ≤ o ∧ o ≤ p ∧ x + o ∈ plc r x ∧ (∀ p', o ≤ p' → p' ≤ p → wh r p' = some (q - (p - p'))) ∧
      ((∀ p', p ≤ p' → wh r p' = some (q + (p' - p))) ∨ ∃ e, p ≤ e ∧ x + e ∈ plc r x ∧ ∀ p', p ≤ p' → p' ≤ e → wh r p' = some (q + (p' - p)))
  | [], x, p, q, hf, hp, h => by
    simp only [wh, Option.some.injEq] at h
    subst h
    exact ⟨0, by omega, hp, by simp [plc], fun p' h1 h2 => by simp only [wh]; congr 1; omega, .inl fun p' h1 => by simp only [wh]; congr 1; omega⟩
  | v :: r, x, p, q, hf, hp, h => by
    have h0 := hf v (List.mem_cons_self ..)
    by_cases k1 : v.1 = 1
    · have e : ∀ p', wh (v :: r) p' = (wh r p').map (· + v.2.1) := fun p' => by simp only [wh, if_pos k1]
      rw [e] at h
      obtain ⟨q', h1, rfl⟩ := Option.map_eq_some_iff.1 h
      obtain ⟨o, o1, o2, o3, o4, o5⟩ := plc_cand r x p q' hf.tail hp h1
      refine ⟨o, o1, o2, by simp only [plc, if_pos k1]; exact o3, fun p' h1 h2 => by rw [e, o4 p' h1 h2]; simp only [Option.map_some]; congr 1; omega, ?_⟩
      rcases o5 with o5 | ⟨e', e1, e2, e3⟩
      · exact .inl fun p' h1 => by rw [e, o5 p' h1]; simp only [Option.map_some]; congr 1; omega
      · exact .inr ⟨e', e1, by simp only [plc, if_pos k1]; exact e2, fun p' h1 h2 => by rw [e, e3 p' h1 h2]; simp only [Option.map_some]; congr 1; omega⟩
    · have hmem : ∀ y, y ∈ plc r (x + v.2.1) → y ∈ plc (v :: r) x := fun y hy => by simp only [plc, if_neg k1]; exact List.mem_cons_of_mem _ (List.mem_cons_of_mem _ hy)
      by_cases k0 : v.1 = 0
      · by_cases hlt : p < v.2.1
        · have e : ∀ p', p' < v.2.1 → wh (v :: r) p' = some p' := fun p' hp' => by simp only [wh, if_neg k1, if_pos k0, if_pos hp']
          rw [e p hlt] at h
          cases h
          refine ⟨0, by omega, hp, by simp [plc, k1], fun p' h1 h2 => by rw [e p' (by omega)]; congr 1; omega, .inr ⟨v.2.1 - 1, by omega, ?_, fun p' h1 h2 => by rw [e p' (by omega)]; congr 1; omega⟩⟩
          simp only [plc, if_neg k1]
          rw [show x + (v.2.1 - 1) = x + v.2.1 - 1 by omega]
          exact List.mem_cons_of_mem _ (List.mem_cons_self ..)
        · have e : ∀ p', ¬ p' < v.2.1 → wh (v :: r) p' = (wh r (p' - v.2.1)).map (· + v.2.1) := fun p' hp' => by simp only [wh, if_neg k1, if_pos k0, if_neg hp']
          rw [e p hlt] at h
          obtain ⟨q', h1, rfl⟩ := Option.map_eq_some_iff.1 h
          obtain ⟨o, o1, o2, o3, o4, o5⟩ := plc_cand r (x + v.2.1) (p - v.2.1) q' hf.tail (by omega) h1
          refine ⟨v.2.1 + o, by omega, by omega, hmem _ (by rw [show x + (v.2.1 + o) = x + v.2.1 + o by omega]; exact o3), fun p' h1 h2 => by rw [e p' (by omega), o4 (p' - v.2.1) (by omega) (by omega)]; simp only [Option.map_some]; congr 1; omega, ?_⟩
          rcases o5 with o5 | ⟨e', e1, e2, e3⟩
          · exact .inl fun p' h1 => by rw [e p' (by omega), o5 (p' - v.2.1) (by omega)]; simp only [Option.map_some]; congr 1; omega
          · exact .inr ⟨v.2.1 + e', by omega, hmem _ (by rw [show x + (v.2.1 + e') = x + v.2.1 + e' by omega]; exact e2), fun p' h1 h2 => by rw [e p' (by omega), e3 (p' - v.2.1) (by omega) (by omega)]; simp only [Option.map_some]; congr 1; omega⟩
      · by_cases hlt : p < v.2.1
        · have e : wh (v :: r) p = none := by simp only [wh, if_neg k1, if_neg k0, if_pos hlt]
          rw [e] at h; cases h
        · have e : ∀ p', ¬ p' < v.2.1 → wh (v :: r) p' = wh r (p' - v.2.1) := fun p' hp' => by simp only [wh, if_neg k1, if_neg k0, if_neg hp']
          rw [e p hlt] at h
          obtain ⟨o, o1, o2, o3, o4, o5⟩ := plc_cand r (x + v.2.1) (p - v.2.1) q hf.tail (by omega) h
          refine ⟨v.2.1 + o, by omega, by omega, hmem _ (by rw [show x + (v.2.1 + o) = x + v.2.1 + o by omega]; exact o3), fun p' h1 h2 => by rw [e p' (by omega), o4 (p' - v.2.1) (by omega) (by omega)]; congr 1; omega, ?_⟩
          rcases o5 with o5 | ⟨e', e1, e2, e3⟩
          · exact .inl fun p' h1 => by rw [e p' (by omega), o5 (p' - v.2.1) (by omega)]; congr 1; omega
          · exact .inr ⟨v.2.1 + e', by omega, hmem _ (by rw [show x + (v.2.1 + e') = x + v.2.1 + e' by omega]; exact e2), fun p' h1 h2 => by rw [e p' (by omega), e3 (p' - v.2.1) (by omega) (by omega)]; congr 1; omega⟩

/-- One place more. -/
def rfs (W : Int → Option Int) (low high : Int) (h : HullS) (x : Int) : HullS :=
  if x < low ∨ high < x then h else match W x with
    | none => h
    | some q => (cond (!h.2.2 || decide (q < h.1)) q h.1, cond (!h.2.2 || decide (h.2.1 < q)) q h.2.1, true)
/-- The same for places. -/
def IsP (W : Int → Option Int) (low high : Int) (L : List Int) (h : HullS) : Prop :=
  (h = (0, 0, false) ∧ ∀ p ∈ L, low ≤ p → p ≤ high → W p = none) ∨
  (h.2.2 = true ∧ (∃ p ∈ L, low ≤ p ∧ p ≤ high ∧ W p = some h.1) ∧ (∃ p ∈ L, low ≤ p ∧ p ≤ high ∧ W p = some h.2.1) ∧ ∀ p ∈ L, ∀ q, low ≤ p → p ≤ high → W p = some q → h.1 ≤ q ∧ q ≤ h.2.1)
theorem rfs_is {W : Int → Option Int} {low high : Int} {L : List Int} {h : HullS} (hh : IsP W low high L h) (x : Int) : IsP W low high (L ++ [x]) (rfs W low high h x) := by
  have hm : ∀ p, p ∈ L ++ [x] ↔ p ∈ L ∨ p = x := fun p => by simp
  unfold rfs
  by_cases hr : x < low ∨ high < x
  · rw [if_pos hr]
    rcases hh with ⟨e, he⟩ | ⟨e, ⟨p, p0, p1⟩, ⟨p', p0', p1'⟩, hb⟩
    · refine .inl ⟨e, fun p hp h1 h2 => ?_⟩
      rcases (hm p).1 hp with hp | hp
      · exact he p hp h1 h2
      · omega
    · refine .inr ⟨e, ⟨p, (hm p).2 (.inl p0), p1⟩, ⟨p', (hm p').2 (.inl p0'), p1'⟩, fun p hp q h1 h2 h3 => ?_⟩
      rcases (hm p).1 hp with hp | hp
      · exact hb p hp q h1 h2 h3
      · omega
  · rw [if_neg hr]
    cases hw : W x with
    | none =>
      simp only
      rcases hh with ⟨e, he⟩ | ⟨e, ⟨p, p0, p1⟩, ⟨p', p0', p1'⟩, hb⟩
      · refine .inl ⟨e, fun p hp h1 h2 => ?_⟩
        rcases (hm p).1 hp with hp | hp
        · exact he p hp h1 h2
        · rw [hp]; exact hw
      · refine .inr ⟨e, ⟨p, (hm p).2 (.inl p0), p1⟩, ⟨p', (hm p').2 (.inl p0'), p1'⟩, fun p hp q h1 h2 h3 => ?_⟩
        rcases (hm p).1 hp with hp | hp
        · exact hb p hp q h1 h2 h3
        · rw [hp, hw] at h3; cases h3
    | some q =>
      simp only
      right
      rcases hh with ⟨e, he⟩ | ⟨e, ⟨p, p0, p1, p2, p3⟩, ⟨p', p0', p1', p2', p3'⟩, hb⟩
      · rw [e]
        simp only [Bool.not_false, Bool.true_or, cond_true]
        refine ⟨trivial, ⟨x, (hm x).2 (.inr rfl), by omega, by omega, hw⟩, ⟨x, (hm x).2 (.inr rfl), by omega, by omega, hw⟩, fun p hp q' h1 h2 h3 => ?_⟩
        rcases (hm p).1 hp with hp | hp
        · rw [he p hp h1 h2] at h3; cases h3
        · rw [hp, hw] at h3
          cases h3
          omega
      · rw [e]
        simp only [Bool.not_true, Bool.false_or]
        refine ⟨trivial, ?_, ?_, fun p hp q' h1 h2 h3 => ?_⟩
        · by_cases g : q < h.1
          · simp only [g, decide_true, cond_true]
            exact ⟨x, (hm x).2 (.inr rfl), by omega, by omega, hw⟩
          · simp only [g, decide_false, cond_false]
            exact ⟨p, (hm p).2 (.inl p0), p1, p2, p3⟩
        · by_cases g : h.2.1 < q
          · simp only [g, decide_true, cond_true]
            exact ⟨x, (hm x).2 (.inr rfl), by omega, by omega, hw⟩
          · simp only [g, decide_false, cond_false]
            exact ⟨p', (hm p').2 (.inl p0'), p1', p2', p3'⟩
        · have key : h.1 ≤ q' ∧ q' ≤ h.2.1 ∨ q' = q := by
            rcases (hm p).1 hp with hp | hp
            · exact .inl (hb p hp q' h1 h2 h3)
            · rw [hp, hw] at h3
              cases h3
              exact .inr rfl
          by_cases g : q < h.1 <;> by_cases g' : h.2.1 < q <;> simp only [g, g', decide_true, decide_false, cond_true, cond_false] <;> omega

theorem isP_isH {a : Steps} (hf : Fine a) {low high : Int} (hlow : 0 ≤ low) {h : HullS} (hp : IsP (wh a) low high (low :: high :: plc a 0) h) : IsH (wh a) low high h := by
  have cand : ∀ p q, low ≤ p → p ≤ high → wh a p = some q → (∃ c q', c ∈ low :: high :: plc a 0 ∧ low ≤ c ∧ c ≤ high ∧ wh a c = some q' ∧ q' ≤ q) ∧ ∃ c q', c ∈ low :: high :: plc a 0 ∧ low ≤ c ∧ c ≤ high ∧ wh a c = some q' ∧ q ≤ q' := by
    intro p q h1 h2 h3
    obtain ⟨o, o1, o2, o3, o4, o5⟩ := plc_cand a 0 p q hf (by omega) h3
    rw [Int.zero_add] at o3
    constructor
    · by_cases g : o ≤ low
      · exact ⟨low, _, List.mem_cons_self .., by omega, by omega, o4 low g h1, by omega⟩
      · exact ⟨o, _, List.mem_cons_of_mem _ (List.mem_cons_of_mem _ o3), by omega, by omega, o4 o (by omega) o2, by omega⟩
    · rcases o5 with o5 | ⟨e, e1, e2, e3⟩
      · exact ⟨high, _, List.mem_cons_of_mem _ (List.mem_cons_self ..), by omega, by omega, o5 high h2, by omega⟩
      · rw [Int.zero_add] at e2
        by_cases g : high ≤ e
        · exact ⟨high, _, List.mem_cons_of_mem _ (List.mem_cons_self ..), by omega, by omega, e3 high h2 g, by omega⟩
        · exact ⟨e, _, List.mem_cons_of_mem _ (List.mem_cons_of_mem _ e2), by omega, by omega, e3 e e1 (by omega), by omega⟩
  rcases hp with ⟨e, he⟩ | ⟨e, ⟨p, p0, p1⟩, ⟨p', p0', p1'⟩, hb⟩
  · refine .inl ⟨e, fun p h1 h2 => ?_⟩
    cases hw : wh a p with
    | none => rfl
    | some q =>
      obtain ⟨⟨c, q', c1, c2, c3, c4, _⟩, _⟩ := cand p q h1 h2 hw
      rw [he c c1 c2 c3] at c4
      cases c4
  · refine .inr ⟨e, ⟨p, p1⟩, ⟨p', p1'⟩, fun p q h1 h2 h3 => ?_⟩
    obtain ⟨⟨c, q', c1, c2, c3, c4, c5⟩, ⟨d, q'', d1, d2, d3, d4, d5⟩⟩ := cand p q h1 h2 h3
    have := hb c c1 q' c2 c3 c4
    have := hb d d1 q'' d2 d3 d4
    omega

theorem fold_is {W : Int → Option Int} {low high : Int} : ∀ (L M : List Int) (h : HullS), IsP W low high M h → IsP W low high (M ++ L) (L.foldl (rfs W low high) h)
  | [], M, h, hh => by simpa using hh
  | x :: L, M, h, hh => by
    have := fold_is L (M ++ [x]) _ (rfs_is hh x)
    simpa using this

theorem places_loop {a : Steps} (hl : a.length < 100000000) : ∀ (r : Steps) (i : Nat) (x : Int) (acc : List Int), a.drop i = r → i ≤ a.length → Fine r → 0 ≤ x → x + bsum r ≤ 2147483647 → acc.length + 2 * r.length ≤ 1000000000 →
    ∃ (y : Int) (L : List Int), Halts (chanceryref2_rest_l1 a) r.length ((), x, (i : Int), acc, ()) ((), y, acc ++ L, ()) ∧ L ++ [y] = plc r x
  | [], i, x, acc, hd, hi, hf, hx, hb, hacc => by
    have hle : a.length ≤ i := by
      have := congrArg List.length hd
      simp at this
      omega
    have hg : ¬ ((i : Int) < (a.length : Int)) := by omega
    exact ⟨x, [], .done (by simp only [chanceryref2_rest_l1, hg, decide_false, cond_false, List.append_nil]), rfl⟩
  | v :: r, i, x, acc, hd, hi, hf, hx, hb, hacc => by
    obtain ⟨hl', hv, hr⟩ := dropS hd
    have h0 := hf v (List.mem_cons_self ..)
    have hsr := hf.tail.sums
    have hg : ((i : Int) < (a.length : Int)) := by omega
    have hix : idx a (i : Int) = some v := by rw [idx_nat, hv]
    have w1 := wrap_succ (i := i) (by omega)
    simp only [bsum] at hb
    simp only [List.length_cons] at hacc
    by_cases k1 : v.1 = 1
    · rw [if_pos k1] at hb
      obtain ⟨y, L, h1, h2⟩ := places_loop hl r (i + 1) x acc hr (by omega) hf.tail hx (by omega) (by omega)
      refine ⟨y, L, .step ?_ h1, by simp only [plc, if_pos k1]; exact h2⟩
      simp only [chanceryref2_rest_l1, hg, decide_true, cond_true, hix, Option.bind_some, k1, Bool.not_true, cond_false, w1]
    · rw [if_neg k1] at hb
      obtain ⟨y, L, h1, h2⟩ := places_loop hl r (i + 1) (x + v.2.1) (acc ++ [x, x + v.2.1 - 1]) hr (by omega) hf.tail (by omega) (by omega) (by simp; omega)
      refine ⟨y, x :: (x + v.2.1 - 1) :: L, ?_, by simp only [plc, if_neg k1, ← h2]; rfl⟩
      have e : acc ++ x :: (x + v.2.1 - 1) :: L = acc ++ [x, x + v.2.1 - 1] ++ L := by simp
      rw [e]
      refine .step ?_ h1
      have w2 := wrap_i64 (n := x + v.2.1) (by omega) (by omega)
      have w3 := wrap_i64 (n := x + v.2.1 - 1) (by omega) (by omega)
      have hc : cat acc [x, x + v.2.1 - 1] = some (acc ++ [x, x + v.2.1 - 1]) := cat_ok (by simp only [List.length_cons, List.length_nil]; omega)
      simp only [chanceryref2_rest_l1, hg, decide_true, cond_true, hix, Option.bind_some, k1, Bool.not_false, decide_false, w1, w2, w3, hc]

theorem rest_step {a : Steps} {low high : Int} (hl : a.length < 100000000) (hv : Valid a) (hlow : 0 ≤ low) (hhigh : high < 1073741824) {L : List Int} (hL : L.length ≤ 1000000000) {j : Nat} (hj : j < L.length) (h : HullS) :
    chanceryref2_rest_l2 L low high a (h.1, h.2.1, h.2.2, (), (j : Int), L, ()) = some (.inl ((rfs (wh a) low high h L[j]).1, (rfs (wh a) low high h L[j]).2.1, (rfs (wh a) low high h L[j]).2.2, (), ((j + 1 : Nat) : Int), L, ())) := by
  have hg : ((j : Int) < (L.length : Int)) := by omega
  have hd : L.getD j 0 = L[j] := by simp [List.getD, List.getElem?_eq_getElem hj]
  have w1 := wrap_succ (i := j) (by omega)
  simp only [chanceryref2_rest_l2, hg, decide_true, cond_true, inb_nat hj, chk_t, Option.bind_some, Int.toNat_natCast, hd, w1, rfs]
  generalize L[j] = x
  by_cases g1 : x < low
  · simp [g1]
  · by_cases g2 : high < x
    · simp [g1, g2]
    · have hw := Where_eq (a := a) (by omega) hv (p := x) (by omega) (by omega)
      simp only [g1, g2, decide_false, cond_false, Option.bind_some, hw, or_self, if_false]
      cases hq : wh a x with
      | none => simp
      | some q =>
        have := (wh_nonneg hv.fine (by omega) hq).1
        simp only [this, decide_true, cond_true]
        cases h.2.2 <;> by_cases g3 : q < h.1 <;> by_cases g4 : h.2.1 < q <;> simp [g3, g4]

theorem rest_eq {a : Steps} {low high : Int} (hl : a.length < 100000000) (hv : Valid a) (h4 : 0 ≤ low ∧ low < 1073741824) (h5 : 0 ≤ high ∧ high < 1073741824) : chanceryref2_rest a low high = some ((hull a low high).1, (hull a low high).2.1, (hull a low high).2.2, ()) := by
  obtain ⟨y, L, h1, h2⟩ := places_loop hl a 0 0 [low, high] rfl (by omega) hv.fine (by omega) (by have := hv.2.1; omega) (by simp; omega)
  have h1' := h1.loop (by omega)
  rw [show ((0 : Nat) : Int) = 0 from rfl] at h1'
  have hpl := plc_len a 0
  have hlen : L.length + 1 ≤ 2 * a.length + 1 := by rw [← h2] at hpl; simpa using hpl
  have hc : cat ([low, high] ++ L) [y] = some ([low, high] ++ L ++ [y]) := cat_ok (by simp; omega)
  have hall : [low, high] ++ L ++ [y] = low :: high :: plc a 0 := by rw [← h2]; rfl
  rw [hall] at hc
  have hPl : (low :: high :: plc a 0).length ≤ 1000000000 := by simp only [List.length_cons]; omega
  obtain ⟨P, hP⟩ : ∃ P, low :: high :: plc a 0 = P := ⟨_, rfl⟩
  rw [hP] at hc hPl
  have hst : ∀ (j : Nat) (hj : j < P.length), (P.take (j + 1)).foldl (rfs (wh a) low high) (0, 0, false) = rfs (wh a) low high ((P.take j).foldl (rfs (wh a) low high) (0, 0, false)) P[j] := fun j hj => by
    rw [List.take_succ_eq_append_getElem hj, List.foldl_append]
    rfl
  have hloop := (Halts.along (n := 0) (f := chanceryref2_rest_l2 P low high a)
    (fun j : Nat => (((P.take j).foldl (rfs (wh a) low high) (0, 0, false)).1, ((P.take j).foldl (rfs (wh a) low high) (0, 0, false)).2.1, ((P.take j).foldl (rfs (wh a) low high) (0, 0, false)).2.2, (), (j : Int), P, ()))
    (r := ((P.foldl (rfs (wh a) low high) (0, 0, false)).1, (P.foldl (rfs (wh a) low high) (0, 0, false)).2.1, (P.foldl (rfs (wh a) low high) (0, 0, false)).2.2, ())) P.length
    (fun j hj => by rw [rest_step hl hv h4.1 h5.2 hPl hj, ← hst j hj]) (.done (by simp [chanceryref2_rest_l2]))).loop (by omega)
  have hloop' : loop (chanceryref2_rest_l2 P low high a) (0, 0, false, (), 0, P, ()) = _ := hloop
  have hH := isP_isH hv.fine h4.1 (h := P.foldl (rfs (wh a) low high) (0, 0, false)) (by rw [hP]; exact fold_is P [] (0, 0, false) (.inl ⟨rfl, fun p hp => by cases hp⟩))
  have hU := hH.unique (hull_is hv.fine h4.1 h5.2)
  rw [hU] at hloop'
  simp only [chanceryref2_rest, h1', Option.bind_some, hc, hloop']
end Go.Proofs.YtfbnnjmhlkafiaaGreatDoor

namespace Go.Proofs.YtfbnnjmhlkafiaaGreatDoor
open Go Go.Fe

theorem hull_facts {a : Steps} (hv : Valid a) {low high : Int} (h4 : 0 ≤ low ∧ low < 1073741824) (h5 : 0 ≤ high ∧ high < 1073741824) (hb : (hull a low high).2.2 = true) :
    0 ≤ (hull a low high).1 ∧ (hull a low high).1 ≤ (hull a low high).2.1 ∧ (low = high → (hull a low high).1 = (hull a low high).2.1) := by
  rcases hull_is hv.fine h4.1 h5.2 (a := a) with ⟨e, _⟩ | ⟨_, ⟨p, p1, p2, p3⟩, ⟨p', p1', p2', p3'⟩, hm⟩
  · rw [e] at hb; cases hb
  · refine ⟨(wh_nonneg hv.fine (by omega) p3).1, (hm p _ p1 p2 p3).2, fun e => ?_⟩
    have : p = p' := by omega
    subst this
    rw [p3] at p3'
    exact Option.some.inj p3'
theorem ins_first {f l : Int} (h0 : 0 ≤ f) (h : f ≤ l) (hl : ins l = true) : ins f = true := by
  simp only [ins, decide_eq_true_eq] at hl ⊢
  omega

theorem through_loop {a1 a2 : Steps} (r : RefD) {e1 e2 : Int} (h1 : axis_Check a1 = some (e1, ())) (h2 : axis_Check a2 = some (e2, ())) :
    loop (cellref_Through_l1 a1 a2) ((), (), 0, r, ([], (0, (0, (0, (0, (0, (false, (false, (false, (false, ())))))))))), ()) =
      some (if e1 ≠ 0 then .inr ((), e1, Z0, ()) else if e2 ≠ 0 then .inr ((), e2, Z0, ()) else .inl ((), (), r, Z0, ())) := by
  have i0 : idx [a1, a2] 0 = some a1 := rfl
  have i1 : idx [a1, a2] 1 = some a2 := rfl
  have w0 : IntKind.i64.wrap ((0 : Int) + 1) = 1 := rfl
  have w1 : IntKind.i64.wrap ((1 : Int) + 1) = 2 := rfl
  have b0 : cellref_Through_l1 a1 a2 ((), (), 0, r, Z0, ()) = some (if e1 ≠ 0 then .inr (.inr ((), e1, Z0, ())) else .inl ((), (), 1, r, Z0, ())) := by
    simp only [cellref_Through_l1, i0, h1, Option.bind_some, w0, show ((0 : Int) < 2) from by omega, decide_true, cond_true]
    by_cases g : e1 = 0 <;> simp [g, Z0]
  have b1 : cellref_Through_l1 a1 a2 ((), (), 1, r, Z0, ()) = some (if e2 ≠ 0 then .inr (.inr ((), e2, Z0, ())) else .inl ((), (), 2, r, Z0, ())) := by
    simp only [cellref_Through_l1, i1, h2, Option.bind_some, w1, show ((1 : Int) < 2) from by omega, decide_true, cond_true]
    by_cases g : e2 = 0 <;> simp [g, Z0]
  have b2 : cellref_Through_l1 a1 a2 ((), (), 2, r, Z0, ()) = some (.inr (.inl ((), (), r, Z0, ()))) := by
    simp [cellref_Through_l1]
  have : Halts (cellref_Through_l1 a1 a2) 2 ((), (), 0, r, Z0, ()) (if e1 ≠ 0 then .inr ((), e1, Z0, ()) else if e2 ≠ 0 then .inr ((), e2, Z0, ()) else .inl ((), (), r, Z0, ())) := by
    by_cases g1 : e1 = 0
    · by_cases g2 : e2 = 0
      · simp only [g1, g2, ne_eq, not_true_eq_false, if_false]
        exact .step (by rw [b0, if_neg (by simp [g1])]) (.step (by rw [b1, if_neg (by simp [g2])]) (.done b2))
      · rw [if_neg (by simp [g1]), if_pos g2]
        exact .step (by rw [b0, if_neg (by simp [g1])]) (.done (by rw [b1, if_pos g2]))
    · rw [if_pos g1]
      exact .done (by rw [b0, if_pos g1])
  exact this.loop (by omega)

/-- A reference that is gone. -/
def Gone : RefD := ([], 4, 0, 0, 0, 0, false, false, false, false, ())

theorem refErr_zero {s : Str} {k r c r2 c2 : Int} {ar ac ar2 ac2 : Bool} (h1 : 0 ≤ k ∧ k ≤ 4) (h2 : nameErr s = 0) (h3 : badForm s k r c r2 c2 ar ac ar2 ac2 = false) (h4 : ins r = true) (h5 : ins c = true) (h6 : ins r2 = true) (h7 : ins c2 = true)
    (h8 : k = 0 ∨ r ≤ r2 ∧ c ≤ c2) : refErr s k r c r2 c2 ar ac ar2 ac2 = 0 := by
  unfold refErr
  rw [if_neg (by omega), if_neg (by simp [h2]), h3, h4, h5, h6, h7]
  rcases h8 with h8 | h8
  · simp [h8]
  · have e1 : ¬r2 < r := by omega
    have e2 : ¬c2 < c := by omega
    simp [e1, e2]
theorem gone_valid : errD Gone = 0 := rfl

theorem through_eq {a1 a2 : Steps} (l1 : a1.length < 100000000) (l2 : a2.length < 100000000) (v1 : Valid a1) (v2 : Valid a2) (c1 : axis_Check a1 = some (0, ())) (c2 : axis_Check a2 = some (0, ()))
    {s : Str} {k r c r2 c2' : Int} {ar ac ar2 ac2 : Bool} (he : refErr s k r c r2 c2' ar ac ar2 ac2 = 0) :
    ∃ x : RefD, cellref_Through (s, k, r, c, r2, c2', ar, ac, ar2, ac2, ()) a1 a2 = some (x, 0, ()) ∧ chanceryref2_Through (s, k, r, c, r2, c2', ar, ac, ar2, ac2, ()) a1 a2 = some (x, ()) ∧ errD x = 0 := by
  obtain ⟨h1, h2, h3, h4, h5, h6, h7, h8, h9⟩ := valid he
  have hloop := through_loop (a1 := a1) (a2 := a2) (s, k, r, c, r2, c2', ar, ac, ar2, ac2, ()) c1 c2
  simp only [ne_eq, not_true_eq_false, if_false] at hloop
  have hk : k = 0 ∨ k = 1 ∨ k = 2 ∨ k = 3 ∨ k = 4 := by omega
  have k00 : decide ((0 : Int) = 0) = true := rfl
  rcases hk with rfl | rfl | rfl | rfl | rfl
  · -- a cell
    simp [badForm] at h4
    obtain ⟨rfl, rfl, rfl, rfl⟩ : r2 = 0 ∧ c2' = 0 ∧ ar2 = false ∧ ac2 = false := by
      refine ⟨?_, ?_, ?_, ?_⟩ <;> simp_all
    have e1 := hull_eq (by omega) v1 h5 h5
    have e2 := hull_eq (by omega) v2 h6 h6
    have q1 := rest_eq l1 v1 h5 h5
    have q2 := rest_eq l2 v2 h6 h6
    have f1 := hull_facts v1 h5 h5
    have f2 := hull_facts v2 h6 h6
    generalize hull a1 r r = H1 at *
    generalize hull a2 c c = H2 at *
    obtain ⟨x1, y1, b1⟩ := H1
    obtain ⟨x2, y2, b2⟩ := H2
    simp only at e1 e2 q1 q2 f1 f2
    cases b1 with
    | false =>
      refine ⟨Gone, ?_, ?_, gone_valid⟩
      · simp only [cellref_Through, Check_eq, he, hloop, Option.bind_some, decide_true, decide_false, Bool.not_true, Bool.not_false, cond_true, cond_false, Int.reduceEq, e1, e2] <;> rfl
      · cases b2 <;> simp only [chanceryref2_Through, inside_ins, Option.bind_some, decide_true, decide_false, Bool.not_true, Bool.not_false, cond_true, cond_false, Int.reduceEq, q1, q2] <;> rfl
    | true =>
    cases b2 with
    | false => exact ⟨Gone, by simp only [cellref_Through, Check_eq, he, hloop, Option.bind_some, decide_true, decide_false, Bool.not_true, Bool.not_false, cond_true, cond_false, Int.reduceEq, e1, e2] <;> rfl, by simp only [chanceryref2_Through, inside_ins, Option.bind_some, decide_true, decide_false, Bool.not_true, Bool.not_false, cond_true, cond_false, Int.reduceEq, q1, q2] <;> rfl, gone_valid⟩
    | true =>
    obtain ⟨f11, f12, f13⟩ := f1 rfl
    obtain ⟨f21, f22, f23⟩ := f2 rfl
    have f13 := f13 trivial
    have f23 := f23 trivial
    subst f13 f23
    have i0 : ins 0 = true := rfl
    cases g1 : ins x1 with
    | false => exact ⟨Gone, by simp only [cellref_Through, Check_eq, he, hloop, Option.bind_some, decide_true, decide_false, Bool.not_true, Bool.not_false, cond_true, cond_false, Int.reduceEq, e1, e2, cellref_fitting, cellref_meaning, permitted_ins, g1] <;> rfl, by simp only [chanceryref2_Through, inside_ins, Option.bind_some, decide_true, decide_false, Bool.not_true, Bool.not_false, cond_true, cond_false, Int.reduceEq, q1, q2, g1] <;> rfl, gone_valid⟩
    | true =>
    cases g2 : ins x2 with
    | false => exact ⟨Gone, by simp only [cellref_Through, Check_eq, he, hloop, Option.bind_some, decide_true, decide_false, Bool.not_true, Bool.not_false, cond_true, cond_false, Int.reduceEq, e1, e2, cellref_fitting, cellref_meaning, permitted_ins, g1, g2] <;> rfl, by simp only [chanceryref2_Through, inside_ins, Option.bind_some, decide_true, decide_false, Bool.not_true, Bool.not_false, cond_true, cond_false, Int.reduceEq, q1, q2, g1, g2] <;> rfl, gone_valid⟩
    | true => exact ⟨_, by simp only [cellref_Through, Check_eq, he, hloop, Option.bind_some, decide_true, decide_false, Bool.not_true, Bool.not_false, cond_true, cond_false, Int.reduceEq, e1, e2, cellref_fitting, cellref_meaning, permitted_ins, g1, g2, i0] <;> rfl, by simp only [chanceryref2_Through, inside_ins, Option.bind_some, decide_true, decide_false, Bool.not_true, Bool.not_false, cond_true, cond_false, Int.reduceEq, q1, q2, g1, g2] <;> rfl, refErr_zero (by dsimp only; omega) h3 (by simp [badForm]) g1 g2 i0 i0 (.inl rfl)⟩
  · -- an area
    have e1 := hull_eq (by omega) v1 h5 h7
    have e2 := hull_eq (by omega) v2 h6 h8
    have q1 := rest_eq l1 v1 h5 h7
    have q2 := rest_eq l2 v2 h6 h8
    have f1 := hull_facts v1 h5 h7
    have f2 := hull_facts v2 h6 h8
    generalize hull a1 r r2 = H1 at *
    generalize hull a2 c c2' = H2 at *
    obtain ⟨x1, y1, b1⟩ := H1
    obtain ⟨x2, y2, b2⟩ := H2
    simp only at e1 e2 q1 q2 f1 f2
    cases b1 with
    | false =>
      refine ⟨Gone, ?_, ?_, gone_valid⟩
      · simp only [cellref_Through, Check_eq, he, hloop, Option.bind_some, decide_true, decide_false, Bool.not_true, Bool.not_false, cond_true, cond_false, Int.reduceEq, e1, e2] <;> rfl
      · cases b2 <;> simp only [chanceryref2_Through, inside_ins, Option.bind_some, decide_true, decide_false, Bool.not_true, Bool.not_false, cond_true, cond_false, Int.reduceEq, q1, q2] <;> rfl
    | true =>
    cases b2 with
    | false => exact ⟨Gone, by simp only [cellref_Through, Check_eq, he, hloop, Option.bind_some, decide_true, decide_false, Bool.not_true, Bool.not_false, cond_true, cond_false, Int.reduceEq, e1, e2] <;> rfl, by simp only [chanceryref2_Through, inside_ins, Option.bind_some, decide_true, decide_false, Bool.not_true, Bool.not_false, cond_true, cond_false, Int.reduceEq, q1, q2] <;> rfl, gone_valid⟩
    | true =>
    obtain ⟨f11, f12, _⟩ := f1 rfl
    obtain ⟨f21, f22, _⟩ := f2 rfl
    cases g1 : ins y1 with
    | false =>
      refine ⟨Gone, ?_, by simp only [chanceryref2_Through, inside_ins, Option.bind_some, decide_true, decide_false, Bool.not_true, Bool.not_false, cond_true, cond_false, Int.reduceEq, q1, q2, g1] <;> rfl, gone_valid⟩
      cases ins x1 <;> cases ins x2 <;> simp only [cellref_Through, Check_eq, he, hloop, Option.bind_some, decide_true, decide_false, Bool.not_true, Bool.not_false, cond_true, cond_false, Int.reduceEq, e1, e2, cellref_fitting, cellref_meaning, permitted_ins, g1, cond_some', cond_pair, Bool.cond_self] <;> rfl
    | true =>
    have g3 := ins_first f11 f12 g1
    cases g2 : ins y2 with
    | false =>
      refine ⟨Gone, ?_, by simp only [chanceryref2_Through, inside_ins, Option.bind_some, decide_true, decide_false, Bool.not_true, Bool.not_false, cond_true, cond_false, Int.reduceEq, q1, q2, g1, g2] <;> rfl, gone_valid⟩
      cases g4 : ins x2 <;> simp only [cellref_Through, Check_eq, he, hloop, Option.bind_some, decide_true, decide_false, Bool.not_true, Bool.not_false, cond_true, cond_false, Int.reduceEq, e1, e2, cellref_fitting, cellref_meaning, permitted_ins, g1, g2, g3, g4, cond_some', cond_pair, Bool.cond_self] <;> rfl
    | true =>
    have g4 := ins_first f21 f22 g2
    exact ⟨_, by simp only [cellref_Through, Check_eq, he, hloop, Option.bind_some, decide_true, decide_false, Bool.not_true, Bool.not_false, cond_true, cond_false, Int.reduceEq, e1, e2, cellref_fitting, cellref_meaning, permitted_ins, g1, g2, g3, g4] <;> rfl, by simp only [chanceryref2_Through, inside_ins, Option.bind_some, decide_true, decide_false, Bool.not_true, Bool.not_false, cond_true, cond_false, Int.reduceEq, q1, q2, g1, g2] <;> rfl, refErr_zero (by dsimp only; omega) h3 (by simp [badForm]) g3 g4 g1 g2 (.inr ⟨f12, f22⟩)⟩
  · -- rows
    simp [badForm] at h4
    obtain ⟨rfl, rfl, rfl, rfl⟩ : c = 0 ∧ c2' = 0 ∧ ac = false ∧ ac2 = false := by
      refine ⟨?_, ?_, ?_, ?_⟩ <;> simp_all
    have e1 := hull_eq (by omega) v1 h5 h7
    have q1 := rest_eq l1 v1 h5 h7
    have f1 := hull_facts v1 h5 h7
    generalize hull a1 r r2 = H1 at *
    obtain ⟨x1, y1, b1⟩ := H1
    simp only at e1 q1 f1
    have i0 : ins 0 = true := rfl
    cases b1 with
    | false => exact ⟨Gone, by simp only [cellref_Through, Check_eq, he, hloop, Option.bind_some, decide_true, decide_false, Bool.not_true, Bool.not_false, cond_true, cond_false, Int.reduceEq, e1] <;> rfl, by simp only [chanceryref2_Through, inside_ins, Option.bind_some, decide_true, decide_false, Bool.not_true, Bool.not_false, cond_true, cond_false, Int.reduceEq, q1] <;> rfl, gone_valid⟩
    | true =>
    obtain ⟨f11, f12, _⟩ := f1 rfl
    cases g1 : ins y1 with
    | false =>
      refine ⟨Gone, ?_, by simp only [chanceryref2_Through, inside_ins, Option.bind_some, decide_true, decide_false, Bool.not_true, Bool.not_false, cond_true, cond_false, Int.reduceEq, q1, g1] <;> rfl, gone_valid⟩
      cases g4 : ins x1 <;> simp only [cellref_Through, Check_eq, he, hloop, Option.bind_some, decide_true, decide_false, Bool.not_true, Bool.not_false, cond_true, cond_false, Int.reduceEq, e1, cellref_fitting, cellref_meaning, permitted_ins, g1, g4, i0, cond_some', cond_pair, Bool.cond_self] <;> rfl
    | true =>
    have g3 := ins_first f11 f12 g1
    exact ⟨_, by simp only [cellref_Through, Check_eq, he, hloop, Option.bind_some, decide_true, decide_false, Bool.not_true, Bool.not_false, cond_true, cond_false, Int.reduceEq, e1, cellref_fitting, cellref_meaning, permitted_ins, g1, g3, i0] <;> rfl, by simp only [chanceryref2_Through, inside_ins, Option.bind_some, decide_true, decide_false, Bool.not_true, Bool.not_false, cond_true, cond_false, Int.reduceEq, q1, g1, i0] <;> rfl, refErr_zero (by dsimp only; omega) h3 (by simp [badForm]) g3 i0 g1 i0 (.inr ⟨f12, by dsimp only; omega⟩)⟩
  · -- columns
    simp [badForm] at h4
    obtain ⟨rfl, rfl, rfl, rfl⟩ : r = 0 ∧ r2 = 0 ∧ ar = false ∧ ar2 = false := by
      refine ⟨?_, ?_, ?_, ?_⟩ <;> simp_all
    have e1 := hull_eq (by omega) v2 h6 h8
    have q1 := rest_eq l2 v2 h6 h8
    have f1 := hull_facts v2 h6 h8
    generalize hull a2 c c2' = H1 at *
    obtain ⟨x1, y1, b1⟩ := H1
    simp only at e1 q1 f1
    have i0 : ins 0 = true := rfl
    cases b1 with
    | false => exact ⟨Gone, by simp only [cellref_Through, Check_eq, he, hloop, Option.bind_some, decide_true, decide_false, Bool.not_true, Bool.not_false, cond_true, cond_false, Int.reduceEq, e1] <;> rfl, by simp only [chanceryref2_Through, inside_ins, Option.bind_some, decide_true, decide_false, Bool.not_true, Bool.not_false, cond_true, cond_false, Int.reduceEq, q1] <;> rfl, gone_valid⟩
    | true =>
    obtain ⟨f11, f12, _⟩ := f1 rfl
    cases g1 : ins y1 with
    | false =>
      refine ⟨Gone, ?_, by simp only [chanceryref2_Through, inside_ins, Option.bind_some, decide_true, decide_false, Bool.not_true, Bool.not_false, cond_true, cond_false, Int.reduceEq, q1, g1, i0] <;> rfl, gone_valid⟩
      cases g4 : ins x1 <;> simp only [cellref_Through, Check_eq, he, hloop, Option.bind_some, decide_true, decide_false, Bool.not_true, Bool.not_false, cond_true, cond_false, Int.reduceEq, e1, cellref_fitting, cellref_meaning, permitted_ins, g1, g4, i0, cond_some', cond_pair, Bool.cond_self] <;> rfl
    | true =>
    have g3 := ins_first f11 f12 g1
    exact ⟨_, by simp only [cellref_Through, Check_eq, he, hloop, Option.bind_some, decide_true, decide_false, Bool.not_true, Bool.not_false, cond_true, cond_false, Int.reduceEq, e1, cellref_fitting, cellref_meaning, permitted_ins, g1, g3, i0] <;> rfl, by simp only [chanceryref2_Through, inside_ins, Option.bind_some, decide_true, decide_false, Bool.not_true, Bool.not_false, cond_true, cond_false, Int.reduceEq, q1, g1, i0] <;> rfl, refErr_zero (by dsimp only; omega) h3 (by simp [badForm]) i0 g3 i0 g1 (.inr ⟨by dsimp only; omega, f12⟩)⟩
  · exact ⟨_, by simp only [cellref_Through, Check_eq, he, hloop, Option.bind_some, decide_true, Bool.not_true, cond_false, cond_true] <;> rfl, by simp only [chanceryref2_Through, decide_true, cond_true], by exact he⟩
end Go.Proofs.YtfbnnjmhlkafiaaGreatDoor

