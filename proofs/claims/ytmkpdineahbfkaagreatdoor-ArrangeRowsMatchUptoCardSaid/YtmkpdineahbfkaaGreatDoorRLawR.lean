import Derived.Test.YtmkpdineahbfkaaGreatDoorRLaw3
namespace Go.Proofs.YtmkpdineahbfkaaGreatDoor
open Go Go.Fe

/-! ### Sums -/
/-- The numbers of both kinds. -/
def N9 (m : Bool) (n d : Nat) : NumD := (m, rep B9 n, rep B9 d, ())
def N10 (m : Bool) (n d : Nat) : NumD := (m, rep 10 n, rep 10 d, ())
def sumM (m1 : Bool) (n1 d1 : Nat) (m2 : Bool) (n2 d2 : Nat) : Bool := if m1 = m2 then m1 else if n2 * d1 ≤ n1 * d2 then m1 else m2
def sumN (m1 : Bool) (n1 d1 : Nat) (m2 : Bool) (n2 d2 : Nat) : Nat := if m1 = m2 then n1 * d2 + n2 * d1 else if n2 * d1 ≤ n1 * d2 then n1 * d2 - n2 * d1 else n2 * d1 - n1 * d2
theorem sum_eq {m1 m2 : Bool} {n1 d1 n2 d2 k : Nat} (hk : k ≤ 20000) (h1 : dl n1 ≤ k) (h2 : dl d1 ≤ k) (h3 : dl n2 ≤ k) (h4 : dl d2 ≤ k) : exact_sum (N9 m1 n1 d1) (N9 m2 n2 d2) = some (N9 (sumM m1 n1 d1 m2 n2 d2) (sumN m1 n1 d1 m2 n2 d2) (d1 * d2), ()) := by
  have c := dl_mul n1 d2
  have d := dl_mul n2 d1
  unfold exact_sum N9
  dsimp only
  rw [times_eq (by omega) (by omega), Option.bind_some, times_eq (by omega) (by omega), Option.bind_some, times_eq (by omega) (by omega), Option.bind_some]
  dsimp only
  unfold sumM sumN
  by_cases hm : m1 = m2
  · subst hm
    rw [if_pos rfl, if_pos rfl, show (m1 == m1) = true from beq_self_eq_true m1, cond_true, nplus_eq (by omega) (by omega)]
    rfl
  · rw [if_neg hm, if_neg hm, show (m1 == m2) = false from beq_eq_false_iff_ne.2 hm, cond_false]
    obtain ⟨c', hc1, hc2, hc3⟩ := ncompare_eq (a := n1 * d2) (b := n2 * d1) (by omega) (by omega)
    rw [hc1, Option.bind_some]
    dsimp only
    by_cases hle : n2 * d1 ≤ n1 * d2
    · rw [decide_eq_true (by omega), cond_true, minus_eq hle (by omega), if_pos hle, if_pos hle]
      rfl
    · rw [decide_eq_false (by omega), cond_false, minus_eq (by omega) (by omega), if_neg hle, if_neg hle]
      rfl
theorem add_eq {m1 m2 : Bool} {n1 d1 n2 d2 k : Nat} (hk : k ≤ 20000) (h1 : dl n1 ≤ k) (h2 : dl d1 ≤ k) (h3 : dl n2 ≤ k) (h4 : dl d2 ≤ k) : chanceryref2_Rat__Add (N10 m1 n1 d1) (N10 m2 n2 d2) = some (N10 (sumM m1 n1 d1 m2 n2 d2) (sumN m1 n1 d1 m2 n2 d2) (d1 * d2), ()) := by
  have c := dl_mul n1 d2
  have d := dl_mul n2 d1
  unfold chanceryref2_Rat__Add N10
  dsimp only
  rw [rtimes_eq (by omega) (by omega), Option.bind_some, rtimes_eq (by omega) (by omega), Option.bind_some, rtimes_eq (by omega) (by omega), Option.bind_some]
  dsimp only
  unfold sumM sumN
  by_cases hm : m1 = m2
  · subst hm
    rw [if_pos rfl, if_pos rfl, show (m1 == m1) = true from beq_self_eq_true m1, cond_true, rplus_eq (by omega) (by omega)]
    rfl
  · rw [if_neg hm, if_neg hm, show (m1 == m2) = false from beq_eq_false_iff_ne.2 hm, cond_false]
    obtain ⟨c', hc1, hc2, hc3⟩ := rcompare_eq (a := n1 * d2) (b := n2 * d1) (by omega) (by omega)
    rw [hc1, Option.bind_some]
    dsimp only
    by_cases hle : n2 * d1 ≤ n1 * d2
    · rw [decide_eq_true (by omega), cond_true, less_eq hle (by omega), if_pos hle, if_pos hle]
      rfl
    · rw [decide_eq_false (by omega), cond_false, less_eq (by omega) (by omega), if_neg hle, if_neg hle]
      rfl
def sgnOf (m : Bool) (n : Nat) : Int := if n = 0 then 0 else bif m then -1 else 1
theorem sign_eq {m : Bool} {n d : Nat} : chanceryref2_Rat__Sign (N10 m n d) = some (sgnOf m n, ()) := by
  unfold chanceryref2_Rat__Sign N10 sgnOf
  dsimp only
  have ln := len10 n
  by_cases h0 : n = 0
  · subst h0; rfl
  · have := dl_pos (n := n) (by omega)
    rw [if_neg h0, decide_eq_false (by omega), cond_false]
    cases m <;> rfl
/-- The number of a valid fraction. -/
def num9 (f : FracD) : NumD := N9 (signOf f.1) (dec (body f.1)) (dec f.2.1)
theorem both_good {a b : FracD} (h1 : a.1.length < 100000000) (h2 : a.2.1.length < 100000000) (h3 : b.1.length < 100000000) (h4 : b.2.1.length < 100000000) (ha : fracErr a = 0) (hb : fracErr b = 0) : exact_both a b = some (num9 a, num9 b, 0, ()) := by
  unfold exact_both
  rw [read_eq h1 h2, Option.bind_some, if_pos ha]
  dsimp only
  rw [decide_eq_true rfl, Bool.not_true, cond_false, read_eq h3 h4, if_pos hb]
  rfl
theorem neg_N9 (m : Bool) (n d : Nat) : (!(N9 m n d).1, (N9 m n d).2) = N9 (!m) n d := rfl
theorem neg_N10 (m : Bool) (n d : Nat) : chanceryref2_Rat__Negative (N10 m n d) = some (N10 (!m) n d, ()) := rfl
theorem Compare_good {a b : FracD} {m1 m2 : Bool} {n1 d1 n2 d2 : Nat} (hb : exact_both a b = some (N9 m1 n1 d1, N9 m2 n2 d2, 0, ())) (h1 : dl n1 ≤ 300) (h2 : dl d1 ≤ 300) (h3 : dl n2 ≤ 300) (h4 : dl d2 ≤ 300) :
    exact_Compare a b = some (sgnOf (sumM m1 n1 d1 (!m2) n2 d2) (sumN m1 n1 d1 (!m2) n2 d2), 0, ()) := by
  simp only [exact_Compare, hb, Option.bind_some, decide_true, Bool.not_true, cond_false, neg_N9, sum_eq (show 300 ≤ 20000 by omega) h1 h2 h3 h4]
  unfold N9 sgnOf
  dsimp only
  rw [zero_eq, Option.bind_some]
  dsimp only
  by_cases h0 : sumN m1 n1 d1 (!m2) n2 d2 = 0
  · rw [if_pos h0, decide_eq_true h0, cond_true]
  · rw [if_neg h0, decide_eq_false h0, cond_false]
    cases sumM m1 n1 d1 (!m2) n2 d2 <;> rfl
theorem Cmp_eq {m1 m2 : Bool} {n1 d1 n2 d2 k : Nat} (hk : k ≤ 20000) (h1 : dl n1 ≤ k) (h2 : dl d1 ≤ k) (h3 : dl n2 ≤ k) (h4 : dl d2 ≤ k) : chanceryref2_Rat__Cmp (N10 m1 n1 d1) (N10 m2 n2 d2) = some (sgnOf (sumM m1 n1 d1 (!m2) n2 d2) (sumN m1 n1 d1 (!m2) n2 d2), ()) := by
  simp only [chanceryref2_Rat__Cmp, neg_N10, Option.bind_some, add_eq hk h1 h2 h3 h4, sign_eq]
theorem Check_eq {f : FracD} (hs : f.1.length < 100000000) (hs' : f.2.1.length < 100000000) : exact_Check f = some (fracErr f, ()) := by
  unfold exact_Check
  rw [read_eq hs hs', Option.bind_some]
  by_cases h : fracErr f = 0
  · rw [if_pos h, h]
  · rw [if_neg h]
end Go.Proofs.YtmkpdineahbfkaaGreatDoor

namespace Go.Proofs.YtmkpdineahbfkaaGreatDoor
open Go Go.Fe

end Go.Proofs.YtmkpdineahbfkaaGreatDoor

namespace Go.Proofs.YtmkpdineahbfkaaGreatDoor
open Go Go.Fe

/-! ### Whole numbers -/
/-! ### Powers -/
end Go.Proofs.YtmkpdineahbfkaaGreatDoor

namespace Go.Proofs.YtmkpdineahbfkaaGreatDoor
open Go Go.Fe

end Go.Proofs.YtmkpdineahbfkaaGreatDoor

namespace Go.Proofs.YtmkpdineahbfkaaGreatDoor
open Go Go.Fe

/-! ### Powers of ten -/
/-! ### The reference rounds down -/
/-! ### The root -/
end Go.Proofs.YtmkpdineahbfkaaGreatDoor

