import Derived.Test.YtmcoedgkmciciaaGreatDoorLawR
namespace Go.Proofs.YtmcoedgkmciciaaGreatDoor
open Go Go.Fe

theorem lfrac10 {m : Bool} {n d : Nat} (hd : 0 < d) (hsn : dl n < 100000) (hsd : dl d < 100000) : chancerylaw2_frac (fracOut m n d).1 (fracOut m n d).2.1 (N10 m n d) = some (true, ()) := lfrac_eq hd hsn hsd
theorem errOf_left {a b : FracD} (h : fracErr a ≠ 0) : errOf a b = fracErr a := if_neg h
theorem errOf_right {a b : FracD} (h : fracErr a = 0) : errOf a b = fracErr b := if_pos h
theorem Neg_bad {a : FracD} (h1 : a.1.length < 100000000) (h2 : a.2.1.length < 100000000) (h : fracErr a ≠ 0) : exact_Neg a = some (([], [], ()), fracErr a, ()) := by
  simp only [exact_Neg, read_bad h1 h2 h, Option.bind_some, h, decide_false, Bool.not_false, cond_true]
theorem Neg_good {a : FracD} (h1 : a.1.length < 100000000) (h2 : a.2.1.length < 100000000) (h : fracErr a = 0) : exact_Neg a = some (fracOut (!(signOf a.1)) (dec (body a.1)) (dec a.2.1)) := by
  have g := good_of h
  have := g.dln
  have := g.dld
  have hw := write_N9 (m := !(signOf a.1)) (n := dec (body a.1)) g.pos (by omega) (by omega)
  simp only [exact_Neg, read_good h1 h2 h, Option.bind_some, decide_true, Bool.not_true, cond_false, num9, neg_N9, hw]
theorem operations_law {a b : FracD} (h1 : a.1.length < 100000000) (h2 : a.2.1.length < 100000000) (h3 : b.1.length < 100000000) (h4 : b.2.1.length < 100000000) : chancerylaw2_ExactOperationsMatch a b = some (true, ()) := by
  unfold chancerylaw2_ExactOperationsMatch
  rw [fractions_eq, Option.bind_some]
  dsimp only
  rw [Bool.not_true, cond_false]
  by_cases ha : fracErr a = 0
  · by_cases hb : fracErr b = 0
    · have ga := good_of ha
      have gb := good_of hb
      have b0 := both_good h1 h2 h3 h4 ha hb
      have d1 := ga.dln
      have d2 := ga.dld
      have d3 := gb.dln
      have d4 := gb.dld
      have p1 := ga.pos
      have p2 := gb.pos
      have hN := Neg_good h1 h2 ha
      have hRa : chanceryref2_RatOf a = some (N10 (signOf a.1) (dec (body a.1)) (dec a.2.1), ()) := ratOf_eq ga
      have hRb : chanceryref2_RatOf b = some (N10 (signOf b.1) (dec (body b.1)) (dec b.2.1), ()) := ratOf_eq gb
      unfold num9 at b0
      generalize signOf a.1 = m1 at *
      generalize signOf b.1 = m2 at *
      generalize dec (body a.1) = n1 at *
      generalize dec (body b.1) = n2 at *
      generalize dec a.2.1 = e1 at *
      generalize dec b.2.1 = e2 at *
      have hA := Add_good b0 p1 p2 d1 d2 d3 d4
      have hS := Sub_good b0 p1 p2 d1 d2 d3 d4
      have hM := Mul_good b0 p1 p2 d1 d2 d3 d4
      have hD := Div_good b0 p1 d1 d2 d3 d4
      have hC := Compare_good b0 d1 d2 d3 d4
      have hrA := add_eq (m1 := m1) (m2 := m2) (show 300 ≤ 20000 by omega) d1 d2 d3 d4
      have hrS := add_eq (m1 := m1) (m2 := !m2) (show 300 ≤ 20000 by omega) d1 d2 d3 d4
      have hrC := Cmp_eq (m1 := m1) (m2 := m2) (show 300 ≤ 20000 by omega) d1 d2 d3 d4
      have hrM := mul_eq (m1 := m1) (m2 := m2) (show dl n1 < 100000 by omega) (show dl e1 < 100000 by omega) (show dl n2 < 100000 by omega) (show dl e2 < 100000 by omega)
      have hrD := mul_eq (m1 := m1) (m2 := m2) (show dl n1 < 100000 by omega) (show dl e1 < 100000 by omega) (show dl e2 < 100000 by omega) (show dl n2 < 100000 by omega)
      have pp := Nat.mul_pos p1 p2
      have s1 := dl_sum (m1 := m1) (m2 := m2) d1 d2 d3 d4
      have s2 := dl_sum (m1 := m1) (m2 := !m2) d1 d2 d3 d4
      have s3 := dl_mul n1 n2
      have fA := lfrac10 (m := sumM m1 n1 e1 m2 n2 e2) (n := sumN m1 n1 e1 m2 n2 e2) pp (by omega) (by omega)
      have fS := lfrac10 (m := sumM m1 n1 e1 (!m2) n2 e2) (n := sumN m1 n1 e1 (!m2) n2 e2) pp (by omega) (by omega)
      have fM := lfrac10 (m := !(m1 == m2)) (n := n1 * n2) pp (by omega) (by omega)
      have fN := lfrac10 (m := !m1) (n := n1) p1 (by omega) (by omega)
      simp only [hA, hS, hM, hD, hC, hN, Option.bind_some, fracError_eq h1 h2, Check_eq h1 h2, ha, decide_true, Bool.not_true, cond_false, lboth_eq h1 h2 h3 h4, errOf_right ha, hb, hRa, hRb, sign_eq]
      by_cases h0 : n2 = 0
      · simp only [h0, if_true, decide_true, Bool.not_true, cond_false, cond_true, Ty.beq, Bool.and_self, Option.bind_some]
        rw [h0] at hrA hrS hrC hrM fA fS fM
        simp only [show sgnOf m2 0 = 0 from rfl, decide_true, cond_true, Option.bind_some, hrA, hrS, hrC, hrM, fA, fS, fM, fN, neg_N10]
      · have hs0 : sgnOf m2 n2 ≠ 0 := by
          unfold sgnOf
          rw [if_neg h0]
          cases m2 <;> decide
        have pd := Nat.mul_pos p1 (show 0 < n2 by omega)
        have s4 := dl_mul n1 e2
        have s5 := dl_mul e1 n2
        have fD := lfrac10 (m := !(m1 == m2)) (n := n1 * e2) pd (by omega) (by omega)
        simp only [h0, hs0, if_false, decide_true, decide_false, Bool.not_true, cond_true, cond_false, inv_N10, Option.bind_some, hrD, fD, hrA, hrS, hrC, hrM, fA, fS, fM, fN, neg_N10]
    · have he : errOf a b ≠ 0 := by rw [errOf_right ha]; exact hb
      obtain ⟨o1, o2, o3, o4, o5⟩ := ops_bad h1 h2 h3 h4 he
      simp only [o1, o2, o3, o4, o5, Neg_good h1 h2 ha, Option.bind_some, fracError_eq h1 h2, Check_eq h1 h2, ha, decide_true, decide_false, Bool.not_true, Bool.not_false, cond_false, cond_true, lboth_eq h1 h2 h3 h4, he, Ty.beq, Bool.and_self]
  · have he : errOf a b ≠ 0 := by rw [errOf_left ha]; exact ha
    obtain ⟨o1, o2, o3, o4, o5⟩ := ops_bad h1 h2 h3 h4 he
    simp only [o1, o2, o3, o4, o5, Neg_bad h1 h2 ha, Option.bind_some, fracError_eq h1 h2, Check_eq h1 h2, ha, decide_true, decide_false, Bool.not_true, Bool.not_false, cond_false, cond_true, lboth_eq h1 h2 h3 h4, he, Ty.beq, Bool.and_self]
end Go.Proofs.YtmcoedgkmciciaaGreatDoor
