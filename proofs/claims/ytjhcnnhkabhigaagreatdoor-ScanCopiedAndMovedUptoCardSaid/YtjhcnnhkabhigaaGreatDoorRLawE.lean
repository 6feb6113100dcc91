import Derived.Test.YtjhcnnhkabhigaaGreatDoorRLawD
namespace Go.Proofs.YtjhcnnhkabhigaaGreatDoor
open Go Go.Fe

theorem Halts.if {S R : Type} {F : S → Option (S ⊕ R)} {x y : S} {r q : R} {n : Nat} {b : Bool} (h : F x = cond b (some (.inr r)) (some (.inl y))) (k : Halts F n y q) : Halts F (n + 1) x (cond b r q) := by
  cases b with
  | true => exact Halts.done h
  | false => exact Halts.step h k

/-! ### Fault texts -/
abbrev kDiv : Str := [35, 68, 73, 86, 47, 48, 33]
abbrev kVal : Str := [35, 86, 65, 76, 85, 69, 33]
abbrev kRef : Str := [35, 82, 69, 70, 33]
abbrev kNam : Str := [35, 78, 65, 77, 69, 63]
abbrev kNum : Str := [35, 78, 85, 77, 33]
abbrev kNa : Str := [35, 78, 47, 65]
abbrev kSpi : Str := [35, 83, 80, 73, 76, 76, 33]
abbrev kCyc : Str := [35, 67, 89, 67, 76, 69, 33]
def pre (s p : Str) : Bool := Lib.hasPrefix s p
def hitN (s : Str) (p : Str) (q : Option Nat) : Option Nat := cond (pre s p) (some p.length) q
/-- The fault texts behind #REF!. -/
def restF (s : Str) : Option Nat := hitN s kNam (hitN s kNum (hitN s kNa (hitN s kSpi (hitN s kCyc none))))
def headF (s : Str) : Option Nat := hitN s kDiv (hitN s kVal (restF s))
def faultP (s : Str) : Nat × Nat := if pre s kRef = true then (4, 5) else match headF s with
  | some n => (3, n)
  | none => (8, 1)
def resN : Option Nat → Unit ⊕ (Int × (Int × Unit))
  | some n => .inr (3, (n : Int), ())
  | none => .inl ()
theorem resN_hit {s p : Str} {q : Option Nat} : resN (hitN s p q) = cond (pre s p) (.inr (3, (p.length : Int), ())) (resN q) := by
  unfold hitN
  cases pre s p <;> rfl

theorem faults_eq (s : Str) : loop (fscan_next_l1 [kDiv, kVal, kNam, kNum, kNa, kSpi, kCyc] s) (0, ()) = some (resN (headF s)) := by
  have b0 : fscan_next_l1 [kDiv, kVal, kNam, kNum, kNa, kSpi, kCyc] s (0, ()) = cond (pre s kDiv) (some (.inr (.inr (3, (kDiv.length : Int), ())))) (some (.inl (1, ()))) := by kernel_rfl
  have b1 : fscan_next_l1 [kDiv, kVal, kNam, kNum, kNa, kSpi, kCyc] s (1, ()) = cond (pre s kVal) (some (.inr (.inr (3, (kVal.length : Int), ())))) (some (.inl (2, ()))) := by kernel_rfl
  have b2 : fscan_next_l1 [kDiv, kVal, kNam, kNum, kNa, kSpi, kCyc] s (2, ()) = cond (pre s kNam) (some (.inr (.inr (3, (kNam.length : Int), ())))) (some (.inl (3, ()))) := by kernel_rfl
  have b3 : fscan_next_l1 [kDiv, kVal, kNam, kNum, kNa, kSpi, kCyc] s (3, ()) = cond (pre s kNum) (some (.inr (.inr (3, (kNum.length : Int), ())))) (some (.inl (4, ()))) := by kernel_rfl
  have b4 : fscan_next_l1 [kDiv, kVal, kNam, kNum, kNa, kSpi, kCyc] s (4, ()) = cond (pre s kNa) (some (.inr (.inr (3, (kNa.length : Int), ())))) (some (.inl (5, ()))) := by kernel_rfl
  have b5 : fscan_next_l1 [kDiv, kVal, kNam, kNum, kNa, kSpi, kCyc] s (5, ()) = cond (pre s kSpi) (some (.inr (.inr (3, (kSpi.length : Int), ())))) (some (.inl (6, ()))) := by kernel_rfl
  have b6 : fscan_next_l1 [kDiv, kVal, kNam, kNum, kNa, kSpi, kCyc] s (6, ()) = cond (pre s kCyc) (some (.inr (.inr (3, (kCyc.length : Int), ())))) (some (.inl (7, ()))) := by kernel_rfl
  have b7 : fscan_next_l1 [kDiv, kVal, kNam, kNum, kNa, kSpi, kCyc] s (7, ()) = some (.inr (.inl ())) := by kernel_rfl
  have h := (Halts.if b0 (Halts.if b1 (Halts.if b2 (Halts.if b3 (Halts.if b4 (Halts.if b5 (Halts.if b6 (Halts.done (n := 0) b7)))))))).loop (by omega)
  rw [h]
  simp only [headF, restF, resN_hit]
  rfl

def resR (s : Str) : Unit ⊕ (Int × (Int × Unit)) :=
  cond (pre s kDiv) (.inr (3, (kDiv.length : Int), ())) (cond (pre s kVal) (.inr (3, (kVal.length : Int), ())) (cond (pre s kRef) (.inr (4, 5, ())) (resN (restF s))))
theorem rfaults_eq (s : Str) : loop (chanceryref2_Token_l1 s) (0, ()) = some (resR s) := by
  have hh : ∀ p, chanceryref2_Has s p = some (pre s p, ()) := fun p => Has_eq s p
  have b0 : chanceryref2_Token_l1 s (0, ()) = some (.inl (1, ())) := by kernel_rfl
  have b1 : chanceryref2_Token_l1 s (1, ()) = cond (pre s kDiv) (some (.inr (.inr (3, (kDiv.length : Int), ())))) (some (.inl (2, ()))) := by
    have : chanceryref2_Token_l1 s (1, ()) = (((chanceryref2_Has s kDiv).bind fun v5 => some (v5.1, ())).bind fun r6 => cond r6.1 (some (.inr (.inr (3, (kDiv.length : Int), ())))) (some (.inl (2, ())))) := by kernel_rfl
    rw [this, hh]; rfl
  have b2 : chanceryref2_Token_l1 s (2, ()) = cond (pre s kVal) (some (.inr (.inr (3, (kVal.length : Int), ())))) (some (.inl (3, ()))) := by
    have : chanceryref2_Token_l1 s (2, ()) = (((chanceryref2_Has s kVal).bind fun v5 => some (v5.1, ())).bind fun r6 => cond r6.1 (some (.inr (.inr (3, (kVal.length : Int), ())))) (some (.inl (3, ())))) := by kernel_rfl
    rw [this, hh]; rfl
  have b3 : chanceryref2_Token_l1 s (3, ()) = cond (pre s kRef) (some (.inr (.inr (4, 5, ())))) (some (.inl (4, ()))) := by
    have : chanceryref2_Token_l1 s (3, ()) = (((chanceryref2_Has s kRef).bind fun v5 => some (v5.1, ())).bind fun r6 => cond r6.1 (some (.inr (.inr (4, 5, ())))) (some (.inl (4, ())))) := by kernel_rfl
    rw [this, hh]; rfl
  have b4 : chanceryref2_Token_l1 s (4, ()) = cond (pre s kNam) (some (.inr (.inr (3, (kNam.length : Int), ())))) (some (.inl (5, ()))) := by
    have : chanceryref2_Token_l1 s (4, ()) = (((chanceryref2_Has s kNam).bind fun v5 => some (v5.1, ())).bind fun r6 => cond r6.1 (some (.inr (.inr (3, (kNam.length : Int), ())))) (some (.inl (5, ())))) := by kernel_rfl
    rw [this, hh]; rfl
  have b5 : chanceryref2_Token_l1 s (5, ()) = cond (pre s kNum) (some (.inr (.inr (3, (kNum.length : Int), ())))) (some (.inl (6, ()))) := by
    have : chanceryref2_Token_l1 s (5, ()) = (((chanceryref2_Has s kNum).bind fun v5 => some (v5.1, ())).bind fun r6 => cond r6.1 (some (.inr (.inr (3, (kNum.length : Int), ())))) (some (.inl (6, ())))) := by kernel_rfl
    rw [this, hh]; rfl
  have b6 : chanceryref2_Token_l1 s (6, ()) = cond (pre s kNa) (some (.inr (.inr (3, (kNa.length : Int), ())))) (some (.inl (7, ()))) := by
    have : chanceryref2_Token_l1 s (6, ()) = (((chanceryref2_Has s kNa).bind fun v5 => some (v5.1, ())).bind fun r6 => cond r6.1 (some (.inr (.inr (3, (kNa.length : Int), ())))) (some (.inl (7, ())))) := by kernel_rfl
    rw [this, hh]; rfl
  have b7 : chanceryref2_Token_l1 s (7, ()) = cond (pre s kSpi) (some (.inr (.inr (3, (kSpi.length : Int), ())))) (some (.inl (8, ()))) := by
    have : chanceryref2_Token_l1 s (7, ()) = (((chanceryref2_Has s kSpi).bind fun v5 => some (v5.1, ())).bind fun r6 => cond r6.1 (some (.inr (.inr (3, (kSpi.length : Int), ())))) (some (.inl (8, ())))) := by kernel_rfl
    rw [this, hh]; rfl
  have b8 : chanceryref2_Token_l1 s (8, ()) = cond (pre s kCyc) (some (.inr (.inr (3, (kCyc.length : Int), ())))) (some (.inl (9, ()))) := by
    have : chanceryref2_Token_l1 s (8, ()) = (((chanceryref2_Has s kCyc).bind fun v5 => some (v5.1, ())).bind fun r6 => cond r6.1 (some (.inr (.inr (3, (kCyc.length : Int), ())))) (some (.inl (9, ())))) := by kernel_rfl
    rw [this, hh]; rfl
  have b9 : chanceryref2_Token_l1 s (9, ()) = some (.inr (.inl ())) := by kernel_rfl
  have h := (Halts.step b0 (Halts.if b1 (Halts.if b2 (Halts.if b3 (Halts.if b4 (Halts.if b5 (Halts.if b6 (Halts.if b7 (Halts.if b8 (Halts.done (n := 0) b9)))))))))).loop (by omega)
  rw [h]
  simp only [resR, restF, resN_hit]
  rfl

theorem pre_two {s : Str} {a b : UInt8} {r : Str} (h : pre s (a :: b :: r) = true) : s.getD 1 0 = b := by
  obtain ⟨t, rfl⟩ := List.isPrefixOf_iff_prefix.1 h
  rfl
theorem pre_len {s p : Str} (h : pre s p = true) : p.length ≤ s.length := (List.isPrefixOf_iff_prefix.1 h).length_le
theorem resR_is (s : Str) : (match resR s with
  | .inl _ => some (8, 1, ())
  | .inr z10 => some z10) = out2 (faultP s) := by
  unfold resR faultP headF hitN
  cases hr : pre s kRef with
  | true =>
    have e := pre_two hr
    have h1 : pre s kDiv = false := by
      cases h : pre s kDiv with
      | false => rfl
      | true => have := pre_two h; rw [e] at this; exact absurd this (by decide)
    have h2 : pre s kVal = false := by
      cases h : pre s kVal with
      | false => rfl
      | true => have := pre_two h; rw [e] at this; exact absurd this (by decide)
    rw [h1, h2]
    rfl
  | false =>
    rw [if_neg (by decide), cond_false]
    cases pre s kDiv with
    | true => rfl
    | false =>
      cases pre s kVal with
      | true => rfl
      | false =>
        rw [cond_false, cond_false, cond_false, cond_false]
        cases restF s <;> rfl
theorem headF_is (s : Str) (hr : pre s kRef = false) : (match resN (headF s) with
  | .inl _ => some (8, 1, ())
  | .inr z10 => some z10) = out2 (faultP s) := by
  unfold faultP
  rw [hr, if_neg (by decide)]
  cases headF s <;> rfl
theorem hitN_le {s p : Str} {q : Option Nat} (hq : ∀ n, q = some n → n ≤ s.length) : ∀ n, hitN s p q = some n → n ≤ s.length := by
  intro n
  unfold hitN
  cases h : pre s p with
  | true =>
    intro e
    cases e
    exact pre_len h
  | false => exact hq n
theorem faultP_le {s : Str} (h0 : 0 < s.length) : (faultP s).2 ≤ s.length := by
  unfold faultP
  split
  · rename_i h
    exact pre_len h
  · cases h : headF s with
    | some n => exact hitN_le (hitN_le (hitN_le (hitN_le (hitN_le (hitN_le (hitN_le (by intro _ h; cases h))))))) n h
    | none => exact h0
end Go.Proofs.YtjhcnnhkabhigaaGreatDoor
