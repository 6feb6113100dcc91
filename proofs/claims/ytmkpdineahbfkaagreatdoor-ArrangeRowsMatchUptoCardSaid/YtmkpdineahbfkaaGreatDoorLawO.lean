/- The order of values is an order. -/
import Derived.Test.YtmkpdineahbfkaaGreatDoorRLawJ
namespace Go.Proofs.YtmkpdineahbfkaaGreatDoor
open Go Go.Fe

/-- A comparison that is an order of what D holds of. -/
structure Ordr {α : Type} (D : α → Prop) (c : α → α → Int) : Prop where
  anti : ∀ a b, D a → D b → c a b = -c b a
  trans : ∀ a b d, D a → D b → D d → c a b ≤ 0 → c b d ≤ 0 → c a d ≤ 0
namespace Ordr
variable {α : Type} {D : α → Prop} {c : α → α → Int}
theorem lt_le (h : Ordr D c) {a b d : α} (ha : D a) (hb : D b) (hd : D d) (h1 : c a b < 0) (h2 : c b d ≤ 0) : c a d < 0 := by
  have h3 := h.trans a b d ha hb hd (by omega) h2
  by_cases e : c a d = 0
  · have e1 := h.anti a d ha hd
    have e2 := h.trans b d a hb hd ha h2 (by omega)
    have e3 := h.anti a b ha hb
    omega
  · omega
theorem le_lt (h : Ordr D c) {a b d : α} (ha : D a) (hb : D b) (hd : D d) (h1 : c a b ≤ 0) (h2 : c b d < 0) : c a d < 0 := by
  have h3 := h.trans a b d ha hb hd h1 (by omega)
  by_cases e : c a d = 0
  · have e1 := h.anti a d ha hd
    have e2 := h.trans d a b hd ha hb (by omega) h1
    have e3 := h.anti b d hb hd
    omega
  · omega
theorem lex (h : Ordr D c) {c2 : α → α → Int} (h2 : Ordr D c2) : Ordr D (fun a b => if c a b ≠ 0 then c a b else c2 a b) := by
  constructor
  · intro a b ha hb
    have e1 := h.anti a b ha hb
    have e2 := h2.anti a b ha hb
    split
    · rw [if_pos (by omega)]; omega
    · rw [if_neg (by omega)]; omega
  · intro a b d ha hb hd g1 g2
    by_cases e1 : c a b = 0
    · rw [if_neg (fun x => x e1)] at g1
      by_cases e2 : c b d = 0
      · rw [if_neg (fun x => x e2)] at g2
        have f1 := h.trans a b d ha hb hd (by omega) (by omega)
        have e3 := h.anti a b ha hb
        have e4 := h.anti b d hb hd
        have f2 := h.trans d b a hd hb ha (by omega) (by omega)
        have e5 := h.anti a d ha hd
        rw [if_neg (by omega)]
        exact h2.trans a b d ha hb hd g1 g2
      · rw [if_pos e2] at g2
        have f1 := h.le_lt ha hb hd (by omega) (by omega)
        rw [if_pos (by omega)]; omega
    · rw [if_pos e1] at g1
      have g2' : c b d ≤ 0 := by
        by_cases e2 : c b d = 0
        · omega
        · rw [if_pos e2] at g2; exact g2
      have f1 := h.lt_le ha hb hd (by omega) g2'
      rw [if_pos (by omega)]; omega
theorem pull {β : Type} {E : β → Prop} (h : Ordr D c) (f : β → α) (hf : ∀ b, E b → D (f b)) : Ordr E (fun a b => c (f a) (f b)) :=
  ⟨fun a b ha hb => h.anti _ _ (hf a ha) (hf b hb), fun a b d ha hb hd => h.trans _ _ _ (hf a ha) (hf b hb) (hf d hd)⟩
theorem zero : Ordr D (fun _ _ => 0) := ⟨fun _ _ _ _ => rfl, fun _ _ _ _ _ _ _ _ => Int.le_refl _⟩
end Ordr
theorem ordI : Ordr (fun _ : Int => True) cmpI := by
  refine ⟨fun a b _ _ => cmpI_anti a b, fun a b d _ _ _ h1 h2 => ?_⟩
  unfold cmpI at *
  repeat' split at h1
  all_goals repeat' split at h2
  all_goals repeat' split
  all_goals omega
theorem cmpD_trans : ∀ (a b d : Str), cmpD a b ≤ 0 → cmpD b d ≤ 0 → cmpD a d ≤ 0
  | [], b, d, _, _ => by cases d <;> simp only [cmpD, List.length_nil, List.length_cons] <;> omega
  | a :: x, [], d, h, _ => by simp only [cmpD, List.length_nil, List.length_cons] at h; omega
  | a :: x, b :: y, [], _, h => by simp only [cmpD, List.length_nil, List.length_cons] at h; omega
  | a :: x, b :: y, d :: z, h1, h2 => by
    have ih := cmpD_trans x y z
    have inj : ∀ p q : UInt8, p.toNat = q.toNat → p = q := fun p q h => UInt8.toNat_inj.1 h
    have i1 := inj a b
    have i2 := inj b d
    have i3 := inj a d
    simp only [cmpD] at h1 h2 ⊢
    by_cases e1 : a = b
    · subst e1
      rw [if_pos rfl] at h1
      by_cases e2 : a = d
      · rw [if_pos e2] at h2 ⊢
        exact ih h1 h2
      · rw [if_neg e2] at h2 ⊢
        exact h2
    · rw [if_neg e1] at h1
      by_cases e2 : b = d
      · subst e2
        rw [if_neg e1]; exact h1
      · rw [if_neg e2] at h2
        have n1 : a.toNat ≠ b.toNat := fun h => e1 (i1 h)
        have n2 : b.toNat ≠ d.toNat := fun h => e2 (i2 h)
        have e3 : a ≠ d := fun h => by
          have := congrArg UInt8.toNat h
          omega
        rw [if_neg e3]; omega
theorem sgn_le {a : Int} : sgn a ≤ 0 ↔ a ≤ 0 := by
  unfold sgn
  repeat' split
  all_goals omega
theorem ordS : Ordr (fun _ : Str => True) cmpS := by
  refine ⟨fun a b _ _ => cmpS_anti a b, fun a b d _ _ _ h1 h2 => ?_⟩
  rw [← cmpD_sgn, sgn_le] at *
  exact cmpD_trans a b d h1 h2
/-- A fraction's numerator with its sign. -/
def fzI (f : Str × (Str × Unit)) : Int := if signOf f.1 = true then -(dec (body f.1) : Int) else (dec (body f.1) : Int)
theorem sgn_sum (m1 : Bool) (n1 d1 : Nat) (m2 : Bool) (n2 d2 : Nat) :
    sgnOf (sumM m1 n1 d1 (!m2) n2 d2) (sumN m1 n1 d1 (!m2) n2 d2) = sgn ((if m1 = true then -(n1 : Int) else n1) * d2 - (if m2 = true then -(n2 : Int) else n2) * d1) := by
  have e1 : (if m1 = true then -(n1 : Int) else n1) * d2 = if m1 = true then -((n1 * d2 : Nat) : Int) else ((n1 * d2 : Nat) : Int) := by
    split
    · rw [Int.neg_mul]; simp
    · simp
  have e2 : (if m2 = true then -(n2 : Int) else n2) * d1 = if m2 = true then -((n2 * d1 : Nat) : Int) else ((n2 * d1 : Nat) : Int) := by
    split
    · rw [Int.neg_mul]; simp
    · simp
  rw [e1, e2]
  unfold sgnOf sumM sumN sgn
  generalize n1 * d2 = x
  generalize n2 * d1 = y
  cases m1 <;> cases m2 <;> simp only [Bool.not_true, Bool.not_false, if_true, if_false, Bool.false_eq_true, Bool.true_eq_false] <;> by_cases h : y ≤ x <;> (try simp only [h, if_true, if_false]) <;> (repeat' split) <;> (try simp only [cond_true, cond_false]) <;> omega
theorem fcmp_sgn (f g : Str × (Str × Unit)) : fcmp f g = sgn (fzI f * (dec g.2.1 : Int) - fzI g * (dec f.2.1 : Int)) := sgn_sum _ _ _ _ _ _
theorem cross {A B C a b c : Int} (hb : 0 < b) (ha : 0 < a) (hc : 0 < c) (h1 : A * b - B * a ≤ 0) (h2 : B * c - C * b ≤ 0) : A * c - C * a ≤ 0 := by
  have g1 : A * b * c ≤ B * a * c := Int.mul_le_mul_of_nonneg_right (by omega) (by omega)
  have g2 : B * c * a ≤ C * b * a := Int.mul_le_mul_of_nonneg_right (by omega) (by omega)
  have g3 : b * (A * c) ≤ b * (C * a) := by
    have e1 : A * b * c = b * (A * c) := by rw [Int.mul_comm A b, Int.mul_assoc]
    have e2 : B * a * c = B * c * a := by rw [Int.mul_assoc, Int.mul_comm a c, ← Int.mul_assoc]
    have e3 : C * b * a = b * (C * a) := by rw [Int.mul_comm C b, Int.mul_assoc]
    omega
  have := Int.le_of_mul_le_mul_left g3 hb
  omega
theorem ordF : Ordr (fun f : Str × (Str × Unit) => fracErr f = 0) fcmp := by
  refine ⟨fun a b _ _ => fcmp_anti a b, fun a b d ha hb hd h1 h2 => ?_⟩
  have Ga := (good_of ha).pos
  have Gb := (good_of hb).pos
  have Gd := (good_of hd).pos
  rw [fcmp_sgn, sgn_le] at *
  exact cross (by omega) (by omega) (by omega) h1 h2
/-- Valid values that are no arrays. -/
def Sca (v : Val) : Prop := Okv v ∧ vkind v ≤ 4
theorem ordK (k : Int) : Ordr (fun v => Okv v ∧ vkind v = k) (onek k) := by
  by_cases h1 : k = 1
  · subst h1
    have := ordF.pull (E := fun v => Okv v ∧ vkind v = 1) vnum (fun v hv => hv.1.frac hv.2)
    exact this
  by_cases h2 : k = 2
  · subst h2
    exact ordS.pull (E := fun v => Okv v ∧ vkind v = 2) (fun v => lowS (vtext v)) (fun _ _ => trivial)
  by_cases h3 : k = 3
  · subst h3
    have e : ∀ a b, onek 3 a b = flagI (von a) - flagI (von b) := fun _ _ => rfl
    exact ⟨fun a b _ _ => onek_anti 3 a b, fun a b d _ _ _ g1 g2 => by rw [e] at *; omega⟩
  · have e : ∀ a b, onek k a b = cmpI (vcode a) (vcode b) := fun a b => by
      unfold onek
      rw [if_neg h1, if_neg h2, if_neg h3]
    refine ⟨fun a b _ _ => onek_anti k a b, fun a b d _ _ _ g1 g2 => ?_⟩
    rw [e] at *
    exact ordI.trans _ _ _ trivial trivial trivial g1 g2
def lexK (k : Int) (a b : Val) : Int := if onek k a b ≠ 0 then onek k a b else cmpS (vtext a) (vtext b)
theorem ordL (k : Int) : Ordr (fun v => Okv v ∧ vkind v = k) (lexK k) := (ordK k).lex (ordS.pull vtext (fun _ _ => trivial))
theorem rank_inj {j k : Int} (h0 : 0 ≤ j) (h4 : j ≤ 4) (g0 : 0 ≤ k) (g4 : k ≤ 4) (h : j ≠ k) : rankI j ≠ rankI k := by
  unfold rankI
  repeat' split
  all_goals omega
theorem ov_eq (a b : Val) : ov a b = if vkind a ≠ vkind b then cmpI (rankI (vkind a)) (rankI (vkind b)) else if vkind a = 0 then 0 else lexK (vkind a) a b := rfl
theorem ov_same {a b : Val} (e : vkind a = vkind b) : ov a b = if vkind a = 0 then 0 else lexK (vkind a) a b := by rw [ov_eq, if_neg (fun h => h e)]
theorem ov_diff {a b : Val} (e : vkind a ≠ vkind b) : ov a b = cmpI (rankI (vkind a)) (rankI (vkind b)) := by rw [ov_eq, if_pos e]
theorem ordV : Ordr Sca ov := by
  constructor
  · intro a b ha hb
    by_cases e : vkind a = vkind b
    · rw [ov_same e, ov_same e.symm, ← e]
      by_cases h0 : vkind a = 0
      · rw [if_pos h0, if_pos h0]; rfl
      · rw [if_neg h0, if_neg h0]
        exact (ordL (vkind a)).anti a b ⟨ha.1, rfl⟩ ⟨hb.1, e.symm⟩
    · rw [ov_diff e, ov_diff (fun h => e h.symm)]
      exact cmpI_anti _ _
  · intro a b d ha hb hd h1 h2
    have ra := rank_inj ha.1.k0 ha.2 hb.1.k0 hb.2
    have rb := rank_inj hb.1.k0 hb.2 hd.1.k0 hd.2
    by_cases e1 : vkind a = vkind b
    · by_cases e2 : vkind b = vkind d
      · rw [ov_same e1] at h1
        rw [ov_same e2, ← e1] at h2
        rw [ov_same (e1.trans e2)]
        by_cases h0 : vkind a = 0
        · rw [if_pos h0]; exact Int.le_refl _
        · rw [if_neg h0] at h1 h2 ⊢
          exact (ordL (vkind a)).trans a b d ⟨ha.1, rfl⟩ ⟨hb.1, e1.symm⟩ ⟨hd.1, (e1.trans e2).symm⟩ h1 h2
      · rw [ov_diff e2, ← e1] at h2
        rw [ov_diff (fun h => e2 (e1.symm.trans h))]
        exact h2
    · by_cases e2 : vkind b = vkind d
      · rw [ov_diff e1, e2] at h1
        rw [ov_diff (fun h => e1 (h.trans e2.symm))]
        exact h1
      · rw [ov_diff e1] at h1
        rw [ov_diff e2] at h2
        have r1 := ra e1
        have r2 := rb e2
        have h3 := ordI.trans _ _ _ trivial trivial trivial h1 h2
        by_cases e3 : vkind a = vkind d
        · exfalso
          unfold cmpI at h1 h2
          rw [← e3] at h2 r2
          repeat' split at h1
          all_goals repeat' split at h2
          all_goals omega
        · rw [ov_diff e3]; exact h3
/-- By a key: downwards, if that is asked, but what is empty stands last. -/
def okey1 (down : Bool) (a b : Val) : Int := if down = true ∧ vkind a ≠ 0 ∧ vkind b ≠ 0 then -ov a b else ov a b
theorem ov_empty {a b : Val} (_ : Sca a) (hb : Sca b) (h : vkind a = 0) : ov a b = if vkind b = 0 then 0 else 1 := by
  rw [ov_eq]
  have h0 := hb.1.k0
  have h4 := hb.2
  by_cases e : vkind b = 0
  · rw [if_neg (by omega), if_pos h, if_pos e]
  · rw [if_pos (by omega), if_neg e, h]
    unfold cmpI rankI
    repeat' split
    all_goals omega
theorem ordD (down : Bool) : Ordr Sca (okey1 down) := by
  cases down with
  | false =>
    have e : ∀ a b, okey1 false a b = ov a b := fun a b => if_neg (fun h => by cases h.1)
    exact ⟨fun a b ha hb => by rw [e, e]; exact ordV.anti a b ha hb, fun a b d ha hb hd h1 h2 => by rw [e] at *; exact ordV.trans a b d ha hb hd h1 h2⟩
  | true =>
    have e1 : ∀ a b, vkind a ≠ 0 → vkind b ≠ 0 → okey1 true a b = -ov a b := fun a b h1 h2 => if_pos ⟨rfl, h1, h2⟩
    have e2 : ∀ a b, Sca a → Sca b → vkind a = 0 → okey1 true a b = if vkind b = 0 then 0 else 1 := fun a b ha hb h => by
      unfold okey1
      rw [if_neg (fun x => x.2.1 h), ov_empty ha hb h]
    have e3 : ∀ a b, Sca a → Sca b → vkind b = 0 → okey1 true a b = if vkind a = 0 then 0 else -1 := fun a b ha hb h => by
      unfold okey1
      rw [if_neg (fun x => x.2.2 h), ordV.anti a b ha hb, ov_empty hb ha h]
      split <;> rfl
    constructor
    · intro a b ha hb
      by_cases h1 : vkind a = 0
      · rw [e2 a b ha hb h1, e3 b a hb ha h1]
        split <;> rfl
      · by_cases h2 : vkind b = 0
        · rw [e3 a b ha hb h2, e2 b a hb ha h2]
          split <;> rfl
        · rw [e1 a b h1 h2, e1 b a h2 h1, ordV.anti a b ha hb]
    · intro a b d ha hb hd g1 g2
      by_cases h3 : vkind d = 0
      · rw [e3 a d ha hd h3]
        split <;> omega
      · have h2 : vkind b ≠ 0 := fun h => by
          rw [e2 b d hb hd h, if_neg h3] at g2
          omega
        have h1 : vkind a ≠ 0 := fun h => by
          rw [e2 a b ha hb h, if_neg h2] at g1
          omega
        rw [e1 _ _ h1 h2] at g1
        rw [e1 _ _ h2 h3] at g2
        rw [e1 _ _ h1 h3]
        have a1 := ordV.anti a b ha hb
        have a2 := ordV.anti b d hb hd
        have a3 := ordV.anti a d ha hd
        have := ordV.trans d b a hd hb ha (by omega) (by omega)
        omega
end Go.Proofs.YtmkpdineahbfkaaGreatDoor
