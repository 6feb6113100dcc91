import Derived.Test.YtfbnnjmhlkafiaaDoorLawC
namespace Go.Proofs.YtfbnnjmhlkafiaaDoor
open Go Go.Fe

def isPrint (c : UInt8) : Bool := decide (32 ≤ c.toNat ∧ c.toNat ≤ 126)
def nameErr (s : Str) : Int := if 200 < s.length then 3 else if s.all isPrint = true then 0 else 9

theorem name_eq (s : Str) : cellref_name s = some (nameErr s, ()) := by
  by_cases h : 200 < s.length
  · simp [cellref_name, nameErr, h, show (200 : Int) < (s.length : Int) by omega]
  have h' : ¬ (200 : Int) < (s.length : Int) := by omega
  have key : ∀ i (hi : i < s.length), cellref_name_l1988 s ((i : Int), ()) = some (if isPrint s[i] = true then .inl (((i + 1 : Nat) : Int), ()) else .inr (.inr (9, ()))) := fun i hi => by
    have hg : ((i : Int) < (s.length : Int)) := by omega
    simp only [cellref_name_l1988, idx_lt hi, Option.bind_some, wrap_succ (i := i) (by omega), hg, decide_true, cond_true]
    generalize s[i] = c
    have h5 : ((c.toNat : Int) < 32) ↔ (c.toNat < 32) := by omega
    have h6 : ((126 : Int) < (c.toNat : Int)) ↔ (126 < c.toNat) := by omega
    simp only [ofByte_eq, h5, h6, isPrint]
    by_cases h1 : c.toNat < 32 <;> by_cases h2 : 126 < c.toNat <;> simp [h1, h2, show 32 ≤ c.toNat ↔ ¬ c.toNat < 32 by omega, show c.toNat ≤ 126 ↔ ¬ 126 < c.toNat by omega]
  simp only [cellref_name, nameErr, h, h', decide_false, cond_false, if_false]
  rcases Halts.scan (f := cellref_name_l1988 s) (fun i => ((i : Int), ())) (fun i => (s[i]?).all isPrint) s.length (r := .inl ()) (fun _ => .inr (9, ()))
      (fun i hi hj => by simp only [List.getElem?_eq_getElem hi, Option.all_some]; exact key i hi) (fun _ => by simp [cellref_name_l1988]) with ⟨h1, h2⟩ | ⟨i, hi, h1, _, h2⟩
  · have := h2.loop (by omega)
    rw [show ((0 : Nat) : Int) = 0 from rfl] at this
    rw [this, all_none h1]
    rfl
  · have := h2.loop (by omega)
    rw [show ((0 : Nat) : Int) = 0 from rfl] at this
    rw [this, all_some hi h1]
    rfl

theorem rprint_eq (c : UInt8) : chanceryref2_SheetError_1 (ofByte c) = some (isPrint c, ()) := by
  have h5 : ((32 : Int) ≤ (c.toNat : Int)) ↔ (32 ≤ c.toNat) := by omega
  have h6 : ((c.toNat : Int) ≤ 126) ↔ (c.toNat ≤ 126) := by omega
  simp only [chanceryref2_SheetError_1, ofByte_eq, h5, h6, isPrint]
  by_cases h1 : 32 ≤ c.toNat <;> by_cases h2 : c.toNat ≤ 126 <;> simp [h1, h2]

theorem rname_eq {s : Str} : chanceryref2_SheetError s = some (nameErr s, ()) := by
  by_cases h : 200 < s.length
  · simp [chanceryref2_SheetError, nameErr, h, show (200 : Int) < (s.length : Int) by omega]
  have h' : ¬ (200 : Int) < (s.length : Int) := by omega
  have key : ∀ i (hi : i < s.length), chanceryref2_Allxx_l316 s ((), (i : Int), ()) = some (if isPrint s[i] = true then .inl ((), ((i + 1 : Nat) : Int), ()) else .inr (.inr (false, ()))) := fun i hi => by
    have hg : ((i : Int) < (s.length : Int)) := by omega
    simp only [chanceryref2_Allxx_l316, idx_lt hi, Option.bind_some, wrap_succ (i := i) (by omega), hg, decide_true, cond_true, rprint_eq]
    cases isPrint s[i] <;> rfl
  have hall : chanceryref2_Allxx s = some (s.all isPrint, ()) := by
    simp only [chanceryref2_Allxx]
    rcases Halts.scan (f := chanceryref2_Allxx_l316 s) (fun i => ((), (i : Int), ())) (fun i => (s[i]?).all isPrint) s.length (r := .inl ()) (fun _ => .inr (false, ()))
      (fun i hi hj => by simp only [List.getElem?_eq_getElem hi, Option.all_some]; exact key i hi) (fun _ => by simp [chanceryref2_Allxx_l316]) with ⟨h1, h2⟩ | ⟨i, hi, h1, _, h2⟩
    · have := h2.loop (by omega)
      rw [show ((0 : Nat) : Int) = 0 from rfl] at this
      rw [this, all_none h1]
      rfl
    · have := h2.loop (by omega)
      rw [show ((0 : Nat) : Int) = 0 from rfl] at this
      rw [this, all_some hi h1]
      rfl
  simp only [chanceryref2_SheetError, nameErr, h, h', decide_false, cond_false, if_false, hall, Option.bind_some]
  cases s.all isPrint <;> rfl

def ins (n : Int) : Bool := decide (0 ≤ n ∧ n < 1073741824)
theorem permitted_ins (n : Int) : cellref_permitted n = some (ins n, ()) := permitted_eq n
theorem inside_ins (n : Int) : chanceryref2_inside n = some (ins n, ()) := permitted_eq n

/-- Fields to which the kind gives no meaning are not zero. -/
def badForm (s : Str) (k r c r2 c2 : Int) (ar ac ar2 ac2 : Bool) : Bool :=
  (decide (k = 0) && !(decide (r2 = 0) && decide (c2 = 0) && !ar2 && !ac2)) || (decide (k = 2) && !(decide (c = 0) && decide (c2 = 0) && !ac && !ac2)) || (decide (k = 3) && !(decide (r = 0) && decide (r2 = 0) && !ar && !ar2)) ||
    (decide (k = 4) && !(decide (s = []) && decide (r = 0) && decide (c = 0) && decide (r2 = 0) && decide (c2 = 0) && !ar && !ac && !ar2 && !ac2))
/-- The error of a reference. -/
def refErr (s : Str) (k r c r2 c2 : Int) (ar ac ar2 ac2 : Bool) : Int :=
  if k < 0 ∨ 4 < k then 8 else if nameErr s ≠ 0 then nameErr s
  else cond (badForm s k r c r2 c2 ar ac ar2 ac2) 4 (cond (!(ins r && ins c && ins r2 && ins c2)) 2 (cond (!decide (k = 0) && (decide (r2 < r) || decide (c2 < c))) 5 0))

theorem Check_eq (s : Str) (k r c r2 c2 : Int) (ar ac ar2 ac2 : Bool) : cellref_Check (s, k, r, c, r2, c2, ar, ac, ar2, ac2, ()) = some (refErr s k r c r2 c2 ar ac ar2 ac2, ()) := by
  by_cases h0 : k < 0
  · simp [cellref_Check, refErr, h0]
  by_cases h4 : 4 < k
  · simp [cellref_Check, refErr, h0, h4]
  have hk : k = 0 ∨ k = 1 ∨ k = 2 ∨ k = 3 ∨ k = 4 := by omega
  by_cases hn : nameErr s = 0
  · simp only [cellref_Check, refErr, h0, h4, name_eq, permitted_ins, hn, decide_false, decide_true, cond_false, cond_true, Option.bind_some, Bool.not_true, Bool.not_false, false_or, if_false, ne_eq, not_true_eq_false, cellref_meaning]
    generalize ins r = i1
    generalize ins c = i2
    generalize ins r2 = i3
    generalize ins c2 = i4
    rcases hk with rfl | rfl | rfl | rfl | rfl
    all_goals
      simp [Ty.beq, badForm, Bool.and_assoc]
      cases i1 <;> cases i2 <;> cases i3 <;> cases i4 <;> simp [cond_some', cond_pair]
  · simp [cellref_Check, refErr, h0, h4, name_eq, hn]
theorem RefError_eq (s : Str) (k r c r2 c2 : Int) (ar ac ar2 ac2 : Bool) : chanceryref2_RefError (s, k, r, c, r2, c2, ar, ac, ar2, ac2, ()) = some (refErr s k r c r2 c2 ar ac ar2 ac2, ()) := by
  by_cases h0 : k < 0
  · simp [chanceryref2_RefError, refErr, h0]
  by_cases h4 : 4 < k
  · simp [chanceryref2_RefError, refErr, h0, h4]
  have hk : k = 0 ∨ k = 1 ∨ k = 2 ∨ k = 3 ∨ k = 4 := by omega
  by_cases hn : nameErr s = 0
  · simp only [chanceryref2_RefError, refErr, h0, h4, rname_eq, inside_ins, hn, decide_false, decide_true, cond_false, cond_true, Option.bind_some, Bool.not_true, Bool.not_false, false_or, if_false, ne_eq, not_true_eq_false]
    rcases hk with rfl | rfl | rfl | rfl | rfl
    all_goals simp [badForm, Bool.or_assoc, Bool.and_assoc, cond_some', cond_pair]
    all_goals try simp only [Bool.or_assoc, Bool.or_comm, Bool.or_left_comm]
    by_cases a1 : r = 0 <;> by_cases a2 : r2 = 0 <;> by_cases a3 : c = 0 <;> by_cases a4 : c2 = 0 <;> simp [a1, a2, a3, a4]
  · simp [chanceryref2_RefError, refErr, h0, h4, rname_eq, hn]
end Go.Proofs.YtfbnnjmhlkafiaaDoor
