import Derived.Test.YtfbnnjmhlkafiaaDoorLawK
namespace Go.Proofs.YtfbnnjmhlkafiaaDoor
open Go Go.Fe

theorem dec_pos {D : Str} (h0 : D ≠ []) (ha : D.all isDigit = true) (hp : Lib.hasPrefix D [48] = false) : 1 ≤ dec D := by
  have key : ∀ (r : Str) (n : Nat), 1 ≤ n → 1 ≤ r.foldl (fun n c => 10 * n + (c.toNat - 48)) n := by
    intro r
    induction r with
    | nil => intro n h; exact h
    | cons c r ih => intro n h; exact ih (10 * n + (c.toNat - 48)) (by omega)
  cases D with
  | nil => exact absurd rfl h0
  | cons c r =>
    simp only [List.all_cons, Bool.and_eq_true] at ha
    have h1 := ha.1
    simp only [isDigit, decide_eq_true_eq] at h1
    have h2 : c ≠ 48 := by
      intro e
      subst e
      simp [Lib.hasPrefix, List.isPrefixOf] at hp
    have h3 : c.toNat ≠ 48 := by
      intro e
      apply h2
      have : c.toNat = (48 : UInt8).toNat := by simp; omega
      exact UInt8.toNat.inj this
    exact key r (10 * 0 + (c.toNat - 48)) (by omega)

theorem fine_facts {s : Str} (h : sdFine s = true) : (sdL s).length ≤ 7 ∧ (sdN s).length ≤ 10 ∧ Lib.hasPrefix (sdN s) [48] = false := by
  simp only [sdFine, Bool.and_eq_true, decide_eq_true_eq, Bool.not_eq_true'] at h
  exact ⟨h.2.1, h.2.2.1, h.2.2.2.1⟩

def n0 (s : Str) : Int := if sdN s = [] then 0 else (dec (sdN s) : Int) - 1
def m0 (s : Str) : Int := if sdL s = [] then 0 else (number (sdL s) : Int) - 1
def over (s : Str) : Bool := decide (1073741824 ≤ rowV s) || decide (1073741824 ≤ colV s)

theorem side_facts {s : Str} (h : sdFine s = true) : decide (rowV s < 0) = decide (sdN s = []) ∧ decide (colV s < 0) = decide (sdL s = []) ∧ mx (rowV s) 0 = n0 s ∧ mx (colV s) 0 = m0 s := by
  obtain ⟨h1, h2, h3⟩ := fine_facts h
  have hL : (sdL s).all isLetter = true := all_takeWhile _ _
  have hN : (sdN s).all isDigit = true := all_takeWhile _ _
  refine ⟨?_, ?_, ?_, ?_⟩
  · by_cases e : sdN s = []
    · simp [rowV, e]
    · have := dec_pos e hN h3
      simp only [rowV, e, if_false, decide_false, decide_eq_false_iff_not]
      omega
  · by_cases e : sdL s = []
    · simp [colV, e]
    · have := number_pos e hL
      simp only [colV, e, if_false, decide_false, decide_eq_false_iff_not]
      omega
  · by_cases e : sdN s = []
    · simp [rowV, n0, e, mx]
    · have := dec_pos e hN h3
      simp only [rowV, n0, e, if_false, mx]
      split <;> omega
  · by_cases e : sdL s = []
    · simp [colV, m0, e, mx]
    · have := number_pos e hL
      simp only [colV, m0, e, if_false, mx]
      split <;> omega

theorem values_eq {s : Str} (h : sdFine s = true) : cellref_corner__values (sdL s, sdN s, sdC s, sdR s, ()) = some (cond (over s) (0, 0, 2, ()) (n0 s, m0 s, 0, ())) := by
  obtain ⟨h1, h2, h3⟩ := fine_facts h
  have hL : (sdL s).all isLetter = true := all_takeWhile _ _
  have hN : (sdN s).all isDigit = true := all_takeWhile _ _
  have hds := dec_small h2 hN
  have wd : IntKind.i64.wrap ((dec (sdN s) : Int) - 1) = (dec (sdN s) : Int) - 1 := wrap_i64 (by omega) (by omega)
  have hcol : sdL s ≠ [] → cellref_Column (sdL s) = some (if 1073741824 < number (sdL s) then (0, 2, ()) else ((number (sdL s) : Int) - 1, 0, ())) := fun e => by
    rw [Column_eq, if_neg (by simp [e, hL]; omega)]
  have big : (1073741824 ≤ (number (sdL s) : Int) - 1) ↔ 1073741824 < number (sdL s) := by omega
  by_cases eN : sdN s = [] <;> by_cases eL : sdL s = []
  · simp [cellref_corner__values, eN, eL, over, rowV, colV, n0, m0]
  · simp only [cellref_corner__values, eN, eL, decide_true, decide_false, Bool.not_true, Bool.not_false, cond_true, cond_false, Option.bind_some, hcol eL, over, rowV, colV, n0, m0, if_true, if_false, big]
    by_cases g : 1073741824 < number (sdL s) <;> simp [g]
  · simp only [cellref_corner__values, eN, eL, decide_true, decide_false, Bool.not_true, Bool.not_false, cond_true, cond_false, Option.bind_some, sAtoi_digits eN h2 hN, wd, over, rowV, colV, n0, m0, if_true, if_false]
    by_cases g : 1073741824 ≤ (dec (sdN s) : Int) - 1 <;> simp [g]
  · simp only [cellref_corner__values, eN, eL, decide_true, decide_false, Bool.not_true, Bool.not_false, cond_true, cond_false, Option.bind_some, sAtoi_digits eN h2 hN, wd, hcol eL, over, rowV, colV, n0, m0, if_true, if_false, big]
    by_cases g : 1073741824 < number (sdL s) <;> by_cases g' : 1073741824 ≤ (dec (sdN s) : Int) - 1 <;> simp [g, g']

/-- Rows, and columns, in order. -/
def sortR (x : RefD) : RefD :=
  let y : RefD := if x.2.2.2.2.1 < x.2.2.1 then (x.1, x.2.1, x.2.2.2.2.1, x.2.2.2.1, x.2.2.1, x.2.2.2.2.2.1, x.2.2.2.2.2.2.2.2.1, x.2.2.2.2.2.2.2.1, x.2.2.2.2.2.2.1, x.2.2.2.2.2.2.2.2.2.1, ()) else x
  if y.2.2.2.2.2.1 < y.2.2.2.1 then (y.1, y.2.1, y.2.2.1, y.2.2.2.2.2.1, y.2.2.2.2.1, y.2.2.2.1, y.2.2.2.2.2.2.1, y.2.2.2.2.2.2.2.2.2.1, y.2.2.2.2.2.2.2.2.1, y.2.2.2.2.2.2.2.1, ()) else y

theorem Sorted_eq (x : RefD) : chanceryref2_Sorted x = some (sortR x, ()) := by
  simp only [chanceryref2_Sorted, sortR]
  by_cases h : x.2.2.2.2.1 < x.2.2.1
  · by_cases h' : x.2.2.2.2.2.1 < x.2.2.2.1 <;> simp [h, h']
  · by_cases h' : x.2.2.2.2.2.1 < x.2.2.2.1 <;> simp [h, h']
theorem ordered_eq (x : RefD) : cellref_ordered x = some (cond (decide (x.2.1 = 0)) x (sortR x), ()) := by
  simp only [cellref_ordered, sortR]
  by_cases h0 : x.2.1 = 0
  · simp [h0]
  · by_cases h : x.2.2.2.2.1 < x.2.2.1
    · by_cases h' : x.2.2.2.2.2.1 < x.2.2.2.1 <;> simp [h0, h, h']
    · by_cases h' : x.2.2.2.2.2.1 < x.2.2.2.1 <;> simp [h0, h, h']

/-- The error of a reference, as one. -/
def errD (x : RefD) : Int := refErr x.1 x.2.1 x.2.2.1 x.2.2.2.1 x.2.2.2.2.1 x.2.2.2.2.2.1 x.2.2.2.2.2.2.1 x.2.2.2.2.2.2.2.1 x.2.2.2.2.2.2.2.2.1 x.2.2.2.2.2.2.2.2.2.1
theorem CheckD (x : RefD) : cellref_Check x = some (errD x, ()) := Check_eq _ _ _ _ _ _ _ _ _ _
theorem RefErrorD (x : RefD) : chanceryref2_RefError x = some (errD x, ()) := RefError_eq _ _ _ _ _ _ _ _ _ _

end Go.Proofs.YtfbnnjmhlkafiaaDoor
