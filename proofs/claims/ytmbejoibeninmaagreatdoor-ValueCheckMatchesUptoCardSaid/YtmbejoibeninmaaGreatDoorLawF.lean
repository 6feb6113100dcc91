import Derived.Test.YtmbejoibeninmaaGreatDoorLawE
namespace Go.Proofs.YtmbejoibeninmaaGreatDoor
open Go Go.Fe

/-! ### Values -/
abbrev VData := Int × ((Str × (Str × Unit)) × (Str × (Bool × (Int × (Int × (Int × Unit))))))
abbrev Val := Tree VData
abbrev vkind (v : Val) : Int := v.data.1
abbrev vnum (v : Val) : Str × (Str × Unit) := v.data.2.1
abbrev vtext (v : Val) : Str := v.data.2.2.1
abbrev von (v : Val) : Bool := v.data.2.2.2.1
abbrev vcode (v : Val) : Int := v.data.2.2.2.2.1
abbrev vrows (v : Val) : Int := v.data.2.2.2.2.2.1
abbrev vcols (v : Val) : Int := v.data.2.2.2.2.2.2.1
def fracZero (f : Str × (Str × Unit)) : Bool := decide (f.1 = []) && decide (f.2.1 = [])
def arrZero (v : Val) : Bool := decide (vrows v = 0) && (decide (vcols v = 0) && decide (v.kids.length = 0))
def formBad (v : Val) : Bool :=
  (!decide (vkind v = 1) && !fracZero (vnum v)) || ((!decide (vkind v = 2) && !decide (vtext v = [])) || ((!decide (vkind v = 3) && von v) || ((!decide (vkind v = 4) && !decide (vcode v = 0)) || (!decide (vkind v = 5) && !arrZero v))))
theorem beq_frac (f : Str × (Str × Unit)) : Ty.beq (.pair .str (.pair .str .unit)) f ([], [], ()) = fracZero f := by
  unfold fracZero
  simp [Ty.beq]
def verr1 (v : Val) : Int :=
  if vkind v < 0 ∨ 5 < vkind v then 8 else if formBad v = true then 4 else if vkind v = 1 then fracErr (vnum v) else if vkind v = 2 then textErr (vtext v)
  else if vkind v = 4 ∧ ftext (vcode v) = [] then 2 else 0
def arrHead (v : Val) : Int :=
  if vrows v < 1 ∨ 100000 < vrows v ∨ vcols v < 1 ∨ 100000 < vcols v then 2 else if 100000 < vrows v * vcols v then 3 else if (v.kids.length : Int) ≠ vrows v * vcols v then 4 else 0
def itemsErr : List Val → Int
  | [] => 0
  | x :: r => if vkind x = 5 then 8 else if verr1 x ≠ 0 then verr1 x else itemsErr r
def verr (v : Val) : Int := if verr1 v ≠ 0 then verr1 v else if vkind v = 5 then (if arrHead v ≠ 0 then arrHead v else itemsErr v.kids) else 0
theorem zeros_eq (v : Val) : value_zeros v = some (if formBad v = true then 4 else 0, ()) := by
  have hb : Ty.beq (.pair .str (.pair .str .unit)) (v.data.2.1.1, (v.data.2.1.2.1, ())) ([], [], ()) = fracZero (vnum v) := beq_frac (vnum v)
  unfold value_zeros formBad
  unfold arrZero vkind vtext von vcode vrows vcols
  have e : decide (0 < (v.kids.length : Int)) = !decide (v.kids.length = 0) := by
    cases v.kids <;> simp <;> omega
  rw [e]
  revert hb
  generalize Ty.beq (.pair .str (.pair .str .unit)) _ _ = bb
  intro hb
  rw [hb]
  generalize fracZero (vnum v) = b1
  generalize v.data.1 = k
  generalize decide (v.data.2.2.1 = []) = b2
  generalize v.data.2.2.2.1 = on
  generalize decide (v.data.2.2.2.2.1 = 0) = b4
  generalize decide (v.data.2.2.2.2.2.1 = 0) = b5
  generalize decide (v.data.2.2.2.2.2.2.1 = 0) = b6
  generalize decide (v.kids.length = 0) = b7
  by_cases h1 : k = 1
  · subst h1; cases b1 <;> cases b2 <;> cases on <;> cases b4 <;> cases b5 <;> cases b6 <;> cases b7 <;> rfl
  by_cases h2 : k = 2
  · subst h2; cases b1 <;> cases b2 <;> cases on <;> cases b4 <;> cases b5 <;> cases b6 <;> cases b7 <;> rfl
  by_cases h3 : k = 3
  · subst h3; cases b1 <;> cases b2 <;> cases on <;> cases b4 <;> cases b5 <;> cases b6 <;> cases b7 <;> rfl
  by_cases h4 : k = 4
  · subst h4; cases b1 <;> cases b2 <;> cases on <;> cases b4 <;> cases b5 <;> cases b6 <;> cases b7 <;> rfl
  by_cases h5 : k = 5
  · subst h5; cases b1 <;> cases b2 <;> cases on <;> cases b4 <;> cases b5 <;> cases b6 <;> cases b7 <;> rfl
  rw [decide_eq_false h1, decide_eq_false h2, decide_eq_false h3, decide_eq_false h4, decide_eq_false h5]
  cases b1 <;> cases b2 <;> cases on <;> cases b4 <;> cases b5 <;> cases b6 <;> cases b7 <;> rfl
end Go.Proofs.YtmbejoibeninmaaGreatDoor
