import Derived.Test.YtfbnnjmhlkafiaaGreatDoorLawI
namespace Go.Proofs.YtfbnnjmhlkafiaaGreatDoor
open Go Go.Fe

/-! ### Adjusting -/
theorem throughD {a1 a2 : Steps} (l1 : a1.length < 100000000) (l2 : a2.length < 100000000) (v1 : Valid a1) (v2 : Valid a2) (c1 : axis_Check a1 = some (0, ())) (c2 : axis_Check a2 = some (0, ())) {r : RefD} (h : errD r = 0) :
    ∃ x : RefD, cellref_Through r a1 a2 = some (x, 0, ()) ∧ chanceryref2_Through r a1 a2 = some (x, ()) ∧ errD x = 0 :=
  through_eq l1 l2 v1 v2 c1 c2 (s := r.1) (k := r.2.1) (r := r.2.2.1) (c := r.2.2.2.1) (r2 := r.2.2.2.2.1) (c2' := r.2.2.2.2.2.1) h
noncomputable def thrD (a1 a2 : Steps) (r : RefD) : RefD := match cellref_Through r a1 a2 with
  | some p => p.1
  | none => Z0
noncomputable def adjA (o0 : Str) (o1 : Bool) (a1 a2 : Steps) (r : RefD) : RefD := if (if r.1 = [] then o1 else decide (r.1 = o0)) = true then thrD a1 a2 r else r
theorem meant_eq (r : RefD) (o0 : Str) (o1 : Bool) : fscan_meant r o0 o1 = some (if r.1 = [] then o1 else decide (r.1 = o0), ()) := by
  unfold fscan_meant
  by_cases h : r.1 = []
  · rw [decide_eq_true h, if_pos h]
    rfl
  · rw [decide_eq_false h, if_neg h]
    rfl
theorem belongs_eq (r : RefD) (o0 : Str) (o1 : Bool) : chanceryref2_Belongs r o0 o1 = some (if r.1 = [] then o1 else decide (r.1 = o0), ()) := by
  unfold chanceryref2_Belongs
  by_cases h : r.1 = []
  · rw [decide_eq_true h, if_pos h]
    cases o1 <;> rfl
  · rw [decide_eq_false h, if_neg h]
    rfl
section
variable {a1 a2 : Steps} (l1 : a1.length < 100000000) (l2 : a2.length < 100000000) (v1 : Valid a1) (v2 : Valid a2) (c1 : axis_Check a1 = some (0, ())) (c2 : axis_Check a2 = some (0, ())) (o0 : Str) (o1 : Bool)
include l1 l2 v1 v2 c1 c2
theorem adjA_valid : ∀ r, errD r = 0 → errD (adjA o0 o1 a1 a2 r) = 0 := by
  intro r h
  obtain ⟨x, p1, p2, p3⟩ := throughD l1 l2 v1 v2 c1 c2 h
  unfold adjA thrD
  rw [p1]
  cases (if r.1 = [] then o1 else decide (r.1 = o0)) with
  | true => exact p3
  | false => exact h
theorem adjA_p : ∀ r, errD r = 0 → fscan_Adjust_1 r o0 o1 a1 a2 = some (adjA o0 o1 a1 a2 r, (), (), (), (), (o0, ()), (o1, ()), (a1, ()), (a2, ()), ()) := by
  intro r h
  obtain ⟨x, p1, p2, p3⟩ := throughD l1 l2 v1 v2 c1 c2 h
  unfold fscan_Adjust_1 adjA thrD
  rw [p1]
  simp only [meant_eq, Option.bind_some]
  cases (if r.1 = [] then o1 else decide (r.1 = o0)) with
  | true => simp only [cond_true, p1, Option.bind_some, if_true]
  | false => simp only [cond_false, Option.bind_some, Bool.false_eq_true, if_false]
theorem adjA_r : ∀ r, errD r = 0 → chanceryref2_Adjusted_1 r o0 o1 a1 a2 = some (adjA o0 o1 a1 a2 r, (), (), (), (), (o0, ()), (o1, ()), (a1, ()), (a2, ()), ()) := by
  intro r h
  obtain ⟨x, p1, p2, p3⟩ := throughD l1 l2 v1 v2 c1 c2 h
  unfold chanceryref2_Adjusted_1 adjA thrD
  rw [p1]
  simp only [belongs_eq, p2, Option.bind_some]
  cases (if r.1 = [] then o1 else decide (r.1 = o0)) with
  | true => simp only [cond_true, if_true]
  | false => simp only [cond_false, Bool.false_eq_true, if_false]
end

theorem through_first {a1 a2 : Steps} {e1 e2 : Int} (h1 : axis_Check a1 = some (e1, ())) (h2 : axis_Check a2 = some (e2, ())) (he : ¬(e1 = 0 ∧ e2 = 0)) :
    cellref_Through Z0 a1 a2 = some (Z0, if e1 = 0 then e2 else e1, ()) := by
  have hc : cellref_Check Z0 = some (0, ()) := (CheckD Z0).trans rfl
  have hl := through_loop (a1 := a1) (a2 := a2) Z0 h1 h2
  unfold cellref_Through
  dsimp only
  rw [hc, Option.bind_some]
  dsimp only
  rw [decide_eq_true rfl, Bool.not_true, cond_false]
  erw [hl]
  by_cases g1 : e1 = 0
  · have g2 : ¬e2 = 0 := fun g2 => he ⟨g1, g2⟩
    rw [if_neg (by simp [g1]), if_pos g2, if_pos g1]
    rfl
  · rw [if_pos g1, if_neg g1]
    rfl

theorem scanAdjust_law {x a1 : Str} {a2 : Bool} {a3 a4 : Steps} (h : x.length ≤ 2000000) (l3 : a3.length < 100000000) (l4 : a4.length < 100000000) : chancerylaw2_ScanAdjustMatches x a1 a2 a3 a4 = some (true, ()) := by
  obtain ⟨s, hs, hl⟩ := long_eq h
  obtain ⟨e1, A1, B1, V1⟩ := axis_eq (a := a3) (by omega)
  obtain ⟨e2, A2, B2, V2⟩ := axis_eq (a := a4) (by omega)
  unfold chancerylaw2_ScanAdjustMatches
  rw [scans_eq, Option.bind_some]
  dsimp only
  rw [Bool.not_true, cond_false, hs, Option.bind_some]
  dsimp only
  rw [B1, B2]
  by_cases g : e1 = 0 ∧ e2 = 0
  · obtain ⟨g1, g2⟩ := g
    subst g1 g2
    obtain ⟨z, p1, p2, p3⟩ := throughD l3 l4 (V1 rfl) (V2 rfl) A1 A2 (r := Z0) rfl
    obtain ⟨t, q1, q2⟩ := adjust_both (o0 := a1) (o1 := a2) (o2 := a3) (o3 := a4) (adj := adjA a1 a2 a3 a4) (adjA_valid l3 l4 (V1 rfl) (V2 rfl) A1 A2 a1 a2) (adjA_p l3 l4 (V1 rfl) (V2 rfl) A1 A2 a1 a2) (adjA_r l3 l4 (V1 rfl) (V2 rfl) A1 A2 a1 a2) hl
    have hA : fscan_Adjust s a1 a2 a3 a4 = some (t, 0, ()) := by
      unfold fscan_Adjust
      erw [p1]
      rw [Option.bind_some]
      dsimp only
      rw [decide_eq_true rfl, Bool.not_true, cond_false, q1]
      rfl
    have hR : chanceryref2_Adjusted s a1 a2 a3 a4 = some (t, ()) := by
      unfold chanceryref2_Adjusted
      rw [q2]
      rfl
    rw [hA, hR]
    simp only [Option.bind_some, decide_true, cond_true, Bool.not_true, cond_false]
  · have p := through_first A1 A2 g
    have hne : ¬(if e1 = 0 then e2 else e1) = 0 := by
      by_cases g1 : e1 = 0
      · rw [if_pos g1]
        exact fun g2 => g ⟨g1, g2⟩
      · rw [if_neg g1]
        exact g1
    have hA : fscan_Adjust s a1 a2 a3 a4 = some ([], (if e1 = 0 then e2 else e1), ()) := by
      unfold fscan_Adjust
      erw [p]
      rw [Option.bind_some]
      dsimp only
      rw [decide_eq_false hne, Bool.not_false, cond_true]
    rw [hA]
    simp only [Option.bind_some]
    by_cases g1 : e1 = 0
    · have g2 : ¬e2 = 0 := fun g2 => g ⟨g1, g2⟩
      simp only [g1, g2, decide_true, decide_false, Bool.not_false, if_true, cond_true, Option.bind_some]
    · simp only [g1, decide_true, decide_false, Bool.not_false, if_false, cond_true, cond_false, Option.bind_some]
end Go.Proofs.YtfbnnjmhlkafiaaGreatDoor
