import Derived.Test.YtfbnnjmhlkafiaaDoorLawR
namespace Go.Proofs.YtfbnnjmhlkafiaaDoor
open Go Go.Fe

theorem hull_facts {a : Steps} (hv : Valid a) {low high : Int} (h4 : 0 ≤ low ∧ low < 1073741824) (h5 : 0 ≤ high ∧ high < 1073741824) (hb : (hull a low high).2.2 = true) :
    0 ≤ (hull a low high).1 ∧ (hull a low high).1 ≤ (hull a low high).2.1 ∧ (low = high → (hull a low high).1 = (hull a low high).2.1) := by
  rcases hull_is hv.fine h4.1 h5.2 (a := a) with ⟨e, _⟩ | ⟨_, ⟨p, p1, p2, p3⟩, ⟨p', p1', p2', p3'⟩, hm⟩
  · rw [e] at hb; cases hb
  · refine ⟨(wh_nonneg hv.fine (by omega) p3).1, (hm p _ p1 p2 p3).2, fun e => ?_⟩
    have : p = p' := by omega
    subst this
    rw [p3] at p3'
    exact Option.some.inj p3'
theorem ins_first {f l : Int} (h0 : 0 ≤ f) (h : f ≤ l) (hl : ins l = true) : ins f = true := by
  simp only [ins, decide_eq_true_eq] at hl ⊢
  omega

theorem through_loop {a1 a2 : Steps} (r : RefD) {e1 e2 : Int} (h1 : axis_Check a1 = some (e1, ())) (h2 : axis_Check a2 = some (e2, ())) :
    loop (cellref_Through_l981 a1 a2) ((), (), 0, r, ([], (0, (0, (0, (0, (0, (false, (false, (false, (false, ())))))))))), ()) =
      some (if e1 ≠ 0 then .inr ((), e1, Z0, ()) else if e2 ≠ 0 then .inr ((), e2, Z0, ()) else .inl ((), (), r, Z0, ())) := by
  have i0 : idx [a1, a2] 0 = some a1 := rfl
  have i1 : idx [a1, a2] 1 = some a2 := rfl
  have w0 : IntKind.i64.wrap ((0 : Int) + 1) = 1 := rfl
  have w1 : IntKind.i64.wrap ((1 : Int) + 1) = 2 := rfl
  have b0 : cellref_Through_l981 a1 a2 ((), (), 0, r, Z0, ()) = some (if e1 ≠ 0 then .inr (.inr ((), e1, Z0, ())) else .inl ((), (), 1, r, Z0, ())) := by
    simp only [cellref_Through_l981, i0, h1, Option.bind_some, w0, show ((0 : Int) < 2) from by omega, decide_true, cond_true]
    by_cases g : e1 = 0 <;> simp [g, Z0]
  have b1 : cellref_Through_l981 a1 a2 ((), (), 1, r, Z0, ()) = some (if e2 ≠ 0 then .inr (.inr ((), e2, Z0, ())) else .inl ((), (), 2, r, Z0, ())) := by
    simp only [cellref_Through_l981, i1, h2, Option.bind_some, w1, show ((1 : Int) < 2) from by omega, decide_true, cond_true]
    by_cases g : e2 = 0 <;> simp [g, Z0]
  have b2 : cellref_Through_l981 a1 a2 ((), (), 2, r, Z0, ()) = some (.inr (.inl ((), (), r, Z0, ()))) := by
    simp [cellref_Through_l981]
  have : Halts (cellref_Through_l981 a1 a2) 2 ((), (), 0, r, Z0, ()) (if e1 ≠ 0 then .inr ((), e1, Z0, ()) else if e2 ≠ 0 then .inr ((), e2, Z0, ()) else .inl ((), (), r, Z0, ())) := by
    by_cases g1 : e1 = 0
    · by_cases g2 : e2 = 0
      · simp only [g1, g2, ne_eq, not_true_eq_false, if_false]
        exact .step (by rw [b0, if_neg (by simp [g1])]) (.step (by rw [b1, if_neg (by simp [g2])]) (.done b2))
      · rw [if_neg (by simp [g1]), if_pos g2]
        exact .step (by rw [b0, if_neg (by simp [g1])]) (.done (by rw [b1, if_pos g2]))
    · rw [if_pos g1]
      exact .done (by rw [b0, if_pos g1])
  exact this.loop (by omega)

/-- A reference that is gone. -/
def Gone : RefD := ([], 4, 0, 0, 0, 0, false, false, false, false, ())

theorem through_eq {a1 a2 : Steps} (l1 : a1.length < 100000000) (l2 : a2.length < 100000000) (v1 : Valid a1) (v2 : Valid a2) (c1 : axis_Check a1 = some (0, ())) (c2 : axis_Check a2 = some (0, ()))
    {s : Str} {k r c r2 c2' : Int} {ar ac ar2 ac2 : Bool} (he : refErr s k r c r2 c2' ar ac ar2 ac2 = 0) :
    ∃ x : RefD, cellref_Through (s, k, r, c, r2, c2', ar, ac, ar2, ac2, ()) a1 a2 = some (x, 0, ()) ∧ chanceryref2_Through (s, k, r, c, r2, c2', ar, ac, ar2, ac2, ()) a1 a2 = some (x, ()) := by
  obtain ⟨h1, h2, h3, h4, h5, h6, h7, h8, h9⟩ := valid he
  have hloop := through_loop (a1 := a1) (a2 := a2) (s, k, r, c, r2, c2', ar, ac, ar2, ac2, ()) c1 c2
  simp only [ne_eq, not_true_eq_false, if_false] at hloop
  have hk : k = 0 ∨ k = 1 ∨ k = 2 ∨ k = 3 ∨ k = 4 := by omega
  have k00 : decide ((0 : Int) = 0) = true := rfl
  rcases hk with rfl | rfl | rfl | rfl | rfl
  · -- a cell
    simp [badForm] at h4
    obtain ⟨rfl, rfl, rfl, rfl⟩ : r2 = 0 ∧ c2' = 0 ∧ ar2 = false ∧ ac2 = false := by
      refine ⟨?_, ?_, ?_, ?_⟩ <;> simp_all
    have e1 := hull_eq (by omega) v1 h5 h5
    have e2 := hull_eq (by omega) v2 h6 h6
    have q1 := rest_eq l1 v1 h5 h5
    have q2 := rest_eq l2 v2 h6 h6
    have f1 := hull_facts v1 h5 h5
    have f2 := hull_facts v2 h6 h6
    generalize hull a1 r r = H1 at *
    generalize hull a2 c c = H2 at *
    obtain ⟨x1, y1, b1⟩ := H1
    obtain ⟨x2, y2, b2⟩ := H2
    simp only at e1 e2 q1 q2 f1 f2
    cases b1 with
    | false =>
      refine ⟨Gone, ?_, ?_⟩
      · simp only [cellref_Through, Check_eq, he, hloop, Option.bind_some, decide_true, decide_false, Bool.not_true, Bool.not_false, cond_true, cond_false, Int.reduceEq, e1, e2] <;> rfl
      · cases b2 <;> simp only [chanceryref2_Through, inside_ins, Option.bind_some, decide_true, decide_false, Bool.not_true, Bool.not_false, cond_true, cond_false, Int.reduceEq, q1, q2] <;> rfl
    | true =>
    cases b2 with
    | false => exact ⟨Gone, by simp only [cellref_Through, Check_eq, he, hloop, Option.bind_some, decide_true, decide_false, Bool.not_true, Bool.not_false, cond_true, cond_false, Int.reduceEq, e1, e2] <;> rfl, by simp only [chanceryref2_Through, inside_ins, Option.bind_some, decide_true, decide_false, Bool.not_true, Bool.not_false, cond_true, cond_false, Int.reduceEq, q1, q2] <;> rfl⟩
    | true =>
    obtain ⟨f11, f12, f13⟩ := f1 rfl
    obtain ⟨f21, f22, f23⟩ := f2 rfl
    have f13 := f13 trivial
    have f23 := f23 trivial
    subst f13 f23
    have i0 : ins 0 = true := rfl
    cases g1 : ins x1 with
    | false => exact ⟨Gone, by simp only [cellref_Through, Check_eq, he, hloop, Option.bind_some, decide_true, decide_false, Bool.not_true, Bool.not_false, cond_true, cond_false, Int.reduceEq, e1, e2, cellref_fitting, cellref_meaning, permitted_ins, g1] <;> rfl, by simp only [chanceryref2_Through, inside_ins, Option.bind_some, decide_true, decide_false, Bool.not_true, Bool.not_false, cond_true, cond_false, Int.reduceEq, q1, q2, g1] <;> rfl⟩
    | true =>
    cases g2 : ins x2 with
    | false => exact ⟨Gone, by simp only [cellref_Through, Check_eq, he, hloop, Option.bind_some, decide_true, decide_false, Bool.not_true, Bool.not_false, cond_true, cond_false, Int.reduceEq, e1, e2, cellref_fitting, cellref_meaning, permitted_ins, g1, g2] <;> rfl, by simp only [chanceryref2_Through, inside_ins, Option.bind_some, decide_true, decide_false, Bool.not_true, Bool.not_false, cond_true, cond_false, Int.reduceEq, q1, q2, g1, g2] <;> rfl⟩
    | true => exact ⟨_, by simp only [cellref_Through, Check_eq, he, hloop, Option.bind_some, decide_true, decide_false, Bool.not_true, Bool.not_false, cond_true, cond_false, Int.reduceEq, e1, e2, cellref_fitting, cellref_meaning, permitted_ins, g1, g2, i0] <;> rfl, by simp only [chanceryref2_Through, inside_ins, Option.bind_some, decide_true, decide_false, Bool.not_true, Bool.not_false, cond_true, cond_false, Int.reduceEq, q1, q2, g1, g2] <;> rfl⟩
  · -- an area
    have e1 := hull_eq (by omega) v1 h5 h7
    have e2 := hull_eq (by omega) v2 h6 h8
    have q1 := rest_eq l1 v1 h5 h7
    have q2 := rest_eq l2 v2 h6 h8
    have f1 := hull_facts v1 h5 h7
    have f2 := hull_facts v2 h6 h8
    generalize hull a1 r r2 = H1 at *
    generalize hull a2 c c2' = H2 at *
    obtain ⟨x1, y1, b1⟩ := H1
    obtain ⟨x2, y2, b2⟩ := H2
    simp only at e1 e2 q1 q2 f1 f2
    cases b1 with
    | false =>
      refine ⟨Gone, ?_, ?_⟩
      · simp only [cellref_Through, Check_eq, he, hloop, Option.bind_some, decide_true, decide_false, Bool.not_true, Bool.not_false, cond_true, cond_false, Int.reduceEq, e1, e2] <;> rfl
      · cases b2 <;> simp only [chanceryref2_Through, inside_ins, Option.bind_some, decide_true, decide_false, Bool.not_true, Bool.not_false, cond_true, cond_false, Int.reduceEq, q1, q2] <;> rfl
    | true =>
    cases b2 with
    | false => exact ⟨Gone, by simp only [cellref_Through, Check_eq, he, hloop, Option.bind_some, decide_true, decide_false, Bool.not_true, Bool.not_false, cond_true, cond_false, Int.reduceEq, e1, e2] <;> rfl, by simp only [chanceryref2_Through, inside_ins, Option.bind_some, decide_true, decide_false, Bool.not_true, Bool.not_false, cond_true, cond_false, Int.reduceEq, q1, q2] <;> rfl⟩
    | true =>
    obtain ⟨f11, f12, _⟩ := f1 rfl
    obtain ⟨f21, f22, _⟩ := f2 rfl
    cases g1 : ins y1 with
    | false =>
      refine ⟨Gone, ?_, by simp only [chanceryref2_Through, inside_ins, Option.bind_some, decide_true, decide_false, Bool.not_true, Bool.not_false, cond_true, cond_false, Int.reduceEq, q1, q2, g1] <;> rfl⟩
      cases ins x1 <;> cases ins x2 <;> simp only [cellref_Through, Check_eq, he, hloop, Option.bind_some, decide_true, decide_false, Bool.not_true, Bool.not_false, cond_true, cond_false, Int.reduceEq, e1, e2, cellref_fitting, cellref_meaning, permitted_ins, g1, cond_some', cond_pair, Bool.cond_self] <;> rfl
    | true =>
    have g3 := ins_first f11 f12 g1
    cases g2 : ins y2 with
    | false =>
      refine ⟨Gone, ?_, by simp only [chanceryref2_Through, inside_ins, Option.bind_some, decide_true, decide_false, Bool.not_true, Bool.not_false, cond_true, cond_false, Int.reduceEq, q1, q2, g1, g2] <;> rfl⟩
      cases g4 : ins x2 <;> simp only [cellref_Through, Check_eq, he, hloop, Option.bind_some, decide_true, decide_false, Bool.not_true, Bool.not_false, cond_true, cond_false, Int.reduceEq, e1, e2, cellref_fitting, cellref_meaning, permitted_ins, g1, g2, g3, g4, cond_some', cond_pair, Bool.cond_self] <;> rfl
    | true =>
    have g4 := ins_first f21 f22 g2
    exact ⟨_, by simp only [cellref_Through, Check_eq, he, hloop, Option.bind_some, decide_true, decide_false, Bool.not_true, Bool.not_false, cond_true, cond_false, Int.reduceEq, e1, e2, cellref_fitting, cellref_meaning, permitted_ins, g1, g2, g3, g4] <;> rfl, by simp only [chanceryref2_Through, inside_ins, Option.bind_some, decide_true, decide_false, Bool.not_true, Bool.not_false, cond_true, cond_false, Int.reduceEq, q1, q2, g1, g2] <;> rfl⟩
  · -- rows
    simp [badForm] at h4
    obtain ⟨rfl, rfl, rfl, rfl⟩ : c = 0 ∧ c2' = 0 ∧ ac = false ∧ ac2 = false := by
      refine ⟨?_, ?_, ?_, ?_⟩ <;> simp_all
    have e1 := hull_eq (by omega) v1 h5 h7
    have q1 := rest_eq l1 v1 h5 h7
    have f1 := hull_facts v1 h5 h7
    generalize hull a1 r r2 = H1 at *
    obtain ⟨x1, y1, b1⟩ := H1
    simp only at e1 q1 f1
    have i0 : ins 0 = true := rfl
    cases b1 with
    | false => exact ⟨Gone, by simp only [cellref_Through, Check_eq, he, hloop, Option.bind_some, decide_true, decide_false, Bool.not_true, Bool.not_false, cond_true, cond_false, Int.reduceEq, e1] <;> rfl, by simp only [chanceryref2_Through, inside_ins, Option.bind_some, decide_true, decide_false, Bool.not_true, Bool.not_false, cond_true, cond_false, Int.reduceEq, q1] <;> rfl⟩
    | true =>
    obtain ⟨f11, f12, _⟩ := f1 rfl
    cases g1 : ins y1 with
    | false =>
      refine ⟨Gone, ?_, by simp only [chanceryref2_Through, inside_ins, Option.bind_some, decide_true, decide_false, Bool.not_true, Bool.not_false, cond_true, cond_false, Int.reduceEq, q1, g1] <;> rfl⟩
      cases g4 : ins x1 <;> simp only [cellref_Through, Check_eq, he, hloop, Option.bind_some, decide_true, decide_false, Bool.not_true, Bool.not_false, cond_true, cond_false, Int.reduceEq, e1, cellref_fitting, cellref_meaning, permitted_ins, g1, g4, i0, cond_some', cond_pair, Bool.cond_self] <;> rfl
    | true =>
    have g3 := ins_first f11 f12 g1
    exact ⟨_, by simp only [cellref_Through, Check_eq, he, hloop, Option.bind_some, decide_true, decide_false, Bool.not_true, Bool.not_false, cond_true, cond_false, Int.reduceEq, e1, cellref_fitting, cellref_meaning, permitted_ins, g1, g3, i0] <;> rfl, by simp only [chanceryref2_Through, inside_ins, Option.bind_some, decide_true, decide_false, Bool.not_true, Bool.not_false, cond_true, cond_false, Int.reduceEq, q1, g1, i0] <;> rfl⟩
  · -- columns
    simp [badForm] at h4
    obtain ⟨rfl, rfl, rfl, rfl⟩ : r = 0 ∧ r2 = 0 ∧ ar = false ∧ ar2 = false := by
      refine ⟨?_, ?_, ?_, ?_⟩ <;> simp_all
    have e1 := hull_eq (by omega) v2 h6 h8
    have q1 := rest_eq l2 v2 h6 h8
    have f1 := hull_facts v2 h6 h8
    generalize hull a2 c c2' = H1 at *
    obtain ⟨x1, y1, b1⟩ := H1
    simp only at e1 q1 f1
    have i0 : ins 0 = true := rfl
    cases b1 with
    | false => exact ⟨Gone, by simp only [cellref_Through, Check_eq, he, hloop, Option.bind_some, decide_true, decide_false, Bool.not_true, Bool.not_false, cond_true, cond_false, Int.reduceEq, e1] <;> rfl, by simp only [chanceryref2_Through, inside_ins, Option.bind_some, decide_true, decide_false, Bool.not_true, Bool.not_false, cond_true, cond_false, Int.reduceEq, q1] <;> rfl⟩
    | true =>
    obtain ⟨f11, f12, _⟩ := f1 rfl
    cases g1 : ins y1 with
    | false =>
      refine ⟨Gone, ?_, by simp only [chanceryref2_Through, inside_ins, Option.bind_some, decide_true, decide_false, Bool.not_true, Bool.not_false, cond_true, cond_false, Int.reduceEq, q1, g1, i0] <;> rfl⟩
      cases g4 : ins x1 <;> simp only [cellref_Through, Check_eq, he, hloop, Option.bind_some, decide_true, decide_false, Bool.not_true, Bool.not_false, cond_true, cond_false, Int.reduceEq, e1, cellref_fitting, cellref_meaning, permitted_ins, g1, g4, i0, cond_some', cond_pair, Bool.cond_self] <;> rfl
    | true =>
    have g3 := ins_first f11 f12 g1
    exact ⟨_, by simp only [cellref_Through, Check_eq, he, hloop, Option.bind_some, decide_true, decide_false, Bool.not_true, Bool.not_false, cond_true, cond_false, Int.reduceEq, e1, cellref_fitting, cellref_meaning, permitted_ins, g1, g3, i0] <;> rfl, by simp only [chanceryref2_Through, inside_ins, Option.bind_some, decide_true, decide_false, Bool.not_true, Bool.not_false, cond_true, cond_false, Int.reduceEq, q1, g1, i0] <;> rfl⟩
  · exact ⟨_, by simp only [cellref_Through, Check_eq, he, hloop, Option.bind_some, decide_true, Bool.not_true, cond_false, cond_true] <;> rfl, by simp only [chanceryref2_Through, decide_true, cond_true]⟩
theorem refThrough_law (s : Str) (k r c r2 c2 : Int) (ar ac ar2 ac2 : Bool) (a1 a2 : Steps) (l1 : a1.length ≤ 1048576) (l2 : a2.length ≤ 1048576) : chancerylaw2_RefThroughMatches (s, k, r, c, r2, c2, ar, ac, ar2, ac2, ()) a1 a2 = some (true, ()) := by
  obtain ⟨e1, p1, q1, g1⟩ := axis_eq (a := a1) (by omega)
  obtain ⟨e2, p2, q2, g2⟩ := axis_eq (a := a2) (by omega)
  have hloop := through_loop (a1 := a1) (a2 := a2) (s, k, r, c, r2, c2, ar, ac, ar2, ac2, ()) p1 p2
  by_cases he : refErr s k r c r2 c2 ar ac ar2 ac2 = 0
  · by_cases z1 : e1 = 0
    · by_cases z2 : e2 = 0
      · rw [z1] at p1 q1
        rw [z2] at p2 q2
        obtain ⟨x, t1, t2⟩ := through_eq (by omega) (by omega) (g1 z1) (g2 z2) p1 p2 he
        simp only [chancerylaw2_RefThroughMatches, refs_true, t1, RefError_eq, he, q1, q2, t2, Option.bind_some, decide_true, Bool.not_true, cond_true, cond_false]
        simp [Ty.beq]
      · have t1 : cellref_Through (s, k, r, c, r2, c2, ar, ac, ar2, ac2, ()) a1 a2 = some (Z0, e2, ()) := by
          simp only [cellref_Through, Check_eq, he, hloop, Option.bind_some, z1, z2, decide_true, Bool.not_true, cond_false, ne_eq, not_true_eq_false, not_false_eq_true, if_true, if_false]
        rw [z1] at q1
        simp only [chancerylaw2_RefThroughMatches, refs_true, t1, RefError_eq, he, q1, q2, z2, Option.bind_some, decide_true, decide_false, Bool.not_true, Bool.not_false, cond_true, cond_false]
        simp [Ty.beq, Z0]
    · have t1 : cellref_Through (s, k, r, c, r2, c2, ar, ac, ar2, ac2, ()) a1 a2 = some (Z0, e1, ()) := by
        simp only [cellref_Through, Check_eq, he, hloop, Option.bind_some, z1, decide_true, Bool.not_true, cond_false, ne_eq, not_false_eq_true, if_true]
      simp only [chancerylaw2_RefThroughMatches, refs_true, t1, RefError_eq, he, q1, z1, Option.bind_some, decide_true, decide_false, Bool.not_true, Bool.not_false, cond_true, cond_false]
      simp [Ty.beq, Z0]
  · have t1 : cellref_Through (s, k, r, c, r2, c2, ar, ac, ar2, ac2, ()) a1 a2 = some (Z0, refErr s k r c r2 c2 ar ac ar2 ac2, ()) := by
      simp only [cellref_Through, Check_eq, he, Option.bind_some, decide_false, Bool.not_false, cond_true]
      rfl
    simp only [chancerylaw2_RefThroughMatches, refs_true, t1, RefError_eq, he, Option.bind_some, decide_true, decide_false, Bool.not_true, Bool.not_false, cond_true, cond_false]
    simp [Ty.beq, Z0]
end Go.Proofs.YtfbnnjmhlkafiaaDoor
