import Derived.Test.YtfbnnjmhlkafiaaGreatDoorLawN
namespace Go.Proofs.YtfbnnjmhlkafiaaGreatDoor
open Go Go.Fe

theorem name_err (s : Str) : cellref_Check (s, 0, 0, 0, 0, 0, false, false, false, false, ()) = some (nameErr s, ()) := by
  rw [Check_eq]
  unfold refErr
  rw [if_neg (by omega)]
  by_cases h : nameErr s = 0
  · rw [if_neg (by simp [h]), h]
    rfl
  · rw [if_pos h]

/-- The second half of the law: names. -/
theorem names_half {s a1 a2 : Str} (hs : s.length ≤ 400) (h1 : a1.length ≤ 2000000) (h2 : a2.length ≤ 2000000) :
    ((fscan_RenameName s a1 a2).bind fun v12 =>
  (loop (chancerylaw2_ScanRenames_l1 ((), (), (a1, ()), (a2, ()), ()) v12) ((), (), 0, (a1, ()), (a2, ()), ())).bind fun r17 =>
  (match r17 with
  | .inl z18 => ((chanceryref2_Scan s).bind fun v19 =>
  (loop (chancerylaw2_ScanRenames_l2 v19) ((), (), [61], 0, z18.2.2.1, z18.2.2.2.1, ())).bind fun r35 =>
  (cond (decide (0 ≤ v19.2.1))
  (some (s, ()))
  (some r35) : Option (Str × Unit)).bind fun r36 =>
  cond (decide (v12.2.1 = 0))
  (some ((decide (v12.1 = r36.1)), ()))
  (some (false, ())))
  | .inr z37 => (some z37)) : Option (Bool × Unit)) = some (true, ()) := by
  have n1 := named_eq (s := a1) (by omega)
  have n2 := named_eq (s := a2) (by omega)
  have f1 := NameForm_eq (s := a1) (by omega)
  have f2 := NameForm_eq (s := a2) (by omega)
  have i0 : idx [a1, a2] 0 = some a1 := rfl
  have i1 : idx [a1, a2] 1 = some a2 := rfl
  have w0 : IntKind.i64.wrap ((0 : Int) + 1) = 1 := rfl
  have w1 : IntKind.i64.wrap ((1 : Int) + 1) = 2 := rfl
  have c0 : (0 : Int) < 2 := by omega
  have c1 : (1 : Int) < 2 := by omega
  have r1 : decide ((parseD a1).2 = 0) = isR a1 := rfl
  have r2 : decide ((parseD a2).2 = 0) = isR a2 := rfl
  have b0 : ∀ v12, chancerylaw2_ScanRenames_l1 ((), (), (a1, ()), (a2, ()), ()) v12 ((), (), 0, (a1, ()), (a2, ()), ()) =
      cond (nameP a1 && !isR a1) (some (.inl ((), (), 1, (a1, ()), (a2, ()), ()))) (cond (decide (v12.1 = [])) (some (.inr (.inr ((decide (v12.2.1 = 9)), ())))) (some (.inr (.inr (false, ()))))) := by
    intro v12
    simp only [chancerylaw2_ScanRenames_l1, c0, decide_true, cond_true, i0, Option.bind_some, ReadRef_is, f1, r1, w0]
    cases nameP a1 <;> cases isR a1 <;> rfl
  have b1 : ∀ v12, chancerylaw2_ScanRenames_l1 ((), (), (a1, ()), (a2, ()), ()) v12 ((), (), 1, (a1, ()), (a2, ()), ()) =
      cond (nameP a2 && !isR a2) (some (.inl ((), (), 2, (a1, ()), (a2, ()), ()))) (cond (decide (v12.1 = [])) (some (.inr (.inr ((decide (v12.2.1 = 9)), ())))) (some (.inr (.inr (false, ()))))) := by
    intro v12
    simp only [chancerylaw2_ScanRenames_l1, c1, decide_true, cond_true, i1, Option.bind_some, ReadRef_is, f2, r2, w1]
    cases nameP a2 <;> cases isR a2 <;> rfl
  have b2 : ∀ v12, chancerylaw2_ScanRenames_l1 ((), (), (a1, ()), (a2, ()), ()) v12 ((), (), 2, (a1, ()), (a2, ()), ()) = some (.inr (.inl ((), (), (a1, ()), (a2, ()), ()))) := by
    intro v12
    rfl
  cases N1 : (nameP a1 && !isR a1) with
  | false =>
    have hv : fscan_RenameName s a1 a2 = some ([], 9, ()) := by
      unfold fscan_RenameName
      rw [n1, N1]
      rfl
    have hb := b0 ([], 9, ())
    rw [N1] at hb
    have hr := (Halts.done (n := 0) hb).loop (by omega)
    rw [hv, Option.bind_some, hr]
    rfl
  | true =>
  cases N2 : (nameP a2 && !isR a2) with
  | false =>
    have hv : fscan_RenameName s a1 a2 = some ([], 9, ()) := by
      unfold fscan_RenameName
      rw [n1, N1, n2, N2]
      rfl
    have hb := b0 ([], 9, ())
    rw [N1] at hb
    have hb' := b1 ([], 9, ())
    rw [N2] at hb'
    have hr := (Halts.step hb (Halts.done (n := 0) hb')).loop (by omega)
    rw [hv, Option.bind_some, hr]
    rfl
  | true =>
    have ho : nameP a1 = true := by
      rw [Bool.and_eq_true] at N1
      exact N1.1
    have hloop : ∀ v12, loop (chancerylaw2_ScanRenames_l1 ((), (), (a1, ()), (a2, ()), ()) v12) ((), (), 0, (a1, ()), (a2, ()), ()) = some (.inl ((), (), (a1, ()), (a2, ()), ())) := by
      intro v12
      have hb := b0 v12
      rw [N1] at hb
      have hb' := b1 v12
      rw [N2] at hb'
      exact (Halts.step hb (Halts.step hb' (Halts.done (n := 0) (b2 v12)))).loop (by omega)
    rcases Scan_bothG (s := s) (by omega) with ⟨a, ⟨q0, qg⟩, q1, q2⟩ | ⟨j, q1, q2⟩
    · have hg : ∀ t ∈ a, Good 400 t := fun t ht => ⟨by have := (qg t ht).1; omega, (qg t ht).2⟩
      have hl : Halts (fscan_RenameName_l1 (a, 0, 0, ()) a1 a2) (0 + a.length) ((), ((0 : Nat) : Int), U2, strBytes (accN a1 a2 a 0), ()) ((), U2, strBytes (accN a1 a2 a a.length), ()) := by
        refine Halts.along (fun i => ((), (i : Int), U2, strBytes (accN a1 a2 a i), ())) a.length (fun i hi => name_step h2 (by omega) hg ho hi) (.done ?_)
        simp only [fscan_RenameName_l1, Int.lt_irrefl, decide_false, cond_false]
      have hr := hl.loop (by omega)
      have hl2 : Halts (chancerylaw2_ScanRenames_l2 (a, -1, ())) (0 + a.length) ((), (), accN a1 a2 a 0, ((0 : Nat) : Int), (a1, ()), (a2, ()), ()) (accN a1 a2 a a.length, ()) := by
        refine Halts.along (fun i => ((), (), accN a1 a2 a i, (i : Int), (a1, ()), (a2, ()), ())) a.length (fun i hi => rname_step h2 (by omega) hg h1 hi) (.done ?_)
        simp only [chancerylaw2_ScanRenames_l2, Int.lt_irrefl, decide_false, cond_false]
      have hr2 := hl2.loop (by omega)
      have hL := accN_len (old := a1) h2 hg a.length (by omega)
      have hk : decide ((strBytes (accN a1 a2 a a.length)).length ≤ lim) = true := decide_eq_true (by
        have : (strBytes (accN a1 a2 a a.length)).length = (accN a1 a2 a a.length).length := by simp [strBytes]
        unfold lim
        omega)
      have hw : _strings_Builder__WriteByte 61 [] = some (false, (), U2, [61], ()) := rfl
      have hv : fscan_RenameName s a1 a2 = some (accN a1 a2 a a.length, 0, ()) := by
        unfold fscan_RenameName
        rw [n1, N1, n2, N2, Option.bind_some]
        dsimp only
        rw [Bool.not_true, cond_false, Option.bind_some, Option.bind_some]
        dsimp only
        rw [Bool.not_true, cond_false, q1, Option.bind_some]
        dsimp only
        rw [decide_eq_true rfl, Bool.not_true, cond_false, hw, Option.bind_some]
        dsimp only
        erw [hr]
        rw [Option.bind_some]
        dsimp only
        rw [hk, chk_t, Option.bind_some]
        exact congrArg (fun z => some (z, 0, ())) (bytesStr_strBytes _)
      have c : ¬(0 : Int) ≤ -1 := by omega
      rw [hv, Option.bind_some, hloop, Option.bind_some]
      dsimp only
      rw [q2, Option.bind_some]
      erw [hr2]
      rw [Option.bind_some]
      dsimp only
      rw [decide_eq_false c, cond_false, Option.bind_some, decide_eq_true rfl, cond_true, decide_eq_true rfl]
    · have hv : fscan_RenameName s a1 a2 = some (s, 0, ()) := by
        unfold fscan_RenameName
        rw [n1, N1, n2, N2, q1]
        rfl
      have c : (0 : Int) ≤ (j : Int) := by omega
      have hl2 : Halts (chancerylaw2_ScanRenames_l2 ([], (j : Int), ())) 0 ((), (), [61], 0, (a1, ()), (a2, ()), ()) ([61], ()) := .done rfl
      have hr2 := hl2.loop (by omega)
      rw [hv, Option.bind_some, hloop, Option.bind_some]
      dsimp only
      rw [q2, Option.bind_some]
      dsimp only
      rw [hr2, Option.bind_some, decide_eq_true c, cond_true, Option.bind_some, decide_eq_true rfl, cond_true, decide_eq_true rfl]

theorem scanRenames_law {x a1 a2 : Str} (h : x.length ≤ 2000000) (h1 : a1.length ≤ 2000000) (h2 : a2.length ≤ 2000000) : chancerylaw2_ScanRenames x a1 a2 = some (true, ()) := by
  obtain ⟨s, hs, hl⟩ := long_eq h
  have hH := names_half hl h1 h2
  unfold chancerylaw2_ScanRenames
  rw [scans_eq, Option.bind_some]
  dsimp only
  rw [Bool.not_true, cond_false, hs, Option.bind_some]
  dsimp only
  rw [rname_eq]
  by_cases e1 : a1 = []
  · have hR : fscan_Rename s a1 a2 = some ([], 1, ()) := by
      unfold fscan_Rename
      rw [decide_eq_true e1]
      rfl
    rw [hR]
    simp only [Option.bind_some, decide_eq_true e1, cond_true, decide_true, decide_false, Bool.not_true, Bool.not_false, cond_false, Int.reduceEq]
    exact hH
  by_cases e2 : a2 = []
  · have hR : fscan_Rename s a1 a2 = some ([], 1, ()) := by
      unfold fscan_Rename
      rw [decide_eq_false e1, decide_eq_true e2]
      rfl
    rw [hR]
    simp only [Option.bind_some, decide_eq_false e1, decide_eq_true e2, cond_true, decide_true, decide_false, Bool.not_true, Bool.not_false, cond_false, Int.reduceEq]
    exact hH
  by_cases e3 : nameErr a2 = 0
  · obtain ⟨t, q1, q2⟩ := rename_both (adj := adjN a1 a2) (o0 := a1) (o1 := a2) (adjN_valid e1 e3) adjN_p adjN_r hl
    have hR : fscan_Rename s a1 a2 = some (t, 0, ()) := by
      unfold fscan_Rename
      rw [decide_eq_false e1, decide_eq_false e2, cond_false, Option.bind_some]
      dsimp only
      rw [cond_false, name_err, e3, Option.bind_some]
      dsimp only
      rw [decide_eq_true rfl, Bool.not_true, cond_false, q1]
      rfl
    rw [hR]
    simp only [Option.bind_some, decide_eq_false e1, decide_eq_false e2, e3, cond_true, decide_true, Bool.not_true, cond_false, q2]
    exact hH
  · have hR : fscan_Rename s a1 a2 = some ([], nameErr a2, ()) := by
      unfold fscan_Rename
      rw [decide_eq_false e1, decide_eq_false e2, cond_false, Option.bind_some]
      dsimp only
      rw [cond_false, name_err, Option.bind_some]
      dsimp only
      rw [decide_eq_false e3]
      rfl
    rw [hR]
    simp only [Option.bind_some, decide_eq_false e1, decide_eq_false e2, decide_eq_false e3, cond_true, decide_true, Bool.not_true, Bool.not_false, cond_false]
    exact hH
end Go.Proofs.YtfbnnjmhlkafiaaGreatDoor
