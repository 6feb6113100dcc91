import Derived.Test.YtjhcnnhkabhigaaGreatDoorRLawF
namespace Go.Proofs.YtjhcnnhkabhigaaGreatDoor
open Go Go.Fe

abbrev Tok := Int × (Str × Unit)
/-! ### Scanning -/
theorem scan_both {s : Str} (hs : s.length ≤ 1000000) : ∀ f i (acc : List Tok), s.length ≤ i + f → acc.length ≤ i → i ≤ s.length →
    (∃ a : List Tok, a.length ≤ s.length ∧ Halts (fscan_Scan_l1 s) f ((), (i : Int), acc, ()) (.inl ((), a, ())) ∧ Halts (chanceryref2_Scan_l1 s) f ((), (i : Int), acc, ()) (.inl ((), a, ()))) ∨
    ∃ j : Nat, Halts (fscan_Scan_l1 s) f ((), (i : Int), acc, ()) (.inr ((), (j : Int), 10, ())) ∧ Halts (chanceryref2_Scan_l1 s) f ((), (i : Int), acc, ()) (.inr ((), (j : Int), ()))
  | 0, i, acc, h1, h2, h3 => by
    have c : ¬(i : Int) < (s.length : Int) := by omega
    refine .inl ⟨acc, by omega, .done ?_, .done ?_⟩
    · simp only [fscan_Scan_l1, c, decide_false, cond_false]
    · simp only [chanceryref2_Scan_l1, c, decide_false, cond_false]
  | f + 1, i, acc, h1, h2, h3 => by
    by_cases h : i < s.length
    · have c : (i : Int) < (s.length : Int) := by omega
      have hd : (s.drop i).length ≤ 1000000 := by simp; omega
      have h0 : 0 < (s.drop i).length := by simp; omega
      have hk := tokP_le h0
      have hn := next_eq hd h0
      have ht := Token_eq hd h0
      generalize tokP (s.drop i) = k at *
      rw [List.length_drop] at hk
      by_cases hz : k.2 = 0
      · have z : ((k.2 : Nat) : Int) = 0 := by omega
        refine .inr ⟨i, .done ?_, .done ?_⟩
        · simp only [fscan_Scan_l1, c, decide_true, cond_true, cut_from h3, Option.bind_some, hn, z]
        · simp only [chanceryref2_Scan_l1, c, decide_true, cond_true, cut_from h3, Option.bind_some, ht, z]
      · have z : ¬((k.2 : Nat) : Int) = 0 := by omega
        have w : IntKind.i64.wrap ((i : Int) + (k.2 : Int)) = ((i + k.2 : Nat) : Int) := wadd (by omega)
        have hc : cut s (i : Int) ((i + k.2 : Nat) : Int) = some ((s.take (i + k.2)).drop i) := cut_nat (by omega) (by omega)
        have ha : cat acc [((k.1 : Int), (s.take (i + k.2)).drop i, ())] = some (acc ++ [((k.1 : Int), (s.take (i + k.2)).drop i, ())]) := cat_ok (by simp; omega)
        have f1 : fscan_Scan_l1 s ((), (i : Int), acc, ()) = some (.inl ((), ((i + k.2 : Nat) : Int), acc ++ [((k.1 : Int), (s.take (i + k.2)).drop i, ())], ())) := by
          simp only [fscan_Scan_l1, c, decide_true, cond_true, cut_from h3, Option.bind_some, hn, z, decide_false, cond_false, w, hc, ha]
        have f2 : chanceryref2_Scan_l1 s ((), (i : Int), acc, ()) = some (.inl ((), ((i + k.2 : Nat) : Int), acc ++ [((k.1 : Int), (s.take (i + k.2)).drop i, ())], ())) := by
          simp only [chanceryref2_Scan_l1, c, decide_true, cond_true, cut_from h3, Option.bind_some, ht, z, decide_false, cond_false, w, hc, ha]
        rcases scan_both hs f (i + k.2) (acc ++ [((k.1 : Int), (s.take (i + k.2)).drop i, ())]) (by omega) (by simp; omega) (by omega) with ⟨a, q1, q2, q3⟩ | ⟨j, q2, q3⟩
        · exact .inl ⟨a, q1, .step f1 q2, .step f2 q3⟩
        · exact .inr ⟨j, .step f1 q2, .step f2 q3⟩
    · have c : ¬(i : Int) < (s.length : Int) := by omega
      refine .inl ⟨acc, by omega, .done ?_, .done ?_⟩
      · simp only [fscan_Scan_l1, c, decide_false, cond_false]
      · simp only [chanceryref2_Scan_l1, c, decide_false, cond_false]

/-- The program's scan and the reference's come to the same. -/
theorem Scan_both {s : Str} (hs : s.length ≤ 1000000) :
    (∃ a : List Tok, a.length ≤ s.length ∧ fscan_Scan s = some (a, 0, 0, ()) ∧ chanceryref2_Scan s = some (a, -1, ())) ∨
    ∃ j : Nat, fscan_Scan s = some ([], (j : Int), 10, ()) ∧ chanceryref2_Scan s = some ([], (j : Int), ()) := by
  unfold fscan_Scan chanceryref2_Scan
  rw [Has_eq, HasPrefix_eq, Option.bind_some, Option.bind_some]
  dsimp only
  cases h : Lib.hasPrefix s [61] with
  | false => exact .inr ⟨0, rfl, rfl⟩
  | true =>
    have h1 : 1 ≤ s.length := pre_len (p := [61]) h
    rw [Bool.not_true, cond_false, cond_false]
    rcases scan_both hs s.length 1 [] (by omega) (by simp) h1 with ⟨a, q1, q2, q3⟩ | ⟨j, q2, q3⟩
    · refine .inl ⟨a, q1, ?_, ?_⟩
      · have := q2.loop (by omega)
        erw [this]
        rfl
      · have := q3.loop (by omega)
        erw [this]
        rfl
    · refine .inr ⟨j, ?_, ?_⟩
      · have := q2.loop (by omega)
        erw [this]
        rfl
      · have := q3.loop (by omega)
        erw [this]
        rfl

/-! ### References in a formula -/
/-! ### Lists are like themselves -/
theorem beq_self : ∀ (t : Ty) (x : t.den), t.beq x x = true
  | .int _, _ => decide_eq_true rfl
  | .bool, x => beq_self_eq_true x
  | .str, _ => decide_eq_true rfl
  | .pair a b, x => by
    show (a.beq x.1 x.1 && b.beq x.2 x.2) = true
    rw [beq_self a x.1, beq_self b x.2]
    rfl
  | .unit, _ => rfl
  | .sl _, _ => rfl
  | .arr _ _, _ => rfl
  | .err, _ => rfl
/-! ### The law -/
theorem scans_eq : chancerylaw2_scans = some (true, ()) := by kernel_rfl
theorem long_eq {x : Str} (h : x.length ≤ 2000000) : ∃ s : Str, chancerylaw2_long x = some (s, ()) ∧ s.length ≤ 400 := by
  refine ⟨x.take (min x.length 400), ?_, by simp; omega⟩
  have e : mn (x.length : Int) 400 = ((min x.length 400 : Nat) : Int) := by unfold mn; split <;> omega
  rw [chancerylaw2_long, e, cut_to (by omega), Option.bind_some]

end Go.Proofs.YtjhcnnhkabhigaaGreatDoor
