import Derived.Test.YtfbnnjmhlkafiaaGreatDoorLawF
namespace Go.Proofs.YtfbnnjmhlkafiaaGreatDoor
open Go Go.Fe

abbrev Tok := Int × (Str × Unit)
/-! ### Scanning -/
theorem scan_both {s : Str} (hs : s.length ≤ 1000000) : ∀ f i (acc : List Tok), s.length ≤ i + f → acc.length ≤ i → i ≤ s.length →
    (∃ a : List Tok, a.length ≤ s.length ∧ Halts (fscan_Scan_l1 s) f ((), (i : Int), acc, ()) (.inl ((), a, ())) ∧ Halts (chanceryref2_Scan_l1 s) f ((), (i : Int), acc, ()) (.inl ((), a, ()))) ∨
    ∃ j : Nat, Halts (fscan_Scan_l1 s) f ((), (i : Int), acc, ()) (.inr ((), (j : Int), 10, ())) ∧ Halts (chanceryref2_Scan_l1 s) f ((), (i : Int), acc, ()) (.inr ((), (j : Int), ()))
  | 0, i, acc, h1, h2, h3 => by
    have c : ¬(i : Int) < (s.length : Int) := by omega
    refine .inl ⟨acc, by omega, .done ?_, .done ?_⟩
    · simp only [fscan_Scan_l1, c, decide_false, cond_false]
    · simp only [chanceryref2_Scan_l1, c, decide_false, cond_false]
  | f + 1, i, acc, h1, h2, h3 => by
    by_cases h : i < s.length
    · have c : (i : Int) < (s.length : Int) := by omega
      have hd : (s.drop i).length ≤ 1000000 := by simp; omega
      have h0 : 0 < (s.drop i).length := by simp; omega
      have hk := tokP_le h0
      have hn := next_eq hd h0
      have ht := Token_eq hd h0
      generalize tokP (s.drop i) = k at *
      rw [List.length_drop] at hk
      by_cases hz : k.2 = 0
      · have z : ((k.2 : Nat) : Int) = 0 := by omega
        refine .inr ⟨i, .done ?_, .done ?_⟩
        · simp only [fscan_Scan_l1, c, decide_true, cond_true, cut_from h3, Option.bind_some, hn, z]
        · simp only [chanceryref2_Scan_l1, c, decide_true, cond_true, cut_from h3, Option.bind_some, ht, z]
      · have z : ¬((k.2 : Nat) : Int) = 0 := by omega
        have w : IntKind.i64.wrap ((i : Int) + (k.2 : Int)) = ((i + k.2 : Nat) : Int) := wadd (by omega)
        have hc : cut s (i : Int) ((i + k.2 : Nat) : Int) = some ((s.take (i + k.2)).drop i) := cut_nat (by omega) (by omega)
        have ha : cat acc [((k.1 : Int), (s.take (i + k.2)).drop i, ())] = some (acc ++ [((k.1 : Int), (s.take (i + k.2)).drop i, ())]) := cat_ok (by simp; omega)
        have f1 : fscan_Scan_l1 s ((), (i : Int), acc, ()) = some (.inl ((), ((i + k.2 : Nat) : Int), acc ++ [((k.1 : Int), (s.take (i + k.2)).drop i, ())], ())) := by
          simp only [fscan_Scan_l1, c, decide_true, cond_true, cut_from h3, Option.bind_some, hn, z, decide_false, cond_false, w, hc, ha]
        have f2 : chanceryref2_Scan_l1 s ((), (i : Int), acc, ()) = some (.inl ((), ((i + k.2 : Nat) : Int), acc ++ [((k.1 : Int), (s.take (i + k.2)).drop i, ())], ())) := by
          simp only [chanceryref2_Scan_l1, c, decide_true, cond_true, cut_from h3, Option.bind_some, ht, z, decide_false, cond_false, w, hc, ha]
        rcases scan_both hs f (i + k.2) (acc ++ [((k.1 : Int), (s.take (i + k.2)).drop i, ())]) (by omega) (by simp; omega) (by omega) with ⟨a, q1, q2, q3⟩ | ⟨j, q2, q3⟩
        · exact .inl ⟨a, q1, .step f1 q2, .step f2 q3⟩
        · exact .inr ⟨j, .step f1 q2, .step f2 q3⟩
    · have c : ¬(i : Int) < (s.length : Int) := by omega
      refine .inl ⟨acc, by omega, .done ?_, .done ?_⟩
      · simp only [fscan_Scan_l1, c, decide_false, cond_false]
      · simp only [chanceryref2_Scan_l1, c, decide_false, cond_false]

/-- The program's scan and the reference's come to the same. -/
theorem Scan_both {s : Str} (hs : s.length ≤ 1000000) :
    (∃ a : List Tok, a.length ≤ s.length ∧ fscan_Scan s = some (a, 0, 0, ()) ∧ chanceryref2_Scan s = some (a, -1, ())) ∨
    ∃ j : Nat, fscan_Scan s = some ([], (j : Int), 10, ()) ∧ chanceryref2_Scan s = some ([], (j : Int), ()) := by
  unfold fscan_Scan chanceryref2_Scan
  rw [Has_eq, HasPrefix_eq, Option.bind_some, Option.bind_some]
  dsimp only
  cases h : Lib.hasPrefix s [61] with
  | false => exact .inr ⟨0, rfl, rfl⟩
  | true =>
    have h1 : 1 ≤ s.length := pre_len (p := [61]) h
    rw [Bool.not_true, cond_false, cond_false]
    rcases scan_both hs s.length 1 [] (by omega) (by simp) h1 with ⟨a, q1, q2, q3⟩ | ⟨j, q2, q3⟩
    · refine .inl ⟨a, q1, ?_, ?_⟩
      · have := q2.loop (by omega)
        erw [this]
        rfl
      · have := q3.loop (by omega)
        erw [this]
        rfl
    · refine .inr ⟨j, ?_, ?_⟩
      · have := q2.loop (by omega)
        erw [this]
        rfl
      · have := q3.loop (by omega)
        erw [this]
        rfl

/-! ### References in a formula -/
theorem refs_same {v1 : List Tok × (Int × (Int × Unit))} {v4 : List Tok × (Int × Unit)} (h : v1.1 = v4.1) : chancerylaw2_ScanTokensMatch_l1 v4 = fscan_Refs_l1 v1 := by
  funext p
  simp only [fscan_Refs_l1, chancerylaw2_ScanTokensMatch_l1, Parse_is, ReadRef_is, h, Option.bind_some]
theorem refs_loop {v1 : List Tok × (Int × (Int × Unit))} (hv : v1.1.length ≤ 1000000) : ∀ f i (acc : List RefD), v1.1.length ≤ i + f → acc.length ≤ i → i ≤ v1.1.length →
    ∃ l : List RefD, l.length ≤ v1.1.length ∧ Halts (fscan_Refs_l1 v1) f ((), (i : Int), acc, ()) ((), l, ())
  | 0, i, acc, h1, h2, h3 => by
    have c : ¬(i : Int) < (v1.1.length : Int) := by omega
    refine ⟨acc, by omega, .done ?_⟩
    simp only [fscan_Refs_l1, c, decide_false, cond_false]
  | f + 1, i, acc, h1, h2, h3 => by
    by_cases h : i < v1.1.length
    · have c : (i : Int) < (v1.1.length : Int) := by omega
      have w := wsucc (show i < 9223372036854775807 by omega)
      by_cases h4 : (v1.1[i]).1 = 4
      · have ha : cat acc [(parseD (v1.1[i]).2.1).1] = some (acc ++ [(parseD (v1.1[i]).2.1).1]) := cat_ok (by simp; omega)
        obtain ⟨l, q1, q2⟩ := refs_loop hv f (i + 1) (acc ++ [(parseD (v1.1[i]).2.1).1]) (by omega) (by simp; omega) (by omega)
        refine ⟨l, q1, .step ?_ q2⟩
        simp only [fscan_Refs_l1, c, decide_true, cond_true, idx_lt h, Option.bind_some, h4, Parse_is, ha, w]
      · obtain ⟨l, q1, q2⟩ := refs_loop hv f (i + 1) acc (by omega) (by omega) (by omega)
        refine ⟨l, q1, .step ?_ q2⟩
        simp only [fscan_Refs_l1, c, decide_true, cond_true, idx_lt h, Option.bind_some, h4, decide_false, cond_false, w]
    · have c : ¬(i : Int) < (v1.1.length : Int) := by omega
      refine ⟨acc, by omega, .done ?_⟩
      simp only [fscan_Refs_l1, c, decide_false, cond_false]

/-! ### Lists are like themselves -/
theorem beq_self : ∀ (t : Ty) (x : t.den), t.beq x x = true
  | .int _, _ => decide_eq_true rfl
  | .bool, x => beq_self_eq_true x
  | .str, _ => decide_eq_true rfl
  | .pair a b, x => by
    show (a.beq x.1 x.1 && b.beq x.2 x.2) = true
    rw [beq_self a x.1, beq_self b x.2]
    rfl
  | .unit, _ => rfl
  | .sl _, _ => rfl
  | .arr _ _, _ => rfl
  | .err, _ => rfl
theorem toks_self {a : List Tok} (h : a.length ≤ 1000000) : api_ScanToken_ a a = some (true, ()) := by
  have hw := fun i (h : i < a.length) => wsucc (show i < 9223372036854775807 by omega)
  have e : Halts (api_ScanToken__l1 a a) (0 + a.length) (((0 : Nat) : Int), ()) (.inl ()) := by
    refine Halts.along (fun i => ((i : Int), ())) a.length ?_ (.done ?_)
    · intro i hi
      have c : (i : Int) < (a.length : Int) := by omega
      simp only [api_ScanToken__l1, c, decide_true, cond_true, idx_lt hi, Option.bind_some, beq_self, Bool.not_true, cond_false, hw i hi]
    · simp only [api_ScanToken__l1, Int.lt_irrefl, decide_false, cond_false]
  have e' := e.loop (by omega)
  unfold api_ScanToken_
  rw [decide_eq_true rfl, Bool.not_true, cond_false]
  erw [e']
  rfl
theorem refs_self {a : List RefD} (h : a.length ≤ 1000000) : api_Ref_ a a = some (true, ()) := by
  have hw := fun i (h : i < a.length) => wsucc (show i < 9223372036854775807 by omega)
  have e : Halts (api_Ref__l1 a a) (0 + a.length) (((0 : Nat) : Int), ()) (.inl ()) := by
    refine Halts.along (fun i => ((i : Int), ())) a.length ?_ (.done ?_)
    · intro i hi
      have c : (i : Int) < (a.length : Int) := by omega
      simp only [api_Ref__l1, c, decide_true, cond_true, idx_lt hi, Option.bind_some, beq_self, Bool.not_true, cond_false, hw i hi]
    · simp only [api_Ref__l1, Int.lt_irrefl, decide_false, cond_false]
  have e' := e.loop (by omega)
  unfold api_Ref_
  rw [decide_eq_true rfl, Bool.not_true, cond_false]
  erw [e']
  rfl

/-! ### The law -/
theorem scans_eq : chancerylaw2_scans = some (true, ()) := by kernel_rfl
theorem long_eq {x : Str} (h : x.length ≤ 2000000) : ∃ s : Str, chancerylaw2_long x = some (s, ()) ∧ s.length ≤ 400 := by
  refine ⟨x.take (min x.length 400), ?_, by simp; omega⟩
  have e : mn (x.length : Int) 400 = ((min x.length 400 : Nat) : Int) := by unfold mn; split <;> omega
  rw [chancerylaw2_long, e, cut_to (by omega), Option.bind_some]

theorem scanTokens_law {x : Str} (h : x.length ≤ 2000000) : chancerylaw2_ScanTokensMatch x = some (true, ()) := by
  obtain ⟨s, hs, hl⟩ := long_eq h
  unfold chancerylaw2_ScanTokensMatch
  rw [scans_eq, Option.bind_some]
  dsimp only
  rw [Bool.not_true, cond_false, hs, Option.bind_some]
  dsimp only
  rcases Scan_both (s := s) (by omega) with ⟨a, q0, q1, q2⟩ | ⟨j, q1, q2⟩
  · obtain ⟨l, r0, r1⟩ := refs_loop (v1 := (a, 0, 0, ())) (by dsimp only; omega) a.length 0 [] (by dsimp only; omega) (by simp) (by omega)
    have hr := r1.loop (by omega)
    have hsm := refs_same (v1 := (a, 0, 0, ())) (v4 := (a, -1, ())) rfl
    have hR : fscan_Refs s = some (l, ()) := by
      unfold fscan_Refs
      rw [q1, Option.bind_some]
      erw [hr]
      rfl
    rw [q1, q2, Option.bind_some, Option.bind_some]
    dsimp only
    rw [hsm]
    have c : ¬(0 : Int) ≤ -1 := by omega
    rw [decide_eq_false c, cond_false]
    erw [hr]
    rw [Option.bind_some, decide_eq_true rfl, cond_true, cond_true, toks_self (by omega), Option.bind_some]
    dsimp only
    rw [cond_true, hR, Option.bind_some]
    dsimp only
    dsimp only at r0
    rw [refs_self (by omega)]
    rfl
  · have hR : fscan_Refs s = some ([], ()) := by
      have r1 : Halts (fscan_Refs_l1 ([], (j : Int), 10, ())) 0 ((), 0, [], ()) ((), [], ()) := .done (by
        simp only [fscan_Refs_l1]
        rfl)
      have hr := r1.loop (by omega)
      unfold fscan_Refs
      rw [q1, Option.bind_some, hr]
      rfl
    have c : (0 : Int) ≤ (j : Int) := by omega
    rw [q1, q2, Option.bind_some, Option.bind_some]
    dsimp only
    rw [decide_eq_true c, cond_true, hR, decide_eq_true rfl, cond_true]
    rfl
end Go.Proofs.YtfbnnjmhlkafiaaGreatDoor
