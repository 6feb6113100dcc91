import Derived.Test.YtfbnnjmhlkafiaaGreatDoorLawM
namespace Go.Proofs.YtfbnnjmhlkafiaaGreatDoor
open Go Go.Fe

theorem newN_five {old new : Str} {t : Tok} (h5 : t.1 = 5) : newN old new t = if lowS t.2.1 = lowS old then new ++ [] else t.2.1 := by
  have h7 : ¬t.1 = 7 := by omega
  unfold newN nlen
  rw [if_neg h7, List.take_length, List.drop_length]
  by_cases g : lowS t.2.1 = lowS old
  · rw [if_pos ⟨.inl h5, g⟩, if_pos g]
  · rw [if_neg (fun x => g x.2), if_neg g]
theorem newN_seven {old new : Str} {t : Tok} {k : Nat} (h7 : t.1 = 7) (hk : Lib.indexByte t.2.1 91 = (k : Int)) : newN old new t = if lowS (t.2.1.take k) = lowS old then new ++ t.2.1.drop k else t.2.1 := by
  unfold newN nlen
  rw [if_pos h7, hk, Int.toNat_natCast]
  by_cases g : lowS (t.2.1.take k) = lowS old
  · rw [if_pos ⟨.inr h7, g⟩, if_pos g]
  · rw [if_neg (fun x => g x.2), if_neg g]
theorem newN_other {old new : Str} {t : Tok} (h5 : ¬t.1 = 5) (h7 : ¬t.1 = 7) : newN old new t = t.2.1 := by
  unfold newN
  rw [if_neg (fun x => x.1.elim h5 h7)]
theorem sIndexByte_is (s : Str) : sIndexByte (no_index (s, 91, ())) = some (Lib.indexByte s 91, ()) := rfl

section
variable {old new : Str} (hn : new.length ≤ 2000000) {a : List Tok} (hl : a.length ≤ 400) (hg : ∀ t ∈ a, Good 400 t)
include hn hl hg
theorem name_step (ho : nameP old = true) {x : Int × (Int × Unit)} {i : Nat} (hi : i < a.length) :
    fscan_RenameName_l1 (a, x) old new ((), (i : Int), U2, strBytes (accN old new a i), ()) = some (.inl ((), ((i + 1 : Nat) : Int), U2, strBytes (accN old new a (i + 1)), ())) := by
  have c : (i : Int) < (a.length : Int) := by omega
  have w := wsucc (show i < 9223372036854775807 by omega)
  have hG := hg a[i] (List.getElem_mem _)
  have hL := accN_len (old := old) hn hg i (by omega)
  have hN := newN_len (old := old) (new := new) hG
  have ht := hG.1
  rw [accN_succ old new hi]
  by_cases h7 : (a[i]).1 = 7
  · obtain ⟨k, k1, k2, k3⟩ := hG.2.2.2 h7
    have h5 : ¬(7 : Int) = 5 := by decide
    have hlen : ((a[i]).2.1.take k).length = k := by rw [List.length_take, Nat.min_eq_left k2]
    have hE := EqualFold_eq (s := (a[i]).2.1.take k) (t := old) (by rw [hlen]; omega) k3 ho
    rw [newN_seven h7 k1] at hN ⊢
    by_cases g : lowS ((a[i]).2.1.take k) = lowS old
    · rw [if_pos g] at hN ⊢
      rw [decide_eq_true g] at hE
      have hcat : cat new ((a[i]).2.1.drop k) = some (new ++ (a[i]).2.1.drop k) := cat_ok (by rw [List.length_drop]; omega)
      simp only [fscan_RenameName_l1, c, decide_true, cond_true, idx_lt hi, Option.bind_some, h7, sIndexByte_is, k1, cut_to k2, h5, decide_false, cond_false, hE, hlen, cut_from k2, hcat, writeN (acc := accN old new a i) (t := new ++ (a[i]).2.1.drop k) (by omega), w]
    · rw [if_neg g] at hN ⊢
      rw [decide_eq_false g] at hE
      simp only [fscan_RenameName_l1, c, decide_true, cond_true, idx_lt hi, Option.bind_some, h7, sIndexByte_is, k1, cut_to k2, h5, decide_false, cond_false, hE, writeN (acc := accN old new a i) (t := (a[i]).2.1) (by omega), w]
  · by_cases h5 : (a[i]).1 = 5
    · have h57 : ¬(5 : Int) = 7 := by decide
      have hE := EqualFold_eq (s := (a[i]).2.1) (t := old) (by omega) (hG.2.2.1 h5) ho
      rw [newN_five h5] at hN ⊢
      by_cases g : lowS (a[i]).2.1 = lowS old
      · rw [if_pos g] at hN ⊢
        rw [decide_eq_true g] at hE
        have hcut : cut (a[i]).2.1 ((a[i]).2.1.length : Int) ((a[i]).2.1.length : Int) = some [] := by rw [cut_from (Nat.le_refl _), List.drop_length]
        have hcat : cat new ([] : Str) = some (new ++ []) := cat_ok (by rw [List.length_nil]; omega)
        simp only [fscan_RenameName_l1, c, decide_true, cond_true, idx_lt hi, Option.bind_some, h5, h57, decide_false, cond_false, hE, hcut, hcat, writeN (acc := accN old new a i) (t := new ++ []) (by omega), w]
      · rw [if_neg g] at hN ⊢
        rw [decide_eq_false g] at hE
        simp only [fscan_RenameName_l1, c, decide_true, cond_true, idx_lt hi, Option.bind_some, h5, h57, decide_false, cond_false, hE, writeN (acc := accN old new a i) (t := (a[i]).2.1) (by omega), w]
    · rw [newN_other h5 h7] at hN ⊢
      simp only [fscan_RenameName_l1, c, decide_true, cond_true, idx_lt hi, Option.bind_some, h5, h7, decide_false, cond_false, writeN (acc := accN old new a i) (t := (a[i]).2.1) (by omega), w]
theorem rname_step (ho : old.length ≤ 2000000) {x : Int × Unit} {i : Nat} (hi : i < a.length) :
    chancerylaw2_ScanRenames_l2 (a, x) ((), (), accN old new a i, (i : Int), (old, ()), (new, ()), ()) = some (.inl ((), (), accN old new a (i + 1), ((i + 1 : Nat) : Int), (old, ()), (new, ()), ())) := by
  have c : (i : Int) < (a.length : Int) := by omega
  have w := wsucc (show i < 9223372036854775807 by omega)
  have hG := hg a[i] (List.getElem_mem _)
  have hL := accN_len (old := old) hn hg i (by omega)
  have hN := newN_len (old := old) (new := new) hG
  have ht := hG.1
  have hLo := Lower_eq (s := old) (by omega)
  rw [accN_succ old new hi]
  by_cases h7 : (a[i]).1 = 7
  · obtain ⟨k, k1, k2, k3⟩ := hG.2.2.2 h7
    have h5 : ¬(7 : Int) = 5 := by decide
    have hI : chanceryref2_Index (a[i]).2.1 91 = some ((k : Int), ()) := by
      have := Index_eq (s := (a[i]).2.1) (by omega) 91
      rw [k1] at this
      exact this
    have hLn := Lower_eq (s := (a[i]).2.1.take k) (by rw [List.length_take]; omega)
    rw [newN_seven h7 k1] at hN ⊢
    by_cases g : lowS ((a[i]).2.1.take k) = lowS old
    · rw [if_pos g] at hN ⊢
      have hcat : cat new ((a[i]).2.1.drop k) = some (new ++ (a[i]).2.1.drop k) := cat_ok (by rw [List.length_drop]; omega)
      simp only [chancerylaw2_ScanRenames_l2, c, decide_true, cond_true, idx_lt hi, Option.bind_some, h7, hI, cut_to k2, h5, decide_false, cond_false, hLn, hLo, g, cut_from k2, hcat, cat_ok (xs := accN old new a i) (ys := new ++ (a[i]).2.1.drop k) (by omega), w]
    · rw [if_neg g] at hN ⊢
      simp only [chancerylaw2_ScanRenames_l2, c, decide_true, cond_true, idx_lt hi, Option.bind_some, h7, hI, cut_to k2, h5, decide_false, cond_false, hLn, hLo, g, cat_ok (xs := accN old new a i) (ys := (a[i]).2.1) (by omega), w]
  · by_cases h5 : (a[i]).1 = 5
    · have h57 : ¬(5 : Int) = 7 := by decide
      have hLn := Lower_eq (s := (a[i]).2.1) (by omega)
      have hct : cut (a[i]).2.1 0 ((a[i]).2.1.length : Int) = some (a[i]).2.1 := by rw [cut_to (Nat.le_refl _), List.take_length]
      rw [newN_five h5] at hN ⊢
      by_cases g : lowS (a[i]).2.1 = lowS old
      · rw [if_pos g] at hN ⊢
        have hcut : cut (a[i]).2.1 ((a[i]).2.1.length : Int) ((a[i]).2.1.length : Int) = some [] := by rw [cut_from (Nat.le_refl _), List.drop_length]
        have hcat : cat new ([] : Str) = some (new ++ []) := cat_ok (by rw [List.length_nil]; omega)
        simp only [chancerylaw2_ScanRenames_l2, c, decide_true, cond_true, idx_lt hi, Option.bind_some, h5, h57, decide_false, cond_false, hct, hLn, hLo, g, hcut, hcat, cat_ok (xs := accN old new a i) (ys := new ++ []) (by omega), w]
      · rw [if_neg g] at hN ⊢
        simp only [chancerylaw2_ScanRenames_l2, c, decide_true, cond_true, idx_lt hi, Option.bind_some, h5, h57, decide_false, cond_false, hct, hLn, hLo, g, cat_ok (xs := accN old new a i) (ys := (a[i]).2.1) (by omega), w]
    · rw [newN_other h5 h7] at hN ⊢
      simp only [chancerylaw2_ScanRenames_l2, c, decide_true, cond_true, idx_lt hi, Option.bind_some, h5, h7, decide_false, cond_false, cat_ok (xs := accN old new a i) (ys := (a[i]).2.1) (by omega), w]
end
end Go.Proofs.YtfbnnjmhlkafiaaGreatDoor

namespace Go.Proofs.YtfbnnjmhlkafiaaGreatDoor
open Go Go.Fe

theorem name_err (s : Str) : cellref_Check (s, 0, 0, 0, 0, 0, false, false, false, false, ()) = some (nameErr s, ()) := by
  rw [Check_eq]
  unfold refErr
  rw [if_neg (by omega)]
  by_cases h : nameErr s = 0
  · rw [if_neg (by simp [h]), h]
    rfl
  · rw [if_pos h]

/-- The second half of the law: names. -/
theorem names_half {s a1 a2 : Str} (hs : s.length ≤ 400) (h1 : a1.length ≤ 2000000) (h2 : a2.length ≤ 2000000) :
    ((fscan_RenameName s a1 a2).bind fun v12 =>
  (loop (chancerylaw2_ScanRenames_l1 ((), (), (a1, ()), (a2, ()), ()) v12) ((), (), 0, (a1, ()), (a2, ()), ())).bind fun r17 =>
  (match r17 with
  | .inl z18 => ((chanceryref2_Scan s).bind fun v19 =>
  (loop (chancerylaw2_ScanRenames_l2 v19) ((), (), [61], 0, z18.2.2.1, z18.2.2.2.1, ())).bind fun r35 =>
  (cond (decide (0 ≤ v19.2.1))
  (some (s, ()))
  (some r35) : Option (Str × Unit)).bind fun r36 =>
  cond (decide (v12.2.1 = 0))
  (some ((decide (v12.1 = r36.1)), ()))
  (some (false, ())))
  | .inr z37 => (some z37)) : Option (Bool × Unit)) = some (true, ()) := by
  have n1 := named_eq (s := a1) (by omega)
  have n2 := named_eq (s := a2) (by omega)
  have f1 := NameForm_eq (s := a1) (by omega)
  have f2 := NameForm_eq (s := a2) (by omega)
  have i0 : idx [a1, a2] 0 = some a1 := rfl
  have i1 : idx [a1, a2] 1 = some a2 := rfl
  have w0 : IntKind.i64.wrap ((0 : Int) + 1) = 1 := rfl
  have w1 : IntKind.i64.wrap ((1 : Int) + 1) = 2 := rfl
  have c0 : (0 : Int) < 2 := by omega
  have c1 : (1 : Int) < 2 := by omega
  have r1 : decide ((parseD a1).2 = 0) = isR a1 := rfl
  have r2 : decide ((parseD a2).2 = 0) = isR a2 := rfl
  have b0 : ∀ v12, chancerylaw2_ScanRenames_l1 ((), (), (a1, ()), (a2, ()), ()) v12 ((), (), 0, (a1, ()), (a2, ()), ()) =
      cond (nameP a1 && !isR a1) (some (.inl ((), (), 1, (a1, ()), (a2, ()), ()))) (cond (decide (v12.1 = [])) (some (.inr (.inr ((decide (v12.2.1 = 9)), ())))) (some (.inr (.inr (false, ()))))) := by
    intro v12
    simp only [chancerylaw2_ScanRenames_l1, c0, decide_true, cond_true, i0, Option.bind_some, ReadRef_is, f1, r1, w0]
    cases nameP a1 <;> cases isR a1 <;> rfl
  have b1 : ∀ v12, chancerylaw2_ScanRenames_l1 ((), (), (a1, ()), (a2, ()), ()) v12 ((), (), 1, (a1, ()), (a2, ()), ()) =
      cond (nameP a2 && !isR a2) (some (.inl ((), (), 2, (a1, ()), (a2, ()), ()))) (cond (decide (v12.1 = [])) (some (.inr (.inr ((decide (v12.2.1 = 9)), ())))) (some (.inr (.inr (false, ()))))) := by
    intro v12
    simp only [chancerylaw2_ScanRenames_l1, c1, decide_true, cond_true, i1, Option.bind_some, ReadRef_is, f2, r2, w1]
    cases nameP a2 <;> cases isR a2 <;> rfl
  have b2 : ∀ v12, chancerylaw2_ScanRenames_l1 ((), (), (a1, ()), (a2, ()), ()) v12 ((), (), 2, (a1, ()), (a2, ()), ()) = some (.inr (.inl ((), (), (a1, ()), (a2, ()), ()))) := by
    intro v12
    rfl
  cases N1 : (nameP a1 && !isR a1) with
  | false =>
    have hv : fscan_RenameName s a1 a2 = some ([], 9, ()) := by
      unfold fscan_RenameName
      rw [n1, N1]
      rfl
    have hb := b0 ([], 9, ())
    rw [N1] at hb
    have hr := (Halts.done (n := 0) hb).loop (by omega)
    rw [hv, Option.bind_some, hr]
    rfl
  | true =>
  cases N2 : (nameP a2 && !isR a2) with
  | false =>
    have hv : fscan_RenameName s a1 a2 = some ([], 9, ()) := by
      unfold fscan_RenameName
      rw [n1, N1, n2, N2]
      rfl
    have hb := b0 ([], 9, ())
    rw [N1] at hb
    have hb' := b1 ([], 9, ())
    rw [N2] at hb'
    have hr := (Halts.step hb (Halts.done (n := 0) hb')).loop (by omega)
    rw [hv, Option.bind_some, hr]
    rfl
  | true =>
    have ho : nameP a1 = true := by
      rw [Bool.and_eq_true] at N1
      exact N1.1
    have hloop : ∀ v12, loop (chancerylaw2_ScanRenames_l1 ((), (), (a1, ()), (a2, ()), ()) v12) ((), (), 0, (a1, ()), (a2, ()), ()) = some (.inl ((), (), (a1, ()), (a2, ()), ())) := by
      intro v12
      have hb := b0 v12
      rw [N1] at hb
      have hb' := b1 v12
      rw [N2] at hb'
      exact (Halts.step hb (Halts.step hb' (Halts.done (n := 0) (b2 v12)))).loop (by omega)
    rcases Scan_bothG (s := s) (by omega) with ⟨a, ⟨q0, qg⟩, q1, q2⟩ | ⟨j, q1, q2⟩
    · have hg : ∀ t ∈ a, Good 400 t := fun t ht => ⟨by have := (qg t ht).1; omega, (qg t ht).2⟩
      have hl : Halts (fscan_RenameName_l1 (a, 0, 0, ()) a1 a2) (0 + a.length) ((), ((0 : Nat) : Int), U2, strBytes (accN a1 a2 a 0), ()) ((), U2, strBytes (accN a1 a2 a a.length), ()) := by
        refine Halts.along (fun i => ((), (i : Int), U2, strBytes (accN a1 a2 a i), ())) a.length (fun i hi => name_step h2 (by omega) hg ho hi) (.done ?_)
        simp only [fscan_RenameName_l1, Int.lt_irrefl, decide_false, cond_false]
      have hr := hl.loop (by omega)
      have hl2 : Halts (chancerylaw2_ScanRenames_l2 (a, -1, ())) (0 + a.length) ((), (), accN a1 a2 a 0, ((0 : Nat) : Int), (a1, ()), (a2, ()), ()) (accN a1 a2 a a.length, ()) := by
        refine Halts.along (fun i => ((), (), accN a1 a2 a i, (i : Int), (a1, ()), (a2, ()), ())) a.length (fun i hi => rname_step h2 (by omega) hg h1 hi) (.done ?_)
        simp only [chancerylaw2_ScanRenames_l2, Int.lt_irrefl, decide_false, cond_false]
      have hr2 := hl2.loop (by omega)
      have hL := accN_len (old := a1) h2 hg a.length (by omega)
      have hk : decide ((strBytes (accN a1 a2 a a.length)).length ≤ lim) = true := decide_eq_true (by
        have : (strBytes (accN a1 a2 a a.length)).length = (accN a1 a2 a a.length).length := by simp [strBytes]
        unfold lim
        omega)
      have hw : _strings_Builder__WriteByte 61 [] = some (false, (), U2, [61], ()) := rfl
      have hv : fscan_RenameName s a1 a2 = some (accN a1 a2 a a.length, 0, ()) := by
        unfold fscan_RenameName
        rw [n1, N1, n2, N2, Option.bind_some]
        dsimp only
        rw [Bool.not_true, cond_false, Option.bind_some, Option.bind_some]
        dsimp only
        rw [Bool.not_true, cond_false, q1, Option.bind_some]
        dsimp only
        rw [decide_eq_true rfl, Bool.not_true, cond_false, hw, Option.bind_some]
        dsimp only
        erw [hr]
        rw [Option.bind_some]
        dsimp only
        rw [hk, chk_t, Option.bind_some]
        exact congrArg (fun z => some (z, 0, ())) (bytesStr_strBytes _)
      have c : ¬(0 : Int) ≤ -1 := by omega
      rw [hv, Option.bind_some, hloop, Option.bind_some]
      dsimp only
      rw [q2, Option.bind_some]
      erw [hr2]
      rw [Option.bind_some]
      dsimp only
      rw [decide_eq_false c, cond_false, Option.bind_some, decide_eq_true rfl, cond_true, decide_eq_true rfl]
    · have hv : fscan_RenameName s a1 a2 = some (s, 0, ()) := by
        unfold fscan_RenameName
        rw [n1, N1, n2, N2, q1]
        rfl
      have c : (0 : Int) ≤ (j : Int) := by omega
      have hl2 : Halts (chancerylaw2_ScanRenames_l2 ([], (j : Int), ())) 0 ((), (), [61], 0, (a1, ()), (a2, ()), ()) ([61], ()) := .done rfl
      have hr2 := hl2.loop (by omega)
      rw [hv, Option.bind_some, hloop, Option.bind_some]
      dsimp only
      rw [q2, Option.bind_some]
      dsimp only
      rw [hr2, Option.bind_some, decide_eq_true c, cond_true, Option.bind_some, decide_eq_true rfl, cond_true, decide_eq_true rfl]

theorem scanRenames_law {x a1 a2 : Str} (h : x.length ≤ 2000000) (h1 : a1.length ≤ 2000000) (h2 : a2.length ≤ 2000000) : chancerylaw2_ScanRenames x a1 a2 = some (true, ()) := by
  obtain ⟨s, hs, hl⟩ := long_eq h
  have hH := names_half hl h1 h2
  unfold chancerylaw2_ScanRenames
  rw [scans_eq, Option.bind_some]
  dsimp only
  rw [Bool.not_true, cond_false, hs, Option.bind_some]
  dsimp only
  rw [rname_eq]
  by_cases e1 : a1 = []
  · have hR : fscan_Rename s a1 a2 = some ([], 1, ()) := by
      unfold fscan_Rename
      rw [decide_eq_true e1]
      rfl
    rw [hR]
    simp only [Option.bind_some, decide_eq_true e1, cond_true, decide_true, decide_false, Bool.not_true, Bool.not_false, cond_false, Int.reduceEq]
    exact hH
  by_cases e2 : a2 = []
  · have hR : fscan_Rename s a1 a2 = some ([], 1, ()) := by
      unfold fscan_Rename
      rw [decide_eq_false e1, decide_eq_true e2]
      rfl
    rw [hR]
    simp only [Option.bind_some, decide_eq_false e1, decide_eq_true e2, cond_true, decide_true, decide_false, Bool.not_true, Bool.not_false, cond_false, Int.reduceEq]
    exact hH
  by_cases e3 : nameErr a2 = 0
  · obtain ⟨t, q1, q2⟩ := rename_both (adj := adjN a1 a2) (o0 := a1) (o1 := a2) (adjN_valid e1 e3) adjN_p adjN_r hl
    have hR : fscan_Rename s a1 a2 = some (t, 0, ()) := by
      unfold fscan_Rename
      rw [decide_eq_false e1, decide_eq_false e2, cond_false, Option.bind_some]
      dsimp only
      rw [cond_false, name_err, e3, Option.bind_some]
      dsimp only
      rw [decide_eq_true rfl, Bool.not_true, cond_false, q1]
      rfl
    rw [hR]
    simp only [Option.bind_some, decide_eq_false e1, decide_eq_false e2, e3, decide_true, Bool.not_true, cond_false, q2]
    exact hH
  · have hR : fscan_Rename s a1 a2 = some ([], nameErr a2, ()) := by
      unfold fscan_Rename
      rw [decide_eq_false e1, decide_eq_false e2, cond_false, Option.bind_some]
      dsimp only
      rw [cond_false, name_err, Option.bind_some]
      dsimp only
      rw [decide_eq_false e3]
      rfl
    rw [hR]
    simp only [Option.bind_some, decide_eq_false e1, decide_eq_false e2, decide_eq_false e3, cond_true, decide_true, Bool.not_true, Bool.not_false, cond_false]
    exact hH
end Go.Proofs.YtfbnnjmhlkafiaaGreatDoor
