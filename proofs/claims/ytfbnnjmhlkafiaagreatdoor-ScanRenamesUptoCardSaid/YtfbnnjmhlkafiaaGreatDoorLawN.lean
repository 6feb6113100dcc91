import Derived.Test.YtfbnnjmhlkafiaaGreatDoorLawM
namespace Go.Proofs.YtfbnnjmhlkafiaaGreatDoor
open Go Go.Fe

theorem newN_five {old new : Str} {t : Tok} (h5 : t.1 = 5) : newN old new t = if lowS t.2.1 = lowS old then new ++ [] else t.2.1 := by
  have h7 : ¬t.1 = 7 := by omega
  unfold newN nlen
  rw [if_neg h7, List.take_length, List.drop_length]
  by_cases g : lowS t.2.1 = lowS old
  · rw [if_pos ⟨.inl h5, g⟩, if_pos g]
  · rw [if_neg (fun x => g x.2), if_neg g]
theorem newN_seven {old new : Str} {t : Tok} {k : Nat} (h7 : t.1 = 7) (hk : Lib.indexByte t.2.1 91 = (k : Int)) : newN old new t = if lowS (t.2.1.take k) = lowS old then new ++ t.2.1.drop k else t.2.1 := by
  unfold newN nlen
  rw [if_pos h7, hk, Int.toNat_natCast]
  by_cases g : lowS (t.2.1.take k) = lowS old
  · rw [if_pos ⟨.inr h7, g⟩, if_pos g]
  · rw [if_neg (fun x => g x.2), if_neg g]
theorem newN_other {old new : Str} {t : Tok} (h5 : ¬t.1 = 5) (h7 : ¬t.1 = 7) : newN old new t = t.2.1 := by
  unfold newN
  rw [if_neg (fun x => x.1.elim h5 h7)]
theorem sIndexByte_is (s : Str) : sIndexByte (no_index (s, 91, ())) = some (Lib.indexByte s 91, ()) := rfl

section
variable {old new : Str} (hn : new.length ≤ 2000000) {a : List Tok} (hl : a.length ≤ 400) (hg : ∀ t ∈ a, Good 400 t)
include hn hl hg
theorem name_step (ho : nameP old = true) {x : Int × (Int × Unit)} {i : Nat} (hi : i < a.length) :
    fscan_RenameName_l1 (a, x) old new ((), (i : Int), U2, strBytes (accN old new a i), ()) = some (.inl ((), ((i + 1 : Nat) : Int), U2, strBytes (accN old new a (i + 1)), ())) := by
  have c : (i : Int) < (a.length : Int) := by omega
  have w := wsucc (show i < 9223372036854775807 by omega)
  have hG := hg a[i] (List.getElem_mem _)
  have hL := accN_len (old := old) hn hg i (by omega)
  have hN := newN_len (old := old) (new := new) hG
  have ht := hG.1
  rw [accN_succ old new hi]
  by_cases h7 : (a[i]).1 = 7
  · obtain ⟨k, k1, k2, k3⟩ := hG.2.2.2 h7
    have h5 : ¬(7 : Int) = 5 := by decide
    have hlen : ((a[i]).2.1.take k).length = k := by rw [List.length_take, Nat.min_eq_left k2]
    have hE := EqualFold_eq (s := (a[i]).2.1.take k) (t := old) (by rw [hlen]; omega) k3 ho
    rw [newN_seven h7 k1] at hN ⊢
    by_cases g : lowS ((a[i]).2.1.take k) = lowS old
    · rw [if_pos g] at hN ⊢
      rw [decide_eq_true g] at hE
      have hcat : cat new ((a[i]).2.1.drop k) = some (new ++ (a[i]).2.1.drop k) := cat_ok (by rw [List.length_drop]; omega)
      simp only [fscan_RenameName_l1, c, decide_true, cond_true, idx_lt hi, Option.bind_some, h7, sIndexByte_is, k1, cut_to k2, h5, decide_false, cond_false, hE, hlen, cut_from k2, hcat, writeN (acc := accN old new a i) (t := new ++ (a[i]).2.1.drop k) (by omega), w]
    · rw [if_neg g] at hN ⊢
      rw [decide_eq_false g] at hE
      simp only [fscan_RenameName_l1, c, decide_true, cond_true, idx_lt hi, Option.bind_some, h7, sIndexByte_is, k1, cut_to k2, h5, decide_false, cond_false, hE, writeN (acc := accN old new a i) (t := (a[i]).2.1) (by omega), w]
  · by_cases h5 : (a[i]).1 = 5
    · have h57 : ¬(5 : Int) = 7 := by decide
      have hE := EqualFold_eq (s := (a[i]).2.1) (t := old) (by omega) (hG.2.2.1 h5) ho
      rw [newN_five h5] at hN ⊢
      by_cases g : lowS (a[i]).2.1 = lowS old
      · rw [if_pos g] at hN ⊢
        rw [decide_eq_true g] at hE
        have hcut : cut (a[i]).2.1 ((a[i]).2.1.length : Int) ((a[i]).2.1.length : Int) = some [] := by rw [cut_from (Nat.le_refl _), List.drop_length]
        have hcat : cat new ([] : Str) = some (new ++ []) := cat_ok (by rw [List.length_nil]; omega)
        simp only [fscan_RenameName_l1, c, decide_true, cond_true, idx_lt hi, Option.bind_some, h5, h57, decide_false, cond_false, hE, hcut, hcat, writeN (acc := accN old new a i) (t := new ++ []) (by omega), w]
      · rw [if_neg g] at hN ⊢
        rw [decide_eq_false g] at hE
        simp only [fscan_RenameName_l1, c, decide_true, cond_true, idx_lt hi, Option.bind_some, h5, h57, decide_false, cond_false, hE, writeN (acc := accN old new a i) (t := (a[i]).2.1) (by omega), w]
    · rw [newN_other h5 h7] at hN ⊢
      simp only [fscan_RenameName_l1, c, decide_true, cond_true, idx_lt hi, Option.bind_some, h5, h7, decide_false, cond_false, writeN (acc := accN old new a i) (t := (a[i]).2.1) (by omega), w]
theorem rname_step (ho : old.length ≤ 2000000) {x : Int × Unit} {i : Nat} (hi : i < a.length) :
    chancerylaw2_ScanRenames_l2 (a, x) ((), (), accN old new a i, (i : Int), (old, ()), (new, ()), ()) = some (.inl ((), (), accN old new a (i + 1), ((i + 1 : Nat) : Int), (old, ()), (new, ()), ())) := by
  have c : (i : Int) < (a.length : Int) := by omega
  have w := wsucc (show i < 9223372036854775807 by omega)
  have hG := hg a[i] (List.getElem_mem _)
  have hL := accN_len (old := old) hn hg i (by omega)
  have hN := newN_len (old := old) (new := new) hG
  have ht := hG.1
  have hLo := Lower_eq (s := old) (by omega)
  rw [accN_succ old new hi]
  by_cases h7 : (a[i]).1 = 7
  · obtain ⟨k, k1, k2, k3⟩ := hG.2.2.2 h7
    have h5 : ¬(7 : Int) = 5 := by decide
    have hI : chanceryref2_Index (a[i]).2.1 91 = some ((k : Int), ()) := by
      have := Index_eq (s := (a[i]).2.1) (by omega) 91
      rw [k1] at this
      exact this
    have hLn := Lower_eq (s := (a[i]).2.1.take k) (by rw [List.length_take]; omega)
    rw [newN_seven h7 k1] at hN ⊢
    by_cases g : lowS ((a[i]).2.1.take k) = lowS old
    · rw [if_pos g] at hN ⊢
      have hcat : cat new ((a[i]).2.1.drop k) = some (new ++ (a[i]).2.1.drop k) := cat_ok (by rw [List.length_drop]; omega)
      simp only [chancerylaw2_ScanRenames_l2, c, decide_true, cond_true, idx_lt hi, Option.bind_some, h7, hI, cut_to k2, h5, decide_false, cond_false, hLn, hLo, g, cut_from k2, hcat, cat_ok (xs := accN old new a i) (ys := new ++ (a[i]).2.1.drop k) (by omega), w]
    · rw [if_neg g] at hN ⊢
      simp only [chancerylaw2_ScanRenames_l2, c, decide_true, cond_true, idx_lt hi, Option.bind_some, h7, hI, cut_to k2, h5, decide_false, cond_false, hLn, hLo, g, cat_ok (xs := accN old new a i) (ys := (a[i]).2.1) (by omega), w]
  · by_cases h5 : (a[i]).1 = 5
    · have h57 : ¬(5 : Int) = 7 := by decide
      have hLn := Lower_eq (s := (a[i]).2.1) (by omega)
      have hct : cut (a[i]).2.1 0 ((a[i]).2.1.length : Int) = some (a[i]).2.1 := by rw [cut_to (Nat.le_refl _), List.take_length]
      rw [newN_five h5] at hN ⊢
      by_cases g : lowS (a[i]).2.1 = lowS old
      · rw [if_pos g] at hN ⊢
        have hcut : cut (a[i]).2.1 ((a[i]).2.1.length : Int) ((a[i]).2.1.length : Int) = some [] := by rw [cut_from (Nat.le_refl _), List.drop_length]
        have hcat : cat new ([] : Str) = some (new ++ []) := cat_ok (by rw [List.length_nil]; omega)
        simp only [chancerylaw2_ScanRenames_l2, c, decide_true, cond_true, idx_lt hi, Option.bind_some, h5, h57, decide_false, cond_false, hct, hLn, hLo, g, hcut, hcat, cat_ok (xs := accN old new a i) (ys := new ++ []) (by omega), w]
      · rw [if_neg g] at hN ⊢
        simp only [chancerylaw2_ScanRenames_l2, c, decide_true, cond_true, idx_lt hi, Option.bind_some, h5, h57, decide_false, cond_false, hct, hLn, hLo, g, cat_ok (xs := accN old new a i) (ys := (a[i]).2.1) (by omega), w]
    · rw [newN_other h5 h7] at hN ⊢
      simp only [chancerylaw2_ScanRenames_l2, c, decide_true, cond_true, idx_lt hi, Option.bind_some, h5, h7, decide_false, cond_false, cat_ok (xs := accN old new a i) (ys := (a[i]).2.1) (by omega), w]
end
end Go.Proofs.YtfbnnjmhlkafiaaGreatDoor
