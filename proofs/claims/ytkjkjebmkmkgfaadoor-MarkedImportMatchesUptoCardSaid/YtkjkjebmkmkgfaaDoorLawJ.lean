/- A text as a whole, and the law. -/
import Derived.Test.YtkjkjebmkmkgfaaDoorLawI
namespace Go.Proofs.YtkjkjebmkmkgfaaDoor
open Go Go.Fe

def dig (k : Nat) : Str := [UInt8.ofNat (48 + k)]
theorem rd_0 : runeStr (IntKind.i32.wrap (IntKind.i64.wrap (48 + (0 : Int)))) = dig 0 := by kernel_rfl
theorem rd_1 : runeStr (IntKind.i32.wrap (IntKind.i64.wrap (48 + (1 : Int)))) = dig 1 := by kernel_rfl
theorem rd_2 : runeStr (IntKind.i32.wrap (IntKind.i64.wrap (48 + (2 : Int)))) = dig 2 := by kernel_rfl
theorem rd_3 : runeStr (IntKind.i32.wrap (IntKind.i64.wrap (48 + (3 : Int)))) = dig 3 := by kernel_rfl
theorem rd_4 : runeStr (IntKind.i32.wrap (IntKind.i64.wrap (48 + (4 : Int)))) = dig 4 := by kernel_rfl
theorem rd_5 : runeStr (IntKind.i32.wrap (IntKind.i64.wrap (48 + (5 : Int)))) = dig 5 := by kernel_rfl
theorem rd_6 : runeStr (IntKind.i32.wrap (IntKind.i64.wrap (48 + (6 : Int)))) = dig 6 := by kernel_rfl
theorem rd_7 : runeStr (IntKind.i32.wrap (IntKind.i64.wrap (48 + (7 : Int)))) = dig 7 := by kernel_rfl
theorem rd_8 : runeStr (IntKind.i32.wrap (IntKind.i64.wrap (48 + (8 : Int)))) = dig 8 := by kernel_rfl
theorem rd_9 : runeStr (IntKind.i32.wrap (IntKind.i64.wrap (48 + (9 : Int)))) = dig 9 := by kernel_rfl
theorem dd_0 : chanceryref2_Decimal (0 : Int) = some (dig 0, ()) := by kernel_rfl
theorem dd_1 : chanceryref2_Decimal (1 : Int) = some (dig 1, ()) := by kernel_rfl
theorem dd_2 : chanceryref2_Decimal (2 : Int) = some (dig 2, ()) := by kernel_rfl
theorem dd_3 : chanceryref2_Decimal (3 : Int) = some (dig 3, ()) := by kernel_rfl
theorem dd_4 : chanceryref2_Decimal (4 : Int) = some (dig 4, ()) := by kernel_rfl
theorem dd_5 : chanceryref2_Decimal (5 : Int) = some (dig 5, ()) := by kernel_rfl
theorem dd_6 : chanceryref2_Decimal (6 : Int) = some (dig 6, ()) := by kernel_rfl
theorem dd_7 : chanceryref2_Decimal (7 : Int) = some (dig 7, ()) := by kernel_rfl
theorem dd_8 : chanceryref2_Decimal (8 : Int) = some (dig 8, ()) := by kernel_rfl
theorem dd_9 : chanceryref2_Decimal (9 : Int) = some (dig 9, ()) := by kernel_rfl
theorem rune_dig : ∀ {n : Nat}, n ≤ 9 → runeStr (IntKind.i32.wrap (IntKind.i64.wrap (48 + (n : Int)))) = dig n
  | 0, _ => rd_0
  | 1, _ => rd_1
  | 2, _ => rd_2
  | 3, _ => rd_3
  | 4, _ => rd_4
  | 5, _ => rd_5
  | 6, _ => rd_6
  | 7, _ => rd_7
  | 8, _ => rd_8
  | 9, _ => rd_9
  | n + 10, h => absurd h (by omega)
theorem dec_dig : ∀ {n : Nat}, n ≤ 9 → chanceryref2_Decimal (n : Int) = some (dig n, ())
  | 0, _ => dd_0
  | 1, _ => dd_1
  | 2, _ => dd_2
  | 3, _ => dd_3
  | 4, _ => dd_4
  | 5, _ => dd_5
  | 6, _ => dd_6
  | 7, _ => dd_7
  | 8, _ => dd_8
  | 9, _ => dd_9
  | n + 10, h => absurd h (by omega)
def lev (m : Nat) : List TA11 := if 0 < m then [([108, 101, 118, 101, 108], dig (m / 2), ())] else []
/-- A line's text and its paragraph's attributes. -/
def mkOf (s : Str) : Str × List TA11 :=
  if 1 ≤ lead 35 s ∧ lead 35 s ≤ 6 ∧ Lib.hasPrefix (s.drop (lead 35 s)) [32] = true then (s.drop (lead 35 s + 1), [([104, 101, 97, 100], dig (lead 35 s), ())])
  else if lead 32 s % 2 = 0 ∧ lead 32 s ≤ 16 then
    (if Lib.hasPrefix (s.drop (lead 32 s)) [45, 32] = true then (s.drop (lead 32 s + 2), lev (lead 32 s) ++ [([108, 105, 115, 116], [98, 117, 108, 108, 101, 116], ())])
    else if Lib.hasPrefix (s.drop (lead 32 s)) [49, 46, 32] = true then (s.drop (lead 32 s + 3), lev (lead 32 s) ++ [([108, 105, 115, 116], [110, 117, 109, 98, 101, 114], ())])
    else (s, []))
  else (s, [])
theorem mkOf_len (s : Str) : (mkOf s).1.length ≤ s.length := by
  unfold mkOf
  repeat' split
  all_goals simp only [List.length_drop]
  all_goals omega
theorem pre_len {s p : Str} (h : Lib.hasPrefix s p = true) : p.length ≤ s.length := by
  unfold Lib.hasPrefix at h
  rw [List.isPrefixOf_iff_prefix] at h
  exact h.length_le
theorem lev_cat (m : Nat) (x : TA11) : cat (lev m) [x] = some (lev m ++ [x]) := cat_ok (by unfold lev; split <;> simp)
theorem marks_eq {s : Str} (hs : s.length ≤ 50000) : marked_marks s = some ((mkOf s).1, (mkOf s).2, ()) := by
  have h35 := lead_le 35 s
  have h32 := lead_le 32 s
  have t35 : strings_TrimLeft s [35] = some (s.drop (lead 35 s), ()) := trim_eq (k := 35) (by omega) hs
  have t32 : strings_TrimLeft s [32] = some (s.drop (lead 32 s), ()) := trim_eq (k := 32) (by omega) hs
  have w35 : IntKind.i64.wrap ((s.length : Int) - ((s.drop (lead 35 s)).length : Int)) = (lead 35 s : Int) := by rw [List.length_drop, wrap_i64 (by omega) (by omega)]; omega
  have w32 : IntKind.i64.wrap ((s.length : Int) - ((s.drop (lead 32 s)).length : Int)) = (lead 32 s : Int) := by rw [List.length_drop, wrap_i64 (by omega) (by omega)]; omega
  have hrem : rem (lead 32 s : Int) 2 = some ((lead 32 s % 2 : Nat) : Int) := rem_nat (b := 2) (by omega)
  have hquo : quo .i64 (lead 32 s : Int) 2 = some ((lead 32 s / 2 : Nat) : Int) := quo_nat (b := 2) (by omega) (by omega)
  have hw1 := wsuc (show lead 35 s < 9223372036854775807 by omega)
  -- without a head
  have rest : ((strings_TrimLeft s [32]).bind fun v9 =>
      ((rem (IntKind.i64.wrap ((s.length : Int) - (v9.1.length : Int))) 2).bind fun v10 =>
      cond (decide (v10 = 1))
      (some (true, ()))
      (let v11 : Bool := (decide (16 < (IntKind.i64.wrap ((s.length : Int) - (v9.1.length : Int)))))
      some (v11, ())) : Option TA10).bind fun r12 =>
      cond r12.1
      (some (s, [], ()))
      ((cond (decide (0 < (IntKind.i64.wrap ((s.length : Int) - (v9.1.length : Int)))))
      ((quo .i64 (IntKind.i64.wrap ((s.length : Int) - (v9.1.length : Int))) 2).bind fun v13 =>
      let v14 : TA11 := ([108, 101, 118, 101, 108], runeStr (IntKind.i32.wrap (IntKind.i64.wrap (48 + v13))), ())
      some ((), [v14], ()))
      (some ((), [], ())) : Option (Unit × TA1)).bind fun r15 =>
      (cut s (IntKind.i64.wrap ((s.length : Int) - (v9.1.length : Int))) (s.length : Int)).bind fun v16 =>
      (sCutPrefix (v16, [45, 32], ())).bind fun v17 =>
      cond v17.2.1
      ((cat r15.2.1 [([108, 105, 115, 116], [98, 117, 108, 108, 101, 116], ())]).bind fun v18 =>
      some (v17.1, v18, ()))
      ((cut s (IntKind.i64.wrap ((s.length : Int) - (v9.1.length : Int))) (s.length : Int)).bind fun v19 =>
      (sCutPrefix (v19, [49, 46, 32], ())).bind fun v20 =>
      cond v20.2.1
      ((cat r15.2.1 [([108, 105, 115, 116], [110, 117, 109, 98, 101, 114], ())]).bind fun v21 =>
      some (v20.1, v21, ()))
      (some (s, [], ())))))
    = some (if lead 32 s % 2 = 0 ∧ lead 32 s ≤ 16 then
        (if Lib.hasPrefix (s.drop (lead 32 s)) [45, 32] = true then (s.drop (lead 32 s + 2), lev (lead 32 s) ++ [([108, 105, 115, 116], [98, 117, 108, 108, 101, 116], ())], ())
        else if Lib.hasPrefix (s.drop (lead 32 s)) [49, 46, 32] = true then (s.drop (lead 32 s + 3), lev (lead 32 s) ++ [([108, 105, 115, 116], [110, 117, 109, 98, 101, 114], ())], ())
        else (s, [], ()))
      else (s, [], ())) := by
    simp only [t32, Option.bind_some, w32, hrem]
    by_cases hodd : lead 32 s % 2 = 0
    · have e1 : ¬ ((lead 32 s % 2 : Nat) : Int) = 1 := by omega
      by_cases h16 : lead 32 s ≤ 16
      · have e2 : ¬ 16 < (lead 32 s : Int) := by omega
        have hlev : ((cond (decide (0 < (lead 32 s : Int)))
            ((quo .i64 (lead 32 s : Int) 2).bind fun v13 =>
            some ((), [(([108, 101, 118, 101, 108] : Str), runeStr (IntKind.i32.wrap (IntKind.i64.wrap (48 + v13))), ())], ()))
            (some ((), [], ())) : Option (Unit × TA1))) = some ((), lev (lead 32 s), ()) := by
          unfold lev
          by_cases h0 : 0 < lead 32 s
          · rw [decide_eq_true (by omega : 0 < (lead 32 s : Int)), cond_true, hquo, Option.bind_some, rune_dig (by omega), if_pos h0]
          · rw [decide_eq_false (by omega : ¬ 0 < (lead 32 s : Int)), cond_false, if_neg h0]
        simp only [e1, decide_false, cond_false, e2, Option.bind_some]
        rw [hlev, if_pos ⟨hodd, h16⟩]
        simp only [Option.bind_some, cut_end h32, sCutPrefix, lev_cat, Lib.trimPrefix]
        by_cases hp1 : Lib.hasPrefix (s.drop (lead 32 s)) [45, 32] = true
        · simp only [hp1, cond_true, if_true, List.drop_drop]
          rfl
        · have hp1' : Lib.hasPrefix (s.drop (lead 32 s)) [45, 32] = false := by simpa using hp1
          by_cases hp2 : Lib.hasPrefix (s.drop (lead 32 s)) [49, 46, 32] = true
          · simp only [hp1', hp2, cond_true, cond_false, if_true, List.drop_drop, Bool.false_eq_true, if_false]
            rfl
          · have hp2' : Lib.hasPrefix (s.drop (lead 32 s)) [49, 46, 32] = false := by simpa using hp2
            simp only [hp1', hp2', cond_false, Bool.false_eq_true, if_false]
      · have e2 : 16 < (lead 32 s : Int) := by omega
        rw [if_neg (fun h => h16 h.2)]
        simp only [e1, decide_false, cond_false, e2, decide_true, Option.bind_some, cond_true]
    · have e1 : ((lead 32 s % 2 : Nat) : Int) = 1 := by omega
      rw [if_neg (fun h => hodd h.1)]
      simp only [e1, decide_true, cond_true, Option.bind_some]
  have fin : (if lead 32 s % 2 = 0 ∧ lead 32 s ≤ 16 then
        (if Lib.hasPrefix (s.drop (lead 32 s)) [45, 32] = true then (s.drop (lead 32 s + 2), lev (lead 32 s) ++ [([108, 105, 115, 116], [98, 117, 108, 108, 101, 116], ())], ())
        else if Lib.hasPrefix (s.drop (lead 32 s)) [49, 46, 32] = true then (s.drop (lead 32 s + 3), lev (lead 32 s) ++ [([108, 105, 115, 116], [110, 117, 109, 98, 101, 114], ())], ())
        else (s, [], ()))
      else (s, [], ()) : Str × TA1) = (let q : Str × List TA11 := if lead 32 s % 2 = 0 ∧ lead 32 s ≤ 16 then
        (if Lib.hasPrefix (s.drop (lead 32 s)) [45, 32] = true then (s.drop (lead 32 s + 2), lev (lead 32 s) ++ [([108, 105, 115, 116], [98, 117, 108, 108, 101, 116], ())])
        else if Lib.hasPrefix (s.drop (lead 32 s)) [49, 46, 32] = true then (s.drop (lead 32 s + 3), lev (lead 32 s) ++ [([108, 105, 115, 116], [110, 117, 109, 98, 101, 114], ())])
        else (s, []))
      else (s, []); (q.1, q.2, ())) := by
    simp only
    repeat' split
    all_goals rfl
  unfold marked_marks mkOf
  by_cases hh : 1 ≤ lead 35 s ∧ lead 35 s ≤ 6 ∧ Lib.hasPrefix (s.drop (lead 35 s)) [32] = true
  · have e1 : (1 : Int) ≤ (lead 35 s : Int) := by omega
    have e2 : (lead 35 s : Int) ≤ 6 := by omega
    have hpl := pre_len hh.2.2
    rw [List.length_drop, List.length_singleton] at hpl
    rw [if_pos hh]
    simp only [t35, Option.bind_some, w35, e1, e2, decide_true, cond_true, cut_end h35, sHasPrefix, hh.2.2, hw1, cut_end (by omega : lead 35 s + 1 ≤ s.length), rune_dig (by omega : lead 35 s ≤ 9)]
  · rw [if_neg hh]
    have hcond : ((cond (decide (1 ≤ (lead 35 s : Int)))
        (cond (decide ((lead 35 s : Int) ≤ 6))
        ((cut s (lead 35 s : Int) (s.length : Int)).bind fun v3 =>
        (sHasPrefix (v3, [32], ())).bind fun v4 =>
        some (v4.1, ()))
        (some (false, ())))
        (some (false, ())) : Option TA10)) = some (false, ()) := by
      by_cases h1 : 1 ≤ lead 35 s
      · by_cases h2 : lead 35 s ≤ 6
        · have h3 : Lib.hasPrefix (s.drop (lead 35 s)) [32] = false := by
            rw [← Bool.not_eq_true]
            exact fun h => hh ⟨h1, h2, h⟩
          rw [decide_eq_true (by omega : (1 : Int) ≤ (lead 35 s : Int)), decide_eq_true (by omega : (lead 35 s : Int) ≤ 6), cond_true, cond_true, cut_end h35, Option.bind_some]
          simp only [sHasPrefix, h3, Option.bind_some]
        · rw [decide_eq_true (by omega : (1 : Int) ≤ (lead 35 s : Int)), decide_eq_false (by omega : ¬ (lead 35 s : Int) ≤ 6), cond_true, cond_false]
      · rw [decide_eq_false (by omega : ¬ (1 : Int) ≤ (lead 35 s : Int)), cond_false]
    simp only [t35, Option.bind_some, w35]
    rw [hcond, Option.bind_some]
    simp only [cond_false]
    rw [rest, fin]

/-! ### Lines -/
def trimR (s : Str) : Str := Lib.trimSuffix s [13]
theorem trimR_len (s : Str) : (trimR s).length ≤ s.length := by
  unfold trimR Lib.trimSuffix
  split
  · rw [List.length_take]; omega
  · exact Nat.le_refl _
theorem suf13 (s : Str) : Lib.hasSuffix s [13] = (if h : s = [] then false else decide (s[s.length - 1]'(by have := List.length_pos_iff.2 h; omega) = 13)) := by
  unfold Lib.hasSuffix
  rw [Bool.eq_iff_iff, List.isSuffixOf_iff_suffix]
  split
  · rename_i h
    subst h
    simp
  · rename_i h
    have hl := List.length_pos_iff.2 h
    rw [decide_eq_true_iff]
    constructor
    · rintro ⟨t, rfl⟩
      simp
    · intro e
      refine ⟨s.take (s.length - 1), ?_⟩
      have h1 : s = s.take (s.length - 1) ++ s.drop (s.length - 1) := (List.take_append_drop _ _).symm
      have h2 : s.drop (s.length - 1) = [13] := by
        rw [List.drop_eq_getElem_cons (by omega), e, List.drop_of_length_le (by omega)]
      rw [h2] at h1
      exact h1.symm
def tr : List Str → List Str
  | [] => []
  | [x] => [x]
  | x :: y :: r => trimR x :: tr (y :: r)
theorem tr_len : ∀ L, (tr L).length = L.length
  | [] => rfl
  | [_] => rfl
  | x :: y :: r => by
    have := tr_len (y :: r)
    simp only [tr, List.length_cons] at this ⊢
    omega
theorem tr_get : ∀ (L : List Str) (i : Nat) (h : i < L.length), i + 1 < L.length → (tr L)[i]'(by rw [tr_len]; exact h) = trimR L[i]
  | [], _, h, _ => by simp at h
  | [_], _, _, h => by simp at h
  | x :: y :: r, 0, _, _ => rfl
  | x :: y :: r, i + 1, h, h' => by
    simp only [List.length_cons] at h h'
    have := tr_get (y :: r) i (by simp only [List.length_cons]; omega) (by simp only [List.length_cons]; omega)
    simpa only [tr, List.getElem_cons_succ] using this
theorem tr_last : ∀ (L : List Str) (h : L ≠ []), (tr L)[L.length - 1]'(by rw [tr_len]; have := List.length_pos_iff.2 h; omega) = L[L.length - 1]'(by have := List.length_pos_iff.2 h; omega)
  | [], h => absurd rfl h
  | [_], _ => rfl
  | x :: y :: r, _ => by
    have := tr_last (y :: r) (by simp)
    simp only [tr, List.length_cons, Nat.add_sub_cancel] at this ⊢
    simpa only [List.getElem_cons_succ] using this
def wt : List Str → Nat
  | [] => 0
  | x :: r => x.length + 1 + wt r
theorem wt_sp : ∀ (cur r : Str), wt (sp cur r) = cur.length + r.length + 1
  | _, [] => by simp [sp, wt]
  | cur, c :: r => by
    unfold sp
    split
    · rw [wt, wt_sp [] r, List.length_cons, List.length_nil]
      omega
    · rw [wt_sp _ r, List.length_append, List.length_singleton, List.length_cons]
      omega
theorem sp_ne (cur r : Str) : sp cur r ≠ [] := by
  intro e
  have := sp_len cur r
  rw [e] at this
  simp at this

theorem l1_halts {L : List Str} (hL : L ≠ []) (hn : L.length ≤ 50000) (hw : ∀ x ∈ L, x.length ≤ 50000) (x : List Bool × (Str × Unit)) :
    Halts (marked_Import_l1 ((), L, ())) (0 + (L.length - 1)) ((), (), ((0 : Nat) : Int), ((), (), x), (tr L).take 0 ++ L.drop 0, ()) ((), (), ((), (), x), tr L, ()) := by
  have hl := List.length_pos_iff.2 hL
  have wn : IntKind.i64.wrap ((L.length : Int) - 1) = ((L.length - 1 : Nat) : Int) := by rw [wrap_i64 (by omega) (by omega)]; omega
  refine Halts.along (fun i => ((), (), (i : Int), ((), (), x), (tr L).take i ++ L.drop i, ())) (L.length - 1) (fun i hi => ?_) (.done ?_)
  · have e1 : (i : Int) < ((L.length - 1 : Nat) : Int) := by omega
    have hlen : ((tr L).take i ++ L.drop i).length = L.length := by rw [List.length_append, List.length_take, List.length_drop, tr_len]; omega
    have hin : inb (i : Int) ((tr L).take i ++ L.drop i).length = true := by rw [hlen]; exact inb_nat (by omega)
    have hil : i < L.length := by omega
    have hget : ((tr L).take i ++ L.drop i).getD i [] = L[i] := by
      rw [List.getD_eq_getElem?_getD, List.getElem?_append_right (by rw [List.length_take, tr_len]; omega), List.length_take, tr_len, Nat.min_eq_left (by omega), Nat.sub_self, List.getElem?_drop, Nat.add_zero, List.getElem?_eq_getElem hil]
      rfl
    have hts : sTrimSuffix (L[i], [13], ()) = some (trimR L[i], ()) := by
      unfold sTrimSuffix
      have := hw _ (List.getElem_mem hil)
      rw [if_pos (by simp only; omega)]
      rfl
    have hset : ((tr L).take i ++ L.drop i).set i (trimR L[i]) = (tr L).take (i + 1) ++ L.drop (i + 1) := by
      rw [List.set_append_right _ _ (by rw [List.length_take, tr_len]; omega), List.length_take, tr_len, Nat.min_eq_left (by omega), Nat.sub_self, List.drop_eq_getElem_cons hil, List.set_cons_zero,
        List.take_succ_eq_append_getElem (by rw [tr_len]; exact hil), tr_get L i hil (by omega), List.append_assoc]
      rfl
    have w1 := wsuc (show i < 9223372036854775807 by omega)
    unfold marked_Import_l1
    simp only [wn, e1, decide_true, cond_true, hin, chk_t, Option.bind_some, Int.toNat_natCast, hget, hts, hset, w1]
  · have hend : (tr L).take (L.length - 1) ++ L.drop (L.length - 1) = tr L := by
      have h1 := tr_last L hL
      have h2 : (tr L).drop (L.length - 1) = L.drop (L.length - 1) := by
        rw [List.drop_eq_getElem_cons (by rw [tr_len]; omega), List.drop_eq_getElem_cons (by omega : L.length - 1 < L.length), h1, List.drop_of_length_le (by rw [tr_len]; omega), List.drop_of_length_le (by omega)]
      rw [← h2, List.take_append_drop]
    unfold marked_Import_l1
    simp only [wn, Int.lt_irrefl, decide_false, cond_false, hend]
end Go.Proofs.YtkjkjebmkmkgfaaDoor
