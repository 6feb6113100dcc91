import Derived.Test.YtmbejoibeninmaaGreatDoorLawA
import Derived.Test.YtmbejoibeninmaaGreatDoorLawH
import Derived.Test.YtmbejoibeninmaaGreatDoorRLawT
namespace Go.Proofs.YtmbejoibeninmaaGreatDoor
open Go Go.Fe

/-! ### The makers -/
def vFault (c : Int) : Val := .node (4, (([], ([], ())), ([], (false, (c, (0, (0, ()))))))) []
def vTxt (s : Str) : Val := .node (2, (([], ([], ())), (s, (false, (0, (0, (0, ()))))))) []
def vBool (b : Bool) : Val := .node (3, (([], ([], ())), ([], (b, (0, (0, (0, ()))))))) []
def vNum (f : Str × (Str × Unit)) : Val := .node (1, (f, ([], (false, (0, (0, (0, ()))))))) []
def vArr (r c : Int) (l : List Val) : Val := .node (5, (([], ([], ())), ([], (false, (0, (r, (c, ()))))))) l
def vNone : Val := .node (0, (([], ([], ())), ([], (false, (0, (0, (0, ()))))))) []
theorem small_flat {x : VData} (h : x.2.1.1.length < 100000000 ∧ x.2.1.2.1.length < 100000000) : SmallV (.node x []) := ⟨h, fun _ h => by cases h⟩
theorem small_fault (c : Int) : SmallV (vFault c) := small_flat (by simp)
theorem small_txt (s : Str) : SmallV (vTxt s) := small_flat (by simp)
theorem vb_fault (c : Int) : vb (vFault c) ≤ 1048576 := by rw [vb_eq]; simp [vFault, Tree.data, Tree.kids]
theorem vb_bool (c : Bool) : vb (vBool c) ≤ 1048576 := by rw [vb_eq]; simp [vBool, Tree.data, Tree.kids]
theorem vb_none : vb vNone ≤ 1048576 := by rw [vb_eq]; simp [vNone, Tree.data, Tree.kids]
theorem verr_txt (s : Str) : verr (vTxt s) = textErr s := by
  rw [verr_flat (v := vTxt s) (show (2 : Int) ≠ 5 by decide)]
  have hb : formBad (vTxt s) = false := rfl
  exact (if_neg (show ¬ ((2 : Int) < 0 ∨ (5 : Int) < 2) by decide)).trans ((if_neg (by rw [hb]; exact Bool.false_ne_true)).trans ((if_neg (show ¬ (2 : Int) = 1 by decide)).trans (if_pos rfl)))
noncomputable def soundV (v : Val) : Val := if verr v = 0 then v else vFault 2
theorem valid_eq {v : Val} (h : SmallV v) : value_valid v = some (soundV v, ()) := by
  unfold value_valid soundV
  simp only [tn_eq]
  rw [VCheck_eq h, Option.bind_some]
  by_cases e : verr v = 0
  · rw [if_pos e, decide_eq_true e]; rfl
  · rw [if_neg e, decide_eq_false e]; rfl
theorem Fault_eq (c : Int) : value_Fault c = some (soundV (vFault c), ()) := by
  unfold value_Fault
  have h := valid_eq (small_fault c)
  rw [show value_valid (Tree.node (4, ([], ([], ())), [], false, c, 0, 0, ()) []) = some (soundV (vFault c), ()) from h, Option.bind_some, tn_eq]
theorem Text_eq (s : Str) : value_Text s = some (soundV (vTxt s), ()) := by
  unfold value_Text
  have h := valid_eq (small_txt s)
  rw [show value_valid (Tree.node (2, ([], ([], ())), s, false, 0, 0, 0, ()) []) = some (soundV (vTxt s), ()) from h, Option.bind_some, tn_eq]
theorem Number_eq {f : Str × (Str × Unit)} (h : SmallV (vNum f)) : value_Number f = some (soundV (vNum f), ()) := by
  unfold value_Number
  simp only [tn_eq]
  have h := valid_eq h
  rw [show value_valid (Tree.node (1, f, [], false, 0, 0, 0, ()) []) = some (soundV (vNum f), ()) from h, Option.bind_some]
theorem rFault_eq (c : Int) : chanceryref2_Fault c = some (vFault c, ()) := rfl
theorem rText_eq' (s : Str) : chanceryref2_Text s = some (soundV (vTxt s), ()) := by
  unfold chanceryref2_Text soundV
  rw [rTextErr_eq, Option.bind_some, verr_txt]
  by_cases e : textErr s = 0
  · rw [if_pos e, decide_eq_true e]; rfl
  · rw [if_neg e, decide_eq_false e, rFault_eq]
    simp only [Bool.not_false, cond_true, Option.bind_some, tn_eq]
theorem sound_eq {v : Val} (h : SmallV v) : chancerylaw2_ValueCheckMatches_1 v = some (soundV v, ()) := by
  unfold chancerylaw2_ValueCheckMatches_1 soundV
  simp only [tn_eq]
  rw [rErr_eq h, Option.bind_some]
  by_cases e : verr v = 0
  · rw [if_pos e, decide_eq_true e]; rfl
  · rw [if_neg e, decide_eq_false e, rFault_eq]; rfl
theorem Array_eq {r c : Int} {l : List Val} (h : SmallV (vArr r c l)) (hl : l.length ≤ 1048576) : value_Array r c l = some (if verr (vArr r c l) = 0 then vArr r c l else vNone, verr (vArr r c l), ()) := by
  unfold value_Array api_Value_
  have hc : cat [] l = some l := by rw [cat_ok (by simp; omega), List.nil_append]
  have hz : (bif List.isEmpty l then agree (some (([] : List Val), ())) ((cat [] l).bind fun v1 => some (v1, ())) else (cat [] l).bind fun v1 => some (v1, ())) = some (l, ()) := by
    rw [hc, Option.bind_some]
    cases l with
    | nil => exact if_pos rfl
    | cons x r => rfl
  simp only [tn_eq]
  have hv : value_Check (Tree.node (5, (([], ([], ())), ([], (false, (0, (r, (c, ()))))))) l) = some (verr (vArr r c l), ()) := VCheck_eq h
  rw [hv, Option.bind_some]
  by_cases e : verr (vArr r c l) = 0
  · rw [e, if_pos rfl, decide_eq_true rfl, Bool.not_true, cond_false, hz]; rfl
  · rw [if_neg e, decide_eq_false e]; rfl
theorem VWhole_eq {n : Int} (h1 : -9223372036854775808 ≤ n) (h2 : n ≤ 9223372036854775807) : ∃ f, f.1.length ≤ 1000 ∧ f.2.1.length ≤ 1000 ∧ value_Whole n = some (vNum f, ()) ∧ chanceryref2_Int n = some (vNum f, ()) := by
  obtain ⟨ho, he⟩ := Of_eq h1 h2
  have dp := dl_i64 h1 h2
  have d1 : dl 1 = 1 := dl_ten 0
  refine ⟨(fracOut (decide (n < 0)) n.natAbs 1).1, ?_, ?_, ?_, ?_⟩
  · unfold fracOut
    by_cases h0 : n.natAbs = 0
    · rw [if_pos h0]; decide
    · rw [if_neg h0, Nat.gcd_one_right, Nat.div_one, Nat.div_one, if_neg (by omega)]
      have := txt_len (n := n.natAbs) (by omega)
      cases decide (n < 0) <;> simp only [cond_true, cond_false, List.length_cons] <;> omega
  · unfold fracOut
    by_cases h0 : n.natAbs = 0
    · rw [if_pos h0]; decide
    · rw [if_neg h0, Nat.gcd_one_right, Nat.div_one, Nat.div_one, if_neg (by omega)]
      have := txt_len (n := 1) (by omega)
      simp only []
      omega
  · unfold value_Whole
    rw [ho]; rfl
  · unfold chanceryref2_Int chanceryref2_Number
    rw [Whole_eq h1 h2, Option.bind_some]
    have hf : chanceryref2_Rat__Frac (N10 (decide (n < 0)) n.natAbs 1) = _ := frac_eq (m := decide (n < 0)) (n := n.natAbs) (d := 1) (by omega) (by omega) (by omega)
    simp only [tn_eq]
    rw [hf, Option.bind_some, he]; rfl
theorem vb_data_le {a b : Val} (hd : a.data.2.1.1.length + a.data.2.1.2.1.length + a.data.2.2.1.length ≤ b.data.2.1.1.length + b.data.2.1.2.1.length + b.data.2.2.1.length) (hk : a.kids = b.kids) : vb a ≤ vb b := by
  rw [vb_eq a, vb_eq b, hk]; omega
theorem check_law {a b : Val} {n : Int} (ha : vb a ≤ 1048576) (h1 : -9223372036854775808 ≤ n) (h2 : n ≤ 9223372036854775807) :
    chancerylaw2_ValueCheckMatches a b n = some (true, ()) := by
  have hs := vb_small ha
  have hx : vb (vArr a.data.2.2.2.2.2.1 a.data.2.2.2.2.2.2.1 a.kids) ≤ 1048576 := Nat.le_trans (vb_data_le (b := a) (by simp [vArr, Tree.data]) rfl) ha
  have hN : vb (vNum (a.data.2.1.1, (a.data.2.1.2.1, ()))) ≤ 1048576 := by
    refine Nat.le_trans ?_ ha
    rw [vb_eq, vb_eq a]
    simp [vNum, Tree.data, Tree.kids]
    omega
  have hT : vb (vTxt a.data.2.2.1) ≤ 1048576 := by
    refine Nat.le_trans ?_ ha
    rw [vb_eq, vb_eq a]
    simp [vTxt, Tree.data, Tree.kids]
    omega
  have hsound : ∀ v, vb v ≤ 1048576 → vb (soundV v) ≤ 1048576 := fun v hv => by
    unfold soundV
    split
    · exact hv
    · exact vb_fault 2
  obtain ⟨f, f1, f2, w1, w2⟩ := VWhole_eq h1 h2
  have hF : vb (vNum f) ≤ 1048576 := by
    rw [vb_eq]
    simp [vNum, Tree.data, Tree.kids]
    omega
  unfold chancerylaw2_ValueCheckMatches
  have hlen := vb_len a
  have hA := Array_eq (r := a.data.2.2.2.2.2.1) (c := a.data.2.2.2.2.2.2.1) (vb_small hx) (by omega : a.kids.length ≤ 1048576)
  have hE : chanceryref2_ValueError (Tree.node (5, ([], ([], ())), [], false, 0, a.data.2.2.2.2.2.1, a.data.2.2.2.2.2.2.1, ()) a.kids) = some (verr (vArr a.data.2.2.2.2.2.1 a.data.2.2.2.2.2.2.1 a.kids), ()) := rErr_eq (vb_small hx)
  have hS1 : chanceryref2_SameValue (vArr a.data.2.2.2.2.2.1 a.data.2.2.2.2.2.2.1 a.kids) (Tree.node (5, ([], ([], ())), [], false, 0, a.data.2.2.2.2.2.1, a.data.2.2.2.2.2.2.1, ()) a.kids) = some (true, ()) := (rSame_eq hx).trans (congrArg (fun z => some (z, ())) (sameV_self _))
  have hS2 : chanceryref2_SameValue vNone (Tree.node (0, ([], ([], ())), [], false, 0, 0, 0, ()) []) = some (true, ()) := (rSame_eq vb_none).trans (congrArg (fun z => some (z, ())) (sameV_self _))
  have hself : ∀ v, vb v ≤ 1048576 → chanceryref2_SameValue v v = some (true, ()) := fun v hv => (rSame_eq hv).trans (congrArg (fun z => some (z, ())) (sameV_self _))
  have hN1 := Number_eq (vb_small hN)
  have hN2 : chancerylaw2_ValueCheckMatches_1 (Tree.node (1, (a.data.2.1.1, (a.data.2.1.2.1, ())), [], false, 0, 0, 0, ()) []) = some (soundV (vNum (a.data.2.1.1, (a.data.2.1.2.1, ()))), ()) := sound_eq (vb_small hN)
  have hF2 : chancerylaw2_ValueCheckMatches_1 (vFault a.data.2.2.2.2.1) = some (soundV (vFault a.data.2.2.2.2.1), ()) := sound_eq (small_fault _)
  have hB1 : value_Bool a.data.2.2.2.1 = some (vBool a.data.2.2.2.1, ()) := rfl
  have hB2 : chanceryref2_Bool a.data.2.2.2.1 = some (vBool a.data.2.2.2.1, ()) := rfl
  simp only [values_true, Option.bind_some, Bool.not_true, cond_false, tn_eq, VCheck_eq hs, rErr_eq hs, Same_eq ha, rSame_eq ha, sameV_self, decide_true, beq_self_eq_true, hA, hE]
  by_cases e : verr (vArr a.data.2.2.2.2.2.1 a.data.2.2.2.2.2.2.1 a.kids) = 0
  · simp only [e, if_true, hS1, decide_true, cond_true, Option.bind_some, Bool.not_true, cond_false, hN1, hN2, hself _ (hsound _ hN), Text_eq, rText_eq', hself _ (hsound _ hT), Fault_eq, rFault_eq, hF2, hself _ (hsound _ (vb_fault _)), hB1, hB2, hself _ (vb_bool _), w1, w2, hself _ hF, FaultText_eq, rFaultText_eq]
  · simp only [e, if_false, hS2, decide_false, cond_true, Option.bind_some, Bool.not_true, Bool.not_false, cond_false, hN1, hN2, hself _ (hsound _ hN), Text_eq, rText_eq', hself _ (hsound _ hT), Fault_eq, rFault_eq, hF2, hself _ (hsound _ (vb_fault _)), hB1, hB2, hself _ (vb_bool _), w1, w2, hself _ hF, FaultText_eq, rFaultText_eq, decide_true]
end Go.Proofs.YtmbejoibeninmaaGreatDoor
