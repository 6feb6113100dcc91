import Derived.Test.YtmbejoibeninmaaGreatDoorLawF
namespace Go.Proofs.YtmbejoibeninmaaGreatDoor
open Go Go.Fe
theorem VE1 (a0 : Int) (a1 : Bool) (o0 : Int) (o0_1 : Str) (o0_2 : Str) (o0_3 : Str) (o0_4 : Bool) (o0_5 : Int) (o0_6 : Int) (o0_7 : Int) (o0_8 : List Val) :
    chanceryref2_ValueError_1 a0 a1 o0 o0_1 o0_2 o0_3 o0_4 o0_5 o0_6 o0_7 o0_8 = some (decide (o0 = a0) || a1, (), (o0, (o0_1, (o0_2, (o0_3, (o0_4, (o0_5, (o0_6, (o0_7, (o0_8, ()))))))))), ()) := by
  unfold chanceryref2_ValueError_1
  cases decide (o0 = a0) <;> rfl
theorem remade (v : Val) : (Tree.node (v.data.1, ((v.data.2.1.1, (v.data.2.1.2.1, ())), (v.data.2.2.1, (v.data.2.2.2.1, (v.data.2.2.2.2.1, (v.data.2.2.2.2.2.1, (v.data.2.2.2.2.2.2.1, ()))))))) v.kids : Val) = v := tn_eq v
theorem formB (d1 b1 d2 b2 d3 on d4 b4 d5 b5 b6 b7 : Bool) :
    (bif !(d1 || b1) then true else bif !(d2 || b2) then true else bif !(d3 || !on) then true else bif !(d4 || b4) then true else bif b5 then (bif b6 then !(d5 || b7) else !(d5 || false)) else !(d5 || false)) =
      ((!d1 && !b1) || ((!d2 && !b2) || ((!d3 && on) || ((!d4 && !b4) || (!d5 && !(b5 && (b6 && b7))))))) := by
  cases d1 <;> cases b1 <;> cases d2 <;> cases b2 <;> cases d3 <;> cases on <;> cases d4 <;> cases b4 <;> cases d5 <;> cases b5 <;> cases b6 <;> cases b7 <;> rfl
theorem formBad_eq (v : Val) : formBad v = ((!decide (v.data.1 = 1) && !Ty.beq (.pair .str (.pair .str .unit)) (v.data.2.1.1, (v.data.2.1.2.1, ())) ([], [], ())) || ((!decide (v.data.1 = 2) && !decide (v.data.2.2.1 = [])) ||
    ((!decide (v.data.1 = 3) && v.data.2.2.2.1) || ((!decide (v.data.1 = 4) && !decide (v.data.2.2.2.2.1 = 0)) ||
    (!decide (v.data.1 = 5) && !(decide (v.data.2.2.2.2.2.1 = 0) && (decide (v.data.2.2.2.2.2.2.1 = 0) && decide ((v.kids.length : Int) = 0)))))))) := by
  have e : decide ((v.kids.length : Int) = 0) = decide (v.kids.length = 0) := by simp
  rw [e]
  unfold formBad
  rw [← beq_frac]
  rfl
theorem arrB (r c : Int) : (bif decide (r < 1) then true else bif decide (c < 1) then true else bif decide (100000 < r) then true else decide (100000 < c)) = decide (r < 1 ∨ 100000 < r ∨ c < 1 ∨ 100000 < c) := by
  by_cases h1 : r < 1 <;> by_cases h2 : c < 1 <;> by_cases h3 : 100000 < r <;> by_cases h4 : 100000 < c <;> simp [h1, h2, h3, h4]
theorem arrB' (r c : Int) : (bif decide (r < 1) then true else bif decide (100000 < r) then true else bif decide (c < 1) then true else decide (100000 < c)) = decide (r < 1 ∨ 100000 < r ∨ c < 1 ∨ 100000 < c) := by
  by_cases h1 : r < 1 <;> by_cases h2 : c < 1 <;> by_cases h3 : 100000 < r <;> by_cases h4 : 100000 < c <;> simp [h1, h2, h3, h4]

theorem items_halts {f : (Int × Unit) → Option ((Int × Unit) ⊕ (Unit ⊕ (Int × Unit)))} {l : List Val} (hl : l.length < 9223372036854775807)
    (hf : ∀ i (h : i < l.length), f ((i : Int), ()) = if vkind l[i] = 5 then some (.inr (.inr (8, ()))) else if verr1 l[i] ≠ 0 then some (.inr (.inr (verr1 l[i], ()))) else some (.inl (((i + 1 : Nat) : Int), ())))
    (he : f ((l.length : Int), ()) = some (.inr (.inl ()))) : ∀ (k i : Nat), i + k = l.length → Halts f (k + 1) ((i : Int), ()) (if itemsErr (l.drop i) = 0 then .inl () else .inr (itemsErr (l.drop i), ()))
  | 0, i, hk => by
    have : i = l.length := by omega
    subst this
    rw [List.drop_length, show itemsErr [] = 0 from rfl, if_pos rfl]
    exact Halts.done he
  | k + 1, i, hk => by
    have h : i < l.length := by omega
    have hs := hf i h
    rw [List.drop_eq_getElem_cons h]
    by_cases h5 : vkind l[i] = 5
    · rw [if_pos h5] at hs
      have e : itemsErr (l[i] :: l.drop (i + 1)) = 8 := if_pos h5
      rw [e, if_neg (by omega)]
      exact Halts.done hs
    rw [if_neg h5] at hs
    by_cases hv : verr1 l[i] = 0
    · rw [if_neg (by omega)] at hs
      have e : itemsErr (l[i] :: l.drop (i + 1)) = itemsErr (l.drop (i + 1)) := (if_neg h5).trans (if_neg (by omega))
      rw [e]
      exact Halts.step hs (items_halts hl hf he k (i + 1) (by omega))
    · rw [if_pos hv] at hs
      have e : itemsErr (l[i] :: l.drop (i + 1)) = verr1 l[i] := (if_neg h5).trans (if_pos hv)
      rw [e, if_neg hv]
      exact Halts.done hs
theorem mul_small {r c : Int} (h : ¬ (r < 1 ∨ 100000 < r ∨ c < 1 ∨ 100000 < c)) : IntKind.i64.wrap (r * c) = r * c ∧ 0 < r * c := by
  have h1 : 1 ≤ r := by omega
  have h2 : 1 ≤ c := by omega
  have p : 0 < r * c := Int.mul_pos (by omega) (by omega)
  have q : r * c ≤ 100000 * 100000 := Int.mul_le_mul (by omega) (by omega) (by omega) (by omega)
  exact ⟨wrap_i64 (by omega) (by omega), p⟩
/-- The numbers of a value aren't too long. -/
def SmallN (v : Val) : Prop := (vnum v).1.length < 100000000 ∧ (vnum v).2.1.length < 100000000

theorem verr_flat {v : Val} (h5 : vkind v ≠ 5) : verr v = verr1 v := by
  unfold verr
  by_cases h : verr1 v = 0
  · rw [if_neg (by omega), if_neg h5, h]
  · rw [if_pos h]
theorem rErr_s (rec : Val → Option (Int × Unit)) (v : Val) (hs : SmallN v) (hrec : vkind v = 5 → ∀ x ∈ v.kids, vkind x ≠ 5 → rec x = some (verr1 x, ())) : chanceryref2_ValueError_s rec v = some (verr v, ()) := by
  have hfe : chanceryref2_FracError (v.data.2.1.1, (v.data.2.1.2.1, ())) = some (fracErr (vnum v), ()) := fracError_eq hs.1 hs.2
  unfold chanceryref2_ValueError_s
  simp only [VE1, Option.bind_some, cond_some', cond_pair, Bool.cond_self, rTextErr_eq, rFaultText_eq, hfe]
  rw [formB, ← formBad_eq, arrB]
  by_cases h0 : v.data.1 < 0
  · rw [decide_eq_true h0, cond_true, cond_true]
    have e : verr1 v = 8 := if_pos (Or.inl h0)
    unfold verr
    rw [e]; rfl
  by_cases h6 : 5 < v.data.1
  · rw [decide_eq_true h6, decide_eq_false h0, cond_false, cond_true]
    have e : verr1 v = 8 := if_pos (Or.inr h6)
    unfold verr
    rw [e]; rfl
  rw [decide_eq_false h0, decide_eq_false h6, cond_false, cond_false]
  by_cases hb : formBad v = true
  · rw [hb, cond_true]
    have e : verr1 v = 4 := (if_neg (by unfold vkind; omega)).trans (if_pos hb)
    unfold verr
    rw [e]; rfl
  have hb : formBad v = false := by cases h : formBad v <;> simp_all
  rw [hb]
  have e : verr1 v = if vkind v = 1 then fracErr (vnum v) else if vkind v = 2 then textErr (vtext v) else if vkind v = 4 ∧ ftext (vcode v) = [] then 2 else 0 :=
    (if_neg (by unfold vkind; omega)).trans (if_neg (by rw [hb]; exact Bool.false_ne_true))
  rw [cond_false]
  by_cases h1 : v.data.1 = 1
  · rw [verr_flat (by unfold vkind; omega), e, decide_eq_true h1, cond_true, if_pos h1]
  rw [decide_eq_false h1, cond_false]
  rw [if_neg h1] at e
  by_cases h2 : v.data.1 = 2
  · rw [verr_flat (by unfold vkind; omega), e, decide_eq_true h2, cond_true, if_pos h2]
  rw [decide_eq_false h2, cond_false]
  rw [if_neg h2] at e
  by_cases h4 : v.data.1 = 4
  · rw [verr_flat (by unfold vkind; omega), e, decide_eq_true h4, cond_true]
    by_cases hc : ftext v.data.2.2.2.2.1 = []
    · rw [decide_eq_true hc, cond_true, if_pos ⟨h4, hc⟩]
    · rw [decide_eq_false hc, cond_false, if_neg (fun e => hc e.2), decide_eq_true (by omega), cond_true]
  rw [if_neg (fun e => h4 e.1)] at e
  rw [decide_eq_false h4, cond_false, cond_false]
  by_cases h5 : ¬ v.data.1 = 5
  · rw [verr_flat h5, e, decide_eq_true (by omega), cond_true]
  have h5 : v.data.1 = 5 := by omega
  rw [decide_eq_false (by omega), cond_false]
  have ev : verr v = if arrHead v ≠ 0 then arrHead v else itemsErr v.kids := (if_neg (by omega)).trans (if_pos h5)
  rw [ev]
  by_cases g1 : v.data.2.2.2.2.2.1 < 1 ∨ 100000 < v.data.2.2.2.2.2.1 ∨ v.data.2.2.2.2.2.2.1 < 1 ∨ 100000 < v.data.2.2.2.2.2.2.1
  · rw [decide_eq_true g1, cond_true]
    have eh : arrHead v = 2 := if_pos g1
    rw [eh]; rfl
  obtain ⟨w1, w2⟩ := mul_small g1
  rw [decide_eq_false g1, cond_false, w1]
  have eh : arrHead v = _ := if_neg g1
  by_cases g2 : 100000 < v.data.2.2.2.2.2.1 * v.data.2.2.2.2.2.2.1
  · rw [if_pos g2] at eh
    rw [decide_eq_true g2, cond_true, eh]; rfl
  rw [if_neg g2] at eh
  rw [decide_eq_false g2, cond_false]
  by_cases g3 : ¬ v.data.2.2.2.2.2.1 * v.data.2.2.2.2.2.2.1 = (v.kids.length : Int)
  · rw [if_pos (fun e => g3 e.symm)] at eh
    rw [decide_eq_false g3, Bool.not_false, cond_true, eh]; rfl
  have g3 : v.data.2.2.2.2.2.1 * v.data.2.2.2.2.2.2.1 = (v.kids.length : Int) := by omega
  rw [if_neg (fun e => e g3.symm)] at eh
  rw [decide_eq_true g3, Bool.not_true, cond_false, eh, if_neg (by omega)]
  have hl := items_halts (f := chanceryref2_ValueError_l1 ((), false, (v.data.1, v.data.2.1.1, v.data.2.1.2.1, v.data.2.2.1, v.data.2.2.2.1, v.data.2.2.2.2.1, v.data.2.2.2.2.2.1, v.data.2.2.2.2.2.2.1, v.kids, ()), ()) rec) (l := v.kids) (by omega) (by
      intro i hi
      unfold chanceryref2_ValueError_l1
      simp only []
      rw [decide_eq_true (by omega : (i : Int) < (v.kids.length : Int)), cond_true, idx_lt hi, Option.bind_some]
      by_cases k5 : vkind v.kids[i] = 5
      · rw [decide_eq_true k5, cond_true, if_pos k5]
      rw [decide_eq_false k5, cond_false, if_neg k5, tn_eq, hrec h5 _ (List.getElem_mem hi) k5, Option.bind_some]
      by_cases hv : verr1 v.kids[i] = 0
      · rw [if_neg (by omega), decide_eq_true hv, Bool.not_true, cond_false, wrap_i64 (by omega) (by omega)]
        rfl
      · rw [if_pos hv, decide_eq_false hv, Bool.not_false, cond_true]) (by
      unfold chanceryref2_ValueError_l1
      simp only []
      rw [decide_eq_false (by omega), cond_false]) v.kids.length 0 (by omega)
  rw [List.drop_zero] at hl
  rw [show ((0 : Int), ()) = (((0 : Nat) : Int), ()) from rfl, hl.loop (by omega), Option.bind_some]
  by_cases hi : itemsErr v.kids = 0
  · rw [if_pos hi, hi]; rfl
  · rw [if_neg hi]
theorem array_eq (rec : Val → Option (Int × Unit)) (v : Val) (hrec : ∀ x ∈ v.kids, vkind x ≠ 5 → rec x = some (verr1 x, ())) :
    value_array rec v = some (if arrHead v ≠ 0 then arrHead v else itemsErr v.kids, ()) := by
  unfold value_array
  simp only [Option.bind_some, cond_some', cond_pair, Bool.cond_self]
  rw [arrB']
  by_cases g1 : v.data.2.2.2.2.2.1 < 1 ∨ 100000 < v.data.2.2.2.2.2.1 ∨ v.data.2.2.2.2.2.2.1 < 1 ∨ 100000 < v.data.2.2.2.2.2.2.1
  · rw [decide_eq_true g1, cond_true]
    have eh : arrHead v = 2 := if_pos g1
    rw [eh]; rfl
  obtain ⟨w1, w2⟩ := mul_small g1
  rw [decide_eq_false g1, cond_false, w1]
  have eh : arrHead v = _ := if_neg g1
  by_cases g2 : 100000 < v.data.2.2.2.2.2.1 * v.data.2.2.2.2.2.2.1
  · rw [if_pos g2] at eh
    rw [decide_eq_true g2, cond_true, eh]; rfl
  rw [if_neg g2] at eh
  rw [decide_eq_false g2, cond_false]
  by_cases g3 : ¬ (v.kids.length : Int) = v.data.2.2.2.2.2.1 * v.data.2.2.2.2.2.2.1
  · rw [if_pos g3] at eh
    rw [decide_eq_false g3, Bool.not_false, cond_true, eh]; rfl
  have g3 : (v.kids.length : Int) = v.data.2.2.2.2.2.1 * v.data.2.2.2.2.2.2.1 := by omega
  rw [if_neg (fun e => e g3)] at eh
  rw [decide_eq_true g3, Bool.not_true, cond_false, eh, if_neg (by omega)]
  have hl := items_halts (f := value_array_l1 ((), false, (v.data.1, v.data.2.1.1, v.data.2.1.2.1, v.data.2.2.1, v.data.2.2.2.1, v.data.2.2.2.2.1, v.data.2.2.2.2.2.1, v.data.2.2.2.2.2.2.1, v.kids, ()), ()) rec) (l := v.kids) (by omega) (by
      intro i hi
      unfold value_array_l1
      simp only []
      rw [decide_eq_true (by omega : (i : Int) < (v.kids.length : Int)), cond_true, idx_lt hi, Option.bind_some]
      by_cases k5 : vkind v.kids[i] = 5
      · rw [decide_eq_true k5, cond_true, if_pos k5]
      rw [decide_eq_false k5, cond_false, if_neg k5, tn_eq, hrec _ (List.getElem_mem hi) k5, Option.bind_some]
      by_cases hv : verr1 v.kids[i] = 0
      · rw [if_neg (by omega), decide_eq_true hv, Bool.not_true, cond_false, wrap_i64 (by omega) (by omega)]
        rfl
      · rw [if_pos hv, decide_eq_false hv, Bool.not_false, cond_true]) (by
      unfold value_array_l1
      simp only []
      rw [decide_eq_false (by omega), cond_false]) v.kids.length 0 (by omega)
  rw [List.drop_zero] at hl
  rw [show ((0 : Int), ()) = (((0 : Nat) : Int), ()) from rfl, hl.loop (by omega), Option.bind_some]
  by_cases hi : itemsErr v.kids = 0
  · rw [if_pos hi, hi]; rfl
  · rw [if_neg hi]
theorem Check_s (rec : Val → Option (Int × Unit)) (v : Val) (hs : SmallN v) (hrec : vkind v = 5 → ∀ x ∈ v.kids, vkind x ≠ 5 → rec x = some (verr1 x, ())) : value_Check_s rec v = some (verr v, ()) := by
  have hfe : exact_Check (v.data.2.1.1, (v.data.2.1.2.1, ())) = some (fracErr (vnum v), ()) := Check_eq hs.1 hs.2
  unfold value_Check_s
  simp only [Option.bind_some, cond_some', cond_pair, Bool.cond_self, remade, zeros_eq, TextErr_eq, FaultText_eq, hfe]
  by_cases h0 : v.data.1 < 0
  · rw [decide_eq_true h0, cond_true, cond_true]
    have e : verr1 v = 8 := if_pos (Or.inl h0)
    unfold verr
    rw [e]; rfl
  by_cases h6 : 5 < v.data.1
  · rw [decide_eq_true h6, decide_eq_false h0, cond_false, cond_true]
    have e : verr1 v = 8 := if_pos (Or.inr h6)
    unfold verr
    rw [e]; rfl
  rw [decide_eq_false h0, decide_eq_false h6, cond_false, cond_false]
  by_cases hb : formBad v = true
  · rw [if_pos hb]
    have e : verr1 v = 4 := (if_neg (by unfold vkind; omega)).trans (if_pos hb)
    unfold verr
    rw [e]; rfl
  have e : verr1 v = if vkind v = 1 then fracErr (vnum v) else if vkind v = 2 then textErr (vtext v) else if vkind v = 4 ∧ ftext (vcode v) = [] then 2 else 0 :=
    (if_neg (by unfold vkind; omega)).trans (if_neg hb)
  rw [if_neg hb, decide_eq_true rfl, Bool.not_true, cond_false]
  by_cases h1 : v.data.1 = 1
  · rw [verr_flat (by unfold vkind; omega), e, decide_eq_true h1, cond_true, if_pos h1]; rfl
  rw [decide_eq_false h1, cond_false]
  rw [if_neg h1] at e
  by_cases h2 : v.data.1 = 2
  · rw [verr_flat (by unfold vkind; omega), e, decide_eq_true h2, cond_true, if_pos h2]; rfl
  rw [decide_eq_false h2, cond_false]
  rw [if_neg h2] at e
  by_cases h4 : v.data.1 = 4
  · rw [verr_flat (by unfold vkind; omega), e, decide_eq_true h4, cond_true]
    by_cases hc : ftext v.data.2.2.2.2.1 = []
    · rw [decide_eq_true hc, cond_true, if_pos ⟨h4, hc⟩]; rfl
    · rw [decide_eq_false hc, cond_false, if_neg (fun e => hc e.2)]; rfl
  rw [if_neg (fun e => h4 e.1)] at e
  rw [decide_eq_false h4, cond_false]
  by_cases h5 : ¬ v.data.1 = 5
  · rw [verr_flat h5, e, decide_eq_false h5, cond_false]; rfl
  have h5 : v.data.1 = 5 := by omega
  rw [decide_eq_true h5, cond_true, array_eq rec v (hrec h5)]
  have ev : verr v = if arrHead v ≠ 0 then arrHead v else itemsErr v.kids := (if_neg (by omega)).trans (if_pos h5)
  rw [ev]; rfl
def SmallV (v : Val) : Prop := SmallN v ∧ ∀ x ∈ v.kids, SmallN x
theorem rErr_eq {v : Val} (hs : SmallV v) : chanceryref2_ValueError v = some (verr v, ()) :=
  rErr_s _ v hs.1 fun _ x hx h5 => (rErr_s _ x (hs.2 x hx) (fun h => absurd h h5)).trans (by rw [verr_flat h5])
theorem VCheck_eq {v : Val} (hs : SmallV v) : value_Check v = some (verr v, ()) :=
  Check_s _ v hs.1 fun _ x hx h5 => (Check_s _ x (hs.2 x hx) (fun h => absurd h h5)).trans (by rw [verr_flat h5])
end Go.Proofs.YtmbejoibeninmaaGreatDoor
