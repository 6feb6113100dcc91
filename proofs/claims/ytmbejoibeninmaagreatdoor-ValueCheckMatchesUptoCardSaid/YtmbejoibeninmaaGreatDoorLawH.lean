import Derived.Test.YtmbejoibeninmaaGreatDoorLawG
namespace Go.Proofs.YtmbejoibeninmaaGreatDoor
open Go Go.Fe
open Classical

/-! ### How much a value holds -/
abbrev dataTy : Ty := .pair (.int .i64) (.pair (.pair .str (.pair .str .unit)) (.pair .str (.pair .bool (.pair (.int .i64) (.pair (.int .i64) (.pair (.int .i64) .unit))))))
def vb (v : Val) : Nat := Ty.bulk (.mu dataTy) v
theorem vb_eq (v : Val) : vb v = 1 + ((v.data.2.1.1.length + 1 + (v.data.2.1.2.1.length + 1 + 0)) + (v.data.2.2.1.length + 1 + 5 - 1)) + ((v.kids.map vb).sum + 1) := by
  obtain ⟨d, ks⟩ := v
  have h : vb (.node d ks) = Ty.bulk dataTy d + (Tree.bulks (fun y => Ty.bulk dataTy y) ks + 1) := by
    show Tree.bulk (fun y => Ty.bulk dataTy y) (.node d ks) = _
    rw [Tree.bulk]
  rw [h, Tree.bulks_eq]
  have e : ∀ l : List Val, List.map (Tree.bulk fun y => dataTy.bulk y) l = List.map vb l := fun l => by
    refine List.map_congr_left fun x _ => ?_
    unfold vb
    rfl
  have e' : (ks.map (Tree.bulk fun y => dataTy.bulk y)).sum = (ks.map vb).sum := congrArg List.sum (e ks)
  rw [e']
  simp only [Ty.bulk, Tree.data, Tree.kids]
  omega
theorem vb_pos (v : Val) : 1 ≤ vb v := by rw [vb_eq]; omega
theorem sum_ge {l : List Val} {x : Val} (h : x ∈ l) : vb x ≤ (l.map vb).sum := by
  induction l with
  | nil => cases h
  | cons y r ih =>
    rw [List.map_cons, List.sum_cons]
    rcases List.mem_cons.1 h with e | e
    · rw [e]; omega
    · have := ih e; omega
theorem sum_len (l : List Val) : l.length ≤ (l.map vb).sum := by
  induction l with
  | nil => simp
  | cons y r ih =>
    rw [List.map_cons, List.sum_cons, List.length_cons]
    have := vb_pos y; omega
theorem vb_kid {v x : Val} (h : x ∈ v.kids) : vb x < vb v := by
  have := sum_ge h
  rw [vb_eq v]; omega
theorem vb_len (v : Val) : v.kids.length < vb v := by
  have := sum_len v.kids
  rw [vb_eq v]; omega
theorem vb_smallN {v : Val} (h : vb v ≤ 1048576) : SmallN v := by
  rw [vb_eq] at h
  constructor <;> (simp only [vnum]; omega)
theorem vb_small {v : Val} (h : vb v ≤ 1048576) : SmallV v :=
  ⟨vb_smallN h, fun x hx => vb_smallN (by have := vb_kid hx; omega)⟩

/-! ### Values that are the same -/
theorem tree_eq (a b : Val) : a = b ↔ a.data = b.data ∧ a.kids = b.kids := by
  constructor
  · rintro rfl; exact ⟨rfl, rfl⟩
  · rintro ⟨h1, h2⟩
    rw [← tn_eq a, ← tn_eq b]
    unfold tn
    rw [h1, h2]
theorem data_eq (x y : VData) : x = y ↔ x.1 = y.1 ∧ x.2.1 = y.2.1 ∧ x.2.2.1 = y.2.2.1 ∧ x.2.2.2.1 = y.2.2.2.1 ∧ x.2.2.2.2.1 = y.2.2.2.2.1 ∧ x.2.2.2.2.2.1 = y.2.2.2.2.2.1 ∧ x.2.2.2.2.2.2.1 = y.2.2.2.2.2.2.1 := by
  constructor
  · rintro rfl; exact ⟨rfl, rfl, rfl, rfl, rfl, rfl, rfl⟩
  · rintro ⟨h1, h2, h3, h4, h5, h6, h7⟩
    exact Prod.ext h1 (Prod.ext h2 (Prod.ext h3 (Prod.ext h4 (Prod.ext h5 (Prod.ext h6 (Prod.ext h7 rfl))))))
noncomputable def sameV (a b : Val) : Bool := decide (a = b)
theorem beq_num (f g : Str × (Str × Unit)) : Ty.beq (.pair .str (.pair .str .unit)) f g = decide (f = g) := by
  obtain ⟨f1, f2, ⟨⟩⟩ := f
  obtain ⟨g1, g2, ⟨⟩⟩ := g
  simp [Ty.beq]
theorem same_halts {σ : Type} {f : σ → Option (σ ⊕ (Unit ⊕ (Bool × Unit)))} (st : Nat → σ) {l m : List Val} (hlen : l.length = m.length)
    (hf : ∀ i (h : i < l.length), f (st i) = some (if l[i] = m[i]'(by omega) then .inl (st (i + 1)) else .inr (.inr (false, ()))))
    (he : f (st l.length) = some (.inr (.inl ()))) : ∀ (k i : Nat), i + k = l.length → Halts f (k + 1) (st i) (if l.drop i = m.drop i then .inl () else .inr (false, ()))
  | 0, i, hk => by
    have : i = l.length := by omega
    subst this
    rw [List.drop_length, hlen, List.drop_length, if_pos rfl, ← hlen]
    exact Halts.done he
  | k + 1, i, hk => by
    have h : i < l.length := by omega
    have hs := hf i h
    have e : (l.drop i = m.drop i) ↔ (l[i] = m[i]'(by omega) ∧ l.drop (i + 1) = m.drop (i + 1)) := by
      rw [List.drop_eq_getElem_cons h, List.drop_eq_getElem_cons (show i < m.length by omega), List.cons.injEq]
    by_cases hv : l[i] = m[i]'(by omega)
    · rw [if_pos hv] at hs
      have ih := same_halts st hlen hf he k (i + 1) (by omega)
      simp only [e, hv, true_and]
      exact Halts.step hs ih
    · rw [if_neg hv] at hs
      rw [if_neg (fun x => hv (e.1 x).1)]
      exact Halts.done hs
theorem items_same {σ : Type} {f : σ → Option (σ ⊕ (Unit ⊕ (Bool × Unit)))} (st : Nat → σ) {l m : List Val} (hlen : l.length = m.length) (hl : l.length < 1000000000)
    (hf : ∀ i (h : i < l.length), f (st i) = some (if l[i] = m[i]'(by omega) then .inl (st (i + 1)) else .inr (.inr (false, ()))))
    (he : f (st l.length) = some (.inr (.inl ()))) : loop f (st 0) = some (if l = m then .inl () else .inr (false, ())) := by
  have := same_halts st hlen hf he l.length 0 (by omega)
  rw [List.drop_zero, List.drop_zero] at this
  exact this.loop (by omega)
theorem same_s {n : Nat} (ih : ∀ a b : Val, vb a < n → vb a ≤ 1048576 → value_Same_f n a b = some (sameV a b, ())) {a b : Val} (h : vb a < n + 1) (hs : vb a ≤ 1048576) : value_Same_f (n + 1) a b = some (sameV a b, ()) := by
  show value_Same_s (value_Same_f n) a b = _
  have hlt := vb_len a
  have hk : api_Value__Same (value_Same_f n) a.kids b.kids = some (decide (a.kids = b.kids), ()) := by
    unfold api_Value__Same
    by_cases hlen : a.kids.length = b.kids.length
    · rw [decide_eq_true (by omega), Bool.not_true, cond_false]
      have key : loop (api_Value__Same_l1 a.kids b.kids (value_Same_f n)) ((), 0, ()) = _ := items_same (f := api_Value__Same_l1 a.kids b.kids (value_Same_f n)) (fun i => ((), (i : Int), ())) hlen (by omega) (by
        intro i hi
        unfold api_Value__Same_l1
        simp only []
        rw [decide_eq_true (by omega : (i : Int) < (a.kids.length : Int)), cond_true, idx_lt hi, Option.bind_some, idx_lt (show i < b.kids.length by omega), Option.bind_some, tn_eq, tn_eq, ih _ _ (by have := vb_kid (List.getElem_mem hi); omega) (by have := vb_kid (List.getElem_mem hi); omega), Option.bind_some]
        unfold sameV
        by_cases e : a.kids[i] = b.kids[i]
        · rw [decide_eq_true e, if_pos e, Bool.not_true, cond_false, wrap_i64 (by omega) (by omega)]; rfl
        · rw [decide_eq_false e, if_neg e, Bool.not_false, cond_true]) (by
        unfold api_Value__Same_l1
        simp only []
        rw [decide_eq_false (by omega), cond_false])
      rw [key, Option.bind_some]
      by_cases e : a.kids = b.kids
      · rw [if_pos e, decide_eq_true e]
      · rw [if_neg e, decide_eq_false e]
    · rw [decide_eq_false (by omega), Bool.not_false, cond_true, decide_eq_false (fun e => hlen (congrArg _ e))]
  have hb : Ty.beq (.pair .str (.pair .str .unit)) (a.data.2.1.1, (a.data.2.1.2.1, ())) (b.data.2.1.1, (b.data.2.1.2.1, ())) = decide (a.data.2.1 = b.data.2.1) := beq_num a.data.2.1 b.data.2.1
  have no : ∀ {P : Prop}, ¬ P → (a = b → P) → sameV a b = false := fun hn f => decide_eq_false (fun e => hn (f e))
  unfold value_Same_s
  simp only [tn_eq]
  rw [hk, Option.bind_some, hb]
  by_cases h1 : a.data.1 = b.data.1
  · by_cases h2 : a.data.2.1 = b.data.2.1
    · by_cases h3 : a.data.2.2.1 = b.data.2.2.1
      · by_cases h4 : a.data.2.2.2.1 = b.data.2.2.2.1
        · by_cases h5 : a.data.2.2.2.2.1 = b.data.2.2.2.2.1
          · by_cases h6 : a.data.2.2.2.2.2.1 = b.data.2.2.2.2.2.1
            · by_cases h7 : a.data.2.2.2.2.2.2.1 = b.data.2.2.2.2.2.2.1
              · rw [decide_eq_true h1, cond_true, decide_eq_true h2, cond_true, decide_eq_true h3, cond_true, h4, beq_self_eq_true, cond_true, decide_eq_true h5, cond_true, decide_eq_true h6, cond_true, decide_eq_true h7, cond_true]
                unfold sameV
                by_cases h8 : a.kids = b.kids
                · rw [decide_eq_true h8, decide_eq_true ((tree_eq a b).2 ⟨(data_eq _ _).2 ⟨h1, h2, h3, h4, h5, h6, h7⟩, h8⟩)]
                · rw [decide_eq_false h8, decide_eq_false (fun e => h8 (by rw [e]))]
              · rw [no h7 (fun e => by rw [e]), decide_eq_true h1, cond_true, decide_eq_true h2, cond_true, decide_eq_true h3, cond_true, h4, beq_self_eq_true, cond_true, decide_eq_true h5, cond_true, decide_eq_true h6, cond_true, decide_eq_false h7, cond_false]
            · rw [no h6 (fun e => by rw [e]), decide_eq_true h1, cond_true, decide_eq_true h2, cond_true, decide_eq_true h3, cond_true, h4, beq_self_eq_true, cond_true, decide_eq_true h5, cond_true, decide_eq_false h6, cond_false]
          · rw [no h5 (fun e => by rw [e]), decide_eq_true h1, cond_true, decide_eq_true h2, cond_true, decide_eq_true h3, cond_true, h4, beq_self_eq_true, cond_true, decide_eq_false h5, cond_false]
        · rw [no h4 (fun e => by rw [e]), decide_eq_true h1, cond_true, decide_eq_true h2, cond_true, decide_eq_true h3, cond_true, beq_eq_false_iff_ne.2 h4, cond_false]
      · rw [no h3 (fun e => by rw [e]), decide_eq_true h1, cond_true, decide_eq_true h2, cond_true, decide_eq_false h3, cond_false]
    · rw [no h2 (fun e => by rw [e]), decide_eq_true h1, cond_true, decide_eq_false h2, cond_false]
  · rw [no h1 (fun e => by rw [e]), decide_eq_false h1, cond_false]
theorem rsame_s {n : Nat} (ih : ∀ a b : Val, vb a < n → vb a ≤ 1048576 → chanceryref2_SameValue_f n a b = some (sameV a b, ())) {a b : Val} (h : vb a < n + 1) (hs : vb a ≤ 1048576) : chanceryref2_SameValue_f (n + 1) a b = some (sameV a b, ()) := by
  show chanceryref2_SameValue_s (chanceryref2_SameValue_f n) a b = _
  have hlt := vb_len a
  have hb : Ty.beq (.pair .str (.pair .str .unit)) (a.data.2.1.1, (a.data.2.1.2.1, ())) (b.data.2.1.1, (b.data.2.1.2.1, ())) = decide (a.data.2.1 = b.data.2.1) := beq_num a.data.2.1 b.data.2.1
  have no : ∀ {P : Prop}, ¬ P → (a = b → P) → sameV a b = false := fun hn f => decide_eq_false (fun e => hn (f e))
  unfold chanceryref2_SameValue_s
  simp only [cond_some', cond_pair, Bool.cond_self, Option.bind_some]
  rw [hb]
  by_cases h1 : a.data.1 = b.data.1
  · by_cases h2 : a.data.2.1 = b.data.2.1
    · by_cases h3 : a.data.2.2.1 = b.data.2.2.1
      · by_cases h4 : a.data.2.2.2.1 = b.data.2.2.2.1
        · by_cases h5 : a.data.2.2.2.2.1 = b.data.2.2.2.2.1
          · by_cases h6 : a.data.2.2.2.2.2.1 = b.data.2.2.2.2.2.1
            · by_cases h7 : a.data.2.2.2.2.2.2.1 = b.data.2.2.2.2.2.2.1
              · by_cases hlen : a.kids.length = b.kids.length
                · rw [decide_eq_true h1, decide_eq_true h2, decide_eq_true h3, h4, beq_self_eq_true, decide_eq_true h5, decide_eq_true h6, decide_eq_true h7, decide_eq_true (by omega : (a.kids.length : Int) = (b.kids.length : Int))]
                  simp only [Bool.not_true, cond_false]
                  refine (congrArg (fun z => Option.bind z _) (items_same (fun i => ((), (), (i : Int), _, _, ())) hlen (by omega) ?_ ?_)).trans ?_
                  · intro i hi
                    unfold chanceryref2_SameValue_l1
                    simp only []
                    rw [decide_eq_true (by omega : (i : Int) < (a.kids.length : Int)), cond_true, idx_lt hi, Option.bind_some, idx_lt (show i < b.kids.length by omega), Option.bind_some, ih _ _ (by have := vb_kid (List.getElem_mem hi); omega) (by have := vb_kid (List.getElem_mem hi); omega), Option.bind_some]
                    unfold sameV
                    by_cases e : a.kids[i] = b.kids[i]
                    · rw [decide_eq_true e, if_pos e, Bool.not_true, cond_false, wrap_i64 (by omega) (by omega)]; rfl
                    · rw [decide_eq_false e, if_neg e, Bool.not_false, cond_true]
                  · unfold chanceryref2_SameValue_l1
                    simp only []
                    rw [decide_eq_false (by omega), cond_false]
                  · unfold sameV
                    by_cases h8 : a.kids = b.kids
                    · rw [if_pos h8, decide_eq_true ((tree_eq a b).2 ⟨(data_eq _ _).2 ⟨h1, h2, h3, h4, h5, h6, h7⟩, h8⟩)]; rfl
                    · rw [if_neg h8, decide_eq_false (fun e => h8 (by rw [e]))]; rfl
                · rw [no hlen (fun e => by rw [e]), decide_eq_true h1, decide_eq_true h2, decide_eq_true h3, h4, beq_self_eq_true, decide_eq_true h5, decide_eq_true h6, decide_eq_true h7, decide_eq_false (show ¬ (a.kids.length : Int) = (b.kids.length : Int) by omega)]; rfl
              · rw [no h7 (fun e => by rw [e]), decide_eq_true h1, decide_eq_true h2, decide_eq_true h3, h4, beq_self_eq_true, decide_eq_true h5, decide_eq_true h6, decide_eq_false h7]; rfl
            · rw [no h6 (fun e => by rw [e]), decide_eq_true h1, decide_eq_true h2, decide_eq_true h3, h4, beq_self_eq_true, decide_eq_true h5, decide_eq_false h6]; rfl
          · rw [no h5 (fun e => by rw [e]), decide_eq_true h1, decide_eq_true h2, decide_eq_true h3, h4, beq_self_eq_true, decide_eq_false h5]; rfl
        · rw [no h4 (fun e => by rw [e]), decide_eq_true h1, decide_eq_true h2, decide_eq_true h3, beq_eq_false_iff_ne.2 h4]; rfl
      · rw [no h3 (fun e => by rw [e]), decide_eq_true h1, decide_eq_true h2, decide_eq_false h3]; rfl
    · rw [no h2 (fun e => by rw [e]), decide_eq_true h1, decide_eq_false h2]; rfl
  · rw [no h1 (fun e => by rw [e]), decide_eq_false h1]; rfl
theorem Same_f : ∀ (n : Nat) (a b : Val), vb a < n → vb a ≤ 1048576 → value_Same_f n a b = some (sameV a b, ())
  | 0, _, _, h, _ => absurd h (Nat.not_lt_zero _)
  | n + 1, _, _, h, hs => same_s (Same_f n) h hs
theorem rSame_f : ∀ (n : Nat) (a b : Val), vb a < n → vb a ≤ 1048576 → chanceryref2_SameValue_f n a b = some (sameV a b, ())
  | 0, _, _, h, _ => absurd h (Nat.not_lt_zero _)
  | n + 1, _, _, h, hs => rsame_s (rSame_f n) h hs
theorem Same_eq {a b : Val} (hs : vb a ≤ 1048576) : value_Same a b = some (sameV a b, ()) := Same_f rounds a b (by unfold rounds; omega) hs
theorem rSame_eq {a b : Val} (hs : vb a ≤ 1048576) : chanceryref2_SameValue a b = some (sameV a b, ()) := rSame_f rounds a b (by unfold rounds; omega) hs
theorem sameV_self (a : Val) : sameV a a = true := decide_eq_true rfl
end Go.Proofs.YtmbejoibeninmaaGreatDoor
