/- The operations of a region, in the text's order and in any other. -/
import Derived.Test.YtmkpdineahbfkaaGreatDoorFePst
namespace Go.Fe
open Go

theorem set_same : ∀ (s : St) {k : Nat} {c : C}, s.get k = some c → s.set k c = s
  | [], k, c, h => by simp [St.get] at h
  | (j, d) :: r, k, c, h => by
    simp only [St.get] at h
    simp only [St.set]
    split at h
    · rename_i e
      cases h
      rw [if_pos e, e]
    · rename_i e
      rw [if_neg e, set_same r h]

section
variable {Γ : Ctx} {P : Program} {n : Nat} {f : Frame0} {F : Froz} {κ : Conc} {s : St} {a : Act} {w : World} {g : Nat → Option C}

/-- A region's steps told with what follows, and alone. -/
theorem evOpsK_eq {X : Type} {ops : Array Oper} {hs : List OH} {k : St → Option X} : ∀ (l : List Nat) (s : St) {x : X}, evOpsK Γ n ops hs k l s = some x → ∃ s', evSteps Γ n ops hs l s = some s' ∧ k s' = some x
  | [], s, x, h => ⟨s, rfl, by simpa only [evOpsK] using h⟩
  | i :: rest, s, x, h => by
    simp only [evOpsK] at h
    cases ho : ops[i]? with
    | none => rw [ho] at h; cases h
    | some o =>
      rw [ho] at h
      simp only at h
      have go : ∀ s, (match evOp Γ n (hs.getD i {}) o s with
          | none => none
          | some (u, r) => r.k fun v => if keysIn (u ++ v) ((hs.getD i {}).outs o) then evOpsK Γ n ops hs k rest (s.upd (u ++ v)) else none) = some x →
          ∃ u, (match evOp Γ n (hs.getD i {}) o s with
            | none => none
            | some (u, r) => r.run.bind fun v => if keysIn (u ++ v) ((hs.getD i {}).outs o) then some (u ++ v) else none) = some u ∧ ∃ s', evSteps Γ n ops hs rest (s.upd u) = some s' ∧ k s' = some x := by
        intro s h
        cases he : evOp Γ n (hs.getD i {}) o s with
        | none => rw [he] at h; cases h
        | some p =>
          obtain ⟨u, r⟩ := p
          rw [he] at h
          simp only [Res.k_eq, Option.bind_eq_some_iff] at h
          obtain ⟨v, hv, h⟩ := h
          split at h
          · rename_i hk
            obtain ⟨s', h1, h2⟩ := evOpsK_eq rest _ h
            exact ⟨u ++ v, by simp only [hv, Option.bind_some, hk, if_true], s', h1, h2⟩
          · cases h
      have fin : ∀ {u}, evU Γ n ops hs i s = some u → (∃ s', evSteps Γ n ops hs rest (s.upd u) = some s' ∧ k s' = some x) → ∃ s', evSteps Γ n ops hs (i :: rest) s = some s' ∧ k s' = some x := by
        rintro u hu ⟨s', h1, h2⟩
        exact ⟨s', by simp only [evSteps, evStep, hu, Option.map_some, Option.bind_some, h1], h2⟩
      cases hgd : o.guard with
      | none =>
        rw [hgd] at h
        obtain ⟨u, h1, h2⟩ := go s h
        refine fin ?_ h2
        simp only [evU, ho, hgd]
        exact h1
      | some p =>
        obtain ⟨j, want⟩ := p
        rw [hgd] at h
        simp only at h
        cases hsl : gslot ops j with
        | none => rw [hsl] at h; cases h
        | some d =>
          rw [hsl] at h
          simp only at h
          split at h
          · rename_i hd
            split at h
            · rename_i b hb
              have hset : s.set d (.val .bool b) = s := set_same s hb
              have skip : ∀ {s : St}, (if o.dst.all (fun d => decide (d < n) && decide (d < 100000)) then evOpsK Γ n ops hs k rest (s.upd (Out1 o.dst (.tup .unit))) else none) = some x →
                  o.dst.all (fun d => decide (d < n) && decide (d < 100000)) = true ∧ ∃ s', evSteps Γ n ops hs rest (s.upd (Out1 o.dst (.tup .unit))) = some s' ∧ k s' = some x := fun {s} h => by
                split at h
                · rename_i hok
                  exact ⟨hok, evOpsK_eq rest _ h⟩
                · cases h
              cases b
              · simp only [cond_false] at h
                rw [hset] at h
                split at h
                · rename_i hw
                  obtain ⟨h1, h2⟩ := skip h
                  refine fin ?_ h2
                  simp only [evU, ho, hgd, hsl, hd, if_true, hb, hw, h1, Bool.false_eq_true, if_false]
                · rename_i hw
                  have hw' : want = false := by simpa using hw
                  obtain ⟨u, h1, h2⟩ := go s h
                  refine fin ?_ h2
                  simp only [evU, ho, hgd, hsl, hd, if_true, hb, hw']
                  exact h1
              · simp only [cond_true] at h
                rw [hset] at h
                split at h
                · rename_i hw
                  obtain ⟨u, h1, h2⟩ := go s h
                  refine fin ?_ h2
                  simp only [evU, ho, hgd, hsl, hd, if_true, hb, hw]
                  exact h1
                · rename_i hw
                  have hw' : want = false := by simpa using hw
                  obtain ⟨h1, h2⟩ := skip h
                  refine fin ?_ h2
                  simp only [evU, ho, hgd, hsl, hd, if_true, hb, hw', h1, Bool.true_eq_false, if_false]
            · rename_i hb
              split at h
              · rename_i hok
                refine fin ?_ (evOpsK_eq rest _ h)
                simp only [evU, ho, hgd, hsl, hd, if_true, hb, hok]
              · cases h
            · cases h
          · cases h

theorem rep_skip : RepC F κ s (.tup .unit) undef := by
  simp only [RepL]
  exact ⟨[], rfl, rfl⟩
theorem rep_skip_eq {v : Value} (h : RepC F κ s (.tup .unit) v) : v = undef := by
  simp only [RepL] at h
  obtain ⟨us, h1, h2⟩ := h
  subst h2
  simpa [undef] using h1

/-- A slot told anew. -/
theorem Inv.reslot (hI : Inv n f F κ s a w) {k : Nat} {c : C} (hk : k < 100000) (hv : RepC F κ s c (a.tmps.getD k undef)) (hc : ∀ o ∈ c.refs, (s.get (okey o)).isSome = true) : Inv n f F κ (s.set k c) a w := by
  have hle : ∀ o, ObjLe κ s κ (s.set k c) o := fun o => .of_eq (get_slot hk o) rfl
  constructor
  · exact hI.tmps
  · exact hI.defers
  · exact hI.frozen
  · intro j c' hj hj'
    rw [St.get_set] at hj
    split at hj
    · rename_i e; subst e
      cases hj
      exact RepL.mono (Froz.le_refl F) _ _ (fun o _ => hle o) hv
    · exact RepL.mono (Froz.le_refl F) _ _ (fun o _ => hle o) (hI.slots j c' hj hj')
  · intro o c' ho
    rw [get_slot hk] at ho
    exact RepO.mono (Froz.le_refl F) rfl (fun o _ => hle o) (fun _ _ _ _ => rfl) (hI.objs o c' ho)
  · intro o c' b p q ho
    rw [get_slot hk] at ho
    exact hI.free o c' b p q ho
  · intro o c' b p q o' c'' p' q' ho h1 h2 ho'
    rw [get_slot hk] at ho ho'
    exact hI.apart o c' b p q o' c'' p' q' ho h1 h2 ho'
  · intro j c' hj o ho
    rw [get_slot hk]
    rw [St.get_set] at hj
    split at hj
    · cases hj; exact hc o ho
    · exact hI.closed j c' hj o ho
  · exact hI.kept
  · exact hI.grown

theorem frz_slots : ∀ (fz : List (Nat × Nat)) {u : St}, frzK g fz = some u → ∀ p ∈ fz, p.1 < 100000 ∨ ∃ x, g p.1 = some (.rcd x)
  | [], _, _, p, hp => by simp at hp
  | (k, o) :: r, u, h, p, hp => by
    simp only [frzK] at h
    split at h
    · rename_i o' m t xs u' hk ho hu'
      split at h
      · rename_i he
        rcases List.mem_cons.1 hp with rfl | hp
        · exact .inl he.2
        · exact frz_slots r hu' p hp
      · cases h
    · rename_i x m t xs u' hk ho hu'
      split at h
      · rcases List.mem_cons.1 hp with rfl | hp
        · exact .inr ⟨x, hk⟩
        · exact frz_slots r hu' p hp
      · cases h
    · cases h
theorem frz_objs : ∀ (fz : List (Nat × Nat)) {u : St}, frzK g fz = some u → ∀ p ∈ fz, ∃ m t xs, g (okey p.2) = some (.vec m t xs)
  | [], _, _, p, hp => by simp at hp
  | (k, o) :: r, u, h, p, hp => by
    simp only [frzK] at h
    split at h
    · rename_i o' m t xs u' hk ho hu'
      split at h
      · rcases List.mem_cons.1 hp with rfl | hp
        · exact ⟨m, t, xs, ho⟩
        · exact frz_objs r hu' p hp
      · cases h
    · rename_i x m t xs u' hk ho hu'
      split at h
      · rcases List.mem_cons.1 hp with rfl | hp
        · exact ⟨m, t, xs, ho⟩
        · exact frz_objs r hu' p hp
      · cases h
    · cases h
theorem frz_apart {fz : List (Nat × Nat)} {u : St} (h : frzK g fz = some u) {p q : Nat × Nat} (hp : p ∈ fz) (hq : q ∈ fz) : p.1 ≠ okey q.2 := by
  intro e
  obtain ⟨m, t, xs, ho⟩ := frz_objs fz h q hq
  rcases frz_slots fz h p hp with h1 | ⟨x, h1⟩
  · have := okey_ge q.2; omega
  · rw [e, ho] at h1; cases h1

theorem kill_le (κ : Conc) (s : St) (o : Nat) (o' : Nat) : ObjLe κ s κ (s.set (okey o) .dead) o' := by
  by_cases e : o = o'
  · subst e
    constructor
    · intro n t ys h; rw [St.get_set, if_pos rfl] at h; cases h
    · intro c h hc; rw [St.get_set, if_pos rfl] at h; cases h; exact absurd rfl hc
  · exact .of_eq (by rw [St.get_set, if_neg (fun h => e (okey_inj h))]) rfl
theorem le_trans' {κ : Conc} {s s' s'' : St} {o : Nat} (h : ObjLe κ s κ s' o) (h' : ObjLe κ s' κ s'' o) : ObjLe κ s κ s'' o := by
  constructor
  · intro n t ys e
    obtain ⟨xs, e1, l1, _⟩ := h'.vec n t ys e
    obtain ⟨zs, e2, l2, _⟩ := h.vec n t xs e1
    exact ⟨zs, e2, l2.trans l1, rfl⟩
  · intro c e hc
    obtain ⟨c', e1, hc', _⟩ := h'.any c e hc
    obtain ⟨c'', e2, hc'', _⟩ := h.any c' e1 hc'
    exact ⟨c'', e2, hc'', rfl⟩
theorem frzX_sound {F F' : Froz} {κ : Conc} {s s' : St} {o : Nat} {t : Ty} {xs : List t.den} (hF : F.le F') (hle : ∀ o', ObjLe κ s κ s' o') (hv : ∀ v, RepC F κ s (.own o) v → RepV F' (.sl t) xs v) :
    ∀ (x : C) (cs : List Value), RepX F κ s x cs → RepX F' κ s' (frzX o t xs x) cs
  | .cons a b, cs, h => by
    simp only [RepX] at h
    obtain ⟨c1, c2, rfl, h1, h2⟩ := h
    simp only [frzX, RepX]
    refine ⟨c1, c2, rfl, ?_, frzX_sound hF hle hv b c2 h2⟩
    unfold frz1
    split
    · rename_i o'
      split
      · rename_i e
        subst e
        simp only [RepX] at h1 ⊢
        obtain ⟨h1, hl⟩ := h1
        obtain ⟨v, rfl⟩ := List.length_eq_one_iff.1 hl
        obtain ⟨cs', h3, h4⟩ := hv v h1
        have h5 : cs' = [v] := by
          simp only [RepT] at h3
          obtain ⟨ad, cap, rfl, _⟩ := h3
          rw [h4]
          simp [pack, Ty.agg]
        rw [← h5]
        exact h3
      · exact RepX.mono hF _ _ (fun o _ => hle o) h1
    · exact RepX.mono hF _ _ (fun o _ => hle o) h1
  | .unit, cs, h => by simpa only [frzX, RepX] using h
  | .val t x, cs, h => by
    simp only [frzX]
    exact RepX.mono hF _ _ (fun o _ => hle o) h
  | .ptr .., cs, h | .nil, cs, h | .dead, cs, h | .own _, cs, h | .eptr .., cs, h | .aptr .., cs, h | .adr .., cs, h | .brow _, cs, h | .may .., cs, h | .fptr .., cs, h | .fn .., cs, h | .tup _, cs, h | .agg _, cs, h | .rsl .., cs, h | .vec .., cs, h | .rcd _, cs, h => by
    simp only [frzX]
    exact RepX.mono hF _ _ (fun o _ => hle o) h
theorem frz1_refs (o : Nat) (t : Ty) (xs : List t.den) (a : C) : ∀ o' ∈ (frz1 o t xs a).refs, o' ∈ a.refs := by
  intro o' h
  unfold frz1 at h
  split at h
  · split at h
    · simp [C.refs] at h
    · exact h
  · exact h
theorem frzX_refs (o : Nat) (t : Ty) (xs : List t.den) : ∀ (x : C), ∀ o' ∈ (frzX o t xs x).refs, o' ∈ x.refs := by
  intro x
  induction x with
  | cons a b _ ih =>
    intro o' h
    simp only [frzX, C.refs, List.mem_append] at h ⊢
    rcases h with h | h
    · exact .inl (frz1_refs o t xs a o' h)
    · exact .inr (ih o' h)
  | _ => intro o' h; simpa only [frzX] using h
theorem frzX_bty (o : Nat) (t : Ty) (xs : List t.den) (x : C) : (frzX o t xs x).bty = x.bty := by
  cases x with
  | cons a b =>
    simp only [frzX]
    cases a with
    | own o' =>
      simp only [frz1]
      by_cases e : o' = o
      · rw [if_pos e]; rfl
      · rw [if_neg e]
        rfl
    | _ => rfl
  | _ => rfl

theorem frz_sound : ∀ (fz : List (Nat × Nat)) {u : St} {F : Froz} {s : St}, frzK g fz = some u → (fz.map (·.1)).Nodup → (fz.map (·.2)).Nodup →
    (∀ p ∈ fz, ∀ c, g p.1 = some c → s.get p.1 = some c) → (∀ p ∈ fz, ∀ c, g (okey p.2) = some c → s.get (okey p.2) = some c) → Inv n f F κ s a w → ∃ F', F.le F' ∧ Inv n f F' κ (s.upd u) a w
  | [], u, F, s, h, _, _, _, _, hI => by
    simp only [frzK, Option.some.injEq] at h
    subst h
    exact ⟨F, Froz.le_refl F, hI⟩
  | (k, o) :: r, u, F, s, h, h1, h2, hg1, hg2, hI => by
    have hap := fun {p q : Nat × Nat} (hp : p ∈ (k, o) :: r) (hq : q ∈ (k, o) :: r) => frz_apart h hp hq
    simp only [frzK] at h
    split at h
    · rename_i o' m t xs u' hk ho hu'
      split at h
      · rename_i he
        obtain ⟨rfl, hk'⟩ := he
        cases h
        have hsk := hg1 _ (List.mem_cons_self ..) _ hk
        have hso := hg2 _ (List.mem_cons_self ..) _ ho
        obtain ⟨F1, hF1, hI1, hval⟩ := hI.freeze hso
        have hv := hval _ (hI.slots k _ hsk hk')
        have hI2 := hI1.reslot (c := .val (.sl t) xs) hk' (rep_val.2 hv) (by simp [C.refs])
        have hI3 := hI2.congr (s' := (s.set k (.val (.sl t) xs)).set (okey o') .dead) (fun j => set_comm (by have := okey_ge o'; omega) j)
        simp only [List.map_cons, List.nodup_cons, List.mem_map, not_exists, not_and] at h1 h2
        obtain ⟨F2, hF2, hI4⟩ := frz_sound r hu' h1.2 h2.2 (fun p hp c hc => by
            have := hg1 p (List.mem_cons_of_mem _ hp) c hc
            rw [St.get_set, St.get_set, if_neg (fun e => hap (List.mem_cons_of_mem _ hp) (List.mem_cons_self ..) e.symm), if_neg (fun e => h1.1 p hp e.symm)]
            exact this) (fun p hp c hc => by
            have := hg2 p (List.mem_cons_of_mem _ hp) c hc
            rw [St.get_set, St.get_set, if_neg (fun e => h2.1 p hp (okey_inj e).symm), if_neg (by have := okey_ge p.2; omega)]
            exact this) hI3
        exact ⟨F2, Froz.le_trans hF1 hF2, hI4⟩
      · cases h
    · rename_i x m t xs u' hk ho hu'
      split at h
      · rename_i hk'
        cases h
        have hsk := hg1 _ (List.mem_cons_self ..) _ hk
        have hso := hg2 _ (List.mem_cons_self ..) _ ho
        obtain ⟨ob, rfl⟩ : ∃ ob, k = okey ob := ⟨k - 100000, by unfold okey; omega⟩
        have hne : okey o ≠ okey ob := fun e => by rw [← e, hso] at hsk; cases hsk
        obtain ⟨F1, hF1, hI1, hval⟩ := hI.freeze hso
        have hobj := hI.objs ob _ hsk
        simp only [RepO] at hobj
        obtain ⟨b, c, T, fr, hκ, hb, hfr, hX, hB⟩ := hobj
        have hso1 : (s.set (okey o) .dead).get (okey ob) = some (.rcd x) := by rw [St.get_set, if_neg hne]; exact hsk
        have hI2 := hI1.write (c := .rcd x) (c' := .rcd (frzX o t xs x)) (w' := w) hso1 rfl rfl hκ (fun n' t' zs hz => by cases hz) (fun o' ho' => by
            have := hI1.closed _ _ hso1 o' (by
              simp only [C.refs] at ho' ⊢
              exact frzX_refs o t xs x o' ho')
            exact this) ⟨Nat.le_refl _, fun _ _ _ => rfl, rfl, rfl⟩ (fun s' hle => by
            simp only [RepO]
            exact ⟨b, c, T, fr, hκ, hb, hfr, frzX_sound hF1 (fun o' => le_trans' (kill_le κ s o o') (hle o')) hval x _ hX, fun T0 h0 => hB T0 (by rw [← frzX_bty o t xs x]; exact h0)⟩)
        have hI3 := hI2.congr (s' := (s.set (okey ob) (.rcd (frzX o t xs x))).set (okey o) .dead) (fun j => set_comm (fun e => hne e.symm) j)
        simp only [List.map_cons, List.nodup_cons, List.mem_map, not_exists, not_and] at h1 h2
        obtain ⟨F2, hF2, hI4⟩ := frz_sound r hu' h1.2 h2.2 (fun p hp c hc => by
            have := hg1 p (List.mem_cons_of_mem _ hp) c hc
            rw [St.get_set, St.get_set, if_neg (fun e => hap (List.mem_cons_of_mem _ hp) (List.mem_cons_self ..) e.symm), if_neg (fun e => h1.1 p hp e.symm)]
            exact this) (fun p hp c hc => by
            have := hg2 p (List.mem_cons_of_mem _ hp) c hc
            rw [St.get_set, St.get_set, if_neg (fun e => h2.1 p hp (okey_inj e).symm), if_neg (fun e => hap (List.mem_cons_self ..) (List.mem_cons_of_mem _ hp) e)]
            exact this) hI3
        exact ⟨F2, Froz.le_trans hF1 hF2, hI4⟩
      · cases h
    · cases h


theorem get_upd : ∀ (u s : St) (k : Nat), (u.map (·.1)).Nodup → (s.upd u).get k = match u.get k with
    | some c => some c
    | none => s.get k
  | [], s, k, _ => rfl
  | (j, c) :: r, s, k, h => by
    simp only [List.map_cons, List.nodup_cons, List.mem_map, not_exists, not_and] at h
    simp only [St.upd, St.get]
    rw [get_upd r _ k h.2]
    by_cases e : j = k
    · subst e
      have : St.get r j = none := by
        cases hr : St.get r j with
        | none => rfl
        | some d =>
          have : ∀ (l : St) {d : C}, St.get l j = some d → ∃ p ∈ l, p.1 = j := by
            intro l
            induction l with
            | nil => intro d h; simp [St.get] at h
            | cons q l ih =>
              intro d h
              obtain ⟨i, e⟩ := q
              simp only [St.get] at h
              split at h
              · rename_i e; exact ⟨_, List.mem_cons_self .., e⟩
              · obtain ⟨p, hp, hpj⟩ := ih h; exact ⟨p, List.mem_cons_of_mem _ hp, hpj⟩
          obtain ⟨p, hp, hpj⟩ := this r hr
          exact absurd hpj (h.1 p hp)
      rw [this, if_pos rfl, St.get_set, if_pos rfl]
    · rw [if_neg e]
      cases St.get r k with
      | some d => rfl
      | none => simp only [St.get_set, if_neg e]

theorem frz_keys : ∀ (fz : List (Nat × Nat)) {u : St}, frzK g fz = some u → ∀ k ∈ u.map (·.1), (∃ p ∈ fz, p.1 = k) ∨ ∃ p ∈ fz, okey p.2 = k ∧ (g k).isSome = true
  | [], u, h, k, hk => by
    simp only [frzK, Option.some.injEq] at h
    subst h
    simp at hk
  | (j, o) :: r, u, h, k, hk => by
    simp only [frzK] at h
    split at h
    all_goals first
      | cases h
      | skip
    all_goals
      rename_i hj ho hu'
      split at h
      rotate_left
      · cases h
      · cases h
        simp only [List.map_cons, List.mem_cons] at hk
        rcases hk with rfl | rfl | hk
        · exact .inl ⟨_, List.mem_cons_self .., rfl⟩
        · exact .inr ⟨_, List.mem_cons_self .., rfl, by rw [ho]; rfl⟩
        · rcases frz_keys r hu' k hk with ⟨p, hp, h1⟩ | ⟨p, hp, h1⟩
          · exact .inl ⟨p, List.mem_cons_of_mem _ hp, h1⟩
          · exact .inr ⟨p, List.mem_cons_of_mem _ hp, h1⟩

theorem frz_nodup : ∀ (fz : List (Nat × Nat)) {u : St}, frzK g fz = some u → (fz.map (·.1)).Nodup → (fz.map (·.2)).Nodup → (u.map (·.1)).Nodup
  | [], u, h, _, _ => by
    simp only [frzK, Option.some.injEq] at h
    subst h
    simp
  | (j, o) :: r, u, h, h1, h2 => by
    have hap := fun {p q : Nat × Nat} (hp : p ∈ (j, o) :: r) (hq : q ∈ (j, o) :: r) => frz_apart h hp hq
    simp only [frzK] at h
    split at h
    all_goals first
      | cases h
      | skip
    all_goals
      rename_i hj ho hu'
      split at h
      rotate_left
      · cases h
      · cases h
        simp only [List.map_cons, List.nodup_cons, List.mem_map, not_exists, not_and] at h1 h2
        have hk := frz_keys r hu'
        simp only [List.map_cons, List.nodup_cons]
        refine ⟨fun hm => ?_, fun hm => ?_, frz_nodup r hu' h1.2 h2.2⟩
        · rcases List.mem_cons.1 hm with hm | hm
          · exact hap (List.mem_cons_self ..) (List.mem_cons_self ..) hm
          · rcases hk _ hm with ⟨p, hp, e⟩ | ⟨p, hp, e, _⟩
            · exact h1.1 p hp e
            · exact hap (List.mem_cons_self ..) (List.mem_cons_of_mem _ hp) e.symm
        · rcases hk _ hm with ⟨p, hp, e⟩ | ⟨p, hp, e, _⟩
          · exact hap (List.mem_cons_of_mem _ hp) (List.mem_cons_self ..) e
          · exact h2.1 p hp (okey_inj e)

theorem restr_le {ks : List Nat} : ∀ k c, restr s ks k = some c → s.get k = some c := fun k c h => by
  unfold restr at h
  split at h
  · exact h
  · cases h

theorem evOp_sound (hΓ : CtxOK Γ P) (hI : Inv n f F κ s a w) (hG : GlobOK Γ F) {h : OH} {o : Oper} {u v : St} {r : Res} (he : evOp Γ n h o s = some (u, r)) (hu : r.run = some v)
    {next : Act → World → Prop} {Q : Exit → Act → World → Prop} (hn : Then n f F s a o.dst (u ++ v) next) : o.wp P a w next Q := by
  unfold evOp at he
  split at he
  · rename_i hchk
    simp only [Bool.and_eq_true, decide_eq_true_eq, List.all_eq_true] at hchk
    obtain ⟨⟨hdst, hnew⟩, hnd⟩ := hchk
    simp only at he
    split at he
    · cases he
    · rename_i hz
      have hz' : (h.fz.map (·.1)).Nodup ∧ (h.fz.map (·.2)).Nodup := by
        rw [Bool.not_eq_true, Bool.not_eq_false', Bool.and_eq_true, decide_eq_true_eq, decide_eq_true_eq] at hz
        exact hz
      split at he
      · cases he
      · rename_i u0 hu0
        simp only [Option.map_eq_some_iff, Prod.mk.injEq] at he
        obtain ⟨r', hr, rfl, rfl⟩ := he
        obtain ⟨F1, hF1, hI1⟩ := frz_sound h.fz hu0 hz'.1 hz'.2 (fun p _ c hc => restr_le _ _ hc) (fun p _ c hc => restr_le _ _ hc) hI
        have hnk := frz_nodup h.fz hu0 hz'.1 hz'.2
        have hg' : ∀ k c, patch (restr s (h.ins o)) u0 k = some c → (s.upd u0).get k = some c := fun k c hc => by
          rw [get_upd u0 s k hnk]
          unfold patch at hc
          split at hc
          · rename_i d hd; rw [hd]; exact hc
          · rename_i hd; rw [hd]; exact restr_le _ _ hc
        have hget0 : ∀ m ∈ h.new, (s.upd u0).get (okey m) = none := fun m hm => by
          rw [get_upd u0 s _ hnk]
          have hs : s.get (okey m) = none := by
            have := hnew m hm
            simpa using this
          cases hd : St.get u0 (okey m) with
          | none => exact hs
          | some d =>
            have : ∀ (l : St) {d : C}, St.get l (okey m) = some d → okey m ∈ l.map (·.1) := by
              intro l
              induction l with
              | nil => intro d h; simp [St.get] at h
              | cons q l ih =>
                intro d h
                obtain ⟨i, e⟩ := q
                simp only [St.get] at h
                split at h
                · rename_i e; simp [e]
                · simp only [List.map_cons, List.mem_cons]; exact .inr (ih h)
            rcases frz_keys _ hu0 _ (this u0 hd) with ⟨p, hp, e⟩ | ⟨p, hp, e, hsome⟩
            · rcases frz_slots _ hu0 p hp with h3 | ⟨x, h3⟩
              · have := okey_ge m; omega
              · rw [e] at h3
                rw [restr_le _ _ h3] at hs
                cases hs
            · obtain ⟨c, hc⟩ := Option.isSome_iff_exists.1 hsome
              rw [restr_le _ _ hc] at hs
              cases hs
        refine evOp1_sound hΓ hI1 (hG.mono hF1) hg' hget0 hnd (fun d hd => ?_) hr hu (fun F' κ' a' w' hF hI' hfr => ?_)
        · rw [hd] at hdst
          simpa using hdst
        · rw [← upd_append] at hI'
          exact hn F' κ' a' w' (Froz.le_trans hF1 hF) hI' hfr
  · cases he

theorem evStep_sound (hΓ : CtxOK Γ P) (hI : Inv n f F κ s a w) (hG : GlobOK Γ F) {ops : Array Oper} {hs : List OH} {i : Nat} {s' : St} (he : evStep Γ n ops hs i s = some s')
    {K : Act → World → Prop} {Q : Exit → Act → World → Prop} (hK : ∀ F' κ' a' w', F.le F' → Inv n f F' κ' s' a' w' → (∀ t, (ops[i]?).bind (·.dst) ≠ some t → a'.tmps.getD t undef = a.tmps.getD t undef) → K a' w') :
    wpOp P ops Q i K a w := by
  simp only [evStep, Option.map_eq_some_iff] at he
  obtain ⟨u, hu, rfl⟩ := he
  unfold evU at hu
  unfold wpOp
  split at hu
  · cases hu
  · rename_i o ho
    rw [ho]
    simp only at hu ⊢
    rw [ho] at hK
    simp only [Option.bind_some] at hK
    have go : (match evOp Γ n (hs.getD i {}) o s with
        | none => none
        | some (u, r) => r.run.bind fun v => if keysIn (u ++ v) ((hs.getD i {}).outs o) then some (u ++ v) else none) = some u → o.wp P a w K Q := fun h => by
      split at h
      · cases h
      · rename_i u1 r hev
        simp only [Option.bind_eq_some_iff] at h
        obtain ⟨v, hv, h⟩ := h
        split at h
        · cases h
          exact evOp_sound hΓ hI hG hev hv (fun F' κ' a' w' h1 h2 h3 => hK F' κ' a' w' h1 h2 h3)
        · cases h
    split at hu
    · rename_i hgd
      have : Region.wanted o (yielded ops a.tmps) = true := by simp [Region.wanted, hgd]
      rw [if_pos this]
      exact .inl (go hu)
    · rename_i j want hgd
      split at hu
      · cases hu
      · rename_i d hd
        split at hu
        · rename_i hlt
          split at hu
          · rename_i b hb
            have hval := rep_bool.1 (hI.slots d _ hb hlt)
            have hsome : a.tmps[d]? = some (.bool b) := by
              cases h : a.tmps[d]? with
              | none => simp [Array.getD_eq_getD_getElem?, h, undef] at hval
              | some x => simp [Array.getD_eq_getD_getElem?, h] at hval; rw [hval]
            have hy : yielded ops a.tmps j = some b := by
              unfold gslot at hd
              simp [yielded, hd, hsome]
            have hw : Region.wanted o (yielded ops a.tmps) = (b == want) := by
              simp [Region.wanted, hgd, hy]
            rw [hw]
            split at hu
            · rename_i hbw
              rw [if_pos (by simp [hbw])]
              exact .inl (go hu)
            · rename_i hbw
              rw [if_neg (by simpa using hbw)]
              split at hu
              · rename_i hdst
                cases hu
                refine hK F κ _ w (Froz.le_refl F) (put_inv hI (fun d hd => ?_) rep_skip (by simp [C.refs])) (fun t ht => put_frame t ht)
                rw [hd] at hdst
                simpa using hdst
              · cases hu
          · rename_i hb
            have hval := rep_skip_eq (hI.slots d _ hb hlt)
            have hy : yielded ops a.tmps j = none := by
              unfold gslot at hd
              cases h : a.tmps[d]? with
              | none => simp [yielded, hd, h]
              | some x => simp [Array.getD_eq_getD_getElem?, h] at hval; simp [yielded, hd, h, hval, undef]
            have hw : Region.wanted o (yielded ops a.tmps) = false := by
              simp [Region.wanted, hgd, hy]
            rw [if_neg (by simp [hw])]
            split at hu
            · rename_i hdst
              cases hu
              refine hK F κ _ w (Froz.le_refl F) (put_inv hI (fun d hd => ?_) rep_skip (by simp [C.refs])) (fun t ht => put_frame t ht)
              rw [hd] at hdst
              simpa using hdst
            · cases hu
          · cases hu
        · cases hu

/-- In the text's order. -/
theorem evSteps_text (hΓ : CtxOK Γ P) {ops : Array Oper} {hs : List OH} {Q : Exit → Act → World → Prop} : ∀ (l : List Nat) {F : Froz} {κ : Conc} {s : St} {a : Act} {w : World} {s' : St}, evSteps Γ n ops hs l s = some s' →
    Inv n f F κ s a w → GlobOK Γ F → (∀ F' κ' a' w', F.le F' → Inv n f F' κ' s' a' w' → (∀ t, (∀ (i : Nat) o, ops[i]? = some o → o.dst ≠ some t) → a'.tmps.getD t undef = a.tmps.getD t undef) → Q .normal a' w') → wpOps P ops Q l a w
  | [], F, κ, s, a, w, s', h, hI, hG, hQ => by
    simp only [evSteps, Option.some.injEq] at h
    subst h
    exact hQ F κ a w (Froz.le_refl F) hI (fun _ _ => rfl)
  | i :: r, F, κ, s, a, w, s', h, hI, hG, hQ => by
    simp only [evSteps, Option.bind_eq_some_iff] at h
    obtain ⟨s1, h1, h2⟩ := h
    rw [wpOps_cons]
    refine evStep_sound hΓ hI hG h1 (fun F' κ' a' w' hF hI' hfr => ?_)
    refine evSteps_text hΓ r h2 hI' (hG.mono hF) (fun F2 κ2 a2 w2 hF2 hI2 hfr2 => hQ F2 κ2 a2 w2 (Froz.le_trans hF hF2) hI2 (fun t ht => ?_))
    rw [hfr2 t ht]
    refine hfr t ?_
    cases ho : ops[i]? with
    | none => simp
    | some o => exact ht i o ho

end
end Go.Fe
