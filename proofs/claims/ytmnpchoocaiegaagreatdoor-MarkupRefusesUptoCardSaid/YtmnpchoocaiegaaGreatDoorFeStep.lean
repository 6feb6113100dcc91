/- The operations of a region, in the text's order and in any other. -/
import Derived.Test.YtmnpchoocaiegaaGreatDoorFePst
namespace Go.Fe
open Go

section
variable {Γ : Ctx} {P : Program} {n : Nat} {f : Frame0} {F : Froz} {κ : Conc} {s : St} {a : Act} {w : World} {g : Nat → Option C}

/-- How a region comes to x: by all its steps, or by a panic of one of them. -/
def Goes {X : Type} (Γ : Ctx) (n : Nat) (ops : Array Oper) (hs : List OH) (k : St → Option X) (kp : Nat → (t : Ty) → t.den → Option X) (l : List Nat) (s : St) (x : X) : Prop :=
  (∃ s', evSteps Γ n ops hs l s = some s' ∧ k s' = some x) ∨
  ∃ pre i post s1 T u t p, l = pre ++ i :: post ∧ evSteps Γ n ops hs pre s = some s1 ∧ evP Γ n ops hs i s1 = some (T, u, ⟨t, p⟩) ∧ kp T t p = some x
theorem Goes.cons {X : Type} {ops : Array Oper} {hs : List OH} {k : St → Option X} {kp : Nat → (t : Ty) → t.den → Option X} {l : List Nat} {i : Nat} {u : St} {x : X} (hu : evU Γ n ops hs i s = some u)
    (h : Goes Γ n ops hs k kp l (s.upd u) x) : Goes Γ n ops hs k kp (i :: l) s x := by
  have h0 : evStep Γ n ops hs i s = some (s.upd u) := by simp only [evStep, hu, Option.map_some]
  rcases h with ⟨s', h1, h2⟩ | ⟨pre, j, post, s1, T, v, t, p, e, h1, h2, h3⟩
  · exact .inl ⟨s', by simp only [evSteps, h0, Option.bind_some, h1], h2⟩
  · exact .inr ⟨i :: pre, j, post, s1, T, v, t, p, by rw [e]; rfl, by simp only [evSteps, h0, Option.bind_some, h1], h2, h3⟩
/-- A region's steps told with what follows, and alone. -/
theorem evOpsK_eq {X : Type} {ops : Array Oper} {hs : List OH} {k : St → Option X} {kp : Nat → (t : Ty) → t.den → Option X} : ∀ (l : List Nat) (s : St) {x : X}, evOpsK Γ n ops hs k kp l s = some x → Goes Γ n ops hs k kp l s x
  | [], s, x, h => .inl ⟨s, rfl, by simpa only [evOpsK] using h⟩
  | i :: rest, s, x, h => by
    simp only [evOpsK] at h
    cases ho : ops[i]? with
    | none => rw [ho] at h; cases h
    | some o =>
      rw [ho] at h
      simp only at h
      have go : ∀ s, (match evOp Γ n (hs.getD i {}) o s with
          | none => none
          | some (u, r) => r.k (fun v => if keysIn (u ++ v) ((hs.getD i {}).outs o) then evOpsK Γ n ops hs k kp rest (s.upd (u ++ v)) else none)
              fun T v t p => if keysIn (u ++ v) ((hs.getD i {}).outs o) then kp T t p else none) = some x →
          (∃ u, (match evOp Γ n (hs.getD i {}) o s with
            | none => none
            | some (u, r) => r.run.bind fun v => if keysIn (u ++ v) ((hs.getD i {}).outs o) then some (u ++ v) else none) = some u ∧ Goes Γ n ops hs k kp rest (s.upd u) x) ∨
          ∃ T u t p, (match evOp Γ n (hs.getD i {}) o s with
            | none => none
            | some (u, r) => r.fall.bind fun v => if keysIn (u ++ v.2.1) ((hs.getD i {}).outs o) then some (v.1, u ++ v.2.1, v.2.2) else none) = some (T, u, (⟨t, p⟩ : (t : Ty) × t.den)) ∧ kp T t p = some x := by
        intro s h
        cases he : evOp Γ n (hs.getD i {}) o s with
        | none => rw [he] at h; cases h
        | some p =>
          obtain ⟨u, r⟩ := p
          rw [he] at h
          simp only at h
          rcases Rs.k_some r h with ⟨v, hv, h⟩ | ⟨T, g, t, p, hv, h⟩
          · split at h
            · rename_i hk
              exact .inl ⟨u ++ v, by simp only [hv, Option.bind_some, hk, if_true], evOpsK_eq rest _ h⟩
            · cases h
          · split at h
            · rename_i hk
              exact .inr ⟨T, u ++ g, t, p, by simp only [hv, Option.bind_some, hk, if_true], h⟩
            · cases h
      have fin : ∀ {u}, evU Γ n ops hs i s = some u → Goes Γ n ops hs k kp rest (s.upd u) x → Goes Γ n ops hs k kp (i :: rest) s x := fun hu h => Goes.cons hu h
      have finP : ∀ {T u t p}, evP Γ n ops hs i s = some (T, u, ⟨t, p⟩) → kp T t p = some x → Goes Γ n ops hs k kp (i :: rest) s x := fun {T u t p} h1 h2 =>
        .inr ⟨[], i, rest, s, T, u, t, p, rfl, rfl, h1, h2⟩
      cases hgd : o.guard with
      | none =>
        rw [hgd] at h
        rcases go s h with ⟨u, h1, h2⟩ | ⟨T, u, t, p, h1, h2⟩
        · refine fin ?_ h2
          simp only [evU, ho, hgd]
          exact h1
        · refine finP (u := u) ?_ h2
          simp only [evP, ho, hgd]
          exact h1
      | some p =>
        obtain ⟨j, want⟩ := p
        rw [hgd] at h
        simp only at h
        cases hsl : gslot ops j with
        | none => rw [hsl] at h; cases h
        | some d =>
          rw [hsl] at h
          simp only at h
          split at h
          · rename_i hd
            split at h
            · rename_i b hb
              have hset : s.set d (.val .bool b) = s := set_same s hb
              have skip : ∀ {s : St}, (if o.dst.all (fun d => decide (d < n) && decide (d < 100000)) then evOpsK Γ n ops hs k kp rest (s.upd (Out1 o.dst (.tup .unit))) else none) = some x →
                  o.dst.all (fun d => decide (d < n) && decide (d < 100000)) = true ∧ Goes Γ n ops hs k kp rest (s.upd (Out1 o.dst (.tup .unit))) x := fun {s} h => by
                split at h
                · rename_i hok
                  exact ⟨hok, evOpsK_eq rest _ h⟩
                · cases h
              cases b
              · simp only [cond_false] at h
                rw [hset] at h
                split at h
                · rename_i hw
                  obtain ⟨h1, h2⟩ := skip h
                  refine fin ?_ h2
                  simp only [evU, ho, hgd, hsl, hd, if_true, hb, hw, h1, Bool.false_eq_true, if_false]
                · rename_i hw
                  have hw' : want = false := by simpa using hw
                  rcases go s h with ⟨u, h1, h2⟩ | ⟨T, u, t, p, h1, h2⟩
                  · refine fin ?_ h2
                    simp only [evU, ho, hgd, hsl, hd, if_true, hb, hw']
                    exact h1
                  · refine finP (u := u) ?_ h2
                    simp only [evP, ho, hgd, hsl, hd, if_true, hb, hw']
                    exact h1
              · simp only [cond_true] at h
                rw [hset] at h
                split at h
                · rename_i hw
                  rcases go s h with ⟨u, h1, h2⟩ | ⟨T, u, t, p, h1, h2⟩
                  · refine fin ?_ h2
                    simp only [evU, ho, hgd, hsl, hd, if_true, hb, hw]
                    exact h1
                  · refine finP (u := u) ?_ h2
                    simp only [evP, ho, hgd, hsl, hd, if_true, hb, hw]
                    exact h1
                · rename_i hw
                  have hw' : want = false := by simpa using hw
                  obtain ⟨h1, h2⟩ := skip h
                  refine fin ?_ h2
                  simp only [evU, ho, hgd, hsl, hd, if_true, hb, hw', h1, Bool.true_eq_false, if_false]
            · rename_i hb
              split at h
              · rename_i hok
                refine fin ?_ (evOpsK_eq rest _ h)
                simp only [evU, ho, hgd, hsl, hd, if_true, hb, hok]
              · cases h
            · cases h
          · cases h

theorem rep_skip : RepC F κ s (.tup .unit) undef := by
  simp only [RepL]
  exact ⟨[], rfl, rfl⟩
theorem rep_skip_eq {v : Value} (h : RepC F κ s (.tup .unit) v) : v = undef := by
  simp only [RepL] at h
  obtain ⟨us, h1, h2⟩ := h
  subst h2
  simpa [undef] using h1

/-- A slot told anew. -/
theorem Inv.reslot (hI : Inv n f F κ s a w) {k : Nat} {c : C} (hk : k < 100000) (hv : RepC F κ s c (a.tmps.getD k undef)) (hc : ∀ o ∈ c.refs, (s.get (okey o)).isSome = true) : Inv n f F κ (s.set k c) a w := by
  have hle : ∀ o, ObjLe κ s κ (s.set k c) o := fun o => .of_eq (get_slot hk o) rfl
  constructor
  · exact hI.tmps
  · exact hI.defers
  · exact hI.frozen
  · intro j c' hj hj'
    rw [St.get_set] at hj
    split at hj
    · rename_i e; subst e
      cases hj
      exact RepL.mono (Froz.le_refl F) _ _ (fun o _ => hle o) hv
    · exact RepL.mono (Froz.le_refl F) _ _ (fun o _ => hle o) (hI.slots j c' hj hj')
  · intro o c' ho
    rw [get_slot hk] at ho
    exact RepO.mono (Froz.le_refl F) rfl (fun o _ => hle o) (fun _ _ _ _ => rfl) (hI.objs o c' ho)
  · intro o c' b p q ho
    rw [get_slot hk] at ho
    exact hI.free o c' b p q ho
  · intro o c' b p q o' c'' p' q' ho h1 h2 ho'
    rw [get_slot hk] at ho ho'
    exact hI.apart o c' b p q o' c'' p' q' ho h1 h2 ho'
  · intro j c' hj o ho
    rw [get_slot hk]
    rw [St.get_set] at hj
    split at hj
    · cases hj; exact hc o ho
    · exact hI.closed j c' hj o ho
  · exact hI.kept
  · exact hI.grown

theorem get_upd : ∀ (u s : St) (k : Nat), (u.map (·.1)).Nodup → (s.upd u).get k = match u.get k with
    | some c => some c
    | none => s.get k
  | [], s, k, _ => rfl
  | (j, c) :: r, s, k, h => by
    simp only [List.map_cons, List.nodup_cons, List.mem_map, not_exists, not_and] at h
    simp only [St.upd, St.get]
    rw [get_upd r _ k h.2]
    by_cases e : j = k
    · subst e
      have : St.get r j = none := by
        cases hr : St.get r j with
        | none => rfl
        | some d =>
          have : ∀ (l : St) {d : C}, St.get l j = some d → ∃ p ∈ l, p.1 = j := by
            intro l
            induction l with
            | nil => intro d h; simp [St.get] at h
            | cons q l ih =>
              intro d h
              obtain ⟨i, e⟩ := q
              simp only [St.get] at h
              split at h
              · rename_i e; exact ⟨_, List.mem_cons_self .., e⟩
              · obtain ⟨p, hp, hpj⟩ := ih h; exact ⟨p, List.mem_cons_of_mem _ hp, hpj⟩
          obtain ⟨p, hp, hpj⟩ := this r hr
          exact absurd hpj (h.1 p hp)
      rw [this, if_pos rfl, St.get_set, if_pos rfl]
    · rw [if_neg e]
      cases St.get r k with
      | some d => rfl
      | none => simp only [St.get_set, if_neg e]

theorem get_filter (q : Nat → Bool) : ∀ (u : St) {j : Nat}, q j = true → St.get (u.filter fun p => q p.1) j = St.get u j
  | [], _, _ => rfl
  | (k, c) :: r, j, h => by
    by_cases e : k = j
    · subst e
      simp only [List.filter, h, St.get, if_true]
    · by_cases hk : q k = true
      · simp only [List.filter, hk, St.get, if_neg e]
        exact get_filter q r h
      · simp only [List.filter, hk, St.get, if_neg e]
        exact get_filter q r h
/-- Two more writes, over what was written. -/
theorem upd_over {u : St} {k j0 : Nat} {v d : C} (hne : k ≠ j0) (hnd : (u.map (·.1)).Nodup) (s : St) :
    (((k, v) :: (j0, d) :: u.filter fun p => decide (p.1 ≠ k) && decide (p.1 ≠ j0)).map (·.1)).Nodup ∧
    ∀ j, (((s.upd u).set k v).set j0 d).get j = (s.upd ((k, v) :: (j0, d) :: u.filter fun p => decide (p.1 ≠ k) && decide (p.1 ≠ j0))).get j := by
  have h1 : (((k, v) :: (j0, d) :: u.filter fun p => decide (p.1 ≠ k) && decide (p.1 ≠ j0)).map (·.1)).Nodup := by
    simp only [List.map_cons, List.nodup_cons, List.mem_cons, List.mem_map, List.mem_filter, Bool.and_eq_true, decide_eq_true_eq]
    refine ⟨?_, ?_, ?_⟩
    · rintro (h | ⟨p, hp, e⟩)
      · exact hne h
      · exact hp.2.1 e
    · rintro ⟨p, hp, e⟩
      exact hp.2.2 e
    · exact hnd.sublist ((List.filter_sublist).map _)
  refine ⟨h1, fun j => ?_⟩
  rw [get_upd _ s j h1, St.get_set, St.get_set]
  by_cases e1 : j0 = j
  · subst e1
    rw [if_pos rfl]
    simp only [St.get, if_neg hne, if_true]
  · rw [if_neg e1]
    by_cases e2 : k = j
    · subst e2
      rw [if_pos rfl]
      simp only [St.get, if_true]
    · rw [if_neg e2, get_upd u s j hnd]
      simp only [St.get, if_neg e1, if_neg e2]
      rw [get_filter (fun i => decide (i ≠ k) && decide (i ≠ j0)) u (by simp [Ne.symm e1, Ne.symm e2])]
theorem get_key : ∀ (l : St) {j : Nat} {d : C}, St.get l j = some d → j ∈ l.map (·.1) := by
  intro l
  induction l with
  | nil => intro j d h; simp [St.get] at h
  | cons q l ih =>
    intro j d h
    obtain ⟨i, e⟩ := q
    simp only [St.get] at h
    split at h
    · rename_i e; simp [e]
    · simp only [List.map_cons, List.mem_cons]; exact .inr (ih h)
theorem frz_keys : ∀ (fz : List (Nat × Nat)) {u : St}, frzK g fz = some u → ∀ k ∈ u.map (·.1), (g k).isSome = true
  | [], u, h, k, hk => by
    simp only [frzK, Option.some.injEq] at h
    subst h
    simp at hk
  | (j, o) :: r, u, h, k, hk => by
    simp only [frzK] at h
    split at h
    · cases h
    rename_i u' hu'
    have ih := frz_keys r hu'
    have hp : ∀ i c, patch g u' i = some c → (g i).isSome = true := fun i c hc => by
      unfold patch at hc
      split at hc
      · rename_i d hd; exact ih i (get_key u' hd)
      · rw [hc]; rfl
    split at h
    all_goals first
      | cases h
      | skip
    all_goals
      rename_i hj ho
      split at h
      rotate_left
      · cases h
      · cases h
        simp only [List.map_cons, List.mem_cons] at hk
        rcases hk with rfl | rfl | hk
        · exact hp _ _ hj
        · exact hp _ _ ho
        · exact ih k (((List.filter_sublist).map _).subset hk)

theorem kill_le (κ : Conc) (s : St) (o : Nat) (o' : Nat) : ObjLe κ s κ (s.set (okey o) .dead) o' := by
  by_cases e : o = o'
  · subst e
    constructor
    · intro n t ys h; rw [St.get_set, if_pos rfl] at h; cases h
    · intro c h hc; rw [St.get_set, if_pos rfl] at h; cases h; exact absurd rfl hc
  · exact .of_eq (by rw [St.get_set, if_neg (fun h => e (okey_inj h))]) rfl
theorem le_trans' {κ : Conc} {s s' s'' : St} {o : Nat} (h : ObjLe κ s κ s' o) (h' : ObjLe κ s' κ s'' o) : ObjLe κ s κ s'' o := by
  constructor
  · intro n t ys e
    obtain ⟨xs, e1, l1, _⟩ := h'.vec n t ys e
    obtain ⟨zs, e2, l2, _⟩ := h.vec n t xs e1
    exact ⟨zs, e2, l2.trans l1, rfl⟩
  · intro c e hc
    obtain ⟨c', e1, hc', _⟩ := h'.any c e hc
    obtain ⟨c'', e2, hc'', _⟩ := h.any c' e1 hc'
    exact ⟨c'', e2, hc'', rfl⟩
theorem frzX_sound {F F' : Froz} {κ : Conc} {s s' : St} {o : Nat} {t : Ty} {xs : List t.den} (hF : F.le F') (hle : ∀ o', ObjLe κ s κ s' o') (hv : ∀ v, RepC F κ s (.own o) v → RepV F' (.sl t) xs v) :
    ∀ (x : C) (cs : List Value), RepX F κ s x cs → RepX F' κ s' (frzX o t xs x) cs
  | .cons a b, cs, h => by
    simp only [RepX] at h
    obtain ⟨c1, c2, rfl, h1, h2⟩ := h
    simp only [frzX, RepX]
    refine ⟨c1, c2, rfl, ?_, frzX_sound hF hle hv b c2 h2⟩
    unfold frz1
    split
    · rename_i o'
      split
      · rename_i e
        subst e
        simp only [RepX] at h1 ⊢
        obtain ⟨h1, hl⟩ := h1
        obtain ⟨v, rfl⟩ := List.length_eq_one_iff.1 hl
        obtain ⟨cs', h3, h4⟩ := hv v h1
        have h5 : cs' = [v] := by
          simp only [RepT] at h3
          obtain ⟨ad, cap, rfl, _⟩ := h3
          rw [h4]
          simp [pack, Ty.agg]
        rw [← h5]
        exact h3
      · exact RepX.mono hF _ _ (fun o _ => hle o) h1
    · exact RepX.mono hF _ _ (fun o _ => hle o) h1
  | .unit, cs, h => by simpa only [frzX, RepX] using h
  | .val t x, cs, h => by
    simp only [frzX]
    exact RepX.mono hF _ _ (fun o _ => hle o) h
  | .ptr .., cs, h | .nil, cs, h | .dead, cs, h | .own _, cs, h | .eptr .., cs, h | .aptr .., cs, h | .adr .., cs, h | .brow _, cs, h | .may .., cs, h | .fptr .., cs, h | .fn .., cs, h | .tup _, cs, h | .agg _, cs, h | .rsl .., cs, h | .vec .., cs, h | .rcd _, cs, h => by
    simp only [frzX]
    exact RepX.mono hF _ _ (fun o _ => hle o) h
theorem frz1_refs (o : Nat) (t : Ty) (xs : List t.den) (a : C) : ∀ o' ∈ (frz1 o t xs a).refs, o' ∈ a.refs := by
  intro o' h
  unfold frz1 at h
  split at h
  · split at h
    · simp [C.refs] at h
    · exact h
  · exact h
theorem frzX_refs (o : Nat) (t : Ty) (xs : List t.den) : ∀ (x : C), ∀ o' ∈ (frzX o t xs x).refs, o' ∈ x.refs := by
  intro x
  induction x with
  | cons a b _ ih =>
    intro o' h
    simp only [frzX, C.refs, List.mem_append] at h ⊢
    rcases h with h | h
    · exact .inl (frz1_refs o t xs a o' h)
    · exact .inr (ih o' h)
  | _ => intro o' h; simpa only [frzX] using h
theorem frzX_bty (o : Nat) (t : Ty) (xs : List t.den) (x : C) : (frzX o t xs x).bty = x.bty := by
  cases x with
  | cons a b =>
    simp only [frzX]
    cases a with
    | own o' =>
      simp only [frz1]
      by_cases e : o' = o
      · rw [if_pos e]; rfl
      · rw [if_neg e]
        rfl
    | _ => rfl
  | _ => rfl

theorem frz_sound : ∀ (fz : List (Nat × Nat)) {u : St} {F : Froz} {s : St}, frzK g fz = some u → (∀ k c, g k = some c → s.get k = some c) → Inv n f F κ s a w →
    (u.map (·.1)).Nodup ∧ ∃ F', F.le F' ∧ Inv n f F' κ (s.upd u) a w
  | [], u, F, s, h, _, hI => by
    simp only [frzK, Option.some.injEq] at h
    subst h
    exact ⟨by simp, F, Froz.le_refl F, hI⟩
  | (k, o) :: r, u, F, s, h, hg, hI => by
    simp only [frzK] at h
    split at h
    · cases h
    rename_i u' hu'
    obtain ⟨hnd, F1, hF1, hI1⟩ := frz_sound r hu' hg hI
    have hgs : ∀ k c, patch g u' k = some c → (s.upd u').get k = some c := fun k c hc => by
      rw [get_upd u' s k hnd]
      unfold patch at hc
      split at hc
      · rename_i d hd; rw [hd]; exact hc
      · rename_i hd; rw [hd]; exact hg _ _ hc
    split at h
    · rename_i o' m t xs hk ho
      split at h
      · rename_i he
        obtain ⟨rfl, hk'⟩ := he
        cases h
        have hsk := hgs _ _ hk
        have hso := hgs _ _ ho
        have hne : k ≠ okey o' := by have := okey_ge o'; omega
        obtain ⟨h1, h2⟩ := upd_over (v := .val (.sl t) xs) (d := .dead) hne hnd s
        obtain ⟨F2, hF2, hI2, hval⟩ := hI1.freeze hso
        have hv := hval _ (hI1.slots k _ hsk hk')
        have hI3 := hI2.reslot (c := .val (.sl t) xs) hk' (rep_val.2 hv) (by simp [C.refs])
        have hI4 := hI3.congr (s' := ((s.upd u').set k (.val (.sl t) xs)).set (okey o') .dead) (fun j => set_comm hne j)
        exact ⟨h1, F2, Froz.le_trans hF1 hF2, hI4.congr (fun j => (h2 j).symm)⟩
      · cases h
    · rename_i x m t xs hk ho
      split at h
      · rename_i hk'
        cases h
        have hsk := hgs _ _ hk
        have hso := hgs _ _ ho
        obtain ⟨ob, rfl⟩ : ∃ ob, k = okey ob := ⟨k - 100000, by unfold okey; omega⟩
        have hne : okey o ≠ okey ob := fun e => by rw [← e, hso] at hsk; cases hsk
        obtain ⟨h1, h2⟩ := upd_over (v := .rcd (frzX o t xs x)) (d := .dead) hne.symm hnd s
        obtain ⟨F2, hF2, hI2, hval⟩ := hI1.freeze hso
        have hobj := hI1.objs ob _ hsk
        simp only [RepO] at hobj
        obtain ⟨b, c, T, fr, hκ, hb, hfr, hX, hB⟩ := hobj
        have hso1 : ((s.upd u').set (okey o) .dead).get (okey ob) = some (.rcd x) := by rw [St.get_set, if_neg hne]; exact hsk
        have hI3 := hI2.write (c := .rcd x) (c' := .rcd (frzX o t xs x)) (w' := w) hso1 rfl rfl hκ (fun n' t' zs hz => by cases hz) (fun o' ho' => by
            have := hI2.closed _ _ hso1 o' (by
              simp only [C.refs] at ho' ⊢
              exact frzX_refs o t xs x o' ho')
            exact this) ⟨Nat.le_refl _, fun _ _ _ => rfl, rfl, rfl⟩ (fun s' hle => by
            simp only [RepO]
            exact ⟨b, c, T, fr, hκ, hb, hfr, frzX_sound hF2 (fun o' => le_trans' (kill_le κ (s.upd u') o o') (hle o')) hval x _ hX, fun T0 h0 => hB T0 (by rw [← frzX_bty o t xs x]; exact h0)⟩)
        have hI4 := hI3.congr (s' := ((s.upd u').set (okey ob) (.rcd (frzX o t xs x))).set (okey o) .dead) (fun j => set_comm (fun e => hne e.symm) j)
        exact ⟨h1, F2, Froz.le_trans hF1 hF2, hI4.congr (fun j => (h2 j).symm)⟩
      · cases h
    · cases h

theorem restr_le {ks : List Nat} : ∀ k c, restr s ks k = some c → s.get k = some c := fun k c h => by
  unfold restr at h
  split at h
  · exact h
  · cases h

theorem evOp_sound (hΓ : CtxOK Γ P) (hI : Inv n f F κ s a w) (hG : GlobOK Γ F) {h : OH} {o : Oper} {u : St} {r : Rs} (he : evOp Γ n h o s = some (u, r))
    {next : Act → World → Prop} {Q : Exit → Act → World → Prop} :
    (∀ v, r.run = some v → Then n f F s a o.dst (u ++ v) next → o.wp P a w next Q) ∧ ∀ T v t p, r.fall = some (T, v, ⟨t, p⟩) → ThenP n f F s a T (u ++ v) t p Q → o.wp P a w next Q := by
  unfold evOp at he
  split at he
  · rename_i hchk
    simp only [Bool.and_eq_true, decide_eq_true_eq, List.all_eq_true] at hchk
    obtain ⟨⟨hdst, hnew⟩, hnd⟩ := hchk
    simp only at he
    split at he
    · cases he
    · rename_i u0 hu0
      · simp only [Option.map_eq_some_iff, Prod.mk.injEq] at he
        obtain ⟨r', hr, rfl, rfl⟩ := he
        obtain ⟨hnk, F1, hF1, hI1⟩ := frz_sound h.fz hu0 (fun k c hc => restr_le _ _ hc) hI
        have hg' : ∀ k c, patch (restr s (h.ins o)) u0 k = some c → (s.upd u0).get k = some c := fun k c hc => by
          rw [get_upd u0 s k hnk]
          unfold patch at hc
          split at hc
          · rename_i d hd; rw [hd]; exact hc
          · rename_i hd; rw [hd]; exact restr_le _ _ hc
        have hget0 : ∀ m ∈ h.new, (s.upd u0).get (okey m) = none := fun m hm => by
          rw [get_upd u0 s _ hnk]
          have hs : s.get (okey m) = none := by
            have := hnew m hm
            simpa using this
          cases hd : St.get u0 (okey m) with
          | none => exact hs
          | some d =>
            obtain ⟨c, hc⟩ := Option.isSome_iff_exists.1 (frz_keys _ hu0 _ (get_key u0 hd))
            rw [restr_le _ _ hc] at hs
            cases hs
        obtain ⟨h1, h2⟩ := evOp2_sound (next := next) (Q := Q) hΓ hI1 (hG.mono hF1) hg' hget0 hnd (fun d hd => by rw [hd] at hdst; simpa using hdst) hr
        refine ⟨fun v hu hn => h1 v hu (fun F' κ' a' w' hF hI' hfr => ?_), fun T v t p hu hn => h2 T v t p hu (fun F' κ' x w' hF hI' hx => ?_)⟩
        · rw [← upd_append] at hI'
          exact hn F' κ' a' w' (Froz.le_trans hF1 hF) hI' hfr
        · rw [← upd_append] at hI' hx
          exact hn F' κ' x w' (Froz.le_trans hF1 hF) hI' hx
  · cases he

theorem evStep_sound (hΓ : CtxOK Γ P) (hI : Inv n f F κ s a w) (hG : GlobOK Γ F) {ops : Array Oper} {hs : List OH} {i : Nat} {s' : St} (he : evStep Γ n ops hs i s = some s')
    {K : Act → World → Prop} {Q : Exit → Act → World → Prop} (hK : ∀ F' κ' a' w', F.le F' → Inv n f F' κ' s' a' w' → (∀ t, (ops[i]?).bind (·.dst) ≠ some t → a'.tmps.getD t undef = a.tmps.getD t undef) → K a' w') :
    wpOp P ops Q i K a w := by
  simp only [evStep, Option.map_eq_some_iff] at he
  obtain ⟨u, hu, rfl⟩ := he
  unfold evU at hu
  unfold wpOp
  split at hu
  · cases hu
  · rename_i o ho
    rw [ho]
    simp only at hu ⊢
    rw [ho] at hK
    simp only [Option.bind_some] at hK
    have go : (match evOp Γ n (hs.getD i {}) o s with
        | none => none
        | some (u, r) => r.run.bind fun v => if keysIn (u ++ v) ((hs.getD i {}).outs o) then some (u ++ v) else none) = some u → o.wp P a w K Q := fun h => by
      split at h
      · cases h
      · rename_i u1 r hev
        simp only [Option.bind_eq_some_iff] at h
        obtain ⟨v, hv, h⟩ := h
        split at h
        · cases h
          exact (evOp_sound hΓ hI hG hev).1 v hv (fun F' κ' a' w' h1 h2 h3 => hK F' κ' a' w' h1 h2 h3)
        · cases h
    split at hu
    · rename_i hgd
      have : Region.wanted o (yielded ops a.tmps) = true := by simp [Region.wanted, hgd]
      rw [if_pos this]
      exact .inl (go hu)
    · rename_i j want hgd
      split at hu
      · cases hu
      · rename_i d hd
        split at hu
        · rename_i hlt
          split at hu
          · rename_i b hb
            have hval := rep_bool.1 (hI.slots d _ hb hlt)
            have hsome : a.tmps[d]? = some (.bool b) := by
              cases h : a.tmps[d]? with
              | none => simp [Array.getD_eq_getD_getElem?, h, undef] at hval
              | some x => simp [Array.getD_eq_getD_getElem?, h] at hval; rw [hval]
            have hy : yielded ops a.tmps j = some b := by
              unfold gslot at hd
              simp [yielded, hd, hsome]
            have hw : Region.wanted o (yielded ops a.tmps) = (b == want) := by
              simp [Region.wanted, hgd, hy]
            rw [hw]
            split at hu
            · rename_i hbw
              rw [if_pos (by simp [hbw])]
              exact .inl (go hu)
            · rename_i hbw
              rw [if_neg (by simpa using hbw)]
              split at hu
              · rename_i hdst
                cases hu
                refine hK F κ _ w (Froz.le_refl F) (put_inv hI (fun d hd => ?_) rep_skip (by simp [C.refs])) (fun t ht => put_frame t ht)
                rw [hd] at hdst
                simpa using hdst
              · cases hu
          · rename_i hb
            have hval := rep_skip_eq (hI.slots d _ hb hlt)
            have hy : yielded ops a.tmps j = none := by
              unfold gslot at hd
              cases h : a.tmps[d]? with
              | none => simp [yielded, hd, h]
              | some x => simp [Array.getD_eq_getD_getElem?, h] at hval; simp [yielded, hd, h, hval, undef]
            have hw : Region.wanted o (yielded ops a.tmps) = false := by
              simp [Region.wanted, hgd, hy]
            rw [if_neg (by simp [hw])]
            split at hu
            · rename_i hdst
              cases hu
              refine hK F κ _ w (Froz.le_refl F) (put_inv hI (fun d hd => ?_) rep_skip (by simp [C.refs])) (fun t ht => put_frame t ht)
              rw [hd] at hdst
              simpa using hdst
            · cases hu
          · cases hu
        · cases hu

/-- An operation that ends in a panic. -/
theorem evP_sound (hΓ : CtxOK Γ P) (hI : Inv n f F κ s a w) (hG : GlobOK Γ F) {ops : Array Oper} {hs : List OH} {i T : Nat} {u : St} {t : Ty} {p : t.den} (he : evP Γ n ops hs i s = some (T, u, ⟨t, p⟩))
    {K : Act → World → Prop} {Q : Exit → Act → World → Prop} (hQ : ThenP n f F s a T u t p Q) : wpOp P ops Q i K a w := by
  unfold evP at he
  unfold wpOp
  split at he
  · cases he
  · rename_i o ho
    rw [ho]
    simp only at he ⊢
    have go : (match evOp Γ n (hs.getD i {}) o s with
        | none => none
        | some (u, r) => r.fall.bind fun v => if keysIn (u ++ v.2.1) ((hs.getD i {}).outs o) then some (v.1, u ++ v.2.1, v.2.2) else none) = some (T, u, (⟨t, p⟩ : (t : Ty) × t.den)) → o.wp P a w K Q := fun h => by
      split at h
      · cases h
      · rename_i u1 r hev
        simp only [Option.bind_eq_some_iff] at h
        obtain ⟨⟨T', v', t', p'⟩, hv, h⟩ := h
        split at h
        · cases h
          exact (evOp_sound hΓ hI hG hev).2 _ _ _ _ hv hQ
        · cases h
    split at he
    · rename_i hgd
      have : Region.wanted o (yielded ops a.tmps) = true := by simp [Region.wanted, hgd]
      rw [if_pos this]
      exact .inl (go he)
    · rename_i j want hgd
      split at he
      · cases he
      · rename_i d hd
        split at he
        · rename_i hlt
          split at he
          · rename_i b hb
            have hval := rep_bool.1 (hI.slots d _ hb hlt)
            have hsome : a.tmps[d]? = some (.bool b) := by
              cases h : a.tmps[d]? with
              | none => simp [Array.getD_eq_getD_getElem?, h, undef] at hval
              | some x => simp [Array.getD_eq_getD_getElem?, h] at hval; rw [hval]
            have hy : yielded ops a.tmps j = some b := by
              unfold gslot at hd
              simp [yielded, hd, hsome]
            have hw : Region.wanted o (yielded ops a.tmps) = (b == want) := by
              simp [Region.wanted, hgd, hy]
            rw [hw]
            split at he
            · rename_i hbw
              rw [if_pos (by simp [hbw])]
              exact .inl (go he)
            · cases he
          · cases he
        · cases he

/-- In the text's order. -/
theorem evSteps_text (hΓ : CtxOK Γ P) {ops : Array Oper} {hs : List OH} {Q : Exit → Act → World → Prop} : ∀ (l : List Nat) {F : Froz} {κ : Conc} {s : St} {a : Act} {w : World} {s' : St}, evSteps Γ n ops hs l s = some s' →
    Inv n f F κ s a w → GlobOK Γ F → (∀ F' κ' a' w', F.le F' → Inv n f F' κ' s' a' w' → (∀ t, (∀ (i : Nat) o, ops[i]? = some o → o.dst ≠ some t) → a'.tmps.getD t undef = a.tmps.getD t undef) → Q .normal a' w') → wpOps P ops Q l a w
  | [], F, κ, s, a, w, s', h, hI, hG, hQ => by
    simp only [evSteps, Option.some.injEq] at h
    subst h
    exact hQ F κ a w (Froz.le_refl F) hI (fun _ _ => rfl)
  | i :: r, F, κ, s, a, w, s', h, hI, hG, hQ => by
    simp only [evSteps, Option.bind_eq_some_iff] at h
    obtain ⟨s1, h1, h2⟩ := h
    rw [wpOps_cons]
    refine evStep_sound hΓ hI hG h1 (fun F' κ' a' w' hF hI' hfr => ?_)
    refine evSteps_text hΓ r h2 hI' (hG.mono hF) (fun F2 κ2 a2 w2 hF2 hI2 hfr2 => hQ F2 κ2 a2 w2 (Froz.le_trans hF hF2) hI2 (fun t ht => ?_))
    rw [hfr2 t ht]
    refine hfr t ?_
    cases ho : ops[i]? with
    | none => simp
    | some o => exact ht i o ho

/-- In the text's order, up to a panic. -/
theorem evSteps_fall (hΓ : CtxOK Γ P) {ops : Array Oper} {hs : List OH} {Q : Exit → Act → World → Prop} {i : Nat} {post : List Nat} {T : Nat} {u : St} {t : Ty} {p : t.den} : ∀ (pre : List Nat) {F : Froz} {κ : Conc} {s : St} {a : Act} {w : World} {s' : St}, evSteps Γ n ops hs pre s = some s' →
    evP Γ n ops hs i s' = some (T, u, ⟨t, p⟩) → Inv n f F κ s a w → GlobOK Γ F →
    (∀ F' κ' v a' w', F.le F' → Inv n f F' κ' (s'.upd u) a' w' → RepC F' κ' (s'.upd u) (.val t p) v → (∀ t, (∀ (i : Nat) o, ops[i]? = some o → o.dst ≠ some t) → a'.tmps.getD t undef = a.tmps.getD t undef) → Q (.panic [{ v := .iface T v, recovered := false }]) a' w') → wpOps P ops Q (pre ++ i :: post) a w
  | [], F, κ, s, a, w, s', h, hp, hI, hG, hQ => by
    simp only [evSteps, Option.some.injEq] at h
    subst h
    rw [List.nil_append, wpOps_cons]
    exact evP_sound hΓ hI hG hp (fun F' κ' v w' hF hI' hv => hQ F' κ' v a w' hF hI' hv (fun _ _ => rfl))
  | j :: r, F, κ, s, a, w, s', h, hp, hI, hG, hQ => by
    simp only [evSteps, Option.bind_eq_some_iff] at h
    obtain ⟨s1, h1, h2⟩ := h
    rw [List.cons_append, wpOps_cons]
    refine evStep_sound hΓ hI hG h1 (fun F' κ' a' w' hF hI' hfr => ?_)
    exact evSteps_fall hΓ r h2 hp hI' (hG.mono hF) (fun F2 κ2 v a2 w2 hF2 hI2 hv hfr2 => hQ F2 κ2 v a2 w2 (Froz.le_trans hF hF2) hI2 hv (fun t ht => by
      rw [hfr2 t ht]
      refine hfr t ?_
      cases ho : ops[j]? with
      | none => simp
      | some o => exact ht j o ho))

end
end Go.Fe
