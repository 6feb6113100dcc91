/- A function that the evaluator answers keeps its contract. -/
import Derived.Test.YtmnpchoocaiegaaGreatDoorFeFnOK
namespace Go.Fe
open Go

section
variable {Γ : Ctx} {P : Program} {n : Nat} {f : Frame0} {F F' : Froz} {κ κ0 : Conc} {s : St} {s0 : List C} {a : Act} {w w' : World}

theorem slAt_same {F' : Froz} {κ' : Conc} {s' : St} {w' : World} {i : Nat} {t : Ty} {xs ys : List t.den} {v : Value} (h0 : RepO F κ s w i (.vec none t xs)) (h1 : RepO F' κ' s' w' i (.vec none t ys))
    (e0 : SlAt (κ i) xs.length v) (e1 : SlAt (κ' i) ys.length v) : xs.length = ys.length ∧ κ i = κ' i := by
  simp only [RepO] at h0 h1
  cases hk : κ i with
  | none =>
    rw [hk] at h0 e0
    obtain ⟨a, rfl⟩ := e0
    cases hk' : κ' i with
    | none =>
      rw [hk'] at h1 e1
      exact ⟨by rw [h0.2, h1.2], rfl⟩
    | some q =>
      obtain ⟨b, p, q⟩ := q
      rw [hk'] at h1 e1
      obtain ⟨_, _, _, _, _, _, hq, _⟩ := h1
      simp only [SlAt, Value.slice.injEq] at e1
      have := (hq.2 trivial).1
      omega
  | some q =>
    obtain ⟨b, p, q⟩ := q
    rw [hk] at h0 e0
    obtain ⟨_, _, _, _, _, _, hq, _⟩ := h0
    have hpos := (hq.2 trivial).1
    simp only [SlAt] at e0
    subst e0
    cases hk' : κ' i with
    | none =>
      rw [hk'] at e1
      obtain ⟨a, e1⟩ := e1
      simp only [Value.slice.injEq] at e1
      omega
    | some q' =>
      obtain ⟨b', p', q'⟩ := q'
      rw [hk'] at e1
      simp only [SlAt, Value.slice.injEq, Option.some.injEq, Addr.mk.injEq] at e1
      obtain ⟨⟨rfl, rfl, _⟩, h2, rfl⟩ := e1
      exact ⟨h2, rfl⟩

theorem hasPtr_rep {F' : Froz} {κ' : Conc} {s' : St} {i : Nat} : ∀ (k k' : K) (z : k.den) (z' : k'.den) (us : List Value), hasPtr i k k' = true → RepL F κ s (k.unpack z) us → RepL F' κ' s' (k'.unpack z') us →
    ∃ v, RepC F κ s (.ptr i 0) v ∧ RepC F' κ' s' (.ptr i 0) v
  | .cons a b, k', z, z', us, h, h1, h2 => by
    cases k' with
    | cons a' b' =>
      simp only [K.unpack, RepL] at h1 h2
      obtain ⟨v, r, rfl, e1, e2⟩ := h1
      obtain ⟨v', r', e, e3, e4⟩ := h2
      simp only [List.cons.injEq] at e
      obtain ⟨rfl, rfl⟩ := e
      have ih := fun h => hasPtr_rep (i := i) b b' z.2 z'.2 r h e2 e4
      unfold hasPtr at h
      split at h
      · rename_i heq1 heq2
        simp only [K.cons.injEq] at heq1 heq2
        obtain ⟨rfl, rfl⟩ := heq1
        obtain ⟨rfl, rfl⟩ := heq2
        simp only [Bool.or_eq_true, decide_eq_true_eq] at h
        rcases h with ⟨rfl, rfl⟩ | h
        · exact ⟨v, e1, e3⟩
        · exact ih h
      · rename_i heq1 heq2
        simp only [K.cons.injEq] at heq1 heq2
        obtain ⟨rfl, rfl⟩ := heq1
        obtain ⟨rfl, rfl⟩ := heq2
        exact ih h
      · cases h
    | _ => simp [hasPtr] at h
  | .val _, k', _, _, _, h, _, _ => by cases k' <;> simp [hasPtr] at h
  | .own _, k', _, _, _, h, _, _ => by cases k' <;> simp [hasPtr] at h
  | .ptr .., k', _, _, _, h, _, _ => by cases k' <;> simp [hasPtr] at h
  | .adr .., k', _, _, _, h, _, _ => by cases k' <;> simp [hasPtr] at h
  | .brow _, k', _, _, _, h, _, _ => by cases k' <;> simp [hasPtr] at h
  | .fptr _, k', _, _, _, h, _, _ => by cases k' <;> simp [hasPtr] at h
  | .fn .., k', _, _, _, h, _, _ => by cases k' <;> simp [hasPtr] at h
  | .unit, k', _, _, _, h, _, _ => by cases k' <;> simp [hasPtr] at h
  | .nil, k', _, _, _, h, _, _ => by cases k' <;> simp [hasPtr] at h
  | .dead, k', _, _, _, h, _, _ => by cases k' <;> simp [hasPtr] at h
  | .vec .., k', _, _, _, h, _, _ => by cases k' <;> simp [hasPtr] at h
  | .iter, k', _, _, _, h, _, _ => by cases k' <;> simp [hasPtr] at h
  | .rcd _, k', _, _, _, h, _, _ => by cases k' <;> simp [hasPtr] at h

theorem pinned_le {F' : Froz} {κ' : Conc} {s' : St} {f' : Frame0} {n' : Nat} {a' : Act} {w' : World} {k0 k : K} {i j : Nat} {x y : Option K} (h : pinned k0 k i x y = true)
    (hI : Inv n f F κ s a w) (hI' : Inv n' f' F' κ' s' a' w') {o0 : k0.den} {o1 : k.den} (h0 : s.get (okey i) = some (k0.unpack o0)) (h1 : s'.get (okey i) = some (k.unpack o1)) (hj : j < 100000)
    (hx : ∀ q, x = some q → ∃ z, s.get j = some (q.unpack z)) (hy : ∀ q, y = some q → ∃ z, s'.get j = some (q.unpack z)) (ht : a'.tmps.getD j undef = a.tmps.getD j undef) : ObjLe κ s κ' s' i := by
  unfold pinned at h
  split at h
  · rename_i t t' i' i''
    simp only [decide_eq_true_eq] at h
    obtain ⟨rfl, rfl, rfl⟩ := h
    obtain ⟨_, g0⟩ := hx _ rfl
    obtain ⟨_, g1⟩ := hy _ rfl
    simp only [K.unpack] at h0 h1 g0 g1
    have e0 := hI.slots j _ g0 hj
    have e1 := hI'.slots j _ g1 hj
    simp only [RepL, List.cons.injEq, and_true] at e0 e1
    obtain ⟨v, rfl, e0⟩ := e0
    obtain ⟨v', hv', e1⟩ := e1
    have e0 := e0 _ _ _ h0
    have e1 := e1 _ _ _ h1
    rw [ht] at hv'
    subst hv'
    obtain ⟨el, ek⟩ := slAt_same (hI.objs _ _ h0) (hI'.objs _ _ h1) e0 e1
    constructor
    · intro n u ys hu
      rw [h1] at hu
      cases hu
      exact ⟨_, h0, el, ek.symm⟩
    · intro c hc hd
      exact ⟨_, h0, by simp, ek.symm⟩
  · rename_i m t m' t' i' i''
    simp only [decide_eq_true_eq] at h
    obtain ⟨rfl, rfl, rfl, rfl⟩ := h
    obtain ⟨_, g0⟩ := hx _ rfl
    obtain ⟨_, g1⟩ := hy _ rfl
    simp only [K.unpack] at h0 h1 g0 g1
    have e0 := hI.slots j _ g0 hj
    have e1 := hI'.slots j _ g1 hj
    simp only [RepL, List.cons.injEq, and_true] at e0 e1
    obtain ⟨v, rfl, e0⟩ := e0
    obtain ⟨v', hv', e1⟩ := e1
    obtain ⟨b, p, q, e2, e3⟩ := e0 _ h0 (by simp)
    obtain ⟨b', p', q', e4, e5⟩ := e1 _ h1 (by simp)
    rw [ht, e3, e5] at hv'
    simp only [Nat.add_zero, Value.pointer.injEq, Option.some.injEq, Addr.mk.injEq, and_true] at hv'
    obtain ⟨rfl, rfl⟩ := hv'
    have r0 := hI.objs _ _ h0
    have r1 := hI'.objs _ _ h1
    simp only [RepO] at r0 r1
    obtain ⟨l0, b0, p0, z0⟩ := r0.1 m rfl
    obtain ⟨l1, b1, p1, z1⟩ := r1.1 m rfl
    rw [e2] at z0
    rw [e4] at z1
    cases z0
    cases z1
    have ek : κ' i'' = κ i'' := by rw [e2, e4]
    constructor
    · intro n u ys hu
      rw [h1] at hu
      cases hu
      exact ⟨_, h0, by rw [l0, l1], ek⟩
    · intro c hc hd
      exact ⟨_, h0, by simp, ek⟩
  · rename_i d0 d1 i' i''
    simp only [decide_eq_true_eq] at h
    obtain ⟨rfl, rfl⟩ := h
    obtain ⟨_, g0⟩ := hx _ rfl
    obtain ⟨_, g1⟩ := hy _ rfl
    simp only [K.unpack] at h0 h1 g0 g1
    have e0 := hI.slots j _ g0 hj
    have e1 := hI'.slots j _ g1 hj
    simp only [RepL, List.cons.injEq, and_true] at e0 e1
    obtain ⟨v, rfl, e0⟩ := e0
    obtain ⟨v', hv', e1⟩ := e1
    obtain ⟨b, p, q, e2, e3⟩ := e0 _ h0 (by simp)
    obtain ⟨b', p', q', e4, e5⟩ := e1 _ h1 (by simp)
    rw [ht, e3, e5] at hv'
    simp only [Nat.add_zero, Value.pointer.injEq, Option.some.injEq, Addr.mk.injEq, and_true] at hv'
    obtain ⟨rfl, rfl⟩ := hv'
    have r0 := hI.objs _ _ h0
    have r1 := hI'.objs _ _ h1
    simp only [RepO] at r0 r1
    obtain ⟨b0, _, _, _, z0, _⟩ := r0
    obtain ⟨b1, _, _, _, z1, _⟩ := r1
    rw [e2] at z0
    rw [e4] at z1
    cases z0
    cases z1
    have ek : κ' i'' = κ i'' := by rw [e2, e4]
    constructor
    · intro n u ys hu
      rw [h1] at hu
      cases hu
    · intro c hc hd
      exact ⟨_, h0, by simp, ek⟩
  · rename_i d0 d1 f1 c1 f2 c2
    obtain ⟨x0, g0⟩ := hx _ rfl
    obtain ⟨x1, g1⟩ := hy _ rfl
    simp only [K.unpack] at h0 h1 g0 g1
    have e0 := hI.slots j _ g0 hj
    have e1 := hI'.slots j _ g1 hj
    simp only [RepL, List.cons.injEq, and_true] at e0 e1
    obtain ⟨us, q0, e0⟩ := e0
    obtain ⟨us', q1, e1⟩ := e1
    rw [ht, q0] at q1
    simp only [Value.func.injEq, true_and] at q1
    have hus : us = us' := by
      have := q1.2
      simpa using this
    subst hus
    obtain ⟨v, e0, e1⟩ := hasPtr_rep _ _ _ _ _ h e0 e1
    simp only [RepL, List.cons.injEq, and_true] at e0 e1
    obtain ⟨v0, hv0, e0⟩ := e0
    obtain ⟨v', hv', e1⟩ := e1
    subst hv0
    obtain ⟨b, p, q, e2, e3⟩ := e0 _ h0 (by simp)
    obtain ⟨b', p', q', e4, e5⟩ := e1 _ h1 (by simp)
    rw [e3, e5] at hv'
    simp only [Nat.add_zero, Value.pointer.injEq, Option.some.injEq, Addr.mk.injEq, and_true] at hv'
    obtain ⟨rfl, rfl⟩ := hv'
    have r0 := hI.objs _ _ h0
    have r1 := hI'.objs _ _ h1
    simp only [RepO] at r0 r1
    obtain ⟨b0, _, _, _, z0, _⟩ := r0
    obtain ⟨b1, _, _, _, z1, _⟩ := r1
    rw [e2] at z0
    rw [e4] at z1
    cases z0
    cases z1
    have ek : κ' i = κ i := by rw [e2, e4]
    constructor
    · intro n u ys hu
      rw [h1] at hu
      cases hu
    · intro c hc hd
      exact ⟨_, h0, by simp, ek⟩
  · cases h

theorem lookup_in {α : Type} : ∀ {l : List (Nat × α)} {k : Nat} {q : α}, l.lookup k = some q → (k, q) ∈ l
  | [], k, q, h => by cases h
  | (j, x) :: r, k, q, h => by
    simp only [List.lookup] at h
    split at h
    · rename_i e
      cases h
      rw [eq_of_beq e]
      exact List.mem_cons_self ..
    · exact List.mem_cons_of_mem _ (lookup_in h)

/-- What is left of a state, when all that it named is dead. -/
theorem Inv.deads (hI : Inv n f F κ s a w) (hf : f.ds = []) (l : List C) (hl : ∀ c ∈ l, c = .dead) : Inv 0 f F κ (ost 0 l) act0 w := by
  have hd : ∀ k c, (ost 0 l).get k = some c → c = .dead := fun k c hk => by
    by_cases hlt : k < 100000
    · rw [ost_slot _ _ _ hlt] at hk; cases hk
    · obtain ⟨i, rfl⟩ := ost_key k (by omega)
      rw [ost_get0] at hk
      exact hl c (List.mem_of_getElem? hk)
  constructor
  · rfl
  · exact hf.symm
  · exact hI.frozen
  · intro k c hk hk'; rw [ost_slot _ _ _ hk'] at hk; cases hk
  · intro o c ho
    have := hd _ _ ho
    subst this
    trivial
  · intro o c b p q ho hc
    have := hd _ _ ho
    subst this
    simp [C.isObj] at hc
  · intro o c b p q o' c' p' q' ho hc
    have := hd _ _ ho
    subst this
    simp [C.isObj] at hc
  · intro k c hk o ho
    have := hd _ _ hk
    subst this
    simp [C.refs] at ho
  · exact hI.kept
  · exact hI.grown
theorem fall_comes (hI : Inv n ⟨w, mayOf s0 κ0, F, []⟩ F' κ s a w') (hF : F.le F') {t : Ty} {p : t.den} {T : Nat} {v : Value} (hv : RepC F' κ s (.val t p) v) :
    Comes1 s0 0 (outP s0 t p) (fallen T) w F κ0 (fallen T v) w' := by
  have hdead : ∀ c ∈ (outP s0 t p).objs ++ (outP s0 t p).news, c = .dead := fun c hc => by
    simp only [outP, List.append_nil, List.mem_map] at hc
    obtain ⟨_, _, rfl⟩ := hc
    rfl
  refine ⟨v, F', κ, rfl, hF, hI.deads rfl _ hdead, rep_val.2 (rep_val.1 hv), by simp [outP, C.refs], by simp [outP], by simp [outP], fun i _ => ?_⟩
  have hd : ∀ c, (ost 0 ((outP s0 t p).objs ++ (outP s0 t p).news)).get (okey i) = some c → c = .dead := fun c hc => by
    rw [ost_get0] at hc
    exact hdead c (List.mem_of_getElem? hc)
  constructor
  · intro n u ys hy
    cases hd _ hy
  · intro c hy hc
    exact absurd (hd _ hy) hc

/-- The beginning of a function's run, and what it hands back at its end. -/
theorem fn_fin (hΓ : CtxOK Γ P) {fn : Func} {rs : List ResultVar} (I : Inst) {W : List Nat} (hn : fn.ntmps = n) (hres : fn.results = rs.toArray) (hok : I.ok n rs.length W = true)
    {args : C} {objs : List C} {ax : Ks.den I.args} {oy : Ks.den I.objs} (hax : takeL I.args args = some ax) (hoy : takeO I.objs objs = some oy) {F : Froz} {κ : Conc} {w : World} {vals : List Value}
    (hI : Inv 0 ⟨w, mayOf objs κ, F, []⟩ F κ (ost 0 objs) act0 w) (hargs : RepL F κ (ost 0 objs) args vals) (hrefs : ∀ o ∈ args.refs, o < objs.length) :
    Inv n ⟨w, mayOf objs κ, F, []⟩ F κ (slotsAt 0 (Ks.unpack I.args ax) ++ ost 0 (Ks.unpack I.objs oy)) { tmps := vals.toArray ++ Array.replicate (fn.ntmps - vals.toArray.size) undef, defers := [] } w ∧
    ∀ (n' : Nat) (s' : St) (F' : Froz) (κ' : Conc) (a' : Act) (w' : World) (l : List C) (x : I.out.den), n' ≤ 90000 → F.le F' → Inv n' ⟨w, mayOf objs κ, F, []⟩ F' κ' s' a' w' →
      (∀ t, t ∉ W → a'.tmps.getD t undef = ({ tmps := vals.toArray ++ Array.replicate (fn.ntmps - vals.toArray.size) undef, defers := [] } : Act).tmps.getD t undef) →
      resList Γ s' rs = some l → I.out.pack (slotsAt 90000 l ++ s') = some x → ∃ v, (results fn a'.tmps).run P w' = .ok v w' ∧ Comes1 objs I.news (I.outs x) .returned w F κ (.returned v) w' := by
  have hobjs := takeO_eq _ hoy
  obtain ⟨hlen, hslots⟩ := takeL_rep I.args hax hargs
  unfold Inst.ok at hok
  simp only [Bool.and_eq_true, decide_eq_true_eq, List.all_eq_true, List.mem_range] at hok
  obtain ⟨⟨⟨⟨hn1, hn2, hnr, hnr2⟩, hpin⟩, hkeys⟩, hresk⟩ := hok
  have hlo : objs.length = I.objs.length := by rw [hobjs, unpack_len]
  -- the state at the start
  have hg0 : ∀ k, k < 100000 → St.get (slotsAt 0 (Ks.unpack I.args ax) ++ ost 0 objs) k = (Ks.unpack I.args ax)[k]? := fun k hk => by
    rw [get_append, slotsAt_get, if_pos (Nat.zero_le k), Nat.sub_zero]
    cases (Ks.unpack I.args ax)[k]? with
    | some d => rfl
    | none => exact ost_slot _ _ _ hk
  have hg1 : ∀ o, St.get (slotsAt 0 (Ks.unpack I.args ax) ++ ost 0 objs) (okey o) = (ost 0 objs).get (okey o) := fun o => by
    rw [get_append, slotsAt_get, if_pos (Nat.zero_le _), Nat.sub_zero, List.getElem?_eq_none (by rw [unpack_len]; have := okey_ge o; omega)]
  have hI0 : Inv n ⟨w, mayOf objs κ, F, []⟩ F κ (slotsAt 0 (Ks.unpack I.args ax) ++ ost 0 objs) { tmps := vals.toArray ++ Array.replicate (fn.ntmps - vals.toArray.size) undef, defers := [] } w := by
    refine hI.reshape (by simp [hn]; omega) rfl (fun k d hk hk' => ?_) (fun o => .inl (hg1 o))
    rw [hg0 k hk'] at hk
    obtain ⟨e1, e2⟩ := hslots k d hk
    have hkl : k < vals.length := by
      rw [hlen, ← unpack_len I.args ax]
      exact (List.getElem?_eq_some_iff.1 hk).1
    refine ⟨?_, fun o ho => ?_⟩
    · have : (vals.toArray ++ Array.replicate (fn.ntmps - vals.toArray.size) undef).getD k undef = vals.getD k undef := by
        simp [Array.getD_eq_getD_getElem?, List.getD_eq_getElem?_getD, Array.getElem?_append, hkl]
      simp only [this]
      exact e1
    · rw [ost_get0]
      have := hrefs o (e2 ho)
      simp [this]
  rw [← hobjs]
  refine ⟨hI0, fun n' s' F' κ' a' w' l x hn' hF hI' hfr hl hk => ?_⟩
  obtain ⟨vs, hvrun, hll, hvl0, hlr⟩ := resList_run hΓ.toCtxT hI' rs hl
  refine ⟨_, results_run hres hvrun, ?_⟩
  -- the results at slots of their own
  let a2 : Act := { tmps := (Array.range 100000).map fun k => if k < 90000 then a'.tmps.getD k undef else vs.getD (k - 90000) undef, defers := [] }
  have ha2 : ∀ k, k < 100000 → a2.tmps.getD k undef = if k < 90000 then a'.tmps.getD k undef else vs.getD (k - 90000) undef := fun k hk => by
    simp [a2, Array.getD_eq_getD_getElem?, hk]
  have hI2 : Inv 100000 ⟨w, mayOf objs κ, F, []⟩ F' κ' (slotsAt 90000 l ++ s') a2 w' := by
    refine hI'.reshape (by simp [a2]) rfl (fun k d hk hk' => ?_) (fun o => .inl ?_)
    · rw [ha2 k hk']
      rw [get_append, slotsAt_get] at hk
      by_cases h9 : 90000 ≤ k
      · rw [if_pos h9] at hk
        rw [if_neg (by omega)]
        cases hd : l[k - 90000]? with
        | some d' =>
          rw [hd] at hk
          cases hk
          exact hlr _ _ hd
        | none =>
          rw [hd] at hk
          refine ⟨?_, hI'.closed k d hk⟩
          have e := hI'.slots k d hk hk'
          have e1 : a'.tmps.getD k undef = undef := by
            have := hI'.tmps
            simp [Array.getD_eq_getD_getElem?, show a'.tmps.size ≤ k by omega]
          have e2 : vs.getD (k - 90000) undef = undef := by
            have := List.getElem?_eq_none_iff.1 hd
            have hvl : vs.length = rs.length := hvl0
            simp [List.getD_eq_getElem?_getD, List.getElem?_eq_none (show vs.length ≤ k - 90000 by omega)]
          rw [e2, ← e1]
          exact e
      · rw [if_neg h9] at hk
        rw [if_pos (by omega)]
        exact ⟨hI'.slots k d hk hk', hI'.closed k d hk⟩
    · rw [get_append, slotsAt_get, if_pos (by have := okey_ge o; omega), List.getElem?_eq_none (by have := okey_ge o; omega)]
  obtain ⟨F3, κ3, hF3, hI3⟩ := shape_sound hI2 hk
  -- the state that the caller gets
  have hol : (I.outs x).objs.length = I.objs.length := by simp [Inst.outs]
  have hnl : (I.outs x).news.length = I.news := by simp [Inst.outs]
  have hlook : ∀ k c, (I.out.unpack x).get k = some c → ∃ q, (k, q) ∈ I.out := fun k c hc => by
    have := shape_get I.out x k
    cases hlk : I.out.lookup k with
    | none => rw [hlk] at this; rw [this] at hc; cases hc
    | some q => exact ⟨q, lookup_in hlk⟩
  have hbound : ∀ o c, (I.out.unpack x).get (okey o) = some c → o < I.objs.length + I.news := fun o c hc => by
    obtain ⟨q, hq⟩ := hlook _ _ hc
    have := hkeys _ hq
    unfold okey at this
    omega
  have hfinal : ∀ o, (ost 0 ((I.outs x).objs ++ (I.outs x).news)).get (okey o) = if o < I.objs.length + I.news then some (((I.out.unpack x).get (okey o)).getD .dead) else none := fun o => by
    rw [ost_get0]
    by_cases h1 : o < I.objs.length
    · rw [List.getElem?_append_left (by omega), if_pos (by omega)]
      simp [Inst.outs, h1]
    · rw [List.getElem?_append_right (by omega), hol]
      by_cases h2 : o < I.objs.length + I.news
      · rw [if_pos h2]
        simp [Inst.outs, show o - I.objs.length < I.news by omega, show I.objs.length + (o - I.objs.length) = o by omega]
      · rw [if_neg h2, List.getElem?_eq_none (by omega)]
  have hI4 : Inv 0 ⟨w, mayOf objs κ, F, []⟩ F3 κ3 (ost 0 ((I.outs x).objs ++ (I.outs x).news)) act0 w' := by
    refine hI3.reshape rfl rfl (fun k c hc hk => ?_) (fun o => ?_)
    · rw [ost_slot _ _ _ hk] at hc; cases hc
    · rw [hfinal]
      cases hg : (I.out.unpack x).get (okey o) with
      | some c => exact .inl (by rw [if_pos (hbound o c hg)]; rfl)
      | none =>
        by_cases h1 : o < I.objs.length + I.news
        · rw [if_pos h1]; exact .inr ⟨rfl, rfl⟩
        · rw [if_neg h1]; exact .inl rfl
  have hle : ∀ o, ObjLe κ3 (I.out.unpack x) κ3 (ost 0 ((I.outs x).objs ++ (I.outs x).news)) o := fun o => by
    cases hg : (I.out.unpack x).get (okey o) with
    | some c => exact .of_eq (by rw [hfinal, if_pos (hbound o c hg), hg]; rfl) rfl
    | none =>
      constructor
      · intro n t ys hy
        rw [hfinal, hg] at hy
        split at hy <;> cases hy
      · intro c hy hc
        rw [hfinal, hg] at hy
        split at hy
        · cases hy; exact absurd rfl hc
        · cases hy
  have hresl : ∀ j, j < rs.length → ∃ c, (I.out.unpack x).get (90000 + j) = some c := fun j hj => by
    have := hresk j hj
    have h2 := shape_get I.out x (90000 + j)
    cases hlk : I.out.lookup (90000 + j) with
    | none => rw [hlk] at this; cases this
    | some q => rw [hlk] at h2; obtain ⟨y, hy⟩ := h2; exact ⟨_, hy⟩
  have hcs : ∀ (j : Nat) (c : C), ((List.range I.nres).map fun j => ((I.out.unpack x).get (90000 + j)).getD .dead)[j]? = some c → j < rs.length ∧ (I.out.unpack x).get (90000 + j) = some c := fun j c hc => by
    have hj : j < rs.length := by
      have := (List.getElem?_eq_some_iff.1 hc).1
      simpa [hnr] using this
    obtain ⟨c', hc'⟩ := hresl j hj
    simp [hnr, hj, hc'] at hc
    exact ⟨hj, by rw [hc', hc]⟩
  refine ⟨_, F3, κ3, rfl, Froz.le_trans hF hF3, hI4, ?_, ?_, by rw [hol, hlo], hnl, ?_⟩
  · refine RepL.mono (Froz.le_refl _) _ _ (fun o _ => hle o) (resC_rep _ _ (by simp [hnr, hvl0]) (fun j c hc => ?_))
    obtain ⟨hj, hg⟩ := hcs j c hc
    have := hI3.slots _ c hg (by omega)
    rw [ha2 _ (by omega), if_neg (by omega), Nat.add_sub_cancel_left] at this
    exact this
  · intro o ho
    obtain ⟨c, hc, hoc⟩ := resC_refs _ o ho
    obtain ⟨j, hj⟩ := List.mem_iff_getElem?.1 hc
    obtain ⟨_, hg⟩ := hcs j c hj
    have := hI3.closed _ c hg o hoc
    obtain ⟨d, hd⟩ := Option.isSome_iff_exists.1 this
    have := hbound o d hd
    rw [List.length_append]
    omega
  · intro i hi
    have hpi := hpin i (by omega)
    unfold Inst.okObj at hpi
    have hsg := shape_get I.out x (okey i)
    split at hpi
    · rename_i hlk
      rw [hlk] at hsg
      constructor
      · intro n t ys hy
        rw [hfinal, hsg] at hy
        split at hy <;> cases hy
      · intro c hy hc
        rw [hfinal, hsg] at hy
        split at hy
        · cases hy; exact absurd rfl hc
        · cases hy
    · rename_i k hlk
      rw [hlk] at hsg
      obtain ⟨o1, ho1⟩ := hsg
      split at hpi
      · cases hpi
      · rename_i k0 hk0
        simp only [List.any_eq_true, List.mem_range, Bool.and_eq_true, Bool.not_eq_true', List.contains_eq_mem, decide_eq_false_iff_not] at hpi
        obtain ⟨j, hj, hjw, hp⟩ := hpi
        have hu := unpack_at I.objs oy i
        rw [hk0] at hu
        obtain ⟨o0, ho0⟩ := hu
        rw [← hobjs] at ho0
        have key : ObjLe κ (slotsAt 0 (Ks.unpack I.args ax) ++ ost 0 objs) κ3 (I.out.unpack x) i := by
          refine pinned_le (j := j) hp hI0 hI3 (by rw [hg1, ost_get0]; exact ho0) ho1 (by omega) (fun q hq => ?_) (fun q hq => ?_) ?_
          · have := unpack_at I.args ax j
            rw [hq] at this
            rw [hg0 j (by omega)]
            exact this
          · have := shape_get I.out x j
            rw [hq] at this
            exact this
          · rw [ha2 j (by omega), if_pos (by omega)]
            exact hfr j hjw
        have hob : (ost 0 ((I.outs x).objs ++ (I.outs x).news)).get (okey i) = (I.out.unpack x).get (okey i) := by
          rw [hfinal, if_pos (hbound i _ ho1), ho1]; rfl
        constructor
        · intro n t ys hy
          rw [hob] at hy
          obtain ⟨xs, hx, h1, h2⟩ := key.vec n t ys hy
          rw [hg1] at hx
          exact ⟨xs, hx, h1, h2⟩
        · intro c hy hc
          rw [hob] at hy
          obtain ⟨c', hx, h1, h2⟩ := key.any c hy hc
          rw [hg1] at hx
          exact ⟨c', hx, h1, h2⟩

/-- What a run of a function's code comes to. -/
theorem fn_run (hΓ : CtxOK Γ P) (hm : P.follows .mixedOrders = true) {fid : FuncId} {fn : Func} {c : Code} {rs : List ResultVar} (h : HC) (I : Inst)
    (hf : P.funcs[fid]? = some fn) (hb : fn.body = some c) (hn : fn.ntmps = n) (hres : fn.results = rs.toArray) (hok : I.ok n rs.length (dsts c) = true)
    {args : C} {objs : List C} {ax : Ks.den I.args} {oy : Ks.den I.objs} (hax : takeL I.args args = some ax) (hoy : takeO I.objs objs = some oy) {X : Type} {k : Ex → St → Option X} {x : X}
    (hmx : evCode Γ n drawsOK h c (slotsAt 0 (Ks.unpack I.args ax) ++ ost 0 (Ks.unpack I.objs oy)) k = some x) {R : World → Froz → Conc → Ending → World → Prop}
    (hk : ∀ e s, k e s = some x → match e with
      | .exit _ => False
      | .pan T => ∃ t p, s.get panKey = some (.val t p) ∧ ∀ w F κ e w', Comes1 objs 0 (outP objs t p) (fallen T) w F κ e w' → R w F κ e w'
      | _ => ∃ l x, resList Γ s rs = some l ∧ I.out.pack (slotsAt 90000 l ++ s) = some x ∧ ∀ w F κ e w', Comes1 objs I.news (I.outs x) .returned w F κ e w' → R w F κ e w') : CallOK P Γ.glob fid args objs R := by
  intro F κ w vals hG hI hargs hrefs
  obtain ⟨hI0, hend⟩ := fn_fin hΓ I hn hres hok hax hoy hI hargs hrefs
  refine calls_of_wp hf hb (evCode_sound hΓ hm h c hmx hI0 hG (fun e s' F' a' w' y hke hF hl => ?_))
  have hk := hk e s' hke
  cases hl with
  | fall g1 g2 g3 _ _ =>
    obtain ⟨t, p, hp, hR⟩ := hk
    refine ⟨g1, hR _ _ _ _ _ (fall_comes g2 hF ?_)⟩
    have := g2.slots _ _ hp (by unfold panKey; omega)
    rw [g3] at this
    exact this
  | go hcalm hI' hfr =>
    have fin : (∃ l x, resList Γ s' rs = some l ∧ I.out.pack (slotsAt 90000 l ++ s') = some x ∧ ∀ w F κ e w', Comes1 objs I.news (I.outs x) .returned w F κ e w' → R w F κ e w') → a'.defers = [] ∧ ∃ v, (results fn a'.tmps).run P w' = .ok v w' ∧ R w F κ (.returned v) w' := by
      rintro ⟨l, x, hl, hk, hR⟩
      obtain ⟨v, h1, h2⟩ := hend n s' F' _ a' w' l x (by
        unfold Inst.ok at hok
        simp only [Bool.and_eq_true, decide_eq_true_eq] at hok
        exact hok.1.1.1.2.1) hF hI' hfr hl hk
      exact ⟨hI'.defers, v, h1, hR _ _ _ _ _ h2⟩
    cases e with
    | normal => exact fin hk
    | exit i => exact hk.elim
    | ret => exact fin hk
    | pan => cases hcalm

theorem sem_quiet {I : Inst} {run : Ks.den I.args → Ks.den I.objs → Option I.out.den} {args : C} {objs : List C} {q : CRes} (hq : I.sem run args objs = some q) : q.quiet = true := by
  unfold Inst.sem at hq
  split at hq
  · cases hq
  split at hq
  · cases hq
  cases hq
  rfl
/-- A FUNCTION KEEPS ITS CONTRACT. -/
theorem fn_ok (hΓ : CtxOK Γ P) (hm : P.follows .mixedOrders = true) {fid : FuncId} {fn : Func} {c : Code} {rs : List ResultVar} (h : HC) (I : Inst)
    (hf : P.funcs[fid]? = some fn) (hb : fn.body = some c) (hn : fn.ntmps = n) (hres : fn.results = rs.toArray) (hok : I.ok n rs.length (dsts c) = true)
    {run : Ks.den I.args → Ks.den I.objs → Option I.out.den} (hrun : ∀ x y, evFn Γ n c rs h I x y = run x y) : FnOK P Γ.glob fid (I.sem run) := by
  refine FnOK.of (fun args objs α k m r x hsem hmx => ?_) (fun args objs q hq => ?_)
  · unfold Inst.sem at hsem
    split at hsem
    · cases hsem
    rename_i ax hax
    split at hsem
    · cases hsem
    rename_i oy hoy
    cases hsem
    rw [← hrun] at hmx
    unfold evFn at hmx
    refine fn_run hΓ hm h I hf hb hn hres hok hax hoy hmx (fun e s hk => ?_)
    have fin : (match resList Γ s rs with
      | none => none
      | some l => I.out.pack (slotsAt 90000 l ++ s)) = some x → ∃ l x', resList Γ s rs = some l ∧ I.out.pack (slotsAt 90000 l ++ s) = some x' ∧ ∀ w F κ e w', Comes1 objs I.news (I.outs x') .returned w F κ e w' → Comes1 objs I.news (I.outs x) .returned w F κ e w' := by
      intro hk
      split at hk
      · cases hk
      · rename_i l hl
        exact ⟨l, x, hl, hk, fun _ _ _ _ _ h => h⟩
    cases e with
    | normal => exact fin hk
    | exit i => cases hk
    | ret => exact fin hk
    | pan => cases hk
  · exact sem_quiet hq
/-- .. one that may panic. -/
theorem fn_okP (hΓ : CtxOK Γ P) (hm : P.follows .mixedOrders = true) {fid : FuncId} {fn : Func} {c : Code} {rs : List ResultVar} (h : HC) (I : Inst) {T : Nat} {t : Ty}
    (hf : P.funcs[fid]? = some fn) (hb : fn.body = some c) (hn : fn.ntmps = n) (hres : fn.results = rs.toArray) (hok : I.ok n rs.length (dsts c) = true)
    {run : Ks.den I.args → Ks.den I.objs → Option (I.out.den ⊕ t.den)} (hrun : ∀ x y, evFnP Γ n c rs h I T t x y = run x y) : FnOK P Γ.glob fid (I.semP T t run) := by
  refine ⟨fun args objs α k m r x hsem hmx => ?_, fun args objs α t' k T' m r hsem => ?_, fun args objs α β k m r r' hsem => ?_⟩
  rotate_right
  · unfold Inst.semP at hsem
    split at hsem
    · cases hsem
    split at hsem
    · cases hsem
    cases hsem
  · unfold Inst.semP at hsem
    split at hsem
    · cases hsem
    split at hsem
    · cases hsem
    cases hsem
  · unfold Inst.semP at hsem
    split at hsem
    · cases hsem
    rename_i ax hax
    split at hsem
    · cases hsem
    rename_i oy hoy
    cases hsem
    have split : ∀ (e : Ex) (s : St) (z : I.out.den ⊕ t.den), (match e with
        | .exit _ => none
        | .pan T' => if T' = T then match s.get panKey with
            | some (.val t' p) => if h : t' = t then some (.inr (h ▸ p)) else none
            | _ => none
          else none
        | _ => match resList Γ s rs with
          | none => none
          | some l => (I.out.pack (slotsAt 90000 l ++ s)).map .inl : Option (I.out.den ⊕ t.den)) = some z →
        match e with
        | .exit _ => False
        | .pan T' => T' = T ∧ ∃ p, s.get panKey = some (.val t p) ∧ z = .inr p
        | _ => ∃ l x', resList Γ s rs = some l ∧ I.out.pack (slotsAt 90000 l ++ s) = some x' ∧ z = .inl x' := by
      intro e s z hk
      have fin : (match resList Γ s rs with
          | none => none
          | some l => (I.out.pack (slotsAt 90000 l ++ s)).map .inl : Option (I.out.den ⊕ t.den)) = some z → ∃ l x', resList Γ s rs = some l ∧ I.out.pack (slotsAt 90000 l ++ s) = some x' ∧ z = .inl x' := by
        intro hk
        split at hk
        · cases hk
        · rename_i l hl
          simp only [Option.map_eq_some_iff] at hk
          obtain ⟨x', hx, rfl⟩ := hk
          exact ⟨l, x', hl, hx, rfl⟩
      cases e with
      | normal => exact fin hk
      | exit i => cases hk
      | ret => exact fin hk
      | pan T' =>
        simp only at hk
        split at hk
        · rename_i hT
          split at hk
          · rename_i t' p hp
            split at hk
            · rename_i ht
              subst ht
              cases hk
              exact ⟨hT, p, hp, rfl⟩
            · cases hk
          · cases hk
        · cases hk
    constructor
    · intro x hmx
      rw [← hrun] at hmx
      refine fn_run hΓ hm h I hf hb hn hres hok hax hoy hmx (fun e s hk => ?_)
      have := split e s _ hk
      cases e with
      | normal => obtain ⟨l, x', h1, h2, h3⟩ := this; cases h3; exact ⟨l, _, h1, h2, fun _ _ _ _ _ h => h⟩
      | exit i => exact this
      | ret => obtain ⟨l, x', h1, h2, h3⟩ := this; cases h3; exact ⟨l, _, h1, h2, fun _ _ _ _ _ h => h⟩
      | pan T' => obtain ⟨_, p, _, h3⟩ := this; cases h3
    · intro p hmx
      rw [← hrun] at hmx
      refine fn_run hΓ hm h I hf hb hn hres hok hax hoy hmx (fun e s hk => ?_)
      have := split e s _ hk
      cases e with
      | normal => obtain ⟨l, x', h1, h2, h3⟩ := this; cases h3
      | exit i => exact this
      | ret => obtain ⟨l, x', h1, h2, h3⟩ := this; cases h3
      | pan T' =>
        obtain ⟨rfl, p', h2, h3⟩ := this
        cases h3
        exact ⟨t, p, h2, fun _ _ _ _ _ h => h⟩

end
end Go.Fe
