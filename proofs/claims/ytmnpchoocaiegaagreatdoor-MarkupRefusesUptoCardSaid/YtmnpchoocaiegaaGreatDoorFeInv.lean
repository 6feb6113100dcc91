/- How the reading of contents is carried from world to world. -/
import Derived.Test.YtmnpchoocaiegaaGreatDoorFeCode
namespace Go.Fe
open Go

/-- Object o is, for what names it, as it was; or it is gone. -/
structure ObjLe (κ : Conc) (s : St) (κ' : Conc) (s' : St) (o : Nat) : Prop where
  vec : ∀ n t ys, s'.get (okey o) = some (.vec n t ys) → ∃ xs, s.get (okey o) = some (.vec n t xs) ∧ xs.length = ys.length ∧ κ' o = κ o
  any : ∀ c, s'.get (okey o) = some c → c ≠ .dead → ∃ c', s.get (okey o) = some c' ∧ c' ≠ .dead ∧ κ' o = κ o

theorem ObjLe.of_eq {κ κ' : Conc} {s s' : St} {o : Nat} (h : s'.get (okey o) = s.get (okey o)) (hk : κ' o = κ o) : ObjLe κ s κ' s' o :=
  ⟨fun _ _ ys e => ⟨ys, by rw [← h, e], rfl, hk⟩, fun c e hc => ⟨c, by rw [← h, e], hc, hk⟩⟩

theorem RepG.mono {F F' : Froz} {κ κ' : Conc} {s s' : St} (hF : F.le F') : ∀ (c : C) (vs : List Value), (∀ o ∈ c.refs, ObjLe κ s κ' s' o) → RepG F κ s c vs → RepG F' κ' s' c vs
  | .cons a b, vs, ho, h => by
    simp only [RepG] at h ⊢
    obtain ⟨v, r, e, h1, h2⟩ := h
    exact ⟨v, r, e, RepG.mono hF a _ (fun o hm => ho o (by simp only [C.refs, List.mem_append]; exact .inl hm)) h1,
      RepG.mono hF b _ (fun o hm => ho o (by simp only [C.refs, List.mem_append]; exact .inr hm)) h2⟩
  | .unit, vs, _, h => by simpa only [RepG] using h
  | .val t x, vs, _, h => by simp only [RepG] at h ⊢; exact h.mono hF
  | .ptr o off, vs, ho, h => by
    simp only [RepG] at h ⊢
    obtain ⟨v, e, h⟩ := h
    refine ⟨v, e, fun c hg hc => ?_⟩
    obtain ⟨c', hy, hc', hk⟩ := (ho o (by simp [C.refs])).any c hg hc
    obtain ⟨b, p, q, h1, h2⟩ := h c' hy hc'
    exact ⟨b, p, q, by rw [hk, h1], h2⟩
  | .nil, vs, _, h => by simpa only [RepG] using h
  | .dead, vs, _, h => by simpa only [RepG] using h
  | .own _, vs, _, h => by simp only [RepG] at h
  | .eptr .., vs, _, h => by simp only [RepG] at h
  | .aptr .., vs, _, h => by simp only [RepG] at h
  | .adr .., vs, _, h => by simp only [RepG] at h
  | .brow _, vs, _, h => by simp only [RepG] at h
  | .may .., vs, _, h => by simpa only [RepG] using h
  | .fptr .., vs, _, h => by simp only [RepG] at h
  | .fn .., vs, _, h => by simpa only [RepG] using h
  | .tup _, vs, _, h => by simp only [RepG] at h
  | .agg _, vs, _, h => by simp only [RepG] at h
  | .rsl .., vs, _, h => by simp only [RepG] at h
  | .vec .., vs, _, h => by simp only [RepG] at h
  | .iter .., vs, _, h => by simp only [RepG] at h
  | .rcd _, vs, _, h => by simp only [RepG] at h

theorem RepL.mono {F F' : Froz} {κ κ' : Conc} {s s' : St} (hF : F.le F') : ∀ (c : C) (vs : List Value), (∀ o ∈ c.refs, ObjLe κ s κ' s' o) → RepL F κ s c vs → RepL F' κ' s' c vs
  | .cons a b, vs, ho, h => by
    simp only [RepL] at h ⊢
    obtain ⟨v, r, e, h1, h2⟩ := h
    exact ⟨v, r, e, RepL.mono hF a _ (fun o hm => ho o (by simp only [C.refs, List.mem_append]; exact .inl hm)) h1,
      RepL.mono hF b _ (fun o hm => ho o (by simp only [C.refs, List.mem_append]; exact .inr hm)) h2⟩
  | .unit, vs, _, h => by simpa only [RepL] using h
  | .val t x, vs, _, h => by
    simp only [RepL, RepV] at h ⊢
    obtain ⟨v, e, cs, h1, h2⟩ := h
    exact ⟨v, e, cs, h1.mono hF, h2⟩
  | .own o, vs, ho, h => by
    simp only [RepL] at h ⊢
    obtain ⟨v, e, h⟩ := h
    refine ⟨v, e, fun n t xs hg => ?_⟩
    obtain ⟨ys, hy, hl, hk⟩ := (ho o (by simp [C.refs])).vec n t xs hg
    rw [hk, ← hl]
    exact h n t ys hy
  | .ptr o off, vs, ho, h => by
    simp only [RepL] at h ⊢
    obtain ⟨v, e, h⟩ := h
    refine ⟨v, e, fun c hg hc => ?_⟩
    obtain ⟨c', hy, hc', hk⟩ := (ho o (by simp [C.refs])).any c hg hc
    obtain ⟨b, p, q, h1, h2⟩ := h c' hy hc'
    exact ⟨b, p, q, by rw [hk, h1], h2⟩
  | .eptr o off t i path, vs, ho, h => by
    simp only [RepL] at h ⊢
    obtain ⟨v, e, h⟩ := h
    refine ⟨v, e, fun n xs hg => ?_⟩
    obtain ⟨ys, hy, hl, hk⟩ := (ho o (by simp [C.refs])).vec n t xs hg
    obtain ⟨h0, h1, b, p, q, d, u, h2, h3, h4⟩ := h n ys hy
    exact ⟨h0, by rw [← hl]; exact h1, b, p, q, d, u, by rw [hk, h2], h3, h4⟩
  | .aptr o off n t i path, vs, ho, h => by
    simp only [RepL] at h ⊢
    obtain ⟨v, e, h0, h1, h⟩ := h
    refine ⟨v, e, h0, h1, fun c hg hc => ?_⟩
    obtain ⟨c', hy, hc', hk⟩ := (ho o (by simp [C.refs])).any c hg hc
    rw [hk]
    exact h c' hy hc'
  | .adr o T, vs, ho, h => by
    simp only [RepL] at h ⊢
    obtain ⟨v, e, h⟩ := h
    refine ⟨v, e, fun c hg hc => ?_⟩
    obtain ⟨c', hy, hc', hk⟩ := (ho o (by simp [C.refs])).any c hg hc
    rw [hk]
    exact h c' hy hc'
  | .may p q, vs, _, h => by simpa only [RepL] using h
  | .brow o, vs, ho, h => by
    simp only [RepL] at h ⊢
    obtain ⟨v, e, h⟩ := h
    refine ⟨v, e, fun n t xs hg => ?_⟩
    obtain ⟨ys, hy, hl, hk⟩ := (ho o (by simp [C.refs])).vec n t xs hg
    rw [hk, ← hl]
    exact h n t ys hy
  | .fptr t x, vs, _, h => by
    simp only [RepL] at h ⊢
    obtain ⟨v, e, b, off, c, T, fr, h1, h2, h3⟩ := h
    exact ⟨v, e, b, off, c, T, fr, hF _ _ h1, h2, h3.mono hF⟩
  | .fn f c, vs, ho, h => by
    simp only [RepL] at h ⊢
    obtain ⟨us, e, h⟩ := h
    exact ⟨us, e, RepL.mono hF c us (fun o hm => ho o (by simpa only [C.refs] using hm)) h⟩
  | .tup c, vs, ho, h => by
    simp only [RepL] at h ⊢
    obtain ⟨us, e, h⟩ := h
    exact ⟨us, e, RepL.mono hF c us (fun o hm => ho o (by simpa only [C.refs] using hm)) h⟩
  | .agg c, vs, ho, h => by
    simp only [RepL] at h ⊢
    obtain ⟨us, e, h⟩ := h
    exact ⟨us, e, RepG.mono hF c us (fun o hm => ho o (by simpa only [C.refs] using hm)) h⟩
  | .rsl o m k, vs, ho, h => by
    simp only [RepL] at h ⊢
    obtain ⟨v, e, h⟩ := h
    refine ⟨v, e, fun c hg hc => ?_⟩
    obtain ⟨c', hy, hc', hk⟩ := (ho o (by simp [C.refs])).any c hg hc
    obtain ⟨b, p, q, h1, h2⟩ := h c' hy hc'
    exact ⟨b, p, q, by rw [hk, h1], h2⟩
  | .nil, vs, _, h => by simpa only [RepL] using h
  | .dead, vs, _, h => by simpa only [RepL] using h
  | .vec .., vs, _, h => by simp only [RepL] at h
  | .iter .., vs, _, h => by simp only [RepL] at h
  | .rcd _, vs, _, h => by simp only [RepL] at h

theorem RepX.mono {F F' : Froz} {κ κ' : Conc} {s s' : St} (hF : F.le F') : ∀ (c : C) (vs : List Value), (∀ o ∈ c.refs, ObjLe κ s κ' s' o) → RepX F κ s c vs → RepX F' κ' s' c vs
  | .cons a b, vs, ho, h => by
    simp only [RepX] at h ⊢
    obtain ⟨v, r, e, h1, h2⟩ := h
    exact ⟨v, r, e, RepX.mono hF a _ (fun o hm => ho o (by simp only [C.refs, List.mem_append]; exact .inl hm)) h1,
      RepX.mono hF b _ (fun o hm => ho o (by simp only [C.refs, List.mem_append]; exact .inr hm)) h2⟩
  | .unit, vs, _, h => by simpa only [RepX] using h
  | .val t x, vs, _, h => by simp only [RepX] at h ⊢; exact h.mono hF
  | .own _, vs, ho, h => by simp only [RepX] at h ⊢; exact ⟨RepL.mono hF _ _ ho h.1, h.2⟩
  | .ptr .., vs, ho, h => by simp only [RepX] at h ⊢; exact ⟨RepL.mono hF _ _ ho h.1, h.2⟩
  | .eptr .., vs, ho, h => by simp only [RepX] at h ⊢; exact ⟨RepL.mono hF _ _ ho h.1, h.2⟩
  | .aptr .., vs, ho, h => by simp only [RepX] at h ⊢; exact ⟨RepL.mono hF _ _ ho h.1, h.2⟩
  | .adr .., vs, ho, h => by simp only [RepX] at h ⊢; exact ⟨RepL.mono hF _ _ ho h.1, h.2⟩
  | .brow .., vs, ho, h => by simp only [RepX] at h ⊢; exact ⟨RepL.mono hF _ _ ho h.1, h.2⟩
  | .may .., vs, ho, h => by simp only [RepX] at h ⊢; exact ⟨RepL.mono hF _ _ ho h.1, h.2⟩
  | .fptr .., vs, ho, h => by simp only [RepX] at h ⊢; exact ⟨RepL.mono hF _ _ ho h.1, h.2⟩
  | .fn .., vs, ho, h => by simp only [RepX] at h ⊢; exact ⟨RepL.mono hF _ _ ho h.1, h.2⟩
  | .tup _, vs, ho, h => by simp only [RepX] at h ⊢; exact ⟨RepL.mono hF _ _ ho h.1, h.2⟩
  | .agg _, vs, ho, h => by simp only [RepX] at h ⊢; exact ⟨RepL.mono hF _ _ ho h.1, h.2⟩
  | .rsl .., vs, ho, h => by simp only [RepX] at h ⊢; exact ⟨RepL.mono hF _ _ ho h.1, h.2⟩
  | .nil, vs, ho, h => by simp only [RepX] at h ⊢; exact ⟨RepL.mono hF _ _ ho h.1, h.2⟩
  | .dead, vs, ho, h => by simp only [RepX] at h ⊢; exact ⟨RepL.mono hF _ _ ho h.1, h.2⟩
  | .vec .., vs, ho, h => by simp only [RepX] at h ⊢; exact ⟨RepL.mono hF _ _ ho h.1, h.2⟩
  | .iter .., vs, ho, h => by simp only [RepX] at h ⊢; exact ⟨RepL.mono hF _ _ ho h.1, h.2⟩
  | .rcd _, vs, ho, h => by simp only [RepX] at h ⊢; exact ⟨RepL.mono hF _ _ ho h.1, h.2⟩

/-- Where an object's block is as it was, and what it names, it reads as it did. -/
theorem RepO.mono {F F' : Froz} {κ κ' : Conc} {s s' : St} {w w' : World} (hF : F.le F') {o : Nat} {c : C} (hk : κ' o = κ o)
    (ho : ∀ o ∈ c.refs, ObjLe κ s κ' s' o) (hw : ∀ b p q, κ o = some (b, p, q) → w'.heap[b]? = w.heap[b]?) (h : RepO F κ s w o c) : RepO F' κ' s' w' o c := by
  cases c with
  | vec n t xs =>
    simp only [RepO, hk] at h ⊢
    refine ⟨h.1, ?_⟩
    cases hκ : κ o with
    | none => rw [hκ] at h; exact h.2
    | some q =>
      obtain ⟨b, p, q⟩ := q
      rw [hκ] at h
      obtain ⟨c, T, fr, h1, h2, h3, h4, h5⟩ := h.2
      exact ⟨c, T, fr, by rw [hw b p q hκ]; exact h1, h2, h3, h4, fun i hi => (h5 i hi).mono hF⟩
  | rcd x =>
    simp only [RepO, hk] at h ⊢
    obtain ⟨b, c, T, fr, h0, h1, h2, h3, h4⟩ := h
    exact ⟨b, c, T, fr, h0, by rw [hw b 0 0 h0]; exact h1, h2, RepX.mono hF _ _ ho h3, h4⟩
  | iter x pos =>
    simp only [RepO, hk] at h ⊢
    obtain ⟨b, h0, h1⟩ := h
    exact ⟨b, h0, by rw [hw b 0 0 h0]; exact h1⟩
  | _ => trivial

theorem okey_ge (o : Nat) : 100000 ≤ okey o := by unfold okey; omega
theorem okey_inj {o o' : Nat} (h : okey o = okey o') : o = o' := by unfold okey at h; omega

section
variable {n : Nat} {f : Frame0} {F : Froz} {κ : Conc} {s : St} {a : Act} {w : World}

theorem get_slot {d : Nat} {c : C} (hd : d < 100000) (o : Nat) : (s.set d c).get (okey o) = s.get (okey o) := by
  rw [St.get_set, if_neg]; have := okey_ge o; omega

/-- A slot is written. -/
theorem Inv.put (hI : Inv n f F κ s a w) {d : Nat} {c : C} {v : Value} (hd : d < n) (hd' : d < 100000) (hv : RepC F κ s c v)
    (hc : ∀ o ∈ c.refs, (s.get (okey o)).isSome = true) : Inv n f F κ (s.set d c) { a with tmps := a.tmps.setIfInBounds d v } w := by
  have hle : ∀ o, ObjLe κ s κ (s.set d c) o := fun o => .of_eq (get_slot hd' o) rfl
  constructor
  · simp [hI.tmps]
  · exact hI.defers
  · exact hI.frozen
  · intro k c' hk hk'
    rw [St.get_set] at hk
    by_cases e : d = k
    · subst e
      rw [if_pos rfl] at hk
      cases hk
      have : (a.tmps.setIfInBounds d v).getD d undef = v := by
        simp [hI.tmps, hd]
      simp only [this]
      exact RepL.mono (Froz.le_refl F) _ _ (fun o _ => hle o) hv
    · rw [if_neg e] at hk
      have : (a.tmps.setIfInBounds d v).getD k undef = a.tmps.getD k undef := by
        simp [Array.getElem?_setIfInBounds_ne e]
      simp only [this]
      exact RepL.mono (Froz.le_refl F) _ _ (fun o _ => hle o) (hI.slots k c' hk hk')
  · intro o c' ho
    rw [get_slot hd'] at ho
    exact RepO.mono (Froz.le_refl F) rfl (fun o _ => hle o) (fun _ _ _ _ => rfl) (hI.objs o c' ho)
  · intro o c' b p q ho
    rw [get_slot hd'] at ho
    exact hI.free o c' b p q ho
  · intro o c' b p q o' c'' p' q' ho h1 h2 ho'
    rw [get_slot hd'] at ho ho'
    exact hI.apart o c' b p q o' c'' p' q' ho h1 h2 ho'
  · intro k c' hk o ho
    rw [get_slot hd']
    rw [St.get_set] at hk
    by_cases e : d = k
    · rw [if_pos e] at hk; cases hk; exact hc o ho
    · rw [if_neg e] at hk; exact hI.closed k c' hk o ho
  · exact hI.kept
  · exact hI.grown

/-- An object goes. -/
theorem Inv.kill (hI : Inv n f F κ s a w) (o : Nat) : Inv n f F κ (s.set (okey o) .dead) a w := by
  have hg : ∀ o', o ≠ o' → (s.set (okey o) .dead).get (okey o') = s.get (okey o') := fun o' h => by
    rw [St.get_set, if_neg (fun e => h (okey_inj e))]
  have hle : ∀ o', ObjLe κ s κ (s.set (okey o) .dead) o' := fun o' => by
    by_cases e : o = o'
    · subst e
      constructor
      · intro n t ys h; rw [St.get_set, if_pos rfl] at h; cases h
      · intro c h hc; rw [St.get_set, if_pos rfl] at h; cases h; exact absurd rfl hc
    · exact .of_eq (hg o' e) rfl
  have hs : ∀ k c, (s.set (okey o) .dead).get k = some c → c ≠ .dead → s.get k = some c := fun k c h hc => by
    rw [St.get_set] at h
    split at h
    · cases h; exact absurd rfl hc
    · exact h
  constructor
  · exact hI.tmps
  · exact hI.defers
  · exact hI.frozen
  · intro k c hk hk'
    rw [St.get_set, if_neg (by have := okey_ge o; omega)] at hk
    exact RepL.mono (Froz.le_refl F) _ _ (fun o _ => hle o) (hI.slots k c hk hk')
  · intro o' c ho
    by_cases hc : c = .dead
    · subst hc; trivial
    · exact RepO.mono (Froz.le_refl F) rfl (fun o _ => hle o) (fun _ _ _ _ => rfl) (hI.objs o' c (hs _ _ ho hc))
  · intro o' c b p q ho hc
    exact hI.free o' c b p q (hs _ _ ho (by rintro rfl; simp [C.isObj] at hc)) hc
  · intro o1 c1 b p q o2 c2 p' q' h1 i1 k1 h2 i2 k2
    exact hI.apart o1 c1 b p q o2 c2 p' q' (hs _ _ h1 (by rintro rfl; simp [C.isObj] at i1)) i1 k1 (hs _ _ h2 (by rintro rfl; simp [C.isObj] at i2)) i2 k2
  · intro k c hk o' ho'
    rw [St.get_set]
    split
    · rfl
    · exact hI.closed k c (hs _ _ hk (by rintro rfl; simp [C.refs] at ho')) o' ho'
  · exact hI.kept
  · exact hI.grown

/-- What may change about the world at a block: all other blocks stay. -/
structure Chg (b : Nat) (w w' : World) : Prop where
  size : w.heap.size ≤ w'.heap.size
  same : ∀ b', b' ≠ b → b' < w.heap.size → w'.heap[b']? = w.heap[b']?
  rest : w'.os = w.os ∧ w'.output = w.output

theorem lt_of_some {b : Nat} {o : Obj} (h : w.heap[b]? = some o) : b < w.heap.size := by
  rcases Nat.lt_or_ge b w.heap.size with h' | h'
  · exact h'
  · rw [Array.getElem?_eq_none h'] at h; cases h

theorem RepO.lt (hI : Inv n f F κ s a w) {o : Nat} {c : C} {b p q : Nat} (ho : s.get (okey o) = some c) (hc : c.isObj = true) (hk : κ o = some (b, p, q)) : b < w.heap.size := by
  have h := hI.objs o c ho
  cases c <;> simp only [C.isObj, Bool.false_eq_true] at hc
  case vec n t xs =>
    simp only [RepO, hk] at h
    obtain ⟨_, c, T, fr, h, _⟩ := h
    exact lt_of_some h
  case rcd x =>
    simp only [RepO, hk] at h
    obtain ⟨b', c, T, fr, h0, h, _⟩ := h
    cases h0
    exact lt_of_some h
  case iter x pos =>
    simp only [RepO, hk] at h
    obtain ⟨b', h0, h⟩ := h
    cases h0
    exact lt_of_some h

theorem Kept.chg {f : Frame0} {b : Nat} {w w' : World} (h : Kept f w) (hc : Chg b w w') (hb : f.w.heap.size ≤ b ∨ f.may b) : Kept f w' := by
  constructor
  · exact Nat.le_trans h.size hc.size
  · intro b' h1 h2
    rw [hc.same b' ?_ (Nat.lt_of_lt_of_le h1 h.size), h.same b' h1 h2]
    rintro rfl
    rcases hb with hb | hb
    · omega
    · exact h2 hb
  · exact ⟨hc.rest.1.trans h.rest.1, hc.rest.2.trans h.rest.2⟩

/-- An object comes, at a block of its own (a new one, or one that no object has any more). -/
theorem Inv.objS (hI : Inv n f F κ s a w) {o : Nat} {c : C} {pl : Option (Nat × Nat × Nat)} {w' : World} (hno : s.get (okey o) = none)
    (hc : ∀ o' ∈ c.refs, o' ≠ o → (s.get (okey o')).isSome = true)
    (hpl : match pl with
      | none => w' = w
      | some (b, _, _) => Chg b w w' ∧ F b = none ∧ (f.w.heap.size ≤ b ∨ f.may b) ∧
          ∀ o' c' p' q', s.get (okey o') = some c' → c'.isObj = true → κ o' ≠ some (b, p', q'))
    (hrep : ∀ κ' s', (∀ o', o' ≠ o → κ' o' = κ o') → κ' o = pl → (∀ o', o' ≠ o → s'.get (okey o') = s.get (okey o')) → RepO F κ' s' w' o c) :
    Inv n f F (fun o' => if o' = o then pl else κ o') (s.set (okey o) c) a w' := by
  have hg : ∀ o', o' ≠ o → (s.set (okey o) c).get (okey o') = s.get (okey o') := fun o' h => by
    rw [St.get_set, if_neg (fun e => h (okey_inj e).symm)]
  have hle : ∀ o', (s.get (okey o')).isSome = true → ObjLe κ s (fun o' => if o' = o then pl else κ o') (s.set (okey o) c) o' := fun o' h => by
    have e : o' ≠ o := by rintro rfl; rw [hno] at h; cases h
    exact .of_eq (hg o' e) (by simp [e])
  have hheap : ∀ b' ob, w.heap[b']? = some ob → (∀ q, pl = some q → b' ≠ q.1) → w'.heap[b']? = some ob := fun b' ob h hb => by
    cases pl with
    | none => simp only at hpl; subst hpl; exact h
    | some q =>
      obtain ⟨b, p, q⟩ := q
      simp only at hpl
      rw [hpl.1.same b' (hb _ rfl) (lt_of_some h), h]
  constructor
  · exact hI.tmps
  · exact hI.defers
  · intro b ob h
    refine hheap b ob (hI.frozen b ob h) ?_
    rintro ⟨b', p, q⟩ rfl rfl
    simp only at hpl
    rw [hpl.2.1] at h; cases h
  · intro k c' hk hk'
    rw [St.get_set, if_neg (by have := okey_ge o; omega)] at hk
    exact RepL.mono (Froz.le_refl F) _ _ (fun o' ho' => hle o' (hI.closed k c' hk o' ho')) (hI.slots k c' hk hk')
  · intro o' c' ho
    by_cases e : o' = o
    · subst e
      rw [St.get_set, if_pos rfl] at ho
      cases ho
      exact hrep _ _ (fun o'' h => by simp [h]) (by simp) hg
    · rw [hg o' e] at ho
      by_cases hobj : c'.isObj = true
      · refine RepO.mono (Froz.le_refl F) (by simp [e]) (fun o'' ho'' => hle o'' (hI.closed _ c' ho o'' ho'')) (fun b p q hk => ?_) (hI.objs o' c' ho)
        have hlt := RepO.lt hI ho hobj hk
        have hsome : w.heap[b]? = some w.heap[b] := Array.getElem?_eq_getElem hlt
        rw [hsome]
        refine hheap b _ hsome ?_
        rintro ⟨b', p', q'⟩ rfl rfl
        simp only at hpl
        exact hpl.2.2.2 o' c' p q ho hobj hk
      · cases c' <;> first | trivial | exact absurd rfl hobj
  · intro o' c' b p q ho hobj hk
    by_cases e : o' = o
    · subst e
      simp only [if_true] at hk
      subst hk
      simp only at hpl
      exact ⟨hpl.2.1, hpl.2.2.1⟩
    · rw [hg o' e] at ho
      simp only [e, if_false] at hk
      exact hI.free o' c' b p q ho hobj hk
  · intro o1 c1 b p q o2 c2 p' q' h1 i1 k1 h2 i2 k2
    by_cases e1 : o1 = o
    · subst e1
      by_cases e2 : o2 = o1
      · exact e2.symm
      · rw [hg o2 e2] at h2
        simp only [e2, if_false, if_true] at k1 k2
        subst k1
        simp only at hpl
        exact absurd k2 (hpl.2.2.2 o2 c2 p' q' h2 i2)
    · by_cases e2 : o2 = o
      · subst e2
        rw [hg o1 e1] at h1
        simp only [e1, if_false, if_true] at k1 k2
        subst k2
        simp only at hpl
        exact absurd k1 (hpl.2.2.2 o1 c1 p q h1 i1)
      · rw [hg o1 e1] at h1
        rw [hg o2 e2] at h2
        simp only [e1, e2, if_false] at k1 k2
        exact hI.apart o1 c1 b p q o2 c2 p' q' h1 i1 k1 h2 i2 k2
  · intro k c' hk o' ho'
    rw [St.get_set]
    split
    · rfl
    · rename_i hne
      rw [St.get_set] at hk
      split at hk
      · cases hk; exact hc o' ho' (fun e => hne (by rw [e]))
      · exact hI.closed k c' hk o' ho'
  · cases pl with
    | none => simp only at hpl; subst hpl; exact hI.kept
    | some q =>
      obtain ⟨b, p, q⟩ := q
      simp only at hpl
      exact hI.kept.chg hpl.1 hpl.2.2.1
  · exact hI.grown

/-- An object comes that does not name itself. -/
theorem Inv.obj (hI : Inv n f F κ s a w) {o : Nat} {c : C} {pl : Option (Nat × Nat × Nat)} {w' : World} (hno : s.get (okey o) = none)
    (hc : ∀ o' ∈ c.refs, (s.get (okey o')).isSome = true)
    (hpl : match pl with
      | none => w' = w
      | some (b, _, _) => Chg b w w' ∧ F b = none ∧ (f.w.heap.size ≤ b ∨ f.may b) ∧
          ∀ o' c' p' q', s.get (okey o') = some c' → c'.isObj = true → κ o' ≠ some (b, p', q'))
    (hrep : ∀ κ' s', (∀ o', o' ≠ o → κ' o' = κ o') → κ' o = pl → (∀ o', o' ≠ o → s'.get (okey o') = s.get (okey o')) → RepO F κ' s' w' o c) :
    Inv n f F (fun o' => if o' = o then pl else κ o') (s.set (okey o) c) a w' :=
  hI.objS hno (fun o' h _ => hc o' h) hpl hrep

/-- An object is written in place. -/
theorem Inv.write (hI : Inv n f F κ s a w) {o b p q : Nat} {c c' : C} {w' : World} (ho : s.get (okey o) = some c) (hobj : c.isObj = true) (hobj' : c'.isObj = true) (hk : κ o = some (b, p, q))
    (hlike : ∀ n t ys, c' = .vec n t ys → ∃ xs, c = .vec n t xs ∧ xs.length = ys.length)
    (hc : ∀ o' ∈ c'.refs, (s.get (okey o')).isSome = true) (hw : Chg b w w')
    (hrep : ∀ s', (∀ o', ObjLe κ s κ s' o') → RepO F κ s' w' o c') : Inv n f F κ (s.set (okey o) c') a w' := by
  have hg : ∀ o', o' ≠ o → (s.set (okey o) c').get (okey o') = s.get (okey o') := fun o' h => by
    rw [St.get_set, if_neg (fun e => h (okey_inj e).symm)]
  have hle : ∀ o', ObjLe κ s κ (s.set (okey o) c') o' := fun o' => by
    by_cases e : o' = o
    · subst e
      constructor
      · intro n t ys h
        rw [St.get_set, if_pos rfl] at h
        cases h
        obtain ⟨xs, hx, hl⟩ := hlike n t ys rfl
        exact ⟨xs, by rw [ho, hx], hl, rfl⟩
      · intro c'' h _
        exact ⟨c, ho, by rintro rfl; simp [C.isObj] at hobj, rfl⟩
    · exact .of_eq (hg o' e) rfl
  have hfree := hI.free o c b p q ho hobj hk
  have hheap : ∀ b' ob, w.heap[b']? = some ob → b' ≠ b → w'.heap[b']? = some ob := fun b' ob h hb => by
    rw [hw.same b' hb (lt_of_some h), h]
  constructor
  · exact hI.tmps
  · exact hI.defers
  · intro b' ob h
    refine hheap b' ob (hI.frozen b' ob h) ?_
    rintro rfl
    rw [hfree.1] at h; cases h
  · intro k c' hk hk'
    rw [St.get_set, if_neg (by have := okey_ge o; omega)] at hk
    exact RepL.mono (Froz.le_refl F) _ _ (fun o' _ => hle o') (hI.slots k c' hk hk')
  · intro o' d hd
    by_cases e : o' = o
    · subst e
      rw [St.get_set, if_pos rfl] at hd
      cases hd
      exact hrep _ hle
    · rw [hg o' e] at hd
      by_cases hobj2 : d.isObj = true
      · refine RepO.mono (Froz.le_refl F) rfl (fun o'' _ => hle o'') (fun b2 p2 q2 hk2 => ?_) (hI.objs o' d hd)
        have hlt := RepO.lt hI hd hobj2 hk2
        have hsome : w.heap[b2]? = some w.heap[b2] := Array.getElem?_eq_getElem hlt
        rw [hsome]
        refine hheap b2 _ hsome ?_
        rintro rfl
        exact e (hI.apart o' d b2 p2 q2 o c p q hd hobj2 hk2 ho hobj hk)
      · cases d <;> first | trivial | exact absurd rfl hobj2
  · intro o' d b2 p2 q2 hd hobj2 hk2
    by_cases e : o' = o
    · subst e
      rw [hk] at hk2
      cases hk2
      exact hfree
    · rw [hg o' e] at hd
      exact hI.free o' d b2 p2 q2 hd hobj2 hk2
  · intro o1 c1 b1 p1 q1 o2 c2 p2 q2 h1 i1 k1 h2 i2 k2
    by_cases e1 : o1 = o
    · subst e1
      by_cases e2 : o2 = o1
      · exact e2.symm
      · rw [hg o2 e2] at h2
        exact hI.apart o1 c b1 p1 q1 o2 c2 p2 q2 ho hobj k1 h2 i2 k2
    · by_cases e2 : o2 = o
      · subst e2
        rw [hg o1 e1] at h1
        exact hI.apart o1 c1 b1 p1 q1 o2 c p2 q2 h1 i1 k1 ho hobj k2
      · rw [hg o1 e1] at h1
        rw [hg o2 e2] at h2
        exact hI.apart o1 c1 b1 p1 q1 o2 c2 p2 q2 h1 i1 k1 h2 i2 k2
  · intro k d hd o' ho'
    rw [St.get_set]
    split
    · rfl
    · rw [St.get_set] at hd
      split at hd
      · cases hd; exact hc o' ho'
      · exact hI.closed k d hd o' ho'
  · exact hI.kept.chg hw hfree.2
  · exact hI.grown

/-- The world turns in what is no memory. -/
theorem Inv.world (hI : Inv n f F κ s a w) {w' : World} (h : w'.heap = w.heap) (hr : w'.os = w.os ∧ w'.output = w.output) : Inv n f F κ s a w' := by
  constructor
  · exact hI.tmps
  · exact hI.defers
  · intro b o hb; rw [h]; exact hI.frozen b o hb
  · exact hI.slots
  · intro o c ho
    exact RepO.mono (Froz.le_refl F) rfl (fun o _ => .of_eq rfl rfl) (fun b _ _ _ => by rw [h]) (hI.objs o c ho)
  · exact hI.free
  · exact hI.apart
  · exact hI.closed
  · exact ⟨by rw [h]; exact hI.kept.size, fun b h1 h2 => by rw [h]; exact hI.kept.same b h1 h2, hr.1.trans hI.kept.rest.1, hr.2.trans hI.kept.rest.2⟩
  · exact hI.grown


theorem Inv.congr (hI : Inv n f F κ s a w) {s' : St} (h : ∀ k, s'.get k = s.get k) : Inv n f F κ s' a w := by
  have hle : ∀ o, ObjLe κ s κ s' o := fun o => .of_eq (h _) rfl
  constructor
  · exact hI.tmps
  · exact hI.defers
  · exact hI.frozen
  · intro k c hk hk'; rw [h] at hk; exact RepL.mono (Froz.le_refl F) _ _ (fun o _ => hle o) (hI.slots k c hk hk')
  · intro o c ho; rw [h] at ho; exact RepO.mono (Froz.le_refl F) rfl (fun o _ => hle o) (fun _ _ _ _ => rfl) (hI.objs o c ho)
  · intro o c b p q ho; rw [h] at ho; exact hI.free o c b p q ho
  · intro o c b p q o' c' p' q' ho h1 h2 ho'; rw [h] at ho ho'; exact hI.apart o c b p q o' c' p' q' ho h1 h2 ho'
  · intro k c hk o ho; rw [h] at hk ⊢; exact hI.closed k c hk o ho
  · exact hI.kept
  · exact hI.grown


/-- A block that no object has any more becomes data. -/
theorem Inv.extend (hI : Inv n f F κ s a w) {b : Nat} {ob : Obj} (hb : w.heap[b]? = some ob) (hmay : f.w.heap.size ≤ b ∨ f.may b)
    (hno : ∀ o c p q, s.get (okey o) = some c → c.isObj = true → κ o ≠ some (b, p, q)) :
    F.le (fun b' => if b' = b then some ob else F b') ∧ Inv n f (fun b' => if b' = b then some ob else F b') κ s a w := by
  have hF : F.le (fun b' => if b' = b then some ob else F b') := fun b' o h => by
    by_cases e : b' = b
    · subst e
      have := hI.frozen _ _ h
      rw [hb] at this
      cases this
      simp
    · simp [e, h]
  have hle : ∀ o, ObjLe κ s κ s o := fun o => .of_eq rfl rfl
  refine ⟨hF, ?_⟩
  constructor
  · exact hI.tmps
  · exact hI.defers
  · intro b' o h
    by_cases e : b' = b
    · subst e; simp at h; subst h; exact hb
    · simp only [e, if_false] at h; exact hI.frozen b' o h
  · intro k c hk hk'; exact RepL.mono hF _ _ (fun o _ => hle o) (hI.slots k c hk hk')
  · intro o c ho; exact RepO.mono hF rfl (fun o _ => hle o) (fun _ _ _ _ => rfl) (hI.objs o c ho)
  · intro o c b' p q ho hc hk
    have hne : b' ≠ b := fun e => hno o c p q ho hc (by rw [hk, e])
    simp only [hne, if_false]
    exact hI.free o c b' p q ho hc hk
  · exact hI.apart
  · exact hI.closed
  · exact hI.kept
  · intro b' o h
    by_cases e : b' = b
    · subst e; exact .inr hmay
    · simp only [e, if_false] at h; exact hI.grown b' o h

/-- An own row becomes data. -/
theorem Inv.freeze (hI : Inv n f F κ s a w) {o : Nat} {m : Option Nat} {t : Ty} {xs : List t.den} (ho : s.get (okey o) = some (.vec m t xs)) :
    ∃ F', F.le F' ∧ Inv n f F' κ (s.set (okey o) .dead) a w ∧ ∀ v, RepC F κ s (.own o) v → RepV F' (.sl t) xs v := by
  have hk := hI.kill o
  have hrep := hI.objs o _ ho
  simp only [RepO] at hrep
  cases hκ : κ o with
  | none =>
    rw [hκ] at hrep
    refine ⟨F, Froz.le_refl F, hk, fun v hv => ?_⟩
    have hx := hrep.2
    subst hx
    simp only [RepL, List.cons.injEq, and_true] at hv
    obtain ⟨v', rfl, hv⟩ := hv
    have := hv _ _ _ ho
    rw [hκ] at this
    obtain ⟨a, rfl⟩ := this
    exact ⟨[.slice a 0 0], by simp only [RepT]; exact ⟨a, 0, rfl, Nat.le_refl _, .inl trivial⟩, rfl⟩
  | some q =>
    obtain ⟨b, p, q⟩ := q
    rw [hκ] at hrep
    obtain ⟨_, c, T, fr, hb, _, hq, _, hel⟩ := hrep
    have hf := hI.free o _ b p q ho rfl hκ
    obtain ⟨h1, h2⟩ := hk.extend hb hf.2 (by
      intro o' c' p' q' ho' hc' hk'
      by_cases e : o' = o
      · subst e
        rw [St.get_set, if_pos rfl] at ho'
        cases ho'
        simp [C.isObj] at hc'
      · rw [St.get_set, if_neg (fun h => e (okey_inj h).symm)] at ho'
        exact e (hI.apart o' c' b p' q' o _ p q ho' hc' hk' ho rfl hκ))
    refine ⟨_, h1, h2, fun v hv => ?_⟩
    simp only [RepL, List.cons.injEq, and_true] at hv
    obtain ⟨v', rfl, hv⟩ := hv
    have := hv _ _ _ ho
    rw [hκ] at this
    simp only [SlAt] at this
    subst this
    refine ⟨[.slice (some ⟨b, p, none⟩) xs.length q], ?_, rfl⟩
    simp only [RepT]
    exact ⟨_, _, rfl, hq.1, .inr ⟨b, p, c, T, fr, rfl, by simp, fun i hi => (hel i hi).mono h1⟩⟩


/-- Blocks are added. -/
theorem Inv.more (hI : Inv n f F κ s a w) {w' : World} (hw : Chg w.heap.size w w') : Inv n f F κ s a w' := by
  have hheap : ∀ b' ob, w.heap[b']? = some ob → w'.heap[b']? = some ob := fun b' ob h => by
    have := lt_of_some h
    rw [hw.same b' (by omega) this, h]
  constructor
  · exact hI.tmps
  · exact hI.defers
  · intro b o h; exact hheap b o (hI.frozen b o h)
  · exact hI.slots
  · intro o c ho
    by_cases hobj : c.isObj = true
    · refine RepO.mono (Froz.le_refl F) rfl (fun o _ => .of_eq rfl rfl) (fun b p q hk => ?_) (hI.objs o c ho)
      have hlt := RepO.lt hI ho hobj hk
      have hsome : w.heap[b]? = some w.heap[b] := Array.getElem?_eq_getElem hlt
      rw [hsome]
      exact hheap b _ hsome
    · cases c <;> first | trivial | exact absurd rfl hobj
  · exact hI.free
  · exact hI.apart
  · exact hI.closed
  · exact hI.kept.chg hw (.inl hI.kept.size)
  · exact hI.grown

end
end Go.Fe
