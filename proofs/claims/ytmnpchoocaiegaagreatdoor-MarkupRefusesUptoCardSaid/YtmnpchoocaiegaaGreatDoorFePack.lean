/- A state told anew, as a shape has it. -/
import Derived.Test.YtmnpchoocaiegaaGreatDoorFeDraw
namespace Go.Fe
open Go

def Maps.le (M M' : Maps) : Prop := ∀ o m, M.lookup o = some m → M'.lookup o = some m
theorem Maps.le_refl (M : Maps) : M.le M := fun _ _ h => h
theorem Maps.le_trans {A B D : Maps} (h : A.le B) (h' : B.le D) : A.le D := fun o m e => h' o m (h o m e)

theorem note_le {M M' : Maps} {o : Nat} {m : Option Nat} (h : note M o m = some M') : M.le M' ∧ M'.lookup o = some m := by
  unfold note at h
  split at h
  · rename_i hl
    cases h
    refine ⟨fun o' m' h => ?_, by simp [List.lookup]⟩
    simp only [List.lookup]
    split
    · rename_i e
      have : o' = o := by simpa using e
      subst this
      rw [hl] at h; cases h
    · exact h
  · rename_i m' hl
    split at h
    · rename_i he
      cases h
      exact ⟨Maps.le_refl M, by rw [hl, he.1]⟩
    · cases h

section
variable {s : St}

theorem pack_le : ∀ (k : K) {c : C} {M M' : Maps} {z z' : List Nat} {x : k.den}, K.pack s k c M z = some (x, M', z') → M.le M' ∧ z ⊆ z'
  | .val t, c, M, M', z, z', x, h => by
    simp only [K.pack] at h
    split at h
    · simp only [Option.map_eq_some_iff] at h
      obtain ⟨y, _, he⟩ := h
      cases he
      exact ⟨Maps.le_refl M, List.subset_cons_self ..⟩
    · simp only [Option.map_eq_some_iff] at h
      obtain ⟨y, _, he⟩ := h
      cases he
      exact ⟨Maps.le_refl M, fun _ h => h⟩
  | .fptr t, c, M, M', z, z', x, h => by
    simp only [K.pack] at h
    split at h
    · split at h
      · cases h; exact ⟨Maps.le_refl M, fun _ h => h⟩
      · cases h
    · cases h
  | .own o, c, M, M', z, z', x, h => by
    simp only [K.pack] at h
    split at h
    · simp only [Option.map_eq_some_iff] at h
      obtain ⟨M1, h1, he⟩ := h
      cases he
      exact ⟨(note_le h1).1, fun _ h => h⟩
    · simp only [Option.map_eq_some_iff] at h
      obtain ⟨M1, h1, he⟩ := h
      cases he
      exact ⟨(note_le h1).1, fun _ h => h⟩
    · cases h
  | .ptr o off, c, M, M', z, z', x, h => by
    simp only [K.pack] at h
    split at h
    · split at h
      · simp only [Option.map_eq_some_iff] at h
        obtain ⟨M1, h1, he⟩ := h
        cases he
        exact ⟨(note_le h1).1, fun _ h => h⟩
      · cases h
    · cases h
  | .brow o, c, M, M', z, z', x, h => by
    simp only [K.pack] at h
    split at h
    · simp only [Option.map_eq_some_iff] at h
      obtain ⟨M1, h1, he⟩ := h
      cases he
      exact ⟨(note_le h1).1, fun _ h => h⟩
    · cases h
  | .adr o T, c, M, M', z, z', x, h => by
    simp only [K.pack] at h
    split at h
    · split at h
      · simp only [Option.map_eq_some_iff] at h
        obtain ⟨M1, h1, he⟩ := h
        cases he
        exact ⟨(note_le h1).1, fun _ h => h⟩
      · cases h
    · cases h
  | .fn f k, c, M, M', z, z', x, h => by
    simp only [K.pack] at h
    split at h
    · split at h
      · exact pack_le k h
      · cases h
    · cases h
  | .cons a b, c, M, M', z, z', x, h => by
    simp only [K.pack] at h
    split at h
    · split at h
      · rename_i y M1 z1 h1
        split at h
        · rename_i y2 M2 z2 h2
          cases h
          have i1 := pack_le a h1
          have i2 := pack_le b h2
          exact ⟨Maps.le_trans i1.1 i2.1, fun _ hh => i2.2 (i1.2 hh)⟩
        · cases h
      · cases h
    · cases h
  | .unit, c, M, M', z, z', x, h => by
    simp only [K.pack] at h
    split at h
    · cases h; exact ⟨Maps.le_refl M, fun _ h => h⟩
    · cases h
  | .nil, c, M, M', z, z', x, h => by
    simp only [K.pack] at h
    split at h
    · cases h; exact ⟨Maps.le_refl M, fun _ h => h⟩
    · cases h
  | .dead, c, M, M', z, z', x, h => by
    simp only [K.pack] at h
    split at h
    · cases h
      exact ⟨Maps.le_refl M, fun _ h => h⟩
    · cases h
  | .vec .., _, _, _, _, _, _, h => by simp [K.pack] at h
  | .iter, _, _, _, _, _, _, h => by simp [K.pack] at h
  | .rcd _, _, _, _, _, _, _, h => by simp [K.pack] at h

theorem packO_le {k : K} {m : Option Nat} {M M' : Maps} {z z' : List Nat} {x : k.den} (h : K.packO s k m M z = some (x, M', z')) : M.le M' ∧ z ⊆ z' := by
  cases k <;> simp only [K.packO, reduceCtorEq] at h
  · split at h
    · split at h
      · split at h
        · split at h
          · cases h; exact ⟨Maps.le_refl M, fun _ h => h⟩
          · cases h
        · cases h
      · cases h
    · split at h
      · cases h; exact ⟨Maps.le_refl M, fun _ h => h⟩
      · cases h
  · split at h
    · split at h
      · exact pack_le _ h
      · cases h
    · cases h
  · split at h
    · split at h
      · cases h; exact ⟨Maps.le_refl M, fun _ h => h⟩
      · cases h
    · cases h

/-- How an entry of a shape came about. -/
def Came (s : St) (M' : Maps) (z' : List Nat) (i : Nat) (k : K) (y : k.den) : Prop :=
  ∃ M1 z1 M2 z2, M1.le M' ∧ M2.le M' ∧ z2 ⊆ z' ∧
    ((i < 100000 ∧ ∃ c, s.get i = some c ∧ K.pack s k c M1 z1 = some (y, M2, z2)) ∨
     (100000 ≤ i ∧ ∃ m, M1.lookup (i - 100000) = some m ∧ K.packO s k m M1 z1 = some (y, M2, z2)))

theorem packs_came : ∀ (σ : Shape) {M M' : Maps} {z z' : List Nat} {x : σ.den}, Shape.packs s σ M z = some (x, M', z') → M.le M' ∧ z ⊆ z' ∧
    (∀ i c', (σ.unpack x).get i = some c' → ∃ k y, (i, k) ∈ σ ∧ c' = K.unpack k y ∧ Came s M' z' i k y) ∧ (∀ i, i ∈ σ.map (·.1) → ((σ.unpack x).get i).isSome = true)
  | [], M, M', z, z', x, h => by
    simp only [Shape.packs] at h
    cases h
    exact ⟨Maps.le_refl M, fun _ h => h, fun i c' h => by simp [Shape.unpack, St.get] at h, fun i h => by simp at h⟩
  | (i, k) :: r, M, M', z, z', x, h => by
    simp only [Shape.packs] at h
    split at h
    · cases h
    · rename_i y M1 z1 h1
      split at h
      · cases h
      · rename_i y2 M2 z2 h2
        cases h
        obtain ⟨i1, i2, i3, i4⟩ := packs_came r h2
        have h1' : M.le M1 ∧ z ⊆ z1 ∧ ((i < 100000 ∧ ∃ c, s.get i = some c ∧ K.pack s k c M z = some (y, M1, z1)) ∨
            (100000 ≤ i ∧ ∃ m, M.lookup (i - 100000) = some m ∧ K.packO s k m M z = some (y, M1, z1))) := by
          split at h1
          · rename_i hi
            split at h1
            · rename_i c hc
              have := pack_le k h1
              exact ⟨this.1, this.2, .inl ⟨hi, c, hc, h1⟩⟩
            · cases h1
          · rename_i hi
            split at h1
            · rename_i m hm
              have := packO_le h1
              exact ⟨this.1, this.2, .inr ⟨by omega, m, hm, h1⟩⟩
            · cases h1
        refine ⟨Maps.le_trans h1'.1 i1, fun _ hh => i2 (h1'.2.1 hh), fun j c' hj => ?_, fun j hj => ?_⟩
        · simp only [Shape.unpack, St.get] at hj
          split at hj
          · rename_i e; subst e
            cases hj
            exact ⟨k, y, List.mem_cons_self .., rfl, M, z, M1, z1, Maps.le_trans h1'.1 i1, i1, i2, h1'.2.2⟩
          · obtain ⟨k', y', h3, h4, h5⟩ := i3 j c' hj
            exact ⟨k', y', List.mem_cons_of_mem _ h3, h4, h5⟩
        · simp only [Shape.unpack, St.get]
          split
          · rfl
          · rename_i hne
            simp only [List.map_cons, List.mem_cons] at hj
            exact i4 j (hj.resolve_left (fun e => hne e.symm))

theorem unpack_refs : ∀ (k : K) (x : k.den), (K.unpack k x).refs = k.refs
  | .val _, _ => rfl
  | .fptr _, _ => rfl
  | .own _, _ => rfl
  | .ptr .., _ => rfl
  | .adr .., _ => rfl
  | .brow .., _ => rfl
  | .fn _ k, x => by simp only [K.unpack, C.refs, K.refs, unpack_refs k]
  | .rcd k, x => by simp only [K.unpack, C.refs, K.refs, unpack_refs k]
  | .cons a b, x => by simp only [K.unpack, C.refs, K.refs, unpack_refs a, unpack_refs b]
  | .unit, _ => rfl
  | .nil, _ => rfl
  | .dead, _ => rfl
  | .vec .., _ => rfl
  | .iter, _ => rfl
end

section
variable {P : Program} {n : Nat} {f : Frame0} {F : Froz} {κ : Conc} {s : St} {a : Act} {w : World}

theorem pack_bty {s : St} : ∀ (k : K) {c : C} {M M' : Maps} {z z' : List Nat} {x : k.den} {T0 : Nat}, K.pack s k c M z = some (x, M', z') → (k.unpack x).bty = some T0 → c.bty = some T0
  | .cons a b, c, M, M', z, z', x, T0, h, hb => by
    simp only [K.pack] at h
    split at h
    · rename_i d e
      cases a <;> simp only [K.unpack, C.bty, reduceCtorEq, Option.some.injEq] at hb
      subst hb
      simp only [K.pack] at h
      split at h
      · rename_i h1
        split at h1
        · split at h1
          · rename_i hT
            subst hT
            rfl
          · cases h1
        · cases h1
      · cases h
    · cases h
  | .val .., _, _, _, _, _, _, _, _, hb => by simp [K.unpack, C.bty] at hb
  | .fptr .., _, _, _, _, _, _, _, _, hb => by simp [K.unpack, C.bty] at hb
  | .own .., _, _, _, _, _, _, _, _, hb => by simp [K.unpack, C.bty] at hb
  | .ptr .., _, _, _, _, _, _, _, _, hb => by simp [K.unpack, C.bty] at hb
  | .adr .., _, _, _, _, _, _, _, _, hb => by simp [K.unpack, C.bty] at hb
  | .brow .., _, _, _, _, _, _, _, _, hb => by simp [K.unpack, C.bty] at hb
  | .fn .., _, _, _, _, _, _, _, _, hb => by simp [K.unpack, C.bty] at hb
  | .unit, _, _, _, _, _, _, _, _, hb => by simp [K.unpack, C.bty] at hb
  | .nil, _, _, _, _, _, _, _, _, hb => by simp [K.unpack, C.bty] at hb
  | .dead, _, _, _, _, _, _, _, _, hb => by simp [K.unpack, C.bty] at hb
  | .vec .., _, _, _, _, _, _, _, _, hb => by simp [K.unpack, C.bty] at hb
  | .iter, _, _, _, _, _, _, _, _, hb => by simp [K.unpack, C.bty] at hb
  | .rcd .., _, _, _, _, _, _, _, _, hb => by simp [K.unpack, C.bty] at hb

/-- All that become data, frozen. -/
theorem freeze_all : ∀ (z : List Nat) {F : Froz} {s : St}, Inv n f F κ s a w → ∃ F1 s1, F.le F1 ∧ Inv n f F1 κ s1 a w ∧ (∀ o, o ∉ z → s1.get (okey o) = s.get (okey o)) ∧ (∀ k, k < 100000 → s1.get k = s.get k) ∧
    (∀ o, (s1.get (okey o) = s.get (okey o)) ∨ s1.get (okey o) = some .dead) ∧
    ∀ o ∈ z, ∀ m t xs v, s.get (okey o) = some (.vec m t xs) → RepC F κ s (.own o) v → RepV F1 (.sl t) xs v
  | [], F, s, hI => ⟨F, s, Froz.le_refl F, hI, fun _ _ => rfl, fun _ _ => rfl, fun _ => .inl rfl, fun o ho => by simp at ho⟩
  | o :: r, F, s, hI => by
    by_cases hv : ∃ m t xs, s.get (okey o) = some (.vec m t xs)
    · obtain ⟨m, t, xs, hv⟩ := hv
      obtain ⟨F1, hF1, hI1, hval⟩ := hI.freeze hv
      obtain ⟨F2, s2, hF2, hI2, h1, h2, h3, h4⟩ := freeze_all r hI1
      have hg : ∀ o', o' ≠ o → (s.set (okey o) .dead).get (okey o') = s.get (okey o') := fun o' h => by rw [St.get_set, if_neg (fun e => h (okey_inj e).symm)]
      refine ⟨F2, s2, Froz.le_trans hF1 hF2, hI2, fun o' ho' => ?_, fun k hk => ?_, fun o' => ?_, fun o' ho' m' t' xs' v hs' hv' => ?_⟩
      · simp only [List.mem_cons, not_or] at ho'
        rw [h1 o' ho'.2, hg o' ho'.1]
      · rw [h2 k hk, St.get_set, if_neg (by have := okey_ge o; omega)]
      · by_cases e : o' = o
        · subst e
          rcases h3 o' with h | h
          · right; rw [h, St.get_set, if_pos rfl]
          · exact .inr h
        · rw [← hg o' e]; exact h3 o'
      · by_cases e : o' = o
        · subst e
          rw [hv] at hs'
          cases hs'
          obtain ⟨cs, hcs, he⟩ := hval v hv'
          exact ⟨cs, hcs.mono hF2, he⟩
        · have : o' ∈ r := (List.mem_cons.1 ho').resolve_left e
          refine h4 o' this m' t' xs' v (by rw [hg o' e]; exact hs') ?_
          exact RepL.mono hF1 _ _ (fun o2 ho2 => by
            simp only [C.refs, List.mem_singleton] at ho2
            subst ho2
            exact .of_eq (hg o2 e) rfl) hv'
    · obtain ⟨F2, s2, hF2, hI2, h1, h2, h3, h4⟩ := freeze_all r hI
      refine ⟨F2, s2, hF2, hI2, fun o' ho' => h1 o' (fun h => ho' (List.mem_cons_of_mem _ h)), h2, h3, fun o' ho' m' t' xs' v hs' hv' => ?_⟩
      rcases List.mem_cons.1 ho' with e | h
      · subst e; exact absurd ⟨_, _, _, hs'⟩ hv
      · exact h4 o' h m' t' xs' v hs' hv'

/-- What a shape's state must be for its contents to read as they did. -/
structure Told (s : St) (κ : Conc) (F F1 : Froz) (M : Maps) (z : List Nat) (t : St) (κ' : Conc) : Prop where
  le : F.le F1
  conc : ∀ o m, M.lookup o = some m → κ' o = m.bind κ
  objs : ∀ o c m, t.get (okey o) = some c → M.lookup o = some (some m) → (∀ n u ys, c = .vec n u ys → s.get (okey m) = some (.vec n u ys)) ∧ ∃ c0, s.get (okey m) = some c0 ∧ c0 ≠ .dead
  nils : ∀ o c n u ys, t.get (okey o) = some c → M.lookup o = some none → c = .vec n u ys → ys = []
  froz : ∀ o ∈ z, ∀ m u xs v, s.get (okey o) = some (.vec m u xs) → RepC F κ s (.own o) v → RepV F1 (.sl u) xs v

theorem lone_one {c : C} {vs : List Value} (h : c.lone = true) (hr : RepL F κ s c vs) : ∃ v, vs = [v] := by
  cases c <;> simp only [C.lone, Bool.false_eq_true] at h <;> simp only [RepL] at hr <;> first | exact hr | exact ⟨_, hr⟩ | (obtain ⟨v, hv, _⟩ := hr; exact ⟨_, hv⟩) | (obtain ⟨v, hv⟩ := hr; exact ⟨_, hv⟩)

theorem pack_sound {F1 : Froz} {Mf : Maps} {zf : List Nat} {t : St} {κ' : Conc} (hT : Told s κ F F1 Mf zf t κ') : ∀ (k : K) {c : C} {M M' : Maps} {z z' : List Nat} {x : k.den} {vs : List Value},
    K.pack s k c M z = some (x, M', z') → M'.le Mf → z' ⊆ zf → RepL F κ s c vs → RepL F1 κ' t (k.unpack x) vs
  | .val u, c, M, M', z, z', x, vs, h, hM, hz, hr => by
    simp only [K.pack] at h
    split at h
    · rename_i o
      simp only [Option.map_eq_some_iff] at h
      obtain ⟨y, hy, he⟩ := h
      cases he
      simp only [RepL] at hr
      obtain ⟨v, rfl, hv⟩ := hr
      have hz' := hz (List.mem_cons_self ..)
      have hv' : RepC F κ s (.own o) v := by simp only [RepL, List.cons.injEq, and_true]; exact ⟨v, rfl, hv⟩
      simp only [K.unpack, RepL]
      refine ⟨v, rfl, ?_⟩
      cases u <;> simp only [ownVal, reduceCtorEq] at hy
      split at hy
      · rename_i m e xs hs
        split at hy
        · rename_i he
          subst he
          cases hy
          exact hT.froz o hz' _ _ _ v hs hv'
        · cases hy
      · cases hy
    · simp only [Option.map_eq_some_iff] at h
      obtain ⟨y, hy, he⟩ := h
      cases he
      have hv : ∃ v, vs = [v] := by
        unfold asVal at hy
        split at hy
        · simp only [RepL] at hr; obtain ⟨v, e, _⟩ := hr; exact ⟨v, e⟩
        · simp only [RepL] at hr; obtain ⟨v, e⟩ := hr; exact ⟨_, e⟩
        · cases hy
      obtain ⟨v, rfl⟩ := hv
      obtain ⟨cs, hcs, he⟩ := asVal_sound hr hy
      simp only [K.unpack, RepL, RepV]
      exact ⟨v, rfl, cs, hcs.mono hT.le, he⟩
  | .fptr u, c, M, M', z, z', x, vs, h, hM, hz, hr => by
    simp only [K.pack] at h
    split at h
    · split at h
      · rename_i e
        subst e
        cases h
        exact RepL.mono hT.le _ _ (fun o ho => by simp [K.unpack, C.refs] at ho) hr
      · cases h
    · cases h
  | .own o, c, M, M', z, z', x, vs, h, hM, hz, hr => by
    simp only [K.pack] at h
    split at h
    · rename_i m
      simp only [Option.map_eq_some_iff] at h
      obtain ⟨M1, h1, he⟩ := h
      cases he
      have hl := hM _ _ (note_le h1).2
      simp only [K.unpack, RepL] at hr ⊢
      obtain ⟨v, rfl, hv⟩ := hr
      refine ⟨v, rfl, fun n u ys hy => ?_⟩
      have := (hT.objs o _ m hy hl).1 n u ys rfl
      rw [hT.conc o _ hl]
      exact hv _ _ _ this
    · simp only [Option.map_eq_some_iff] at h
      obtain ⟨M1, h1, he⟩ := h
      cases he
      have hl := hM _ _ (note_le h1).2
      simp only [RepL] at hr
      obtain ⟨ad, rfl⟩ := hr
      simp only [K.unpack, RepL]
      refine ⟨_, rfl, fun n u ys hy => ?_⟩
      have := hT.nils o _ n u ys hy hl rfl
      subst this
      rw [hT.conc o _ hl]
      exact ⟨ad, rfl⟩
    · cases h
  | .ptr o off, c, M, M', z, z', x, vs, h, hM, hz, hr => by
    simp only [K.pack] at h
    split at h
    · rename_i m off'
      split at h
      · rename_i e
        subst e
        simp only [Option.map_eq_some_iff] at h
        obtain ⟨M1, h1, he⟩ := h
        cases he
        have hl := hM _ _ (note_le h1).2
        simp only [K.unpack, RepL] at hr ⊢
        obtain ⟨v, rfl, hv⟩ := hr
        refine ⟨v, rfl, fun c hc _ => ?_⟩
        obtain ⟨c0, hc0, hd⟩ := (hT.objs o c m hc hl).2
        rw [hT.conc o _ hl]
        exact hv c0 hc0 hd
      · cases h
    · cases h
  | .brow o, c, M, M', z, z', x, vs, h, hM, hz, hr => by
    simp only [K.pack] at h
    split at h
    · rename_i m
      simp only [Option.map_eq_some_iff] at h
      obtain ⟨M1, h1, he⟩ := h
      cases he
      have hl := hM _ _ (note_le h1).2
      simp only [K.unpack, RepL] at hr ⊢
      obtain ⟨v, rfl, hv⟩ := hr
      refine ⟨v, rfl, fun n u ys hy => ?_⟩
      have := (hT.objs o _ m hy hl).1 n u ys rfl
      rw [hT.conc o _ hl]
      exact hv _ _ _ this
    · cases h
  | .adr o T, c, M, M', z, z', x, vs, h, hM, hz, hr => by
    simp only [K.pack] at h
    split at h
    · rename_i m T'
      split at h
      rotate_left
      · cases h
      simp only [Option.map_eq_some_iff] at h
      obtain ⟨M1, h1, he⟩ := h
      cases he
      have hl := hM _ _ (note_le h1).2
      simp only [K.unpack, RepL] at hr ⊢
      obtain ⟨v, rfl, hv⟩ := hr
      refine ⟨v, rfl, fun c hc _ => ?_⟩
      obtain ⟨c0, hc0, hd⟩ := (hT.objs o c m hc hl).2
      rw [hT.conc o _ hl]
      exact hv c0 hc0 hd
    · cases h
  | .fn i k, c, M, M', z, z', x, vs, h, hM, hz, hr => by
    simp only [K.pack] at h
    split at h
    · split at h
      · rename_i e
        subst e
        simp only [K.unpack, RepL] at hr ⊢
        obtain ⟨us, rfl, hr⟩ := hr
        exact ⟨us, rfl, pack_sound hT k h hM hz hr⟩
      · cases h
    · cases h
  | .cons k1 k2, c, M, M', z, z', x, vs, h, hM, hz, hr => by
    simp only [K.pack] at h
    split at h
    · split at h
      · rename_i y M1 z1 h1
        split at h
        · rename_i y2 M2 z2 h2
          cases h
          have i2 := pack_le k2 h2
          simp only [K.unpack, RepL] at hr ⊢
          obtain ⟨v, r, rfl, hr1, hr2⟩ := hr
          exact ⟨v, r, rfl, pack_sound hT k1 h1 (Maps.le_trans i2.1 hM) (fun _ hh => hz (i2.2 hh)) hr1, pack_sound hT k2 h2 hM hz hr2⟩
        · cases h
      · cases h
    · cases h
  | .unit, c, M, M', z, z', x, vs, h, hM, hz, hr => by
    simp only [K.pack] at h
    split at h
    · cases h; simpa only [K.unpack, RepL] using hr
    · cases h
  | .nil, c, M, M', z, z', x, vs, h, hM, hz, hr => by
    simp only [K.pack] at h
    split at h
    · cases h; simpa only [K.unpack, RepL] using hr
    · cases h
  | .dead, c, M, M', z, z', x, vs, h, hM, hz, hr => by
    simp only [K.pack] at h
    split at h
    · rename_i hl
      simp only [K.unpack, RepL]
      exact lone_one hl.1 hr
    · cases h
  | .vec .., _, _, _, _, _, _, _, h, _, _, _ => by simp [K.pack] at h
  | .iter, _, _, _, _, _, _, _, h, _, _, _ => by simp [K.pack] at h
  | .rcd _, _, _, _, _, _, _, _, h, _, _, _ => by simp [K.pack] at h


theorem packX_sound {F1 : Froz} {Mf : Maps} {zf : List Nat} {t : St} {κ' : Conc} (hT : Told s κ F F1 Mf zf t κ') : ∀ (k : K) {c : C} {M M' : Maps} {z z' : List Nat} {x : k.den} {vs : List Value},
    K.pack s k c M z = some (x, M', z') → M'.le Mf → z' ⊆ zf → RepX F κ s c vs → RepX F1 κ' t (k.unpack x) vs
  | .cons k1 k2, c, M, M', z, z', x, vs, h, hM, hz, hr => by
    simp only [K.pack] at h
    split at h
    · split at h
      · rename_i y M1 z1 h1
        split at h
        · rename_i y2 M2 z2 h2
          cases h
          have i2 := pack_le k2 h2
          simp only [K.unpack, RepX] at hr ⊢
          obtain ⟨v, r, rfl, hr1, hr2⟩ := hr
          exact ⟨v, r, rfl, packX_sound hT k1 h1 (Maps.le_trans i2.1 hM) (fun _ hh => hz (i2.2 hh)) hr1, packX_sound hT k2 h2 hM hz hr2⟩
        · cases h
      · cases h
    · cases h
  | .unit, c, M, M', z, z', x, vs, h, hM, hz, hr => by
    simp only [K.pack] at h
    split at h
    · cases h; simpa only [K.unpack, RepX] using hr
    · cases h
  | .val u, c, M, M', z, z', x, vs, h, hM, hz, hr => by
    simp only [K.pack] at h
    split at h
    · rename_i o
      simp only [Option.map_eq_some_iff] at h
      obtain ⟨y, hy, he⟩ := h
      cases he
      simp only [RepX, RepL] at hr
      obtain ⟨⟨v, rfl, hv⟩, _⟩ := hr
      have hz' := hz (List.mem_cons_self ..)
      have hv' : RepC F κ s (.own o) v := by simp only [RepL, List.cons.injEq, and_true]; exact ⟨v, rfl, hv⟩
      simp only [K.unpack, RepX]
      cases u <;> simp only [ownVal, reduceCtorEq] at hy
      split at hy
      · rename_i m e xs hs
        split at hy
        · rename_i he
          subst he
          cases hy
          obtain ⟨cs, hcs, he⟩ := hT.froz o hz' _ _ _ v hs hv'
          have hl := hcs.length
          simp only [Ty.size] at hl
          match cs, hl with
          | [v'], _ =>
            simp only [pack, Ty.agg, Bool.false_eq_true, if_false, List.headD_cons] at he
            subst he
            exact hcs
        · cases hy
      · cases hy
    · simp only [Option.map_eq_some_iff] at h
      obtain ⟨y, hy, he⟩ := h
      cases he
      simp only [K.unpack, RepX]
      exact (part_leaf hr hy).mono hT.le
  | .fptr u, c, M, M', z, z', x, vs, h, hM, hz, hr => by
    simp only [K.pack] at h
    split at h
    · split at h
      · rename_i e
        subst e
        cases h
        exact RepX.mono hT.le _ _ (fun o ho => by simp [K.unpack, C.refs] at ho) hr
      · cases h
    · cases h
  | .own o, c, M, M', z, z', x, vs, h, hM, hz, hr => by
    have hp : RepX F κ s c vs → RepL F κ s c vs ∧ vs.length = 1 := fun hr => by
      simp only [K.pack] at h
      split at h <;> first | (simpa only [RepX] using hr) | cases h
    obtain ⟨h1, h2⟩ := hp hr
    have := pack_sound hT (.own o) h hM hz h1
    simp only [K.unpack, RepX] at this ⊢
    exact ⟨this, h2⟩
  | .ptr o off, c, M, M', z, z', x, vs, h, hM, hz, hr => by
    have hp : RepX F κ s c vs → RepL F κ s c vs ∧ vs.length = 1 := fun hr => by
      simp only [K.pack] at h
      split at h <;> first | (simpa only [RepX] using hr) | cases h
    obtain ⟨h1, h2⟩ := hp hr
    have := pack_sound hT (.ptr o off) h hM hz h1
    simp only [K.unpack, RepX] at this ⊢
    exact ⟨this, h2⟩
  | .brow o, c, M, M', z, z', x, vs, h, hM, hz, hr => by
    have hp : RepX F κ s c vs → RepL F κ s c vs ∧ vs.length = 1 := fun hr => by
      simp only [K.pack] at h
      split at h <;> first | (simpa only [RepX] using hr) | cases h
    obtain ⟨h1, h2⟩ := hp hr
    have := pack_sound hT (.brow o) h hM hz h1
    simp only [K.unpack, RepX] at this ⊢
    exact ⟨this, h2⟩
  | .adr o T, c, M, M', z, z', x, vs, h, hM, hz, hr => by
    have hp : RepX F κ s c vs → RepL F κ s c vs ∧ vs.length = 1 := fun hr => by
      simp only [K.pack] at h
      split at h <;> first | (simpa only [RepX] using hr) | cases h
    obtain ⟨h1, h2⟩ := hp hr
    have := pack_sound hT (.adr o T) h hM hz h1
    simp only [K.unpack, RepX] at this ⊢
    exact ⟨this, h2⟩
  | .fn i k, c, M, M', z, z', x, vs, h, hM, hz, hr => by
    have hp : RepX F κ s c vs → RepL F κ s c vs ∧ vs.length = 1 := fun hr => by
      simp only [K.pack] at h
      split at h <;> first | (simpa only [RepX] using hr) | cases h
    obtain ⟨h1, h2⟩ := hp hr
    have := pack_sound hT (.fn i k) h hM hz h1
    simp only [K.unpack, RepX] at this ⊢
    exact ⟨this, h2⟩
  | .nil, c, M, M', z, z', x, vs, h, hM, hz, hr => by
    have hp : RepX F κ s c vs → RepL F κ s c vs ∧ vs.length = 1 := fun hr => by
      simp only [K.pack] at h
      split at h <;> first | (simpa only [RepX] using hr) | cases h
    obtain ⟨h1, h2⟩ := hp hr
    have := pack_sound hT .nil h hM hz h1
    simp only [K.unpack, RepX] at this ⊢
    exact ⟨this, h2⟩
  | .dead, c, M, M', z, z', x, vs, h, hM, hz, hr => by
    simp only [K.pack] at h
    split at h
    · rename_i hl
      simp only [K.unpack, RepX, RepL]
      have h1 : vs.length = 1 := by rw [cells_len hl.1 hr]; exact hl.2
      match vs, h1 with
      | [v], _ => exact ⟨⟨v, rfl⟩, rfl⟩
    · cases h
  | .vec .., _, _, _, _, _, _, _, h, _, _, _ => by simp [K.pack] at h
  | .iter, _, _, _, _, _, _, _, h, _, _, _ => by simp [K.pack] at h
  | .rcd _, _, _, _, _, _, _, _, h, _, _, _ => by simp [K.pack] at h


theorem lookup_mem : ∀ {M : Maps} {o : Nat} {m : Option Nat}, M.lookup o = some m → (o, m) ∈ M
  | [], o, m, h => by simp at h
  | (o', m') :: r, o, m, h => by
    simp only [List.lookup] at h
    split at h
    · rename_i e
      have : o = o' := by simpa using e
      subst this
      cases h
      exact List.mem_cons_self ..
    · exact List.mem_cons_of_mem _ (lookup_mem h)

theorem maps_inj : ∀ {M : Maps}, (M.filterMap (·.2)).Nodup → ∀ {o o' m : Nat}, (o, some m) ∈ M → (o', some m) ∈ M → o = o'
  | [], _, o, o', m, h, _ => by simp at h
  | (p, q) :: r, hn, o, o', m, h, h' => by
    have tail : ∀ {x : Nat}, (x, some m) ∈ r → m ∈ r.filterMap (·.2) := fun {x} hx => List.mem_filterMap.2 ⟨(x, some m), hx, rfl⟩
    cases q with
    | none =>
      simp only [List.filterMap_cons] at hn
      have h1 : (o, some m) ∈ r := by
        rcases List.mem_cons.1 h with e | h
        · cases e
        · exact h
      have h2 : (o', some m) ∈ r := by
        rcases List.mem_cons.1 h' with e | h
        · cases e
        · exact h
      exact maps_inj hn h1 h2
    | some q =>
      simp only [List.filterMap_cons, List.nodup_cons] at hn
      rcases List.mem_cons.1 h with e | h1
      · cases e
        rcases List.mem_cons.1 h' with e' | h2
        · cases e'; rfl
        · exact absurd (tail h2) hn.1
      · rcases List.mem_cons.1 h' with e' | h2
        · cases e'
          exact absurd (tail h1) hn.1
        · exact maps_inj hn.2 h1 h2

/-- What came about as an object stands for an object of the state. -/
theorem packO_from {k : K} {m : Nat} {M M' : Maps} {z z' : List Nat} {x : k.den} (h : K.packO s k (some m) M z = some (x, M', z')) :
    ∃ c0, s.get (okey m) = some c0 ∧ c0.isObj = true ∧ ∀ n u ys, K.unpack k x = .vec n u ys → c0 = .vec n u ys := by
  cases k <;> simp only [K.packO, reduceCtorEq] at h
  · split at h
    · rename_i n' t' xs hs
      split at h
      · rename_i he
        subst he
        split at h
        · rename_i hn
          subst hn
          cases h
          exact ⟨_, hs, rfl, fun n u ys he => by simp only [K.unpack] at he; exact he⟩
        · cases h
      · cases h
    · cases h
  · split at h
    · rename_i c hs
      exact ⟨_, hs, rfl, fun n u ys he => by simp [K.unpack] at he⟩
    · cases h
  · split at h
    · rename_i c p hs
      exact ⟨_, hs, rfl, fun n u ys he => by simp [K.unpack] at he⟩
    · cases h

/-- THE STATE, AS A SHAPE HAS IT. -/
theorem shape_sound {σ : Shape} {x : σ.den} (hI : Inv n f F κ s a w) (h : σ.pack s = some x) : ∃ F' κ', F.le F' ∧ Inv n f F' κ' (σ.unpack x) a w := by
  unfold Shape.pack at h
  split at h
  · cases h
  · rename_i y M z hp
    split at h
    · rename_i hok
      cases h
      simp only [Bool.and_eq_true, mapsOk, decide_eq_true_eq, List.all_eq_true, Bool.not_eq_true', List.contains_eq_mem, decide_eq_false_iff_not] at hok
      obtain ⟨⟨_, hclosed⟩, hnd, hzf⟩ := hok
      obtain ⟨F1, s1, hF1, hI1, h1, h2, h3, h4⟩ := freeze_all z hI
      obtain ⟨_, _, hcame, hkeys⟩ := packs_came σ hp
      let κ' : Conc := fun o => (M.lookup o).bind fun m => m.bind κ
      have hobj : ∀ o c', (σ.unpack x).get (okey o) = some c' → ∃ k y M1 z1 M2 z2 m, c' = K.unpack k y ∧ M2.le M ∧ z2 ⊆ z ∧ M1.lookup o = some m ∧ M.lookup o = some m ∧ K.packO s k m M1 z1 = some (y, M2, z2) := fun o c' hc => by
        obtain ⟨k, y, _, rfl, M1, z1, M2, z2, hM1, hM2, hz2, hh⟩ := hcame _ _ hc
        rcases hh with ⟨hlt, _⟩ | ⟨_, m, hm, hpo⟩
        · have := okey_ge o; omega
        · have e : okey o - 100000 = o := by unfold okey; omega
          rw [e] at hm
          exact ⟨k, y, M1, z1, M2, z2, m, rfl, hM2, hz2, hm, hM1 _ _ hm, hpo⟩
      have hT : Told s κ F F1 M z (σ.unpack x) κ' := by
        constructor
        · exact hF1
        · intro o m hm; simp only [κ', hm, Option.bind_some]
        · intro o c m hc hm
          obtain ⟨k, y, M1, z1, M2, z2, m', rfl, _, _, _, hm', hpo⟩ := hobj o c hc
          rw [hm] at hm'
          cases hm'
          obtain ⟨c0, hc0, hobj0, hv⟩ := packO_from hpo
          exact ⟨fun n u ys he => by rw [hc0, hv n u ys he], c0, hc0, by rintro rfl; simp [C.isObj] at hobj0⟩
        · intro o c n' u ys hc hm he
          obtain ⟨k, y, M1, z1, M2, z2, m', rfl, _, _, _, hm', hpo⟩ := hobj o c hc
          rw [hm] at hm'
          cases hm'
          cases k <;> simp only [K.packO, reduceCtorEq] at hpo
          split at hpo
          · cases hpo
            simp only [K.unpack, C.vec.injEq] at he
            obtain ⟨_, rfl, he⟩ := he
            exact (eq_of_heq he).symm
          · cases hpo
        · exact h4
      refine ⟨F1, κ', hF1, ?_⟩
      have live : ∀ o c b p q, (σ.unpack x).get (okey o) = some c → c.isObj = true → κ' o = some (b, p, q) → ∃ m c0, M.lookup o = some (some m) ∧ s.get (okey m) = some c0 ∧ c0.isObj = true ∧ κ m = some (b, p, q) ∧ s1.get (okey m) = some c0 := by
        intro o c b p q hc hobjc hκ
        obtain ⟨k, y, M1, z1, M2, z2, m, rfl, _, _, _, hm, hpo⟩ := hobj o c hc
        cases m with
        | none => simp [κ', hm] at hκ
        | some m =>
          simp only [κ', hm, Option.bind_some] at hκ
          obtain ⟨c0, hc0, hobj0, _⟩ := packO_from hpo
          have hmz : m ∉ z := hzf m (List.mem_filterMap.2 ⟨_, lookup_mem hm, rfl⟩)
          exact ⟨m, c0, hm, hc0, hobj0, hκ, by rw [h1 m hmz, hc0]⟩
      constructor
      · exact hI1.tmps
      · exact hI1.defers
      · exact hI1.frozen
      · intro i c' hi hlt
        obtain ⟨k, y, _, rfl, M1, z1, M2, z2, hM1, hM2, hz2, hh⟩ := hcame _ _ hi
        rcases hh with ⟨_, c, hc, hpk⟩ | ⟨hge, _⟩
        · exact pack_sound hT k hpk hM2 hz2 (hI.slots i c hc hlt)
        · omega
      · intro o c' hc
        obtain ⟨k, y, M1, z1, M2, z2, m, rfl, hM2, hz2, _, hm, hpo⟩ := hobj o c' hc
        have hκ : κ' o = m.bind κ := hT.conc o m hm
        cases k <;> simp only [K.packO, reduceCtorEq] at hpo
        · split at hpo
          · rename_i m' _
            split at hpo
            · rename_i n2 t2 xs hs
              split at hpo
              · rename_i he
                subst he
                split at hpo
                · rename_i hn
                  subst hn
                  cases hpo
                  have := hI.objs m' _ hs
                  simp only [K.unpack, RepO, hκ, Option.bind_some] at this ⊢
                  refine ⟨this.1, ?_⟩
                  have h2 := this.2
                  cases hκm : κ m' with
                  | none => rw [hκm] at h2; exact h2
                  | some q =>
                    rw [hκm] at h2
                    obtain ⟨c, T, fr, g1, g2, g3, g4, g5⟩ := h2
                    exact ⟨c, T, fr, g1, g2, g3, g4, fun i hi => (g5 i hi).mono hF1⟩
                · cases hpo
              · cases hpo
            · cases hpo
          · split at hpo
            · rename_i hn
              subst hn
              cases hpo
              simp only [K.unpack, RepO, hκ, Option.bind_none]
              exact ⟨by simp, trivial⟩
            · cases hpo
        · split at hpo
          · rename_i m' _
            split at hpo
            · rename_i c hs
              have := hI.objs m' _ hs
              simp only [K.unpack, RepO, hκ, Option.bind_some] at this ⊢
              obtain ⟨b, cc, T, fr, g0, g1, g2, g3, g4⟩ := this
              exact ⟨b, cc, T, fr, g0, g1, g2, packX_sound hT _ hpo hM2 hz2 g3, fun T0 h => g4 T0 (pack_bty _ hpo h)⟩
            · cases hpo
          · cases hpo
        · split at hpo
          · rename_i m' _
            split at hpo
            · rename_i xx pos hs
              cases hpo
              have := hI.objs m' _ hs
              simp only [K.unpack, RepO, hκ, Option.bind_some] at this ⊢
              exact this
            · cases hpo
          · cases hpo
      · intro o c b p q hc hobjc hκ
        obtain ⟨m, c0, _, _, h5, h6, h7⟩ := live o c b p q hc hobjc hκ
        exact hI1.free m c0 b p q h7 h5 h6
      · intro o c b p q o' c' p' q' hc hobjc hκ hc' hobjc' hκ'
        obtain ⟨m, c0, h8, _, h5, h6, h7⟩ := live o c b p q hc hobjc hκ
        obtain ⟨m', c0', h8', _, h5', h6', h7'⟩ := live o' c' b p' q' hc' hobjc' hκ'
        have := hI1.apart m c0 b p q m' c0' p' q' h7 h5 h6 h7' h5' h6'
        subst this
        exact maps_inj hnd (lookup_mem h8) (lookup_mem h8')
      · intro i c' hi o ho
        obtain ⟨k, y, hmem, rfl, _⟩ := hcame _ _ hi
        rw [unpack_refs] at ho
        simp only [Shape.closed, List.all_eq_true] at hclosed
        have := hclosed _ hmem o ho
        exact hkeys _ (by simpa using this)
      · exact hI1.kept
      · exact hI1.grown
    · cases h

end
end Go.Fe
