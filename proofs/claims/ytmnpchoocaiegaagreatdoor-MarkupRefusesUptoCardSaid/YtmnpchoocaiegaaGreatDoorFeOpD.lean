/- Slices, conversions, and what is made. -/
import Derived.Test.YtmnpchoocaiegaaGreatDoorFeOpC
import Derived.Laws.BytesString
namespace Go.Fe
open Go

section
variable {Γ : Ctx} {P : Program} {n : Nat} {f : Frame0} {F : Froz} {κ : Conc} {s : St} {a : Act} {w : World} {g : Nat → Option C}

/-- What an operation that may turn memory must show. -/
def Does (P : Program) (n : Nat) (f : Frame0) (F : Froz) (_κ : Conc) (s : St) (a : Act) (w : World) (sem : Sem Value) (dst : Option Nat) (u : St) : Prop :=
  ∃ v c F' κ' w' uo, u = uo ++ Out1 dst c ∧ sem.run P w = .ok v w' ∧ F.le F' ∧ Inv n f F' κ' (s.upd uo) a w' ∧ RepC F' κ' (s.upd uo) c v ∧
    ∀ o ∈ c.refs, ((s.upd uo).get (okey o)).isSome = true

theorem Gives.does (hI : Inv n f F κ s a w) {sem : Sem Value} {dst : Option Nat} {u : St} (h : Gives P F κ s w sem dst u) : Does P n f F κ s a w sem dst u := by
  obtain ⟨v, c, h1, h2, h3, h4⟩ := h
  exact ⟨v, c, F, κ, w, [], by simpa using h1, h2, Froz.le_refl F, hI, h3, h4⟩

theorem upd_append (s u v : St) : s.upd (u ++ v) = (s.upd u).upd v := by
  induction u generalizing s with
  | nil => rfl
  | cons p r ih => obtain ⟨k, c⟩ := p; simp only [List.cons_append, St.upd, ih]

theorem part_getElem {α : Type} {xs : List α} {i j k : Nat} (_hj : j ≤ xs.length) (h : k < ((xs.take j).drop i).length) (h' : i + k < xs.length) : ((xs.take j).drop i)[k] = xs[i + k] := by
  simp [List.getElem_drop, List.getElem_take]

theorem sliceR_val (hΓ : CtxT Γ P) {T : TypeId} {cx : C} {vx : Value} {lo hi : Option Value} {ends : Nat → Option (Int × Int)} {dst : Option Nat} {u : St}
    (hends : ∀ m i j, ends m = some (i, j) → (∃ k, lo = some (.int k i) ∨ (lo = none ∧ i = 0)) ∧ (∃ k, hi = some (.int k j) ∨ (hi = none ∧ j = m)))
    (hx : RepC F κ s cx vx) :
    (∀ l m, Γ.tab T = some .str → cx = .val .str l → ends l.length = some m → ∀ r, cut l m.1 m.2 = some r → u = Out1 dst (.val .str r) → Gives P F κ s w (Instr.sliceAt T vx lo hi none) dst u) ∧
    (∀ e xs m, Γ.tab T = some (.sl e) → cx = .val (.sl e) xs → ends xs.length = some m → ∀ r, cut xs m.1 m.2 = some r → u = Out1 dst (.val (.sl e) r) → Gives P F κ s w (Instr.sliceAt T vx lo hi none) dst u) := by
  constructor
  · rintro l ⟨i, j⟩ ht rfl he r hr rfl
    rw [rep_str] at hx; subst hx
    obtain ⟨hb, rfl⟩ := cut_some hr
    obtain ⟨h1, h2⟩ := hends _ _ _ he
    have hT := tyIs_str (hΓ.tab _ _ ht)
    have e1 : (⟨l.toArray⟩ : ByteArray).size = l.length := by simp [ByteArray.size]
    have := bounds_run (P := P) (w := w) (isSlice := false) (Nat.le_refl l.length) (fun _ => rfl) h1 h2 hb
    refine ⟨_, _, rfl, ?_, rep_str.2 rfl, by simp [C.refs]⟩
    simp only [Instr.sliceAt, Instr.slice, Sem.run_bind, underlying_run hT, Result.andThen_ok, e1, this, Option.isSome_none, Bool.false_eq_true, if_false, Sem.run_pure, extract_mk]
  · rintro e xs ⟨i, j⟩ ht rfl he r hr rfl
    obtain ⟨ad, cap, rfl, hcap, hd⟩ := rep_sl.1 hx
    obtain ⟨hb, rfl⟩ := cut_some hr
    obtain ⟨h1, h2⟩ := hends _ _ _ he
    obtain ⟨E, hT, hpos, hE⟩ := tyIs_sl (hΓ.tab _ _ ht)
    have := bounds_run (P := P) (w := w) (isSlice := true) hcap (fun h => by cases h) h1 h2 hb
    obtain ⟨i, rfl⟩ := Int.eq_ofNat_of_zero_le hb.1
    obtain ⟨j, rfl⟩ := Int.eq_ofNat_of_zero_le (show 0 ≤ j by omega)
    simp only [Int.toNat_natCast] at this ⊢
    have hlen : ((xs.take j).drop i).length = j - i := by simp; omega
    refine ⟨.slice (if cap = i then ad else ad.map (·.add (i * e.size))) (j - i) (cap - i), _, rfl, ?_, rep_sl.2 ⟨if cap = i then ad else ad.map (·.add (i * e.size)), cap - i, by rw [hlen], by omega, ?_⟩, by simp [C.refs]⟩
    · simp only [Instr.sliceAt, Instr.slice, Sem.run_bind, underlying_run hT, Result.andThen_ok, this, sizeOf_run hE, Sem.run_pure]
    · by_cases hij : i = j
      · left; apply List.eq_nil_of_length_eq_zero; omega
      · right
        have hne : cap ≠ i := by omega
        rcases hd with hd | ⟨b, off, c, T', fr, rfl, hb', hel⟩
        · subst hd; simp at hb; omega
        · refine ⟨b, off + i * e.size, c, T', fr, by simp [hne, add_lit], hb', fun k hk => ?_⟩
          rw [part_getElem (by omega) hk (by omega)]
          have := hel (i + k) (by omega)
          rw [Nat.add_mul, ← Nat.add_assoc] at this
          exact this

theorem sliceR_sound (hΓ : CtxT Γ P) (hI : Inv n f F κ s a w) (hg : ∀ k c, g k = some c → s.get k = some c) {h : OH} {T : TypeId} {cx : C} {vx : Value} {lo hi : Option Value} {ends : Nat → Option (Int × Int)} {dst : Option Nat} {r : Res} {u : St}
    (hends : ∀ m i j, ends m = some (i, j) → (∃ k, lo = some (.int k i) ∨ (lo = none ∧ i = 0)) ∧ (∃ k, hi = some (.int k j) ∨ (hi = none ∧ j = m)))
    (hnew : ∀ m ∈ h.new, s.get (okey m) = none)
    (hx : RepC F κ s cx vx) (hr : sliceR Γ h T cx (some ends) g dst = some r) (hu : r.run = some u) : Does P n f F κ s a w (Instr.sliceAt T vx lo hi none) dst u := by
  unfold sliceR at hr
  split at hr
  · rename_i l e ht he
    cases he
    simp only [Option.map_eq_some_iff] at hr
    obtain ⟨m, hm, rfl⟩ := hr
    obtain ⟨y, hy, rfl⟩ := Res.run_bind hu
    exact Gives.does hI ((sliceR_val hΓ hends hx).1 _ _ ht rfl hm _ hy rfl)
  · rename_i e e' xs en ht he
    cases he
    split at hr
    · rename_i hee
      subst hee
      simp only [Option.map_eq_some_iff] at hr
      obtain ⟨m, hm, rfl⟩ := hr
      obtain ⟨y, hy, rfl⟩ := Res.run_bind hu
      exact Gives.does hI ((sliceR_val hΓ hends hx).2 _ _ _ ht rfl hm _ hy rfl)
    · cases hr
  · rename_i e ob en ht he
    cases he
    split at hr
    · rename_i e' xs o hgo hho
      split at hr
      · rename_i hee
        obtain ⟨rfl, hwr⟩ := hee
        simp only [Option.map_eq_some_iff] at hr
        obtain ⟨⟨i, j⟩, hm, rfl⟩ := hr
        obtain ⟨y, hy, rfl⟩ := Res.run_bind hu
        have hso := hg _ _ hgo
        have hv := rep_own.1 hx _ _ _ hso
        obtain ⟨hb, rfl⟩ := cut_some hy
        obtain ⟨h1, h2⟩ := hends _ _ _ hm
        obtain ⟨E, hT, hpos, hE⟩ := tyIs_sl (hΓ.tab _ _ ht)
        have hno : s.get (okey o) = none := hnew o (by rw [hho]; simp)
        have hne : ob ≠ o := by rintro rfl; rw [hso] at hno; cases hno
        obtain ⟨i, rfl⟩ := Int.eq_ofNat_of_zero_le hb.1
        obtain ⟨j, rfl⟩ := Int.eq_ofNat_of_zero_le (show 0 ≤ j by omega)
        have hlen : ((xs.take j).drop i).length = j - i := by simp; omega
        have ho := hI.objs ob _ hso
        simp only [RepO] at ho
        have hk := hI.kill ob
        have hno' : (s.set (okey ob) .dead).get (okey o) = none := by rw [St.get_set, if_neg (fun e => hne (okey_inj e))]; exact hno
        cases hκ : κ ob with
        | none =>
          rw [hκ] at ho hv
          have hxs := ho.2
          subst hxs
          have hz : i = 0 ∧ j = 0 := by simp at hb; omega
          obtain ⟨rfl, rfl⟩ := hz
          have hI2 := hk.obj (o := o) (c := .vec none e' []) (pl := none) (w' := w) hno' (by simp [C.refs]) rfl (by
            intro κ' s' _ hκ' _
            simp only [RepO, hκ']
            exact ⟨by simp, trivial⟩)
          have := bounds_run (P := P) (w := w) (isSlice := true) (len := 0) (cap := 0) (Nat.le_refl _) (fun h => by cases h) h1 h2 (by simp)
          obtain ⟨ad, rfl⟩ := hv
          refine ⟨.slice ad 0 0, .own o, F, _, w, [(okey ob, .dead), (okey o, .vec none e' [])], by simp, ?_, Froz.le_refl F, hI2, ?_, ?_⟩
          · simp only [List.length_nil, Instr.sliceAt, Instr.slice, Sem.run_bind, underlying_run hT, Result.andThen_ok, this, sizeOf_run hE, Sem.run_pure]
            rfl
          · refine rep_own.2 ?_
            intro n' t' ys hys
            simp only [St.upd, St.get_set, if_true, Option.some.injEq] at hys
            cases hys
            simp [SlAt]
          · simp [C.refs, St.upd, St.get_set]
        | some q =>
          obtain ⟨b, p, q⟩ := q
          rw [hκ] at ho hv
          obtain ⟨_, c, T', fr, hbk, hfr, hq, hroom, hel⟩ := ho
          have := bounds_run (P := P) (w := w) (isSlice := true) hq.1 (fun h => by cases h) h1 h2 hb
          simp only [Int.toNat_natCast] at this ⊢
          simp only [SlAt] at hv
          subst hv
          obtain ⟨hfree, hmay⟩ := hI.free ob _ b p q hso rfl hκ
          have hrun : (Instr.sliceAt T (.slice (some ⟨b, p, none⟩) xs.length q) lo hi none).run P w = .ok (.slice (if q = i then some ⟨b, p, none⟩ else some ⟨b, p + i * e'.size, none⟩) (j - i) (q - i)) w := by
            simp only [Instr.sliceAt, Instr.slice, Sem.run_bind, underlying_run hT, Result.andThen_ok, this, sizeOf_run hE, Sem.run_pure, Option.map_some, add_lit]
          have fin : ∀ {κ'}, Inv n f F κ' ((s.set (okey ob) .dead).set (okey o) (.vec none e' ((xs.take j).drop i))) a w → SlAt (κ' o) (j - i) (.slice (if q = i then some ⟨b, p, none⟩ else some ⟨b, p + i * e'.size, none⟩) (j - i) (q - i)) →
              Does P n f F κ s a w (Instr.sliceAt T (.slice (some ⟨b, p, none⟩) xs.length q) lo hi none) dst ((okey ob, .dead) :: (okey o, .vec none e' ((xs.take j).drop i)) :: Out1 dst (.own o)) := fun {κ'} hI2 hsl => by
            refine ⟨_, .own o, F, κ', w, [(okey ob, .dead), (okey o, .vec none e' ((xs.take j).drop i))], by simp, hrun, Froz.le_refl F, hI2, ?_, ?_⟩
            · refine rep_own.2 ?_
              intro n' t' ys hys
              simp only [St.upd, St.get_set, if_true, Option.some.injEq] at hys
              cases hys
              rw [hlen]
              exact hsl
            · simp [C.refs, St.upd, St.get_set]
          by_cases hqi : q = i
          · have hji : j = i := by omega
            subst hji
            have hnil : (xs.take j).drop j = [] := List.eq_nil_of_length_eq_zero (by rw [hlen]; omega)
            have hI2 := hk.obj (o := o) (c := .vec none e' ((xs.take j).drop j)) (pl := none) (w' := w) hno' (by simp [C.refs]) rfl (by
              intro κ' s' _ hκ' _
              simp only [RepO, hκ']
              exact ⟨by simp, hnil⟩)
            refine fin hI2 ?_
            simp only [if_true, SlAt, hqi, Nat.sub_self]
            exact ⟨_, rfl⟩
          · have hI2 := hk.obj (o := o) (c := .vec none e' ((xs.take j).drop i)) (pl := some (b, p + i * e'.size, q - i)) (w' := w) hno' (by simp [C.refs])
              ⟨⟨Nat.le_refl _, fun _ _ _ => rfl, rfl, rfl⟩, hfree, hmay, by
                intro o' c' p' q' ho' hobj' hκ'
                by_cases e : o' = ob
                · subst e
                  rw [St.get_set, if_pos rfl] at ho'
                  cases ho'
                  simp [C.isObj] at hobj'
                · rw [St.get_set, if_neg (fun h => e (okey_inj h).symm)] at ho'
                  exact e (hI.apart o' c' b p' q' ob _ p q ho' hobj' hκ' hso rfl hκ)⟩ (by
              intro κ' s' _ hκ' _
              simp only [RepO, hκ']
              refine ⟨by simp, c, T', fr, hbk, hfr, ⟨by omega, fun _ => ⟨by omega, (hq.2 trivial).2⟩⟩, ?_, fun k hk => ?_⟩
              · have : i * e'.size + (q - i) * e'.size = q * e'.size := by rw [← Nat.add_mul]; congr 1; omega
                omega
              · rw [part_getElem (by omega) hk (by omega)]
                have := hel (i + k) (by omega)
                rw [Nat.add_mul, ← Nat.add_assoc] at this
                exact this)
            refine fin hI2 ?_
            simp only [if_neg hqi, SlAt, if_true]
      · cases hr
    · cases hr
  · rename_i m e ob off en ht he
    cases he
    split at hr
    · rename_i m' e' xs o hgo hho
      split at hr
      · rename_i hee
        obtain ⟨rfl, rfl, rfl, hm0, hu8, hwr⟩ := hee
        simp only [Option.map_eq_some_iff] at hr
        obtain ⟨⟨i, j⟩, hm, rfl⟩ := hr
        obtain ⟨y, hy, rfl⟩ := Res.run_bind hu
        have hso := hg _ _ hgo
        obtain ⟨b, p, q, hκ, rfl⟩ := rep_ptr.1 hx _ hso (by simp)
        have ho := hI.objs ob _ hso
        simp only [RepO] at ho
        obtain ⟨hfix, ho⟩ := ho
        obtain ⟨hxl, b', p', hκ2⟩ := hfix _ rfl
        rw [hκ] at hκ2
        cases hκ2
        rw [hκ] at ho
        obtain ⟨c, T', fr, hbk, hfr, hq, hroom, hel⟩ := ho
        obtain ⟨hb, rfl⟩ := cut_some hy
        obtain ⟨h1, h2⟩ := hends _ _ _ hm
        obtain ⟨E, hT, hpos, hE⟩ := tyIs_arr (hΓ.tab _ _ ht)
        have hno : s.get (okey o) = none := hnew o (by rw [hho]; simp)
        have hne : ob ≠ o := by rintro rfl; rw [hso] at hno; cases hno
        obtain ⟨i, rfl⟩ := Int.eq_ofNat_of_zero_le hb.1
        obtain ⟨j, rfl⟩ := Int.eq_ofNat_of_zero_le (show 0 ≤ j by omega)
        have hlen : ((xs.take j).drop i).length = j - i := by simp; omega
        have hk := hI.kill ob
        have hno' : (s.set (okey ob) .dead).get (okey o) = none := by rw [St.get_set, if_neg (fun e => hne (okey_inj e))]; exact hno
        have := bounds_run (P := P) (w := w) (isSlice := false) (len := m') (cap := m') (Nat.le_refl _) (fun _ => rfl) h1 h2 (by omega)
        simp only [Int.toNat_natCast] at this ⊢
        obtain ⟨hfree, hmay⟩ := hI.free ob _ b p m' hso rfl hκ
        have hrun : (Instr.sliceAt T (.pointer (some ⟨b, p + 0, none⟩)) lo hi none).run P w = .ok (.slice (some (if m' = i then ⟨b, p, none⟩ else ⟨b, p + i * e'.size, none⟩)) (j - i) (m' - i)) w := by
          simp only [Instr.sliceAt, Instr.sureAddr, Sem.run_bind, underlying_run hT, Result.andThen_ok, this, sizeOf_run hE, Sem.run_pure, add_lit, Nat.add_zero]
        have fin : ∀ {κ'}, Inv n f F κ' ((s.set (okey ob) .dead).set (okey o) (.vec none e' ((xs.take j).drop i))) a w → SlAt (κ' o) (j - i) (.slice (some (if m' = i then ⟨b, p, none⟩ else ⟨b, p + i * e'.size, none⟩)) (j - i) (m' - i)) →
            Does P n f F κ s a w (Instr.sliceAt T (.pointer (some ⟨b, p + 0, none⟩)) lo hi none) dst ((okey ob, .dead) :: (okey o, .vec none e' ((xs.take j).drop i)) :: Out1 dst (.own o)) := fun {κ'} hI2 hsl => by
          refine ⟨_, .own o, F, κ', w, [(okey ob, .dead), (okey o, .vec none e' ((xs.take j).drop i))], by simp, hrun, Froz.le_refl F, hI2, ?_, ?_⟩
          · refine rep_own.2 ?_
            intro n' t' ys hys
            simp only [St.upd, St.get_set, if_true, Option.some.injEq] at hys
            cases hys
            rw [hlen]
            exact hsl
          · simp [C.refs, St.upd, St.get_set]
        by_cases hqi : m' = i
        · have hji : j = i := by omega
          subst hji
          have hnil : (xs.take j).drop j = [] := List.eq_nil_of_length_eq_zero (by rw [hlen]; omega)
          have hI2 := hk.obj (o := o) (c := .vec none e' ((xs.take j).drop j)) (pl := none) (w' := w) hno' (by simp [C.refs]) rfl (by
            intro κ' s' _ hκ' _
            simp only [RepO, hκ']
            exact ⟨by simp, hnil⟩)
          refine fin hI2 ?_
          simp only [if_true, SlAt, hqi, Nat.sub_self]
          exact ⟨_, rfl⟩
        · have hI2 := hk.obj (o := o) (c := .vec none e' ((xs.take j).drop i)) (pl := some (b, p + i * e'.size, m' - i)) (w' := w) hno' (by simp [C.refs])
            ⟨⟨Nat.le_refl _, fun _ _ _ => rfl, rfl, rfl⟩, hfree, hmay, by
              intro o' c' p' q' ho' hobj' hκ'
              by_cases e : o' = ob
              · subst e
                rw [St.get_set, if_pos rfl] at ho'
                cases ho'
                simp [C.isObj] at hobj'
              · rw [St.get_set, if_neg (fun h => e (okey_inj h).symm)] at ho'
                exact e (hI.apart o' c' b p' q' ob _ p m' ho' hobj' hκ' hso rfl hκ)⟩ (by
            intro κ' s' _ hκ' _
            simp only [RepO, hκ']
            refine ⟨by simp, c, T', fr, hbk, hfr, ⟨by omega, fun _ => ⟨by omega, fun e => absurd e hu8⟩⟩, ?_, fun k hk => ?_⟩
            · have : i * e'.size + (m' - i) * e'.size = m' * e'.size := by rw [← Nat.add_mul]; congr 1; omega
              omega
            · rw [part_getElem (by omega) hk (by omega)]
              have := hel (i + k) (by omega)
              rw [Nat.add_mul, ← Nat.add_assoc] at this
              exact this)
          refine fin hI2 ?_
          simp only [if_neg hqi, SlAt, if_true]
      · cases hr
    · cases hr
  · cases hr


/-- Slicing to nothing, without room. -/
theorem slice0R_sound (hΓ : CtxT Γ P) (hI : Inv n f F κ s a w) (hg : ∀ k c, g k = some c → s.get k = some c) {T : TypeId} {cx : C} {vx : Value} {dst : Option Nat} {r : Res} {u : St}
    (hx : RepC F κ s cx vx) (hr : slice0R Γ T cx g dst = some r) (hu : r.run = some u) :
    Does P n f F κ s a w (Instr.sliceAt T vx (some (.int .i64 0)) (some (.int .i64 0)) (some (.int .i64 0))) dst u := by
  have fin : ∀ {e : Ty} {ad : Option Addr} {m cap : Nat}, Γ.tab T = some (.sl e) → vx = .slice ad m cap → r = .ok (Out1 dst .nil) →
      Does P n f F κ s a w (Instr.sliceAt T vx (some (.int .i64 0)) (some (.int .i64 0)) (some (.int .i64 0))) dst u := fun {e ad m cap} ht hv h => by
    subst h hv
    cases hu
    obtain ⟨E, hT, _, hE⟩ := tyIs_sl (hΓ.tab _ _ ht)
    refine Gives.does hI ⟨.slice ad 0 0, _, rfl, ?_, rep_nil.2 ⟨ad, rfl⟩, by simp [C.refs]⟩
    have hb : ∀ (y : Nat) (cd : BoundsCode), (Instr.sliceBound (.int .i64 0) y cd).run P w = .ok 0 w := fun y cd => by
      simp only [Instr.sliceBound, asIntOf, Sem.run_bind, Sem.run_pure, Result.andThen_ok, Sem.run_ite]
      rw [if_pos ⟨Int.le_refl _, by omega⟩]; rfl
    simp only [Instr.sliceAt, Instr.slice, Instr.sliceBounds, Sem.run_bind, underlying_run hT, Result.andThen_ok, hb, sizeOf_run hE, Sem.run_pure, if_true, Nat.sub_self]
  unfold slice0R at hr
  split at hr
  · rename_i e e' xs ht
    cases hr
    obtain ⟨ad, cap, rfl, _⟩ := rep_sl.1 hx
    exact fin ht rfl rfl
  · rename_i e ht
    cases hr
    obtain ⟨ad, rfl⟩ := rep_nil.1 hx
    exact fin ht rfl rfl
  · rename_i e ob ht
    split at hr
    · rename_i e' xs hgo
      cases hr
      obtain ⟨ad, cap, rfl⟩ := SlAt.form (rep_own.1 hx _ _ _ (hg _ _ hgo))
      exact fin ht rfl rfl
    · cases hr
  · cases hr

/-! ### New blocks -/
/-- An object comes in a new block. -/
theorem Inv.freshS (hI : Inv n f F κ s a w) {o p q : Nat} {c : C} {w' : World} (hno : s.get (okey o) = none) (hc : ∀ o' ∈ c.refs, o' ≠ o → (s.get (okey o')).isSome = true)
    (hw : Chg w.heap.size w w')
    (hrep : ∀ κ' s', (∀ o', o' ≠ o → κ' o' = κ o') → κ' o = some (w.heap.size, p, q) → (∀ o', o' ≠ o → s'.get (okey o') = s.get (okey o')) → RepO F κ' s' w' o c) :
    Inv n f F (fun o' => if o' = o then some (w.heap.size, p, q) else κ o') (s.set (okey o) c) a w' := by
  refine hI.objS (pl := some (w.heap.size, p, q)) hno hc ⟨hw, ?_, .inl hI.kept.size, ?_⟩ hrep
  · cases h : F w.heap.size with
    | none => rfl
    | some ob => have := lt_of_some (hI.frozen _ _ h); omega
  · intro o' c' p' q' h1 h2 h3
    have := RepO.lt hI h1 h2 h3
    omega

theorem Inv.fresh (hI : Inv n f F κ s a w) {o p q : Nat} {c : C} {w' : World} (hno : s.get (okey o) = none) (hc : ∀ o' ∈ c.refs, (s.get (okey o')).isSome = true)
    (hw : Chg w.heap.size w w')
    (hrep : ∀ κ' s', (∀ o', o' ≠ o → κ' o' = κ o') → κ' o = some (w.heap.size, p, q) → (∀ o', o' ≠ o → s'.get (okey o') = s.get (okey o')) → RepO F κ' s' w' o c) :
    Inv n f F (fun o' => if o' = o then some (w.heap.size, p, q) else κ o') (s.set (okey o) c) a w' :=
  hI.freshS hno (fun o' h _ => hc o' h) hw hrep

theorem push_chg {o : Obj} {d : Nat} : Chg w.heap.size w { w with heap := w.heap.push o, drawn := d } := by
  constructor
  · simp
  · intro b' h1 h2
    simp only [Array.getElem?_push]
    rw [if_neg (by omega)]
  · exact ⟨rfl, rfl⟩

theorem push_get {o : Obj} {d : Nat} : ({ w with heap := w.heap.push o, drawn := d } : World).heap[w.heap.size]? = some o := by
  simp

theorem freeze_get {b m : Nat} {c : Array Value} {T : TypeId} (h : w.heap[b]? = some (.cells c T)) : (World.freeze w { block := b, off := m } 1).heap[b]? = some (.cells c T (m, m + 1)) := by
  unfold World.freeze
  simp [Array.getElem?_modify, h]

theorem freeze_chg {w' : World} {b m : Nat} (h : Chg b w w') : Chg b w (World.freeze w' { block := b, off := m } 1) := by
  constructor
  · have := h.size
    simp [World.freeze]; exact this
  · intro b' h1 h2
    rw [← h.same b' h1 h2]
    simp [World.freeze, Array.getElem?_modify, Ne.symm h1]
  · simp [World.freeze, h.rest]

/-- A row of its own, new. -/
theorem row_fresh0 (hI : Inv n f F κ s a w) {o q : Nat} {e : Ty} {xs : List e.den} {w' : World} {c : Array Value} {T : TypeId} {fr : Nat × Nat} (hno : s.get (okey o) = none)
    (hw : Chg w.heap.size w w') (hb : w'.heap[w.heap.size]? = some (.cells c T fr)) (hfr : c.size ≤ fr.1 ∨ fr.2 ≤ fr.1) (hq : xs.length ≤ q) (hs : q * e.size ≤ c.size)
    (hT5 : e = .int .u8 → T = 5) (hel : ∀ i (h : i < xs.length), RepT F e xs[i] ((c.toList.drop (i * e.size)).take e.size)) :
    ∃ κ', Inv n f F κ' (s.set (okey o) (.vec none e xs)) a w' ∧ SlAt (κ' o) xs.length (.slice (some ⟨w.heap.size, 0, none⟩) xs.length q) := by
  rcases Nat.eq_zero_or_pos q with h0 | hpos
  · subst h0
    have hx : xs = [] := List.eq_nil_of_length_eq_zero (by omega)
    subst hx
    refine ⟨_, (hI.more hw).obj (o := o) (c := .vec none e []) (pl := none) (w' := w') hno (by simp [C.refs]) rfl (by
      intro κ' s' _ hκ' _
      simp only [RepO, hκ']
      exact ⟨by simp, trivial⟩), ?_⟩
    simp only [if_true, SlAt]
    exact ⟨_, rfl⟩
  · refine ⟨_, hI.fresh (o := o) (p := 0) (q := q) (c := .vec none e xs) hno (by simp [C.refs]) hw (by
      intro κ' s' _ hκ' _
      simp only [RepO, hκ']
      exact ⟨by simp, c, T, fr, hb, hfr, ⟨hq, fun _ => ⟨hpos, hT5⟩⟩, by omega, fun i hi => by rw [Nat.zero_add]; exact hel i hi⟩), ?_⟩
    simp only [if_true, SlAt]

theorem own_repS {κ : Conc} {o : Nat} {e : Ty} {xs : List e.den} {s : St} {m : Option Nat} {v : Value} (h : s.get (okey o) = some (.vec m e xs)) (hv : SlAt (κ o) xs.length v) : RepC F κ s (.own o) v := by
  refine rep_own.2 ?_
  intro n' t' ys hys
  rw [h] at hys
  cases hys
  exact hv
theorem row_fresh (hI : Inv n f F κ s a w) {o q : Nat} {e : Ty} {xs : List e.den} {w' : World} {c : Array Value} {T : TypeId} {fr : Nat × Nat} {sem : Sem Value} {dst : Option Nat}
    (hrun : sem.run P w = .ok (.slice (some ⟨w.heap.size, 0, none⟩) xs.length q) w') (hno : s.get (okey o) = none)
    (hw : Chg w.heap.size w w') (hb : w'.heap[w.heap.size]? = some (.cells c T fr)) (hfr : c.size ≤ fr.1 ∨ fr.2 ≤ fr.1) (hq : xs.length ≤ q) (hs : q * e.size ≤ c.size)
    (hT5 : e = .int .u8 → T = 5) (hel : ∀ i (h : i < xs.length), RepT F e xs[i] ((c.toList.drop (i * e.size)).take e.size)) :
    Does P n f F κ s a w sem dst ((okey o, .vec none e xs) :: Out1 dst (.own o)) := by
  obtain ⟨κ', hI2, hκ'⟩ := row_fresh0 hI hno hw hb hfr hq hs hT5 hel
  refine ⟨_, .own o, F, _, w', [(okey o, .vec none e xs)], rfl, hrun, Froz.le_refl F, hI2, ?_, by simp [C.refs, St.upd, St.get_set]⟩
  exact own_repS (m := none) (by simp [St.upd, St.get_set]) hκ'

/-- Equal elements side by side. -/
theorem repeat_window {z : Array Value} {m k : Nat} {j : Nat} (hz : z.size = k) (hj : j < m) :
    ((((Array.range (m * k)).map (fun i => z[i % z.size]!)).toList.drop (j * k)).take k) = z.toList := by
  apply List.ext_getElem?
  intro i
  rw [List.getElem?_take]
  by_cases hi : i < k
  · rw [if_pos hi, List.getElem?_drop]
    have hlt : j * k + i < m * k := by
      have : j * k + k ≤ m * k := by rw [← Nat.succ_mul]; exact Nat.mul_le_mul_right _ hj
      omega
    simp only [Array.toList_map, Array.toList_range, List.getElem?_map, List.getElem?_range hlt, Option.map_some, hz]
    rw [Nat.mul_comm j k, Nat.mul_add_mod, Nat.mod_eq_of_lt hi]
    simp [hz, hi]
  · rw [if_neg hi, List.getElem?_eq_none (by simp; omega)]

theorem mk_some {α : Type} {m c : Int} {z : α} {xs : List α} (h : mk m c z = some xs) : (0 ≤ m ∧ m ≤ c ∧ c ≤ lim) ∧ xs = List.replicate m.toNat z := by
  unfold mk at h
  split at h
  · cases h; exact ⟨by assumption, rfl⟩
  · cases h

theorem i64_wrap {m : Int} (h0 : 0 ≤ m) (h1 : m ≤ lim) : IntKind.i64.wrap m = m := by
  unfold lim at h1
  unfold IntKind.wrap
  simp only [IntKind.bits, IntKind.signed]
  have e : m % (2 ^ 64 : Int) = m := Int.emod_eq_of_lt h0 (by omega)
  simp only [e]
  rw [if_neg]
  simp
  omega

theorem makeSliceR_sound (hΓ : CtxT Γ P) (hI : Inv n f F κ s a w) {h : OH} {T : TypeId} {cl cc : C} {vl vc : Value} {dst : Option Nat} {r : Res} {u : St}
    (hnew : ∀ m ∈ h.new, s.get (okey m) = none)
    (hl : RepC F κ s cl vl) (hc : RepC F κ s cc vc) (hr : makeSliceR Γ h T cl cc dst = some r) (hu : r.run = some u) : Does P n f F κ s a w (Instr.makeSlice T vl vc) dst u := by
  unfold makeSliceR at hr
  split at hr
  · rename_i e m k o ht hho
    cases hr
    obtain ⟨xs, hy, rfl⟩ := Res.run_bind hu
    rw [rep_int] at hl hc
    subst hl hc
    obtain ⟨⟨h0, h1, h2⟩, rfl⟩ := mk_some hy
    obtain ⟨E, hE, hpos, hE2⟩ := tyIs_sl (hΓ.tab _ _ ht)
    obtain ⟨i, z, hi⟩ := tyIs_info hE2
    have hno : s.get (okey o) = none := hnew o (by rw [hho]; simp)
    have hwm := i64_wrap h0 (Int.le_trans h1 h2)
    have hwk := i64_wrap (Int.le_trans h0 h1) h2
    have hzs : z.cells.size = e.size := by
      have := (hi.rep F).length
      simpa using this
    have hbytes : ((i.bytes : Int) * k > 2 ^ 48) = False := by
      have hb := hi.bytes
      unfold lim at h2
      simp only [eq_iff_iff, iff_false, Int.not_lt]
      have : (i.bytes : Int) * k ≤ 1024 * k := Int.mul_le_mul_of_nonneg_right (by omega) (by omega)
      omega
    have hneg : (k < 0) = False := by simp; omega
    have hneg2 : (m < 0) = False := by simp; omega
    have hgt : (m > k) = False := by simp; omega
    have hrun : (Instr.makeSlice T (.int .i64 m) (.int .i64 k)).run P w = .ok (.slice (some ⟨w.heap.size, 0, none⟩) m.toNat k.toNat)
        { w with heap := w.heap.push (.cells ((Array.range (k.toNat * e.size)).map (fun j => z.cells[j % z.cells.size]!)) E) } := by
      simp only [Instr.makeSlice, Sem.run_bind, underlying_run hE, Result.andThen_ok, asInt, asIntOf, Sem.run_pure, typeInfo_run hi.info, hwm, hwk, hbytes, hneg, hneg2, hgt, decide_false, Bool.or_self,
        Bool.false_eq_true, if_false, run_askRoom, sizeOf_run hE2, Sem.run_ite, newRow, run_newObj]
      by_cases hz : k.toNat * e.size = 0
      · rw [if_pos hz, hz]
        have hr0 : Array.range 0 = #[] := rfl
        simp only [hr0, Array.map_empty]
      · rw [if_neg hz]
        simp only [zero_run hi, Result.andThen_ok]
    have hlen : (List.replicate m.toNat e.zero).length = m.toNat := by simp
    rw [← hlen] at hrun
    refine row_fresh hI hrun hno (push_chg (d := w.drawn)) (push_get (d := w.drawn)) (.inr (Nat.le_refl _)) (by simp; omega) (by simp) (tyIs_sl5 (hΓ.tab _ _ ht) hE) (fun j hj => ?_)
    rw [List.getElem_replicate, repeat_window hzs (by simp at hj; omega)]
    exact hi.rep F
  · cases hr

/-! ### Conversions -/
theorem push_list (xs : List Int) : ∀ acc : ByteArray, xs.foldl (fun r n => r.push (UInt8.ofNat n.toNat)) acc = ⟨(acc.data.toList ++ bytesStr xs).toArray⟩ := by
  induction xs with
  | nil => intro acc; obtain ⟨d⟩ := acc; simp [bytesStr]
  | cons x r ih => intro acc; rw [List.foldl_cons, ih]; simp [ByteArray.push, bytesStr, byteOfInt]

theorem bytes_row {xs : List Int} {c : Array Value} {p : Nat} (hel : ∀ i (h : i < xs.length), RepT F (.int .u8) xs[i] ((c.toList.drop (p + i * 1)).take 1)) :
    ∀ j v, (xs.map (Value.int .u8))[j]? = some v → c[p + j]? = some v := by
  intro j v hj
  rw [List.getElem?_map] at hj
  simp only [Option.map_eq_some_iff] at hj
  obtain ⟨x, hx, rfl⟩ := hj
  obtain ⟨hj', rfl⟩ := List.getElem?_eq_some_iff.1 hx
  have := hel j hj'
  simp only [RepT, Nat.mul_one] at this
  have h0 : ((c.toList.drop (p + j)).take 1)[0]? = some (Value.int .u8 xs[j]) := by rw [this]; rfl
  rw [List.getElem?_take, if_pos (by omega), List.getElem?_drop] at h0
  simpa using h0

theorem bytesToString_run {xs : List Int} {b off cap : Nat} {c : Array Value} {T : TypeId} {fr : Nat × Nat} (hb : w.heap[b]? = some (.cells c T fr))
    (hel : ∀ j v, (xs.map (Value.int .u8))[j]? = some v → c[off + j]? = some v) :
    (Conv.bytesToString (.slice (some ⟨b, off, none⟩) xs.length cap)).run P w = .ok (.string ⟨(bytesStr xs).toArray⟩) w := by
  have hl := run_loadCells_list (P := P) w ⟨b, off, none⟩ (xs.map (Value.int .u8)) (fun j v hj => by rw [add_lit, cell_at hb]; exact hel j v hj)
  rw [List.length_map] at hl
  rw [run_bytesToString w _ _ _ xs hl, push_list]
  rfl

theorem convert_bytes {S T : TypeId} (hS : tyIs P (.sl (.int .u8)) (.inl S) = true) (hT : tyIs P .str (.inl T) = true) {ad : Option Addr} {l c : Nat} :
    (convert S T (.slice ad l c)).run P w = (Conv.bytesToString (.slice ad l c)).run P w := by
  obtain ⟨E, h1, _, h2⟩ := tyIs_sl hS
  exact run_convert_bytes_string w S T E ad l c h1 (tyIs_int h2) (tyIs_str hT)

theorem convert_empty {S T : TypeId} (hS : tyIs P (.sl (.int .u8)) (.inl S) = true) (hT : tyIs P .str (.inl T) = true) {ad : Option Addr} {c : Nat} :
    (convert S T (.slice ad 0 c)).run P w = .ok (.string ⟨([] : List UInt8).toArray⟩) w := by
  rw [convert_bytes hS hT]
  cases ad with
  | none => rfl
  | some ad =>
    have := run_bytesToString (P := P) w ad 0 c [] (by simp [loadCells, loadCellsFrom])
    exact this

theorem convertR_sound (hΓ : CtxT Γ P) (hI : Inv n f F κ s a w) (hg : ∀ k c, g k = some c → s.get k = some c) {h : OH} {S T : TypeId} {cx : C} {vx : Value} {dst : Option Nat} {r : Res} {u : St}
    (hnew : ∀ m ∈ h.new, s.get (okey m) = none)
    (hx : RepC F κ s cx vx) (hr : convertR Γ h S T cx g dst = some r) (hu : r.run = some u) : Does P n f F κ s a w (convert S T vx) dst u := by
  unfold convertR at hr
  split at hr
  · rename_i k0 k k1 m hS hT
    cases hr; cases hu
    rw [rep_int] at hx; subst hx
    refine Gives.does hI ⟨_, _, rfl, ?_, rep_int.2 rfl, by simp [C.refs]⟩
    simp only [convert, Sem.run_bind, underlying_run (tyIs_int (hΓ.tab _ _ hS)), underlying_run (tyIs_int (hΓ.tab _ _ hT)), Result.andThen_ok, Conv.intToInt, Sem.run_pure]
  · rename_i l hS hT
    cases hr; cases hu
    rw [rep_str] at hx; subst hx
    refine Gives.does hI ⟨_, _, rfl, ?_, rep_str.2 rfl, by simp [C.refs]⟩
    simp only [convert, Sem.run_bind, underlying_run (tyIs_str (hΓ.tab _ _ hS)), underlying_run (tyIs_str (hΓ.tab _ _ hT)), Result.andThen_ok, Sem.run_pure]
  · rename_i xs hS hT
    cases hr; cases hu
    obtain ⟨ad, cap, rfl, hcap, hd⟩ := rep_sl.1 hx
    refine Gives.does hI ⟨_, _, rfl, ?_, rep_str.2 rfl, by simp [C.refs]⟩
    rcases hd with rfl | ⟨b, off, c, T', fr, rfl, hb, hel⟩
    · exact convert_empty (hΓ.tab _ _ hS) (hΓ.tab _ _ hT)
    · rw [convert_bytes (hΓ.tab _ _ hS) (hΓ.tab _ _ hT)]
      exact bytesToString_run (hI.frozen _ _ hb) (bytes_row hel)
  · rename_i hS hT
    cases hr; cases hu
    rw [rep_nil] at hx; obtain ⟨ad, rfl⟩ := hx
    exact Gives.does hI ⟨_, _, rfl, convert_empty (hΓ.tab _ _ hS) (hΓ.tab _ _ hT), rep_str.2 rfl, by simp [C.refs]⟩
  · rename_i ob hS hT
    split at hr
    · rename_i n0 xs hgo
      cases hr; cases hu
      have hso := hg _ _ hgo
      have hv := rep_own.1 hx _ _ _ hso
      have ho := hI.objs ob _ hso
      simp only [RepO] at ho
      refine Gives.does hI ⟨_, _, rfl, ?_, rep_str.2 rfl, by simp [C.refs]⟩
      cases hκ : κ ob with
      | none =>
        rw [hκ] at ho hv
        have := ho.2
        subst this
        obtain ⟨ad, rfl⟩ := hv
        exact convert_empty (hΓ.tab _ _ hS) (hΓ.tab _ _ hT)
      | some q =>
        obtain ⟨b, p, q⟩ := q
        rw [hκ] at ho hv
        simp only [SlAt] at hv
        subst hv
        obtain ⟨_, c, T', fr, hb, _, _, _, hel⟩ := ho
        rw [convert_bytes (hΓ.tab _ _ hS) (hΓ.tab _ _ hT)]
        exact bytesToString_run hb (bytes_row hel)
    · cases hr
  · rename_i l hS hT
    split at hr
    · rename_i o hho
      cases hr
      obtain ⟨y, hy, rfl⟩ := Res.run_bind hu
      rw [rep_str] at hx; subst hx
      have hno : s.get (okey o) = none := hnew o (by rw [hho]; simp)
      obtain ⟨E, hE, _, hE2⟩ := tyIs_sl (hΓ.tab _ _ hT)
      have hEu := tyIs_int hE2
      have hlt : l.length ≤ lim := by
        unfold chk at hy
        split at hy
        · rename_i hb; simpa using hb
        · cases hy
      have e1 : (⟨l.toArray⟩ : ByteArray).size = l.length := by simp [ByteArray.size]
      generalize hcap : (Question.appendCap l.length 0 E).cut (w.tape w.drawn (.appendCap l.length 0 E)) = cap
      have hge : l.length ≤ cap := by rw [← hcap]; simp [Question.cut]
      have helems : ((⟨l.toArray⟩ : ByteArray).data.map fun b => Value.int .u8 b.toNat) = ((strBytes l).map (Value.int .u8)).toArray := by
        simp [strBytes]
      have hrun : (convert S T (.string ⟨l.toArray⟩)).run P w = .ok (.slice (some ⟨w.heap.size, 0, none⟩) (strBytes l).length cap)
          (World.freeze { w with drawn := w.drawn + 1, heap := w.heap.push (.cells (((strBytes l).map (Value.int .u8)).toArray ++ Array.replicate (cap - l.length) (.int .u8 0)) E) }
            { block := w.heap.size, off := cap } 1) := by
        have hsl : (strBytes l).length = l.length := by simp [strBytes]
        have hfo : (Question.appendCap l.length 0 E).forced = false := rfl
        simp only [convert, Sem.run_bind, underlying_run (tyIs_str (hΓ.tab _ _ hS)), underlying_run hE, underlying_run hEu, Result.andThen_ok, Conv.stringToBytes, e1, run_choose, hfo, Bool.false_eq_true, if_false, hcap,
          newRow, run_newObj, Sem.run_pure, markStringish, run_shape, World.shape?, Array.getElem?_push_size, helems, run_freeze, hsl]
        have hsz : (((strBytes l).map (Value.int .u8)).toArray ++ Array.replicate (cap - l.length) (Value.int .u8 0)).size = cap := by
          simp [strBytes]; omega
        rw [hsz]
      have hsz : (((strBytes l).map (Value.int .u8)).toArray ++ Array.replicate (cap - l.length) (Value.int .u8 0)).size = cap := by
        simp [strBytes]; omega
      refine row_fresh hI hrun hno (freeze_chg push_chg) (freeze_get push_get) ?_ (by simp [strBytes]; exact hge) (by rw [hsz]; simp [Ty.size]) (fun _ => tyIs_sl5 (hΓ.tab _ _ hT) hE rfl) (fun j hj => ?_)
      · left; rw [hsz]; exact Nat.le_refl _
      · have hj' : j < l.length := by simpa [strBytes] using hj
        simp only [RepT, Ty.size, Nat.mul_one]
        apply List.ext_getElem?
        intro i
        rw [List.getElem?_take]
        match i with
        | 0 => simp [strBytes, hj', List.getElem?_append_left]
        | i + 1 => simp
    · cases hr
  · rename_i k0 k1 m hS hT
    cases hr; cases hu
    rw [rep_int] at hx; subst hx
    refine Gives.does hI ⟨_, _, rfl, ?_, rep_str.2 rfl, by simp [C.refs]⟩
    simp only [convert, Sem.run_bind, underlying_run (tyIs_int (hΓ.tab _ _ hS)), underlying_run (tyIs_str (hΓ.tab _ _ hT)), Result.andThen_ok, Conv.intToString, Sem.run_pure, runeStr]
  · cases hr

end
end Go.Fe
