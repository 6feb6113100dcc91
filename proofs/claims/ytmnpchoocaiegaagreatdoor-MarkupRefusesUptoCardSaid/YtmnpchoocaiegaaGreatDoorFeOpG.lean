/- Copies, literals. -/
import Derived.Test.YtmnpchoocaiegaaGreatDoorFeOpF
namespace Go.Fe
open Go

section
variable {Γ : Ctx} {P : Program} {n : Nat} {f : Frame0} {F : Froz} {κ : Conc} {s : St} {a : Act} {w : World} {g : Nat → Option C}

theorem copyR_sound (hΓ : CtxT Γ P) (hI : Inv n f F κ s a w) (hg : ∀ k c, g k = some c → s.get k = some c) {T ty : TypeId} {ts : Array TypeId} (hts : ts[0]? = some T)
    {cx cy : C} {vx vy : Value} {dst : Option Nat} {r : Res} {u : St}
    (hx : RepC F κ s cx vx) (hy : RepC F κ s cy vy) (hr : copyR Γ T cx cy g dst = some r) (hu : r.run = some u) : Does P n f F κ s a w (Builtin.copy_ ts ty #[vx, vy]) dst u := by
  unfold copyR at hr
  split at hr
  · rename_i e ob ht
    split at hr
    · rename_i m e' xs hgo
      split at hr
      · rename_i he
        subst he
        simp only [Option.map_eq_some_iff] at hr
        obtain ⟨ys, hys, rfl⟩ := hr
        cases hu
        obtain ⟨E, hT, hpos, hE⟩ := tyIs_sl (hΓ.tab _ _ ht)
        have hso := hg _ _ hgo
        have hv := rep_own.1 hx _ _ _ hso
        have ho := hI.objs ob _ hso
        simp only [RepO] at ho
        obtain ⟨hlen, hcs⟩ := src_sound (P := P) hI hg hpos hy hys
        obtain ⟨cs, hcsr, hels⟩ := hcs (Nat.min ys.length xs.length) (Nat.min_le_left _ _)
        have hol : (over xs ys).length = xs.length := by unfold over; simp; omega
        have fin : ∀ {w' : World}, (Builtin.copy_ ts ty #[vx, vy]).run P w = .ok (.int .i64 (Nat.min ys.length xs.length : Nat)) w' → Inv n f F κ (s.set (okey ob) (.vec m e' (over xs ys))) a w' →
            Does P n f F κ s a w (Builtin.copy_ ts ty #[vx, vy]) dst ((okey ob, .vec m e' (over xs ys)) :: Out1 dst (.val (.int .i64) (min ys.length xs.length : Nat))) := fun h1 h2 =>
          ⟨_, .val (.int .i64) (min ys.length xs.length : Nat), F, κ, _, [(okey ob, .vec m e' (over xs ys))], rfl, h1, Froz.le_refl F, h2, rep_int.2 rfl, by simp [C.refs]⟩
        cases hκ : κ ob with
        | none =>
          rw [hκ] at ho hv
          have hxs := ho.2
          subst hxs
          obtain ⟨ad, rfl⟩ := hv
          have hcs0 : cs = [] := List.eq_nil_of_length_eq_zero (by have := hels.len; rw [show Nat.min ys.length ([] : List e'.den).length = 0 from Nat.min_zero _] at this; simpa using this)
          subst hcs0
          refine fin (w' := w) ?_ ?_
          · cases ad <;> simp only [Builtin.copy_, hts, List.getElem?_toArray, List.getElem?_cons_zero, List.getElem?_cons_succ, Sem.run_bind, underlying_run hT, Result.andThen_ok, hlen, sizeOf_run hE, hcsr, Sem.run_pure, goInt]
            simp only [storeCells, Sem.run_pure, Result.andThen_ok]
          · refine hI.congr (fun k => ?_)
            rw [St.get_set]
            split
            · rename_i e; subst e
              rw [hso]; simp [over]
            · rfl
        | some q =>
          obtain ⟨b, p, q⟩ := q
          rw [hκ] at ho hv
          obtain ⟨h1, c, T', fr, hb, hfr, hq, hroom, hel⟩ := ho
          simp only [SlAt] at hv
          subst hv
          have hmn : Nat.min ys.length xs.length = min ys.length xs.length := rfl
          have hmin : Nat.min ys.length xs.length ≤ xs.length := Nat.min_le_right _ _
          have hcl : cs.length = Nat.min ys.length xs.length * e'.size := by rw [hels.len, List.length_take]; congr 1; omega
          have hfit : p + 0 + cs.length ≤ c.size := by
            rw [hcl]
            have : Nat.min ys.length xs.length * e'.size ≤ q * e'.size := Nat.mul_le_mul_right _ (by omega)
            omega
          have hst := storeCells_run (P := P) (off := p) cs 0 c w hb hfr hfit hels.one
          refine fin (w' := World.row w b (splice c (p + 0) cs) T' fr) ?_ ?_
          · simp only [Builtin.copy_, hts, List.getElem?_toArray, List.getElem?_cons_zero, List.getElem?_cons_succ, Sem.run_bind, underlying_run hT, Result.andThen_ok, hlen, sizeOf_run hE, hcsr, Sem.run_pure, goInt, hst]
          · refine hI.write hso rfl rfl hκ (fun n' t' zs hz => ?_) (by simp [C.refs]) row_chg (fun s' hle' => ?_)
            · cases hz
              exact ⟨xs, rfl, hol.symm⟩
            · simp only [RepO, hκ]
              refine ⟨fun m' hm' => by rw [hol]; exact h1 m' hm', _, _, _, row_get hb, by simpa [splice_size] using hfr, ⟨by rw [hol]; exact hq.1, hq.2⟩, by rw [splice_size]; exact hroom, fun k hk => ?_⟩
              rw [hol] at hk
              rw [Nat.add_zero] at hfit ⊢
              by_cases hky : k < ys.length
              · have hk2 : k < Nat.min ys.length xs.length := by omega
                have e1 : (over xs ys)[k]'(by rw [hol]; exact hk) = (ys.take (Nat.min ys.length xs.length))[k]'(by rw [List.length_take]; omega) := by
                  unfold over
                  rw [List.getElem_append_left (by rw [List.length_take]; omega)]
                  simp
                rw [e1]
                have e2 : k * e'.size + e'.size ≤ cs.length := by rw [hcl, ← Nat.succ_mul]; exact Nat.mul_le_mul_right _ (by omega)
                have hw := splice_at (c := c) (vs := cs) hfit
                have : ((splice c p cs).toList.drop (p + k * e'.size)).take e'.size = (cs.drop (k * e'.size)).take e'.size := by
                  conv => rhs; rw [← hw]
                  rw [List.drop_take, List.drop_drop, List.take_take, Nat.min_eq_left (by omega)]
                rw [this]
                exact hels.el k _
              · have e1 : (over xs ys)[k]'(by rw [hol]; exact hk) = xs[k] := by
                  unfold over
                  have hl : (ys.take xs.length).length = ys.length := by rw [List.length_take]; omega
                  rw [List.getElem_append_right (by omega)]
                  rw [List.getElem_drop]
                  congr 1
                  omega
                rw [e1]
                have e2 : cs.length ≤ k * e'.size := by rw [hcl]; exact Nat.mul_le_mul_right _ (by omega)
                rw [splice_behind hfit (by omega)]
                exact hel k hk
      · cases hr
    · cases hr
  · cases hr

/-! ### Literals -/
theorem zip_splice (off : Nat) : ∀ (vs : List Value) (k : Nat) (c : Array Value), (vs.zipIdx k).foldl (fun cs p => cs.setIfInBounds (off + p.2) p.1) c = splice c (off + k) vs
  | [], k, c => rfl
  | v :: r, k, c => by
    rw [List.zipIdx_cons, List.foldl_cons, zip_splice off r (k + 1)]
    rfl

theorem fill_step {place : Nat → Option (Nat × Nat)} {cells : Array Value} {i off size : Nat} {v : Value} {rest : List (Nat × Value)} (hp : place i = some (off, size)) (hs : v.cells.size = size) (hf : off + size ≤ cells.size) :
    Instr.fill place cells ((i, v) :: rest) = Instr.fill place (splice cells off v.cells.toList) rest := by
  simp only [Instr.fill, hp]
  rw [if_neg (by simp [hs]; omega)]
  have := zip_splice off v.cells.toList 0 cells
  rw [Nat.add_zero] at this
  rw [← this, ← Array.foldl_toList, Array.toList_zipIdx]

inductive Two (F : Froz) (κ : Conc) (s : St) : List (Nat × Value) → List (Nat × C) → Prop
  | nil : Two F κ s [] []
  | cons {i : Nat} {v : Value} {c : C} {ps : List (Nat × Value)} {qs : List (Nat × C)} : RepC F κ s c v → Two F κ s ps qs → Two F κ s ((i, v) :: ps) ((i, c) :: qs)

theorem parts_sound (hI : Inv n f F κ s a w) (hG : GlobOK Γ F) (hg : ∀ k c, g k = some c → s.get k = some c) : ∀ {ps : List (Nat × Operand)} {qs : List (Nat × C)}, partsC Γ g ps = some qs →
    Two F κ s (ps.map fun p => (p.1, a.eval p.2)) qs
  | [], qs, h => by
    simp only [partsC, Option.some.injEq] at h
    subst h
    exact .nil
  | (i, x) :: r, qs, h => by
    simp only [partsC] at h
    split at h
    · rename_i c d h1 h2
      cases h
      exact .cons (opnd_sound hI hG hg h1).1 (parts_sound hI hG hg h2)
    · cases h

theorem buildP_sound {t : Ty} {fs : Array Field} (hfl : Flds P t fs.toList 0) {places : Array (Nat × Nat)}
    (hpl : ∀ k d u, t.fld k = some (d, u) → places[k]? = some (d, u.size)) : ∀ {ps : List (Nat × Value)} {qs : List (Nat × C)} {x y : t.den} {cells : Array Value},
    Two F κ s ps qs → RepT F t x cells.toList → buildP t x qs = some y →
    ∃ cells', Instr.fill (places[·]?) cells ps = some cells' ∧ RepT F t y cells'.toList
  | _, _, x, y, cells, .nil, hr, h => by
    simp only [buildP, Option.some.injEq] at h
    subst h
    exact ⟨cells, rfl, hr⟩
  | _, _, x, y, cells, .cons (i := j) (v := v) (c := c) (ps := r) (qs := q) hv h2, hr, h => by
      simp only [buildP] at h
      split at h
      · rename_i z hz
        obtain ⟨d, u, hat, hvl, hone, hrz⟩ := setP_sound t [j] hr hz hv
        have hle := at_size t [j] hat
        rw [at_fld] at hat
        have hsz : v.cells.size = u.size := by simpa using hvl
        have hc : cells.size = t.size := by simpa using hr.length
        rw [fill_step (hpl _ _ _ hat) hsz (by omega)]
        refine buildP_sound hfl hpl h2 ?_ h
        rw [splice_list _ _ _ (by rw [hvl]; omega), hvl]
        exact hrz
      · cases h

theorem buildE_sound {e : Ty} {total : Nat} : ∀ {ps : List (Nat × Value)} {qs : List (Nat × C)} {k : Nat} {xs : List e.den} {cells : Array Value},
    Two F κ s ps qs → cells.size = total * e.size → k + xs.length ≤ total → buildE e k qs = some xs →
    ∃ cells', Instr.fill (fun i => some (i * e.size, e.size)) cells ps = some cells' ∧ cells'.size = cells.size ∧ cells'.toList.take (k * e.size) = cells.toList.take (k * e.size) ∧
      ∀ i (h : i < xs.length), RepT F e xs[i] ((cells'.toList.drop ((k + i) * e.size)).take e.size)
  | _, _, k, xs, cells, .nil, hs, hk, h => by
    simp only [buildE, Option.some.injEq] at h
    subst h
    exact ⟨cells, rfl, rfl, rfl, fun i hi => by simp at hi⟩
  | _, _, k, xs, cells, .cons (i := j) (v := v) (c := c) (ps := r) (qs := q) hv h2, hs, hk, h => by
      simp only [buildE] at h
      split at h
      · rename_i hjk
        subst hjk
        split at h
        · rename_i x ys hx hys
          cases h
          simp only [List.length_cons] at hk
          obtain ⟨vs, hvs, rfl⟩ := asVal_sound hv hx
          have hpc := pack_cells hvs
          have hsz : (pack e vs).cells.size = e.size := by
            have := hvs.length
            rw [← hpc] at this
            simpa using this
          have hle : j * e.size + e.size ≤ total * e.size := by rw [← Nat.succ_mul]; exact Nat.mul_le_mul_right _ (by omega)
          have hfit : j * e.size + (pack e vs).cells.toList.length ≤ cells.size := by rw [hpc, hvs.length]; omega
          rw [fill_step rfl hsz (by omega)]
          obtain ⟨cells', h3, h4, h5, h6⟩ := buildE_sound (cells := splice cells (j * e.size) (pack e vs).cells.toList) (k := j + 1) h2 (by rw [splice_size]; exact hs) (by omega) hys
          rw [splice_size] at h4
          refine ⟨cells', h3, h4, ?_, fun i hi => ?_⟩
          · have h7 := congrArg (List.take (j * e.size)) h5
            rw [List.take_take, List.take_take, Nat.succ_mul, Nat.min_eq_left (by omega)] at h7
            rw [h7]
            have := splice_before (c := cells) (p := j * e.size) (vs := (pack e vs).cells.toList) (i := 0) (n := j * e.size) hfit (by omega)
            simpa using this
          · match i with
            | 0 =>
              have h7 := congrArg (fun l => (List.drop (j * e.size) l).take e.size) h5
              rw [List.drop_take, List.drop_take, List.take_take, List.take_take, Nat.succ_mul, Nat.min_eq_left (by omega)] at h7
              simp only [Nat.add_zero, List.getElem_cons_zero]
              rw [h7]
              have := splice_at (c := cells) (p := j * e.size) (vs := (pack e vs).cells.toList) hfit
              rw [hpc, hvs.length] at this
              rw [hpc, this]
              exact hvs
            | i + 1 =>
              simp only [List.length_cons] at hi
              have := h6 i (by omega)
              rw [show j + (i + 1) = j + 1 + i by omega]
              simpa using this
        · cases h
      · cases h

/-- The places of a struct's fields, as the machine finds them. -/
theorem places_run {t : Ty} {fs : Array Field} (hfl : Flds P t fs.toList 0) : ∃ places : Array (Nat × Nat),
    (fs.mapM fun fd => do pure (fd.offset, ← Go.sizeOf fd.type) : Sem (Array (Nat × Nat))).run P w = .ok places w ∧ ∀ k d u, t.fld k = some (d, u) → places[k]? = some (d, u.size) := by
  have key : ∀ (t : Ty) (l : List Field) (off : Nat), Flds P t l off → ∃ pl : List (Nat × Nat), (l.mapM fun fd => do pure (fd.offset, ← Go.sizeOf fd.type) : Sem (List (Nat × Nat))).run P w = .ok pl w ∧
      pl.length = l.length ∧ ∀ k d u, t.fld k = some (d, u) → pl[k]? = some (off + d, u.size) := by
    intro t
    induction t with
    | unit =>
      intro l off h
      simp only [Flds] at h
      subst h
      exact ⟨[], rfl, rfl, by simp [Ty.fld]⟩
    | pair x y _ ih =>
      intro l off h
      obtain ⟨fd, r, rfl, h1, h2, h3⟩ := h
      obtain ⟨pl, hp, hn, hk⟩ := ih r _ h3
      refine ⟨(off, x.size) :: pl, ?_, by simp [hn], fun k d u hk' => ?_⟩
      · simp only [List.mapM_cons, Sem.run_bind, sizeOf_run h2, Result.andThen_ok, Sem.run_pure, hp, h1]
      · match k with
        | 0 =>
          simp only [Ty.fld, Option.some.injEq, Prod.mk.injEq] at hk'
          obtain ⟨rfl, rfl⟩ := hk'
          simp
        | k + 1 =>
          simp only [Ty.fld, Option.map_eq_some_iff] at hk'
          obtain ⟨⟨d', u'⟩, hk', he⟩ := hk'
          cases he
          simp [hk _ _ _ hk', Nat.add_assoc]
    | mu x ih =>
      intro l off h
      obtain ⟨r, fd, rfl, h1, h2, h3⟩ := h
      obtain ⟨pl, hp, hn, hk⟩ := ih r _ h1
      have hc := h1.count
      refine ⟨pl ++ [(off + x.size, 1)], ?_, by simp [hn], fun k d u hk' => ?_⟩
      · have h4 := sizeOf_run h3 w
        simp only [Ty.size] at h4
        rw [List.mapM_append]
        simp only [List.mapM_cons, List.mapM_nil, Sem.run_bind, hp, Result.andThen_ok, h4, Sem.run_pure, h2]
      · simp only [Ty.fld] at hk'
        split at hk'
        · rename_i e
          cases hk'
          rw [e, ← hc, ← hn, List.getElem?_concat_length]
          rfl
        · have := hk _ _ _ hk'
          rw [List.getElem?_append_left (List.getElem?_eq_some_iff.1 this).1]
          exact this
    | _ => intro l off h; simp [Flds] at h
  obtain ⟨pl, hp, _, hk⟩ := key t fs.toList 0 hfl
  refine ⟨pl.toArray, ?_, fun k d u h => by simpa using hk k d u h⟩
  have : (fs.mapM fun fd => do pure (fd.offset, ← Go.sizeOf fd.type) : Sem (Array (Nat × Nat))) = List.toArray <$> (fs.toList.mapM fun fd => do pure (fd.offset, ← Go.sizeOf fd.type)) := by
    rw [← Array.mapM_eq_mapM_toList] 
  rw [this, Sem.run_map, hp]
  rfl

end
end Go.Fe
