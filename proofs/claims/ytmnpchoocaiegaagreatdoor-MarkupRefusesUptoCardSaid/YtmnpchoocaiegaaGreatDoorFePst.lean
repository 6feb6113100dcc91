/- Structs of parts of one cell, some of them pointers, and slices of such. -/
import Derived.Test.YtmnpchoocaiegaaGreatDoorFeOpH
namespace Go.Fe
open Go

theorem set_same : ∀ (s : St) {k : Nat} {c : C}, s.get k = some c → s.set k c = s
  | [], k, c, h => by simp [St.get] at h
  | (j, d) :: r, k, c, h => by
    simp only [St.get] at h
    simp only [St.set]
    split at h
    · rename_i e
      cases h
      rw [if_pos e, e]
    · rename_i e
      rw [if_neg e, set_same r h]

section
variable {Γ : Ctx} {P : Program} {n : Nat} {f : Frame0} {F : Froz} {κ : Conc} {s : St} {a : Act} {w : World} {g : Nat → Option C}

theorem part_fn {k : Nat} {c : C} (h : (C.fn k c).part = true) : c = .unit := by
  cases c <;> simp [C.part] at h
  rfl
theorem part_lone {c : C} (h : c.part = true) : c.lone = true ∧ c.cells = 1 ∧ c.aggV = false := by
  cases c with
  | fn k c => exact ⟨rfl, rfl, rfl⟩
  | _ => ?_
  all_goals simp only [C.part, Bool.false_eq_true] at h
  all_goals simp only [C.lone, C.cells, C.aggV, true_and, and_self]
  rename_i t x
  have : t.agg = false := by simpa using h
  exact ⟨size_one this, this⟩
theorem partXG {c : C} (h : c.part = true) {vs : List Value} : RepX F κ s c vs ↔ RepG F κ s c vs := by
  cases c with
  | fn k c =>
    obtain rfl := part_fn h
    simp only [RepX, RepG, RepL, true_and]
    constructor
    · rintro ⟨⟨us, rfl, rfl⟩, _⟩; rfl
    · rintro rfl; exact ⟨⟨[], rfl, rfl⟩, rfl⟩
  | _ => ?_
  all_goals simp only [C.part, Bool.false_eq_true] at h <;> simp only [RepX, RepG, RepL]
  · constructor
    · rintro ⟨h, _⟩; exact h
    · rintro ⟨v, rfl, h⟩; exact ⟨⟨v, rfl, h⟩, rfl⟩
  · constructor
    · rintro ⟨h, _⟩; exact h
    · rintro ⟨v, rfl⟩; exact ⟨⟨v, rfl⟩, rfl⟩
theorem part_repC {c : C} {v : Value} (h : c.part = true) (hr : RepG F κ s c [v]) : RepC F κ s c v := by
  have hx := (partXG h).2 hr
  cases c with
  | fn k c => exact ((by simpa only [RepX] using hx : RepL F κ s (.fn k c) [v] ∧ [v].length = 1)).1
  | val t x =>
    simp only [RepX] at hx
    have hna : t.agg = false := by simpa [C.part] using h
    exact rep_val.2 ⟨[v], hx, by simp [pack, hna]⟩
  | ptr o off => simp only [RepX] at hx; exact hx.1
  | dead => simp only [RepX] at hx; exact hx.1
  | _ => simp [C.part] at h
theorem flatXG : ∀ {c : C} {vs : List Value}, c.flatP = true → (RepX F κ s c vs ↔ RepG F κ s c vs) := by
  intro c
  induction c with
  | cons a b _ ihb =>
    intro vs h
    simp only [C.flatP, Bool.and_eq_true] at h
    simp only [RepX, RepG]
    constructor
    · rintro ⟨c1, c2, e, h1, h2⟩; exact ⟨c1, c2, e, (partXG h.1).1 h1, (ihb h.2).1 h2⟩
    · rintro ⟨c1, c2, e, h1, h2⟩; exact ⟨c1, c2, e, (partXG h.1).2 h1, (ihb h.2).2 h2⟩
  | unit => intro vs _; simp only [RepX, RepG]
  | _ => intro vs h; simp [C.flatP] at h
theorem part_len {c : C} (h : c.part = true) {vs : List Value} (hr : RepG F κ s c vs) : vs.length = 1 := by
  have := cells_len (part_lone h).1 ((partXG h).2 hr)
  rw [this, (part_lone h).2.1]
theorem flat_len : ∀ {c : C} {vs : List Value}, c.flatP = true → RepG F κ s c vs → vs.length = c.count := by
  intro c
  induction c with
  | cons a b _ ihb =>
    intro vs h hr
    simp only [C.flatP, Bool.and_eq_true] at h
    simp only [RepG] at hr
    obtain ⟨c1, c2, rfl, h1, h2⟩ := hr
    have e1 := part_len h.1 h1
    have e2 := ihb h.2 h2
    simp only [List.length_append, C.count]
    omega
  | unit => intro vs _ hr; simp only [RepG] at hr; subst hr; rfl
  | _ => intro vs h; simp [C.flatP] at h
theorem flat_list {c : C} (h : c.flatP = true) : c.isList = true := by
  induction c with
  | cons a b _ ihb =>
    simp only [C.flatP, Bool.and_eq_true] at h
    simp only [C.isList]
    exact ihb h.2
  | unit => rfl
  | _ => simp [C.flatP] at h
theorem flat_app : ∀ {c d : C}, c.flatP = true → d.flatP = true → (appX c d).flatP = true ∧ (appX c d).count = c.count + d.count := by
  intro c
  induction c with
  | cons a b _ ihb =>
    intro d h hd
    simp only [C.flatP, Bool.and_eq_true] at h
    obtain ⟨i1, i2⟩ := ihb h.2 hd
    simp only [appX, C.flatP, C.count, Bool.and_eq_true, i2]
    exact ⟨⟨h.1, i1⟩, by omega⟩
  | unit => intro d _ hd; simp only [appX, C.count]; exact ⟨hd, by omega⟩
  | _ => intro d h; simp [C.flatP] at h
theorem flat_one (hg : ∀ k c, g k = some c → s.get k = some c) : ∀ {c : C} {vs : List Value}, c.flatP = true → liveP g c = true → RepG F κ s c vs → ∀ v ∈ vs, v.oneCell' = true := by
  intro c
  induction c with
  | cons a b _ ihb =>
    intro vs h hl hr v hv
    simp only [C.flatP, Bool.and_eq_true] at h
    simp only [liveP, Bool.and_eq_true] at hl
    simp only [RepG] at hr
    obtain ⟨c1, c2, rfl, h1, h2⟩ := hr
    rcases List.mem_append.1 hv with hv | hv
    · have e1 := part_len h.1 h1
      match c1, e1 with
      | [v1], _ =>
        rw [List.mem_singleton] at hv
        subst hv
        have hx := (partXG h.1).2 h1
        obtain ⟨p1, p2, p3⟩ := part_lone h.1
        have hp := h.1
        have hll := hl.1
        cases a with
        | val t x =>
          simp only [RepG] at h1
          exact h1.one _ (by simp)
        | ptr o off =>
          simp only [RepG] at h1
          simp only [liveC] at hll
          obtain ⟨v', e, h3⟩ := h1
          cases e
          cases hgo : g (okey o) with
          | none => rw [hgo] at hll; simp at hll
          | some d =>
            rw [hgo] at hll
            obtain ⟨b', p, q, _, rfl⟩ := h3 d (hg _ _ hgo) (by rintro rfl; simp [C.isObj] at hll)
            rfl
        | dead => simp [liveC] at hll
        | fn k c =>
          simp only [RepG] at h1
          obtain ⟨_, h1⟩ := h1
          cases h1
          rfl
        | _ => simp [C.part] at hp
    · exact ihb h.2 hl.2 h2 v hv
  | unit => intro vs _ _ hr; simp only [RepG] at hr; subst hr; intro v hv; cases hv
  | _ => intro vs h; simp [C.flatP] at h
theorem takeP_sound : ∀ {k : Nat} {r c : C} {cs : List Value}, RepX F κ s r cs → takeP k r = some c → c.flatP = true ∧ c.count = k ∧ RepG F κ s c (cs.take k) ∧ k ≤ cs.length ∧ ∀ o ∈ c.refs, o ∈ r.refs
  | 0, r, c, cs, h, ht => by
    simp only [takeP, Option.some.injEq] at ht
    subst ht
    exact ⟨rfl, rfl, by simp [RepG], Nat.zero_le _, fun o ho => by simp [C.refs] at ho⟩
  | k + 1, .cons a b, c, cs, h, ht => by
    simp only [takeP] at ht
    split at ht
    · rename_i hp
      simp only [Option.map_eq_some_iff] at ht
      obtain ⟨d, hd, rfl⟩ := ht
      simp only [RepX] at h
      obtain ⟨c1, c2, rfl, h1, h2⟩ := h
      have h1' := (partXG hp).1 h1
      have e1 := part_len hp h1'
      obtain ⟨i1, i2, i3, i4, i5⟩ := takeP_sound h2 hd
      match c1, e1 with
      | [v1], _ =>
        refine ⟨by simp only [C.flatP, hp, i1, Bool.and_self], by simp only [C.count, i2], ?_, by simp; omega, fun o ho => ?_⟩
        · simp only [RepG]
          exact ⟨[v1], _, rfl, h1', i3⟩
        · simp only [C.refs, List.mem_append] at ho ⊢
          exact ho.imp id (i5 o)
    · cases ht
theorem deadP_sound : ∀ {k : Nat} {cs : List Value}, cs.length = k → RepX F κ s (deadP k) cs ∧ (deadP k).refs = [] ∧ (deadP k).bty = none
  | 0, cs, h => by
    have : cs = [] := List.length_eq_zero_iff.1 h
    subst this
    exact ⟨by simp [deadP, RepX], rfl, rfl⟩
  | k + 1, cs, h => by
    match cs, h with
    | v :: r, h =>
      obtain ⟨i1, i2, _⟩ := deadP_sound (k := k) (cs := r) (by simpa using h)
      refine ⟨?_, by simp [deadP, C.refs, i2], rfl⟩
      simp only [deadP, RepX]
      exact ⟨[v], r, rfl, by simp [RepL], i1⟩
theorem flat_bty {c : C} (h : c.flatP = true) : c.bty = none := by
  cases c with
  | cons a b =>
    simp only [C.flatP, Bool.and_eq_true] at h
    cases a <;> simp_all [C.part, C.bty]
  | _ => rfl

/-! ### How types of such structs run -/
theorem pst_size {T : TypeId} {k : Nat} (h : PstInfo P T k) (w : World) : (Go.sizeOf T).run P w = .ok k w := by
  obtain ⟨i, cs, hi, hk, _, _⟩ := h.info
  simp [Go.sizeOf, typeInfo_run hi, hk]
theorem pst_agg {T : TypeId} {k : Nat} (h : PstInfo P T k) (w : World) : (isAgg T).run P w = .ok true w := by
  obtain ⟨fs, hfs, _⟩ := h.flds
  simp [isAgg, underlying_run hfs]
theorem pst_load {T : TypeId} {k : Nat} (h : PstInfo P T k) {b off : Nat} {c : Array Value} {E : TypeId} {fr : Nat × Nat}
    (hb : w.heap[b]? = some (.cells c E fr)) {cs : List Value} (hcs : (c.toList.drop off).take k = cs) (hl : cs.length = k) :
    (Instr.loadAt T (.pointer (some ⟨b, off, none⟩))).run P w = .ok (.agg cs.toArray) w := by
  have hcell : ∀ j v, cs[j]? = some v → w.cell? ((⟨b, off, none⟩ : Addr).add j) = some v := by
    intro j v hj
    rw [add_lit, cell_at hb]
    rw [← hcs, List.getElem?_take] at hj
    split at hj
    · rw [List.getElem?_drop] at hj; simpa using hj
    · cases hj
  have := run_loadCells_list (P := P) w ⟨b, off, none⟩ cs hcell
  rw [hl] at this
  simp [Instr.loadAt, Instr.sureAddr, loadVar, pst_agg h, pst_size h, this]
theorem pp_load {T E' : TypeId} (h : P.underlying T = some (.pointer E')) {b off : Nat} {c : Array Value} {E : TypeId} {fr : Nat × Nat}
    (hb : w.heap[b]? = some (.cells c E fr)) {v : Value} (hv : c.toList[off]? = some v) :
    (Instr.loadAt T (.pointer (some ⟨b, off, none⟩))).run P w = .ok v w := by
  have hc : w.cell? ⟨b, off, none⟩ = some v := by rw [cell_at hb]; simpa using hv
  simp [Instr.loadAt, Instr.sureAddr, loadVar, isAgg, underlying_run h, hc]
theorem pst_store {T : TypeId} {k : Nat} (h : PstInfo P T k) {b off : Nat} {c : Array Value} {E : TypeId} {fr : Nat × Nat}
    (hb : w.heap[b]? = some (.cells c E fr)) (hf : c.size ≤ fr.1 ∨ fr.2 ≤ fr.1) {v : Value} (hl : v.cells.toList.length = k) (hs : off + k ≤ c.size)
    (h1 : ∀ u ∈ v.cells.toList, u.oneCell' = true) :
    (Instr.storeAt T (.pointer (some ⟨b, off, none⟩)) v).run P w = .ok () (World.row w b (splice c off v.cells.toList) E fr) := by
  have hsz : v.cells.size = k := by simpa using hl
  have := storeCells_run (P := P) (off := off) v.cells.toList 0 c w hb hf (by simpa [hsz] using hs) h1
  simp only [Instr.storeAt, Instr.sureAddr, storeVar, Sem.run_bind, Sem.run_pure, Result.andThen_ok, pst_size h, hsz, ne_eq, not_true_eq_false, if_false, Nat.add_zero] at this ⊢
  exact this

theorem pLoadR_sound (hΓ : CtxT Γ P) (hI : Inv n f F κ s a w) (hg : ∀ k c, g k = some c → s.get k = some c) {T : TypeId} {cx : C} {vx : Value} {dst : Option Nat} {r : Res} {u : St}
    (hx : RepC F κ s cx vx) (h : pLoadR Γ T cx g dst = some r) (hu : r.run = some u) : Gives P F κ s w (Instr.loadAt T vx) dst u := by
  unfold pLoadR at h
  split at h
  · rename_i ob off
    split at h
    · rename_i x hgo
      have hso := hg _ _ hgo
      obtain ⟨b, p, q, hκ, rfl⟩ := rep_ptr.1 hx _ hso (by simp)
      have ho := hI.objs ob _ hso
      simp only [RepO] at ho
      obtain ⟨b', c, T', fr, hκ', hb, _, hX, _⟩ := ho
      rw [hκ] at hκ'
      cases hκ'
      split at h
      · rename_i rest hdrop
        obtain ⟨hR, href⟩ := dropX_sound x off hX hdrop
        split at h
        · rename_i k hk
          simp only [Option.map_eq_some_iff] at h
          obtain ⟨d, hd, rfl⟩ := h
          cases hu
          obtain ⟨i1, i2, i3, i4, i5⟩ := takeP_sound hR hd
          have hl : ((c.toList.drop off).take k).length = k := by rw [List.length_take]; omega
          have hrun := pst_load (P := P) (pstIs_spec (hΓ.pst _ _ hk)) hb rfl hl
          rw [Nat.zero_add]
          refine ⟨_, .agg d, rfl, hrun, ?_, fun o ho => ?_⟩
          · simp only [RepL]
            exact ⟨_, rfl, i3⟩
          · exact hI.closed _ _ hso o (by simp only [C.refs] at ho ⊢; exact href o (i5 o ho))
        · split at h
          · rename_i hpp
            split at h
            · rename_i a1 b1
              split at h
              · rename_i hp
                cases h; cases hu
                obtain ⟨E', hE'⟩ := ppIs_spec (hΓ.pp _ hpp)
                simp only [RepX] at hR
                obtain ⟨c1, c2, hc, h1, h2⟩ := hR
                have h1' := (partXG hp).1 h1
                match c1, part_len hp h1' with
                | [v], _ =>
                  have hv : c.toList[off]? = some v := by
                    have := congrArg (fun l => l[0]?) hc
                    simpa using this
                  rw [Nat.zero_add]
                  refine ⟨v, a1, rfl, pp_load hE' hb hv, ?_, fun o ho => ?_⟩
                  · exact part_repC hp h1'
                  · exact hI.closed _ _ hso o (by simp only [C.refs]; exact href o (by simp only [C.refs, List.mem_append]; exact .inl ho))
              · cases h
            · cases h
          · cases h
      · cases h
    · cases h
  · cases h

theorem pStoreR_sound (hΓ : CtxT Γ P) (hI : Inv n f F κ s a w) (hg : ∀ k c, g k = some c → s.get k = some c) {T : TypeId} {cx cv : C} {vx vv : Value} {r : Res} {u : St}
    (hx : RepC F κ s cx vx) (hv : RepC F κ s cv vv) (hvr : ∀ o ∈ cv.refs, (s.get (okey o)).isSome = true) (hr : pStoreR Γ T cx cv g = some r) (hu : r.run = some u) :
    Stores P n f F κ s a w (Instr.storeAt T vx vv) u := by
  unfold pStoreR at hr
  split at hr
  · rename_i ob off pc k hk
    split at hr
    · rename_i x hgo
      have hso := hg _ _ hgo
      obtain ⟨b, p, q, hκ, rfl⟩ := rep_ptr.1 hx _ hso (by simp)
      have ho := hI.objs ob _ hso
      simp only [RepO] at ho
      obtain ⟨b', c, T', fr, hκ', hb, hfr, hX, hB⟩ := ho
      rw [hκ] at hκ'
      cases hκ'
      split at hr
      · rename_i hc
        simp only [Option.bind_eq_some_iff] at hr
        obtain ⟨x', hput, hr⟩ := hr
        split at hr
        rotate_left
        · cases hr
        rename_i hbt
        cases hr
        cases hu
        simp only [RepL] at hv
        obtain ⟨vs, hvv, hG⟩ := hv
        have hvv : vv = .agg vs.toArray := by simpa using hvv
        have hvs : vv.cells.toList = vs := by rw [hvv]; simp [Value.cells]
        have hl := flat_len hc.1 hG
        have h1 := flat_one hg hc.1 hc.2.2 hG
        obtain ⟨i1, i2, i3⟩ := putX_sound x off pc hX ((flatXG hc.1).2 hG) hput
        have hfit : 0 + off + k ≤ c.size := by
          have : off + vs.length ≤ c.size := by simpa using i1
          omega
        have hrun := pst_store (P := P) (pstIs_spec (hΓ.pst _ _ hk)) hb hfr (v := vv) (off := 0 + off) (by rw [hvs]; omega) hfit (by rw [hvs]; exact h1)
        rw [hvs] at hrun
        refine ⟨κ, _, hrun, ?_⟩
        simp only [St.upd]
        refine hI.write hso rfl rfl hκ (fun n' t' zs hz => by cases hz) (fun o' ho' => ?_) row_chg (fun s' hle' => ?_)
        · simp only [C.refs] at ho'
          rcases i3 o' ho' with h | h
          · exact hI.closed _ _ hso o' (by simpa only [C.refs] using h)
          · exact hvr o' (by simpa only [C.refs] using h)
        · simp only [RepO]
          refine ⟨b, _, _, _, hκ, row_get hb, by simpa [splice_size] using hfr, ?_⟩
          rw [splice_list _ _ _ (by omega), Nat.zero_add]
          exact ⟨RepX.mono (Froz.le_refl F) _ _ (fun o _ => hle' o) i2, fun T0 h => by rw [hbt] at h; cases h⟩
      · cases hr
    · cases hr
  · cases hr

theorem pFieldR_sound (hΓ : CtxT Γ P) (hg : ∀ k c, g k = some c → s.get k = some c) {T : TypeId} {cx : C} {vx : Value} {j : Nat} {dst : Option Nat} {r : Res} {u : St}
    (hx : RepC F κ s cx vx) (hxr : ∀ o ∈ cx.refs, (s.get (okey o)).isSome = true) (h : pFieldR Γ T cx j g dst = some r) (hu : r.run = some u) : Gives P F κ s w (Instr.fieldAt T vx j) dst u := by
  unfold pFieldR at h
  split at h
  · rename_i ob off k hk
    split at h
    · rename_i x hc
      split at h
      · rename_i hj
        cases h; cases hu
        obtain ⟨b, p, q, hκ, rfl⟩ := rep_ptr.1 hx _ (hg _ _ hc) (by simp)
        obtain ⟨fs, hfs, hsz, hfl⟩ := (pstIs_spec (hΓ.pst _ _ hk)).flds
        obtain ⟨hoff, i, hi, h1⟩ := hfl j (by omega)
        have hf' : fs[j]? = some fs[j] := Array.getElem?_eq_getElem (by omega)
        have hs : (Go.sizeOf fs[j].type).run P w = .ok 1 w := by simp [Go.sizeOf, typeInfo_run hi, h1]
        refine ⟨.pointer (some ⟨b, p + off + j, none⟩), _, rfl, ?_, rep_ptr.2 ?_, by simpa [C.refs] using hxr⟩
        · simp only [Instr.fieldAt, Sem.run_bind, underlying_run hfs, Result.andThen_ok, hf', Instr.sureAddr, Sem.run_pure, fieldPlace, hs, Nat.one_ne_zero, if_false, add_lit, hoff]
        · intro c' hc' _
          exact ⟨b, p, q, hκ, by rw [Nat.add_assoc]⟩
      · cases h
    · cases h
  · cases h

theorem pIndexR_sound (hΓ : CtxT Γ P) (hg : ∀ k c, g k = some c → s.get k = some c) {T : TypeId} {cx ci : C} {vx vi : Value} {dst : Option Nat} {r : Res} {u : St}
    (hx : RepC F κ s cx vx) (hxr : ∀ o ∈ cx.refs, (s.get (okey o)).isSome = true) (hi : RepC F κ s ci vi) (h : pIndexR Γ T cx ci g dst = some r) (hu : r.run = some u) : Gives P F κ s w (Instr.indexAt T vx vi) dst u := by
  unfold pIndexR at h
  split at h
  · rename_i ob m k j k' hj hk
    split at h
    · rename_i he
      subst he
      split at h
      · rename_i x hgo
        cases h
        obtain ⟨kk, rfl⟩ := asInt64_sound hi hj
        obtain ⟨y, h1, rfl⟩ := Res.run_bind hu
        obtain ⟨h0, hl⟩ := inb_spec h1
        obtain ⟨E, hT, hE⟩ := pslIs_spec (hΓ.psl _ _ hk)
        simp only [RepL] at hx
        obtain ⟨v, hv, hx⟩ := hx
        have hv : vx = v := by simpa using hv
        obtain ⟨b, p, q, hκ, rfl⟩ := hx _ (hg _ _ hgo) (by simp)
        subst hv
        refine ⟨.pointer (some ⟨b, p + j.toNat * k', none⟩), _, rfl, ?_, rep_ptr.2 ?_, by simpa [C.refs] using hxr⟩
        · simp only [Instr.indexAt, asIntOf, Sem.run_bind, Sem.run_pure, Result.andThen_ok, underlying_run hT, pst_size hE, add_lit, h0, hl, and_self, if_true]
        · intro c' hc' _
          exact ⟨b, p, q, hκ, rfl⟩
      · cases h
    · cases h
  · cases h

theorem pLenR_sound (hΓ : CtxT Γ P) (hg : ∀ k c, g k = some c → s.get k = some c) {T ty : TypeId} {ts : Array TypeId} (hts : ts[0]? = some T) {cx : C} {vx : Value} {dst : Option Nat} {r : Res} {u : St}
    (hx : RepC F κ s cx vx) (h : pLenR Γ T cx g dst = some r) (hu : r.run = some u) : Gives P F κ s w (Builtin.len_ ts ty #[vx]) dst u := by
  unfold pLenR at h
  split at h
  · rename_i o m k _ hk
    split at h
    · rename_i x hgo
      cases h; cases hu
      obtain ⟨E, hT, _⟩ := pslIs_spec (hΓ.psl _ _ hk)
      simp only [RepL] at hx
      obtain ⟨v, hv, hx⟩ := hx
      have hv : vx = v := by simpa using hv
      obtain ⟨b, p, q, hκ, rfl⟩ := hx _ (hg _ _ hgo) (by simp)
      subst hv
      refine ⟨_, _, rfl, ?_, rep_int.2 rfl, by simp [C.refs]⟩
      simp only [Builtin.len_, hts, List.getElem?_toArray, List.getElem?_cons_zero, Sem.run_bind, underlying_run hT, Result.andThen_ok, Sem.run_pure, goInt]
    · cases h
  · cases h

theorem seqP_fill {place : Nat → Option (Nat × Nat)} (hg : ∀ k c, g k = some c → s.get k = some c) : ∀ {ps : List (Nat × Value)} {qs : List (Nat × C)} {i : Nat} {c : C} {cells : Array Value} {pre rest : List Value}, Two F κ s ps qs →
    seqP i qs = some c → liveP g c = true → cells.toList = pre ++ rest → pre.length = i → rest.length = c.count → (∀ j, j < i + c.count → place j = some (j, 1)) →
    ∃ cells' us, Instr.fill place cells ps = some cells' ∧ cells'.toList = pre ++ us ∧ RepG F κ s c us ∧ c.flatP = true
  | _, _, i, c, cells, pre, rest, .nil, hs, _, hc, hp, hr, _ => by
    simp only [seqP, Option.some.injEq] at hs
    subst hs
    have : rest = [] := List.length_eq_zero_iff.1 hr
    subst this
    exact ⟨cells, [], rfl, hc, by simp [RepG], rfl⟩
  | _, _, i, c, cells, pre, rest, .cons (i := j) (v := v) (c := d) (ps := r) (qs := q) hv h2, hs, hl, hc, hp, hr, hpl => by
    simp only [seqP] at hs
    split at hs
    · rename_i hj
      obtain ⟨rfl, hpart⟩ := hj
      simp only [Option.map_eq_some_iff] at hs
      obtain ⟨c', hc', rfl⟩ := hs
      simp only [liveP, Bool.and_eq_true] at hl
      simp only [C.count] at hr hpl
      obtain ⟨p1, p2, p3⟩ := part_lone hpart
      obtain ⟨l1, l2⟩ := live_one hg p1 p2 p3 hl.1 hv
      have hcells : v.cells = #[v] := by cases v <;> simp_all [Value.cells, Value.oneCell']
      match rest, hr with
      | z :: rest', hr =>
        have hsz : cells.size = pre.length + (rest'.length + 1) := by
          have := congrArg List.length hc
          simpa using this
        have hsp : (splice cells j v.cells.toList).toList = (pre ++ [v]) ++ rest' := by
          rw [splice_list _ _ _ (by rw [hcells]; simp; omega), hcells, hc]
          subst hp
          simp
        obtain ⟨cells', us, h3, h4, h5, h6⟩ := seqP_fill hg h2 hc' hl.2 hsp (by simp; omega) (by simpa using hr) (fun k hk => hpl k (by omega))
        refine ⟨cells', v :: us, ?_, by rw [h4]; simp, ?_, by simp only [C.flatP, hpart, h6, Bool.and_self]⟩
        · rw [fill_step (hpl j (by omega)) (by rw [hcells]; rfl) (by omega)]
          exact h3
        · simp only [RepG]
          refine ⟨[v], us, rfl, (partXG hpart).1 ?_, h5⟩
          simp only [RepX] at l2
          obtain ⟨c1, c2, e, h7, h8⟩ := l2
          subst h8
          rw [List.append_nil] at e
          rw [← e] at h7
          exact h7
    · cases hs

theorem pBuildR_sound (hΓ : CtxT Γ P) (hI : Inv n f F κ s a w) (hG : GlobOK Γ F) (hg : ∀ k c, g k = some c → s.get k = some c) {T : TypeId} {ps : Array (Nat × Operand)} {qs : List (Nat × C)} (hqs : partsC Γ g ps.toList = some qs)
    (hqr : ∀ c, seqP 0 qs = some c → ∀ o ∈ c.refs, (s.get (okey o)).isSome = true) {dst : Option Nat} {r : Res} {u : St} (h : pBuildR Γ T qs g dst = some r) (hu : r.run = some u) :
    Gives P F κ s w (Instr.build T (ps.map fun (i, x) => (i, a.eval x))) dst u := by
  unfold pBuildR at h
  split at h
  · rename_i k c hk hc
    split at h
    · rename_i hcl
      cases h; cases hu
      obtain ⟨rfl, hl⟩ := hcl
      have hT := pstIs_spec (hΓ.pst _ _ hk)
      obtain ⟨i, cs, hi, hisz, hz, hcs⟩ := hT.info
      obtain ⟨fs, hfs, hsz, hfl⟩ := hT.flds
      have htwo := parts_sound (a := a) hI hG hg hqs
      have key : ∀ (l : List Field) (o : Nat), (∀ j (h : j < l.length), l[j].offset = o + j ∧ ∃ i, P.info? l[j].type = some i ∧ i.size = 1) →
          (l.mapM fun fd => do pure (fd.offset, ← Go.sizeOf fd.type) : Sem (List (Nat × Nat))).run P w = .ok ((List.range l.length).map fun j => (o + j, 1)) w := by
        intro l
        induction l with
        | nil => intro o _; rfl
        | cons fd l ih =>
          intro o hh
          obtain ⟨h1, i', h2, h3⟩ := hh 0 (by simp)
          have hs : (Go.sizeOf fd.type).run P w = .ok 1 w := by
            have h2' : P.info? fd.type = some i' := h2
            simp [Go.sizeOf, typeInfo_run h2', h3]
          have := ih (o + 1) (fun j hj => by
            have := hh (j + 1) (by simpa using hj)
            simp only [List.getElem_cons_succ] at this
            exact ⟨by omega, this.2⟩)
          simp only [List.mapM_cons, Sem.run_bind, hs, Result.andThen_ok, Sem.run_pure, this]
          have h1' : fd.offset = o := by simpa using h1
          rw [h1', List.length_cons, List.range_succ_eq_map]
          simp only [List.map_cons, List.map_map, Nat.add_zero]
          congr 3
          funext j
          simp only [Function.comp]
          congr 1
          omega
      have hp : (fs.mapM fun fd => do pure (fd.offset, ← Go.sizeOf fd.type) : Sem (Array (Nat × Nat))).run P w = .ok ((List.range fs.size).map fun j => (0 + j, 1)).toArray w := by
        have : (fs.mapM fun fd => do pure (fd.offset, ← Go.sizeOf fd.type) : Sem (Array (Nat × Nat))) = List.toArray <$> (fs.toList.mapM fun fd => do pure (fd.offset, ← Go.sizeOf fd.type)) := by
          rw [← Array.mapM_eq_mapM_toList]
        rw [this, Sem.run_map, key fs.toList 0 (fun j hj => by
          have := hfl j (by simpa using hj)
          simpa using this)]
        simp
      have hplace : ∀ j, j < 0 + c.count → (((List.range fs.size).map fun j => (0 + j, 1)).toArray)[j]? = some (j, 1) := fun j hj => by
        simp [show j < fs.size by omega]
      obtain ⟨cells', us, h1, h2, h3, h4⟩ := seqP_fill (place := (((List.range fs.size).map fun j => (0 + j, 1)).toArray[·]?)) (cells := cs) (pre := []) (rest := cs.toList) hg htwo hc hl (by simp) rfl (by simpa using hcs) hplace
      have hps : (ps.map fun (i, x) => (i, a.eval x)).toList = ps.toList.map fun p => (p.1, a.eval p.2) := by simp
      refine ⟨.agg cells', .agg c, rfl, ?_, ?_, by simpa [C.refs] using hqr c hc⟩
      · simp only [Instr.build, zeroValue, Sem.run_bind, typeInfo_run hi, hz, underlying_run hfs, Result.andThen_ok, hp, Value.cells, hps, h1, Sem.run_pure]
      · simp only [RepL]
        rw [List.nil_append] at h2
        exact ⟨us, by rw [← h2], h3⟩
    · cases h
  · cases h

theorem faBuildR_sound (hΓ : CtxT Γ P) (hI : Inv n f F κ s a w) (hG : GlobOK Γ F) (hg : ∀ k c, g k = some c → s.get k = some c) {T : TypeId} {ps : Array (Nat × Operand)} {qs : List (Nat × C)} (hqs : partsC Γ g ps.toList = some qs)
    (hqr : ∀ c, seqP 0 qs = some c → ∀ o ∈ c.refs, (s.get (okey o)).isSome = true) {dst : Option Nat} {r : Res} {u : St} (h : faBuildR Γ T qs g dst = some r) (hu : r.run = some u) :
    Gives P F κ s w (Instr.build T (ps.map fun (i, x) => (i, a.eval x))) dst u := by
  unfold faBuildR at h
  split at h
  · rename_i k c hk hc
    split at h
    · rename_i hcl
      cases h; cases hu
      obtain ⟨rfl, hl⟩ := hcl
      have hT := faIs_spec (hΓ.fa _ _ hk)
      obtain ⟨i, cs, hi, hz, hcs⟩ := hT.info
      obtain ⟨E, j, hE, hj, hjs⟩ := hT.elem
      have htwo := parts_sound (a := a) hI hG hg hqs
      have hs : (Go.sizeOf E).run P w = .ok 1 w := by simp [Go.sizeOf, typeInfo_run hj, hjs]
      obtain ⟨cells', us, h1, h2, h3, h4⟩ := seqP_fill (place := fun i => some (i * 1, 1)) (cells := cs) (pre := []) (rest := cs.toList) hg htwo hc hl (by simp) rfl (by simpa using hcs) (fun j _ => by simp)
      have hps : (ps.map fun (i, x) => (i, a.eval x)).toList = ps.toList.map fun p => (p.1, a.eval p.2) := by simp
      refine ⟨.agg cells', .agg c, rfl, ?_, ?_, by simpa [C.refs] using hqr c hc⟩
      · simp only [Instr.build, zeroValue, Sem.run_bind, typeInfo_run hi, hz, underlying_run hE, Result.andThen_ok, hs, Value.cells, hps, h1, Sem.run_pure]
      · simp only [RepL]
        rw [List.nil_append] at h2
        exact ⟨us, by rw [← h2], h3⟩
    · cases h
  · cases h

theorem flat_nth : ∀ {c d : C} {us : List Value} {j : Nat}, c.flatP = true → RepG F κ s c us → nthC c j = some d → ∃ v, us[j]? = some v ∧ d.part = true ∧ RepG F κ s d [v] ∧ ∀ o ∈ d.refs, o ∈ c.refs
  | .cons a b, d, us, 0, h, hr, hn => by
    simp only [C.flatP, Bool.and_eq_true] at h
    simp only [nthC, Option.some.injEq] at hn
    subst hn
    simp only [RepG] at hr
    obtain ⟨c1, c2, rfl, h1, h2⟩ := hr
    match c1, part_len h.1 h1 with
    | [v], _ => exact ⟨v, rfl, h.1, h1, fun o ho => by simp [C.refs, ho]⟩
  | .cons a b, d, us, j + 1, h, hr, hn => by
    simp only [C.flatP, Bool.and_eq_true] at h
    simp only [nthC] at hn
    simp only [RepG] at hr
    obtain ⟨c1, c2, rfl, h1, h2⟩ := hr
    obtain ⟨v, g1, g2, g3, g4⟩ := flat_nth h.2 h2 hn
    match c1, part_len h.1 h1 with
    | [v1], _ => exact ⟨v, by simpa using g1, g2, g3, fun o ho => by simp [C.refs, g4 o ho]⟩
  | .unit, _, _, _, _, _, hn => by simp [nthC] at hn
  | .val .., _, _, _, h, _, _ => by simp [C.flatP] at h
  | .own _, _, _, _, h, _, _ => by simp [C.flatP] at h
  | .ptr .., _, _, _, h, _, _ => by simp [C.flatP] at h
  | .eptr .., _, _, _, h, _, _ => by simp [C.flatP] at h
  | .aptr .., _, _, _, h, _, _ => by simp [C.flatP] at h
  | .adr .., _, _, _, h, _, _ => by simp [C.flatP] at h
  | .brow _, _, _, _, h, _, _ => by simp [C.flatP] at h
  | .may .., _, _, _, h, _, _ => by simp [C.flatP] at h
  | .fptr .., _, _, _, h, _, _ => by simp [C.flatP] at h
  | .fn .., _, _, _, h, _, _ => by simp [C.flatP] at h
  | .tup _, _, _, _, h, _, _ => by simp [C.flatP] at h
  | .agg _, _, _, _, h, _, _ => by simp [C.flatP] at h
  | .rsl .., _, _, _, h, _, _ => by simp [C.flatP] at h
  | .nil, _, _, _, h, _, _ => by simp [C.flatP] at h
  | .dead, _, _, _, h, _, _ => by simp [C.flatP] at h
  | .vec .., _, _, _, h, _, _ => by simp [C.flatP] at h
  | .iter .., _, _, _, h, _, _ => by simp [C.flatP] at h
  | .rcd _, _, _, _, h, _, _ => by simp [C.flatP] at h

theorem faIndexR_sound (hΓ : CtxT Γ P) {T : TypeId} {cx ci : C} {vx vi : Value} {dst : Option Nat} {r : Res} {u : St} (hx : RepC F κ s cx vx) (hxr : ∀ o ∈ cx.refs, (s.get (okey o)).isSome = true)
    (hi : RepC F κ s ci vi) (h : faIndexR Γ T cx ci dst = some r) (hu : r.run = some u) : Gives P F κ s w (Instr.index T vx vi) dst u := by
  unfold faIndexR at h
  split at h
  · rename_i c j k hj hk
    split at h
    · rename_i hc
      obtain ⟨h0, hf, rfl⟩ := hc
      simp only [Option.map_eq_some_iff] at h
      obtain ⟨d, hd, rfl⟩ := h
      cases hu
      obtain ⟨ik, rfl⟩ := asInt64_sound hi hj
      have hT := faIs_spec (hΓ.fa _ _ hk)
      obtain ⟨E, i, hE, hei, hes⟩ := hT.elem
      obtain ⟨ps, rs, vv, hfn⟩ := hT.one E hE
      simp only [RepL] at hx
      obtain ⟨us, hus, hr⟩ := hx
      cases hus
      have hlen := flat_len hf hr
      obtain ⟨v, g1, g2, g3, g4⟩ := flat_nth hf hr hd
      have hlt := (List.getElem?_eq_some_iff.1 g1).1
      have hs : (Go.sizeOf E).run P w = .ok 1 w := by simp [Go.sizeOf, typeInfo_run hei, hes]
      have ha : (isAgg E).run P w = .ok false w := by simp [isAgg, underlying_run hfn]
      refine ⟨v, d, rfl, ?_, part_repC g2 g3, fun o ho => hxr o (by simpa only [C.refs] using g4 o ho)⟩
      have hlt' : j < (c.count : Int) := by omega
      have g1' : us.toArray[j.toNat]? = some v := by simpa using g1
      simp only [Instr.index, asIntOf, Sem.run_bind, Sem.run_pure, Result.andThen_ok, underlying_run hE, h0, hlt', and_self, if_true, hs, Nat.mul_one, part, ha, Bool.false_eq_true, if_false, g1']
    · cases h
  · cases h

theorem seqP_refs (hI : Inv n f F κ s a w) (hG : GlobOK Γ F) (hg : ∀ k c, g k = some c → s.get k = some c) : ∀ {ps : List (Nat × Operand)} {qs : List (Nat × C)} {i : Nat} {c : C}, partsC Γ g ps = some qs → seqP i qs = some c → ∀ o ∈ c.refs, (s.get (okey o)).isSome = true
  | [], qs, i, c, h, hs => by
    simp only [partsC, Option.some.injEq] at h
    subst h
    simp only [seqP, Option.some.injEq] at hs
    subst hs
    intro o ho
    simp [C.refs] at ho
  | (j, x) :: r, qs, i, c, h, hs => by
    simp only [partsC] at h
    split at h
    · rename_i c0 d h1 h2
      cases h
      simp only [seqP] at hs
      split at hs
      · simp only [Option.map_eq_some_iff] at hs
        obtain ⟨c', hc', rfl⟩ := hs
        intro o ho
        simp only [C.refs, List.mem_append] at ho
        rcases ho with ho | ho
        · exact (opnd_sound hI hG hg h1).2 o ho
        · exact seqP_refs hI hG hg h2 hc' o ho
      · cases hs
    · cases h
theorem seqA_refs {k : Nat} (hI : Inv n f F κ s a w) (hG : GlobOK Γ F) (hg : ∀ k c, g k = some c → s.get k = some c) : ∀ {ps : List (Nat × Operand)} {qs : List (Nat × C)} {i : Nat} {c : C}, partsC Γ g ps = some qs → seqA k i qs = some c → ∀ o ∈ c.refs, (s.get (okey o)).isSome = true
  | [], qs, i, c, h, hs => by
    simp only [partsC, Option.some.injEq] at h
    subst h
    simp only [seqA, Option.some.injEq] at hs
    subst hs
    intro o ho
    simp [C.refs] at ho
  | (j, x) :: r, qs, i, c, h, hs => by
    simp only [partsC] at h
    split at h
    · rename_i c0 d h1 h2
      cases h
      unfold seqA at hs
      split at hs
      · rename_i hnil; cases hnil
      · rename_i j' c1 r' heq
        cases heq
        split at hs
        · simp only [Option.map_eq_some_iff] at hs
          obtain ⟨c', hc', rfl⟩ := hs
          intro o ho
          rcases appX_refs _ _ o ho with ho | ho
          · exact (opnd_sound hI hG hg h1).2 o (by simpa only [C.refs] using ho)
          · exact seqA_refs hI hG hg h2 hc' o ho
        · cases hs
      · cases hs
    · cases h
theorem seqA_fill {k : Nat} : ∀ {ps : List (Nat × Value)} {qs : List (Nat × C)} {i : Nat} {c : C} {cells : Array Value} {pre rest : List Value}, Two F κ s ps qs →
    seqA k i qs = some c → cells.toList = pre ++ rest → pre.length = i * k → rest.length = qs.length * k →
    ∃ cells' us, Instr.fill (fun i => some (i * k, k)) cells ps = some cells' ∧ cells'.toList = pre ++ us ∧ RepG F κ s c us ∧ c.flatP = true
  | _, _, i, c, cells, pre, rest, .nil, hs, hc, hp, hr => by
    simp only [seqA, Option.some.injEq] at hs
    subst hs
    have : rest = [] := List.length_eq_zero_iff.1 (by simpa using hr)
    subst this
    exact ⟨cells, [], rfl, hc, by simp [RepG], rfl⟩
  | _, _, i, c, cells, pre, rest, .cons (i := j) (v := v) (c := d) (ps := r) (qs := q) hv h2, hs, hc, hp, hr => by
    unfold seqA at hs
    split at hs
    · rename_i hnil; cases hnil
    · rename_i j' c1 r' heq
      cases heq
      split at hs
      · rename_i hj
        obtain ⟨rfl, hfl, hcnt⟩ := hj
        simp only [Option.map_eq_some_iff] at hs
        obtain ⟨c', hc', rfl⟩ := hs
        simp only [RepL] at hv
        obtain ⟨us1, hv1, hG1⟩ := hv
        have hv1 : v = .agg us1.toArray := by simpa using hv1
        have hcells : v.cells.toList = us1 := by rw [hv1]; simp [Value.cells]
        have hl1 := flat_len hfl hG1
        rw [List.length_cons, Nat.add_mul, Nat.one_mul] at hr
        have hsz : cells.size = pre.length + rest.length := by
          have := congrArg List.length hc
          simpa using this
        have hvs : v.cells.size = k := by
          have : v.cells.toList.length = k := by rw [hcells]; omega
          simpa using this
        have hsp : (splice cells (j * k) v.cells.toList).toList = (pre ++ us1) ++ rest.drop k := by
          rw [splice_list _ _ _ (by rw [hcells]; omega), hcells, hc, ← hp, List.take_left, hl1, hcnt]
          congr 1
          rw [List.drop_append, List.drop_eq_nil_of_le (by omega), List.nil_append]
          congr 1
          omega
        obtain ⟨cells', us, h3, h4, h5, h6⟩ := seqA_fill h2 hc' hsp (by rw [List.length_append, Nat.add_mul]; omega) (by rw [List.length_drop]; omega)
        refine ⟨cells', us1 ++ us, ?_, by rw [h4]; simp, appG_rep h5 (flat_list hfl) hG1, (flat_app hfl h6).1⟩
        rw [fill_step (off := j * k) (size := k) rfl hvs (by omega)]
        exact h3
      · cases hs
    · cases hs

theorem pSliceR_sound (hΓ : CtxT Γ P) (hI : Inv n f F κ s a w) (hG : GlobOK Γ F) (hg : ∀ k c, g k = some c → s.get k = some c) {h : OH} (hnew : ∀ m ∈ h.new, s.get (okey m) = none) {T : TypeId} {m : Nat} {ps : Array (Nat × Operand)} {qs : List (Nat × C)}
    (hqs : partsC Γ g ps.toList = some qs) {dst : Option Nat} {r : Res} {u : St} (hr : pSliceR Γ h T m qs dst = some r) (hu : r.run = some u) :
    Does P n f F κ s a w (Instr.buildSlice T m (ps.map fun (i, x) => (i, a.eval x))) dst u := by
  unfold pSliceR at hr
  split at hr
  · rename_i k o2 hk ho2
    split at hr
    · rename_i c hc
      split at hr
      · rename_i hb
        cases hr; cases hu
        obtain ⟨hlen, hpos, hsmall⟩ := hb
        obtain ⟨E, hT, hE⟩ := pslIs_spec (hΓ.psl _ _ hk)
        obtain ⟨i, cs, hi, hisz, hz, hcs⟩ := hE.info
        have htwo := parts_sound (a := a) hI hG hg hqs
        obtain ⟨cells', us, h1, h2, h3, h4⟩ := seqA_fill (cells := (Array.range (m * k)).map (fun j => cs[j % cs.size]!)) (pre := []) (rest := ((Array.range (m * k)).map (fun j => cs[j % cs.size]!)).toList) htwo hc (by simp) (by simp) (by simp [hlen])
        rw [List.nil_append] at h2
        have hps : (ps.map fun (i, x) => (i, a.eval x)).toList = ps.toList.map fun p => (p.1, a.eval p.2) := by simp
        have hbig : ¬ m * k > 2 ^ 24 := by omega
        have hz0 : ¬ m * k = 0 := by omega
        have hrun : (Instr.buildSlice T m (ps.map fun (i, x) => (i, a.eval x))).run P w = .ok (.slice (some ⟨w.heap.size, 0, none⟩) m m) { w with heap := w.heap.push (.cells cells' E) } := by
          simp only [Instr.buildSlice, Sem.run_bind, underlying_run hT, Result.andThen_ok, pst_size hE, hbig, if_false, Sem.run_ite, hz0, zeroValue, typeInfo_run hi, hz, Sem.run_pure, Value.cells, hps, h1, newRow, run_newObj]
        have hno : s.get (okey o2) = none := hnew o2 (by rw [ho2]; simp)
        have hrefs : ∀ o' ∈ (C.rcd c).refs, (s.get (okey o')).isSome = true := fun o' ho' => seqA_refs hI hG hg hqs hc o' (by simpa [C.refs] using ho')
        have hI2 := hI.fresh (o := o2) (p := 0) (q := 0) (c := .rcd c) hno hrefs (push_chg (o := .cells cells' E) (d := w.drawn)) (by
          intro κ' s' hκ' hκm hs'
          simp only [RepO]
          refine ⟨w.heap.size, _, E, _, hκm, push_get (d := w.drawn), .inr (Nat.le_refl _), ?_, fun T0 h => by rw [flat_bty h4] at h; cases h⟩
          refine RepX.mono (Froz.le_refl F) _ _ (fun o' ho' => ?_) (by rw [h2]; exact (flatXG h4).2 h3)
          have hne : o' ≠ o2 := by
            rintro rfl
            have := hrefs o' (by simpa only [C.refs] using ho')
            rw [hno] at this; cases this
          exact .of_eq (hs' o' hne) (hκ' o' hne))
        refine ⟨_, .rsl o2 m k, F, _, _, [(okey o2, .rcd c)], rfl, hrun, Froz.le_refl F, hI2, ?_, by simp [C.refs, St.upd, St.get_set]⟩
        simp only [RepL]
        exact ⟨_, rfl, fun c' _ _ => ⟨w.heap.size, 0, 0, by simp, rfl⟩⟩
      · cases hr
    · cases hr
  · cases hr

theorem pAllocR_sound (hΓ : CtxT Γ P) (hI : Inv n f F κ s a w) {h : OH} (hnew : ∀ m ∈ h.new, s.get (okey m) = none) {T : TypeId} {dst : Option Nat} {r : Res} {u : St} (hr : pAllocR Γ h T dst = some r) (hu : r.run = some u) :
    Does P n f F κ s a w (Instr.alloc T true (.tuple #[])) dst u := by
  unfold pAllocR at hr
  split at hr
  · rename_i k o2 hk ho2
    cases hr; cases hu
    obtain ⟨i, cs, hi, hisz, hz, hcs⟩ := (pstIs_spec (hΓ.pst _ _ hk)).info
    have hrun : (Instr.alloc T true (.tuple #[])).run P w = .ok (.pointer (some ⟨w.heap.size, 0, none⟩)) { w with heap := w.heap.push (.cells cs T) } := by
      simp only [Instr.alloc, Sem.run_bind, zeroValue, typeInfo_run hi, hz, Result.andThen_ok, newVar, newRow, run_newObj, Sem.run_pure, Value.cells]
    have hno : s.get (okey o2) = none := hnew o2 (by rw [ho2]; simp)
    have hd := deadP_sound (F := F) (κ := κ) (s := s) (k := k) (cs := cs.toList) (by simpa using hcs)
    have hI2 := hI.fresh (o := o2) (p := 0) (q := 0) (c := .rcd (deadP k)) hno (by simp [C.refs, hd.2.1]) (push_chg (o := .cells cs T) (d := w.drawn)) (by
      intro κ' s' hκ' hκm hs'
      simp only [RepO]
      exact ⟨w.heap.size, _, T, _, hκm, push_get (d := w.drawn), .inr (Nat.le_refl _), (deadP_sound (by simpa using hcs)).1, fun T0 h => by rw [hd.2.2] at h; cases h⟩)
    refine ⟨_, .ptr o2 0, F, _, _, [(okey o2, .rcd (deadP k))], rfl, hrun, Froz.le_refl F, hI2, rep_ptr.2 ?_, by simp [C.refs, St.upd, St.get_set]⟩
    intro c' _ _
    exact ⟨w.heap.size, 0, 0, by simp, rfl⟩
  · cases hr

theorem pstOp_sound (hΓ : CtxOK Γ P) (hI : Inv n f F κ s a w) (hG : GlobOK Γ F) (hg : ∀ k c, g k = some c → s.get k = some c) {h : OH} {o : Oper} (hnew : ∀ m ∈ h.new, s.get (okey m) = none)
    (hdst : ∀ d, o.dst = some d → d < n ∧ d < 100000) {r : Res} {u : St} (hr : pstOp Γ h o g = some r) (hu : r.run = some u) {next : Act → World → Prop} {Q : Exit → Act → World → Prop}
    (hn : Then n f F s a o.dst u next) : o.wp P a w next Q := by
  have opn : ∀ {x c}, opnd Γ g x = some c → _ := fun {x c} hx => opnd_sound hI hG hg hx
  have fin : ∀ {sem : Sem Value}, Does P n f F κ s a w sem o.dst u → execOp a.eval o = (do pure (.value (← sem))) → o.wp P a w next Q := fun h1 h2 => does_wp h1 h2 hdst hn
  unfold pstOp at hr
  split at hr
  · rename_i T ps he
    simp only [Option.bind_eq_some_iff] at hr
    obtain ⟨qs, hqs, hr⟩ := hr
    split at hr
    · exact fin (Gives.does hI (faBuildR_sound (a := a) hΓ.toCtxT hI hG hg hqs (fun c hc => seqP_refs hI hG hg hqs hc) hr hu)) (by simp only [execOp, he])
    · exact fin (Gives.does hI (pBuildR_sound (a := a) hΓ.toCtxT hI hG hg hqs (fun c hc => seqP_refs hI hG hg hqs hc) hr hu)) (by simp only [execOp, he])
  · rename_i T x i he
    split at hr
    · rename_i c d hc hd
      exact fin (Gives.does hI (faIndexR_sound hΓ.toCtxT (opn hc).1 (opn hc).2 (opn hd).1 hr hu)) (by simp only [execOp, he])
    · cases hr
  · rename_i T m ps he
    simp only [Option.bind_eq_some_iff] at hr
    obtain ⟨qs, hqs, hr⟩ := hr
    exact fin (pSliceR_sound hΓ.toCtxT hI hG hg hnew hqs hr hu) (by simp only [execOp, he])
  · rename_i T p he
    simp only [Option.bind_eq_some_iff] at hr
    obtain ⟨c, hc, hr⟩ := hr
    exact fin (Gives.does hI (pLoadR_sound hΓ.toCtxT hI hg (opn hc).1 hr hu)) (by simp only [execOp, he])
  · rename_i T he
    exact fin (pAllocR_sound hΓ.toCtxT hI hnew hr hu) (by simp only [execOp, he])
  · rename_i T p v he
    split at hr
    · rename_i c d hc hd hnone
      obtain ⟨κ', w', hrun, hI2⟩ := pStoreR_sound hΓ.toCtxT hI hg (opn hc).1 (opn hd).1 (opn hd).2 hr hu
      refine wp_skp (w' := w') (by simp only [execOp, he, Sem.run_bind, hrun, Result.andThen_ok, Sem.run_pure]) ?_
      rw [hnone]
      exact hn F κ' a w' (Froz.le_refl F) hI2 (fun t _ => rfl)
    · cases hr
  · rename_i T x j he
    simp only [Option.bind_eq_some_iff] at hr
    obtain ⟨c, hc, hr⟩ := hr
    exact fin (Gives.does hI (pFieldR_sound hΓ.toCtxT hg (opn hc).1 (opn hc).2 hr hu)) (by simp only [execOp, he])
  · rename_i T x i he
    split at hr
    · rename_i c d hc hd
      exact fin (Gives.does hI (pIndexR_sound hΓ.toCtxT hg (opn hc).1 (opn hc).2 (opn hd).1 hr hu)) (by simp only [execOp, he])
    · cases hr
  · rename_i xs ts he
    split at hr
    · rename_i x T rest hx hts
      obtain ⟨h1, _⟩ := opnds_sound hI hG hg hx
      obtain ⟨v, vs, hvs, h2, h3⟩ := rep_cons h1
      have := rep_unit h3
      subst this
      have e0 : ts[0]? = some T := by rw [← Array.getElem?_toList, hts]; rfl
      have hd : Gives P F κ s w (Builtin.len_ ts o.type #[v]) o.dst u := pLenR_sound (ty := o.type) hΓ.toCtxT hg e0 h2 hr hu
      have hs : builtin .len ts o.type (xs.map fun | .const _ => true | _ => false) #[v] = (do pure (.value (← Builtin.len_ ts o.type #[v]))) := rfl
      refine fin (Gives.does hI hd) ?_
      rw [← hs]
      simp only [execOp, he, resolve, invoke, pure_bind]
      congr 1
      apply Array.ext'
      simpa using hvs
    · cases hr
  · cases hr
theorem evOp1_sound (hΓ : CtxOK Γ P) (hI : Inv n f F κ s a w) (hG : GlobOK Γ F) (hg : ∀ k c, g k = some c → s.get k = some c) {h : OH} {o : Oper} (hnew : ∀ m ∈ h.new, s.get (okey m) = none) (hnd : h.new.Nodup)
    (hdst : ∀ d, o.dst = some d → d < n ∧ d < 100000) {r : Res} {u : St} (hr : evOp1 Γ h o g = some r) (hu : r.run = some u) {next : Act → World → Prop} {Q : Exit → Act → World → Prop}
    (hn : Then n f F s a o.dst u next) : o.wp P a w next Q := by
  unfold evOp1 at hr
  split at hr
  · rename_i r' h0
    cases hr
    exact evOp0_sound hΓ hI hG hg hnew hnd hdst h0 hu hn
  · exact pstOp_sound hΓ hI hG hg hnew hdst hr hu hn
/-- What follows a panic. -/
def ThenP (n : Nat) (f : Frame0) (F : Froz) (s : St) (a : Act) (T : Nat) (u : St) (t : Ty) (p : t.den) (Q : Exit → Act → World → Prop) : Prop :=
  ∀ F' κ' v w', F.le F' → Inv n f F' κ' (s.upd u) a w' → RepC F' κ' (s.upd u) (.val t p) v → Q (.panic [{ v := .iface T v, recovered := false }]) a w'
theorem panOp_sound (hΓ : CtxOK Γ P) (hI : Inv n f F κ s a w) (hG : GlobOK Γ F) (hg : ∀ k c, g k = some c → s.get k = some c) {h : OH} {o : Oper} (hnew : ∀ m ∈ h.new, s.get (okey m) = none) (hnd : h.new.Nodup)
    (hdst : ∀ d, o.dst = some d → d < n ∧ d < 100000) {r : Rs} (hr : panOp Γ h o g = some r) {next : Act → World → Prop} {Q : Exit → Act → World → Prop} :
    (∀ u, r.run = some u → Then n f F s a o.dst u next → o.wp P a w next Q) ∧ ∀ T u t p, r.fall = some (T, u, ⟨t, p⟩) → ThenP n f F s a T u t p Q → o.wp P a w next Q := by
  unfold panOp at hr
  split at hr
  rotate_left
  · cases hr
  rename_i fo xs ts he
  split at hr
  rotate_left
  · cases hr
  rename_i i caps c hf hc
  simp only [Option.bind_eq_some_iff] at hr
  obtain ⟨args, hargs, hr⟩ := hr
  obtain ⟨h1, h2⟩ := opnd_sound hI hG hg hf
  simp only [RepL, List.cons.injEq, and_true] at h1
  obtain ⟨us, hv, h1⟩ := h1
  obtain ⟨h3, h4⟩ := opnds_sound hI hG hg hc
  obtain ⟨h5, _⟩ := list_app h3 hargs h1
  have hfn : ∃ args' objs' r', Γ.fn i args' objs' = some r' := by
    unfold callP at hr
    split at hr
    · cases hr
    · simp only at hr
      split at hr
      · split at hr
        · rename_i hx; exact ⟨_, _, _, hx⟩
        · rename_i hx; exact ⟨_, _, _, hx⟩
        · cases hr
      · cases hr
  obtain ⟨_, _, _, hfn⟩ := hfn
  obtain ⟨hok, hent⟩ := hΓ.fns i _ _ _ hfn
  have hrun : (execOp a.eval o).run P w = .ok (.enter i (xs.toList.map a.eval ++ us).toArray) w := by
    simp only [execOp, he, resolve, hv, Deferred.ofValue, pure_bind, invoke]
    have : (#[] ++ xs.map a.eval ++ us.toArray : Array Value) = (xs.toList.map a.eval ++ us).toArray := by
      apply Array.ext'; simp
    rw [this]
    exact hent _ w
  have onward : ∀ (u : St) (F' : Froz) (κ' : Conc) (v : Value) (w' : World) (c : C) (uo : St), Then n f F s a o.dst u next → F.le F' → u = uo ++ Out1 o.dst c → Inv n f F' κ' (s.upd uo) a w' → RepC F' κ' (s.upd uo) c v → (∀ o ∈ c.refs, ((s.upd uo).get (okey o)).isSome = true) → next (a.put o.dst v) w' := fun u F' κ' v w' c uo hn hF hu' hI' hv' hc' => by
    refine hn F' κ' _ w' hF ?_ (fun t ht => put_frame t ht)
    rw [hu', upd_append]
    exact put_inv hI' hdst hv' hc'
  refine ⟨fun u hu hn => ?_, fun T u t p hu hn => ?_⟩
  · have hcall := (callP_sound (K := fun v w' => next (a.put o.dst v) w') hok hI hG hg hnew hnd h5 hr).1 u hu (fun F' κ' v w' c uo => onward u F' κ' v w' c uo hn)
    unfold Oper.wp
    rw [hrun, Oper.upon_enter]
    refine hcall.mono fun e w' => ?_
    rintro ⟨v, rfl, h⟩
    exact h
  · have hcall := (callP_sound (K := fun v w' => Q (.panic [{ v := .iface T v, recovered := false }]) a w') hok hI hG hg hnew hnd h5 hr).2 T u t p hu hn
    unfold Oper.wp
    rw [hrun, Oper.upon_enter]
    refine hcall.mono fun e w' => ?_
    rintro ⟨v, rfl, h⟩
    exact h
theorem iterAt_chg {b : Nat} {x : ByteArray} {pos : Nat} : Chg b w { w with heap := w.heap.setIfInBounds b (.stringIter x pos) } := by
  constructor
  · simp
  · intro b' h1 _
    simp [Ne.symm h1]
  · exact ⟨rfl, rfl⟩
theorem bwAddrR_sound (hΓ : CtxT Γ P) (hg : ∀ k c, g k = some c → s.get k = some c) {T : TypeId} (hT : Γ.bw T = true) {cx : C} {vx : Value} {dst : Option Nat} {r : Res} {u : St}
    (hx : RepC F κ s cx vx) (hxr : ∀ o ∈ cx.refs, (s.get (okey o)).isSome = true) (h : bldAddrR cx 0 g dst = some r) (hu : r.run = some u) : Gives P F κ s w (Instr.fieldAt T vx 0) dst u := by
  unfold bldAddrR at h
  split at h
  · rename_i ob off
    split at h
    · rename_i x hc
      split at h
      · cases h; cases hu
        obtain ⟨b, p, q, hκ, rfl⟩ := rep_ptr.1 hx _ (hg _ _ hc) (by simp)
        obtain ⟨f, i, hfs, ho, hi, hpos⟩ := (bwIs_spec (hΓ.bw T hT)).flds
        refine ⟨.pointer (some ⟨b, p + (off + 0), none⟩), _, rfl, ?_, rep_ptr.2 ?_, by simpa [C.refs] using hxr⟩
        · have hs : (Go.sizeOf f.type).run P w = .ok i.size w := by simp [Go.sizeOf, typeInfo_run hi]
          have hne : i.size ≠ 0 := by omega
          simp only [Instr.fieldAt, Sem.run_bind, underlying_run hfs, Result.andThen_ok, List.getElem?_toArray, List.getElem?_cons_zero, Instr.sureAddr, Sem.run_pure, fieldPlace, hs, hne, if_false, add_lit, ho, Nat.add_zero]
        · intro c' _ _
          exact ⟨b, p, q, hκ, rfl⟩
      · cases h
    · cases h
  · cases h
theorem buildW_sound (hΓ : CtxT Γ P) {T : TypeId} (hb : Γ.bw T = true) {dst : Option Nat} :
    Gives P F κ s w (Instr.build T ((#[] : Array (Nat × Operand)).map fun (i, x) => (i, a.eval x))) dst (Out1 dst zbC) := by
  obtain ⟨i, hi, _, hz⟩ := (bwIs_spec (hΓ.bw T hb)).zero
  obtain ⟨fd, j, hU, _, hj, _⟩ := (bwIs_spec (hΓ.bw T hb)).flds
  have hs1 : (Go.sizeOf fd.type).run P w = .ok j.size w := by simp [Go.sizeOf, typeInfo_run hj]
  have hp : (#[fd].mapM fun fd => do pure (fd.offset, ← Go.sizeOf fd.type) : Sem (Array (Nat × Nat))).run P w = .ok #[(fd.offset, j.size)] w := by
    have : (#[fd].mapM fun fd => do pure (fd.offset, ← Go.sizeOf fd.type) : Sem (Array (Nat × Nat))) = List.toArray <$> ([fd].mapM fun fd => do pure (fd.offset, ← Go.sizeOf fd.type)) := by
      rw [← Array.mapM_eq_mapM_toList]
    rw [this, Sem.run_map]
    simp only [List.mapM_cons, List.mapM_nil, Sem.run_bind, hs1, Result.andThen_ok, Sem.run_pure]
  refine ⟨.agg #[.pointer none, .slice none 0 0], _, rfl, ?_, ?_, by simp [zbC, C.refs]⟩
  · have hf : ∀ g : Nat → Option (Nat × Nat), Instr.fill g #[.pointer none, .slice none 0 0] [] = some #[.pointer none, .slice none 0 0] := fun _ => rfl
    have hps : ((#[] : Array (Nat × Operand)).map fun (i, x) => (i, a.eval x)).toList = [] := by simp
    simp only [Instr.build, zeroValue, Sem.run_bind, typeInfo_run hi, hz, underlying_run hU, Result.andThen_ok, hp, Value.cells, hps, hf, Sem.run_pure]
  · simp only [zbC, RepL, RepG]
    exact ⟨[.pointer none, .slice none 0 0], rfl, [.pointer none], [.slice none 0 0], rfl, rfl, [.slice none 0 0], [], rfl, rfl, rfl⟩
theorem rngOp_sound (hΓ : CtxOK Γ P) (hI : Inv n f F κ s a w) (hG : GlobOK Γ F) (hg : ∀ k c, g k = some c → s.get k = some c) {h : OH} {o : Oper} (hnew : ∀ m ∈ h.new, s.get (okey m) = none) (hnd : h.new.Nodup)
    (hdst : ∀ d, o.dst = some d → d < n ∧ d < 100000) {r : Rs} (hr : rngOp Γ h o g = some r) {u : St} (hu : r.run = some u) {next : Act → World → Prop} {Q : Exit → Act → World → Prop}
    (hn : Then n f F s a o.dst u next) : o.wp P a w next Q := by
  have fin : ∀ {sem : Sem Value}, Does P n f F κ s a w sem o.dst u → execOp a.eval o = (do pure (.value (← sem))) → o.wp P a w next Q := fun h1 h2 => does_wp h1 h2 hdst hn
  unfold rngOp at hr
  split at hr
  · rename_i T x he
    split at hr
    · rename_i y n2 hT hx hn2
      cases hr
      cases hu
      have hv := rep_str.1 (opnd_sound hI hG hg hx).1
      have hU := tyIs_str (hΓ.tab _ _ hT)
      have hno : s.get (okey n2) = none := hnew n2 (by rw [hn2]; simp)
      have hrun : (Instr.range T (a.eval x)).run P w = .ok (.pointer (some ⟨w.heap.size, 0, none⟩)) { w with heap := w.heap.push (.stringIter ⟨y.toArray⟩ 0) } := by
        rw [hv]
        simp only [Instr.range, Sem.run_bind, underlying_run hU, Result.andThen_ok, run_newObj, Sem.run_pure]
      have hI2 := hI.fresh (o := n2) (p := 0) (q := 0) (c := .iter y 0) hno (by simp [C.refs]) (push_chg (o := .stringIter ⟨y.toArray⟩ 0) (d := w.drawn)) (by
        intro κ' s' hκ' hκm hs'
        simp only [RepO]
        exact ⟨w.heap.size, hκm, push_get (d := w.drawn)⟩)
      refine fin ⟨_, .ptr n2 0, F, _, _, [(okey n2, .iter y 0)], rfl, hrun, Froz.le_refl F, hI2, rep_ptr.2 ?_, by simp [C.refs, St.upd, St.get_set]⟩ (by simp only [execOp, he])
      intro c' _ _
      exact ⟨w.heap.size, 0, 0, by simp, rfl⟩
    · cases hr
  · rename_i p he
    split at hr
    · rename_i ob hp
      split at hr
      · rename_i y pos hob
        cases hr
        cases hu
        have hs := hg _ _ hob
        have ho := hI.objs ob _ hs
        simp only [RepO] at ho
        obtain ⟨b, hκ, hb⟩ := ho
        obtain ⟨b', p', q', hκ', hv⟩ := rep_ptr.1 (opnd_sound hI hG hg hp).1 _ hs (by simp)
        rw [hκ] at hκ'
        cases hκ'
        by_cases hlt : pos < y.length
        · have hrun : (Instr.next (a.eval p) true o.type).run P w = .ok (.tuple #[.bool true, .int .i64 pos, .int .i32 (runeAt y pos).1]) { w with heap := w.heap.setIfInBounds b (.stringIter ⟨y.toArray⟩ (pos + (runeAt y pos).2)) } := by
            rw [hv]
            have : pos < (⟨y.toArray⟩ : ByteArray).size := by show pos < y.toArray.size; simpa using hlt
            simp only [Instr.next, getObj, setObj, Sem.run_bind, Sem.run, hb, Result.andThen, this, if_true]
            simp [goInt, runeAt]
          have hbl := lt_of_some hb
          have hI2 := hI.write (c := .iter y pos) (c' := .iter y (pos + (runeAt y pos).2)) hs rfl rfl hκ (fun n' t' zs hz => by cases hz) (by simp [C.refs]) (iterAt_chg (x := ⟨y.toArray⟩) (pos := pos + (runeAt y pos).2)) (fun s' _ => by
            simp only [RepO]
            exact ⟨b, hκ, by simp [hbl]⟩)
          refine fin ⟨_, .tup (.cons (.val .bool true) (.cons (.val (.int .i64) (pos : Int)) (.cons (.val (.int .i32) ((runeAt y pos).1 : Int)) .unit))), F, _, _, [(okey ob, .iter y (pos + (runeAt y pos).2))], by rw [decide_eq_true hlt]; rfl, hrun, Froz.le_refl F, hI2, ?_, by simp [C.refs]⟩ (by simp only [execOp, he])
          simp only [RepL]
          exact ⟨[.bool true, .int .i64 pos, .int .i32 (runeAt y pos).1], rfl, _, _, rfl, ⟨_, rfl, by simp [RepV, RepT, pack, Ty.agg]⟩, _, _, rfl, ⟨_, rfl, by simp [RepV, RepT, pack, Ty.agg]⟩, _, _, rfl, ⟨_, rfl, by simp [RepV, RepT, pack, Ty.agg]⟩, rfl⟩
        · have hrun : (Instr.next (a.eval p) true o.type).run P w = .ok (.tuple #[.bool false]) w := by
            rw [hv]
            have : ¬ pos < (⟨y.toArray⟩ : ByteArray).size := by show ¬ pos < y.toArray.size; simpa using hlt
            simp [Instr.next, getObj, Sem.run, hb, this]
          have hI2 : Inv n f F κ (s.upd [(okey ob, .iter y pos)]) a w := by
            show Inv n f F κ (s.set (okey ob) (.iter y pos)) a w
            rw [set_same s hs]
            exact hI
          refine fin ⟨_, .tup (.cons (.val .bool false) .unit), F, κ, w, [(okey ob, .iter y pos)], by rw [decide_eq_false hlt]; rfl, hrun, Froz.le_refl F, hI2, ?_, by simp [C.refs]⟩ (by simp only [execOp, he])
          simp only [RepL]
          exact ⟨[.bool false], rfl, _, _, rfl, ⟨_, rfl, by simp [RepV, RepT, pack, Ty.agg]⟩, rfl⟩
      · cases hr
    · cases hr
  · -- a struct of one builder
    rename_i T ps he
    split at hr
    · rename_i hb
      obtain ⟨hb, hps⟩ := hb
      cases hr; cases hu
      have hps' : ps = #[] := Array.eq_empty_of_size_eq_zero hps
      subst hps'
      exact fin (Gives.does hI (buildW_sound (a := a) hΓ.toCtxT hb)) (by simp only [execOp, he])
    · cases hr
  · rename_i T x he
    split at hr
    · rename_i hb
      split at hr
      · rename_i hx
        simp only [Option.map_eq_some_iff] at hr
        obtain ⟨r', hr, rfl⟩ := hr
        have hv := (opnd_sound hI hG hg hx).1
        simp only [RepL, RepG] at hv
        obtain ⟨us, h1, c1, c2, h2, h3, c3, c4, h4, h5, h6⟩ := hv
        have hval : a.eval x = .agg #[.pointer none, .slice none 0 0] := by
          simp only [List.cons.injEq, and_true] at h1
          rw [h1, h2, h3, h4, h5, h6]
          rfl
        refine fin (sem := Instr.box T (a.eval x)) (bldR_core hI hnew hnd ?_ hr hu) (by simp only [execOp, he])
        rw [box_run, hval]
        rfl
      · cases hr
    · cases hr
  · rename_i T x k he
    split at hr
    · rename_i hb
      obtain ⟨hb, rfl⟩ := hb
      simp only [Option.bind_eq_some_iff, Option.map_eq_some_iff] at hr
      obtain ⟨c, hc, r', hr, rfl⟩ := hr
      have hx := opnd_sound hI hG hg hc
      exact fin (Gives.does hI (bwAddrR_sound hΓ.toCtxT hg hb hx.1 hx.2 hr hu)) (by simp only [execOp, he])
    · cases hr
  · cases hr
theorem rngOp_fall {h : OH} {o : Oper} {r : Rs} (hr : rngOp Γ h o g = some r) : r.fall = none := by
  unfold rngOp at hr
  split at hr
  · split at hr
    · cases hr; rfl
    · cases hr
  · split at hr
    · split at hr
      · cases hr; rfl
      · cases hr
    · cases hr
  · split at hr
    · cases hr; rfl
    · cases hr
  · split at hr
    · split at hr
      · simp only [Option.map_eq_some_iff] at hr
        obtain ⟨r', _, rfl⟩ := hr
        rfl
      · cases hr
    · cases hr
  · split at hr
    · simp only [Option.bind_eq_some_iff, Option.map_eq_some_iff] at hr
      obtain ⟨_, _, r', _, rfl⟩ := hr
      rfl
    · cases hr
  · cases hr
theorem zallocR_sound (hΓ : CtxT Γ P) (hI : Inv n f F κ s a w) {h : OH} (hnew : ∀ m ∈ h.new, s.get (okey m) = none) {T : TypeId} {dst : Option Nat} {r : Res} {u : St} (hr : zallocR Γ h T dst = some r) (hu : r.run = some u) :
    Does P n f F κ s a w (Instr.alloc T true (.tuple #[])) dst u := by
  unfold zallocR at hr
  split at hr
  · rename_i t m ht hm
    split at hr
    · rename_i hb
      cases hr; cases hu
      obtain ⟨i, z, hi⟩ := tyIs_info (hΓ.tab _ _ ht)
      have hrun : (Instr.alloc T true (.tuple #[])).run P w = .ok (.pointer (some ⟨w.heap.size, 0, none⟩)) { w with heap := w.heap.push (.cells z.cells T) } := by
        simp only [Instr.alloc, Sem.run_bind, zero_run hi, Result.andThen_ok, newVar, newRow, run_newObj, Sem.run_pure]
      have hno : s.get (okey m) = none := hnew m (by rw [hm]; simp)
      have hrefs : (zleaves t).refs = [] := (zleaves_sound (F := F) (κ := κ) (s := s) t hi.zer).2.2
      have hI2 := hI.fresh (o := m) (p := 0) (q := 0) (c := .rcd (zleaves t)) hno (by simp only [C.refs, hrefs]; simp) (push_chg (o := .cells z.cells T) (d := w.drawn)) (by
        intro κ' s' hκ' hκm hs'
        simp only [RepO]
        exact ⟨w.heap.size, _, T, _, hκm, push_get (d := w.drawn), .inr (Nat.le_refl _), repG_X _ _ hb.2 (zleaves_sound (F := F) (κ := κ') (s := s') t hi.zer).1, fun T0 h => by rw [hb.1] at h; cases h⟩)
      refine ⟨_, .ptr m 0, F, _, _, [(okey m, .rcd (zleaves t))], rfl, hrun, Froz.le_refl F, hI2, rep_ptr.2 ?_, by simp [C.refs, St.upd, St.get_set]⟩
      intro c' _ _
      exact ⟨w.heap.size, 0, 0, by simp, rfl⟩
    · cases hr
  · cases hr
theorem evOp2_sound (hΓ : CtxOK Γ P) (hI : Inv n f F κ s a w) (hG : GlobOK Γ F) (hg : ∀ k c, g k = some c → s.get k = some c) {h : OH} {o : Oper} (hnew : ∀ m ∈ h.new, s.get (okey m) = none) (hnd : h.new.Nodup)
    (hdst : ∀ d, o.dst = some d → d < n ∧ d < 100000) {r : Rs} (hr : evOp2 Γ h o g = some r) {next : Act → World → Prop} {Q : Exit → Act → World → Prop} :
    (∀ u, r.run = some u → Then n f F s a o.dst u next → o.wp P a w next Q) ∧ ∀ T u t p, r.fall = some (T, u, ⟨t, p⟩) → ThenP n f F s a T u t p Q → o.wp P a w next Q := by
  unfold evOp2 at hr
  split at hr
  · exact panOp_sound hΓ hI hG hg hnew hnd hdst hr
  split at hr
  · unfold zallocOp at hr
    split at hr
    · rename_i T he
      simp only [Option.map_eq_some_iff] at hr
      obtain ⟨r', hr, rfl⟩ := hr
      exact ⟨fun u hu hn => does_wp (zallocR_sound hΓ.toCtxT hI hnew hr hu) (by simp only [execOp, he]) hdst hn, fun T u t p hu => by cases hu⟩
    · cases hr
  · split at hr
    · rename_i r' hr'
      cases hr
      exact ⟨fun u hu hn => evOp1_sound hΓ hI hG hg hnew hnd hdst hr' hu hn, fun T u t p hu => by cases hu⟩
    · exact ⟨fun u hu hn => rngOp_sound hΓ hI hG hg hnew hnd hdst hr hu hn, fun T u t p hu => by rw [rngOp_fall hr] at hu; cases hu⟩
end
end Go.Fe
