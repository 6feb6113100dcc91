/- Stores, variables, literals, appends. -/
import Derived.Test.YtmnpchoocaiegaaGreatDoorFeOpD
namespace Go.Fe
open Go

section
variable {Γ : Ctx} {P : Program} {n : Nat} {f : Frame0} {F : Froz} {κ : Conc} {s : St} {a : Act} {w : World} {g : Nat → Option C}

theorem splice_window {cs vs : List Value} {p d m k : Nat} (h1 : d + m ≤ k) (hv : vs.length = m) (h2 : p + k ≤ cs.length) :
    ((cs.take (p + d) ++ vs ++ cs.drop (p + d + m)).drop p).take k = ((cs.drop p).take k).take d ++ vs ++ ((cs.drop p).take k).drop (d + m) := by
  have e1 : (cs.take (p + d) ++ vs ++ cs.drop (p + d + m)).drop p = (cs.drop p).take d ++ (vs ++ (cs.drop p).drop (d + m)) := by
    rw [List.append_assoc, List.drop_append_of_le_length (by rw [List.length_take]; omega), List.drop_take, List.drop_drop, show p + d - p = d by omega, Nat.add_assoc]
  rw [e1]
  have hx : k ≤ (cs.drop p).length := by simp; omega
  generalize cs.drop p = X at hx
  have l2 : (X.take d).length = d := by simp; omega
  have e2 : (X.take k).take d = X.take d := by rw [List.take_take, Nat.min_eq_left (by omega)]
  have e3 : (X.take k).drop (d + m) = (X.drop (d + m)).take (k - (d + m)) := by rw [List.drop_take]
  have e4 : (X.take d).take k = X.take d := List.take_of_length_le (by omega)
  have e5 : vs.take (k - d) = vs := List.take_of_length_le (by omega)
  rw [List.take_append, l2, e4, List.take_append, e5, e2, e3, hv, List.append_assoc]
  congr 3
  omega

/-- A part of a value, written. -/
theorem setP_sound : ∀ (t : Ty) (p : List Nat) {x y : t.den} {c : C} {v : Value} {cs : List Value}, RepT F t x cs → setP t p x c = some y → RepC F κ s c v →
    ∃ d u, t.at p = some (d, u) ∧ v.cells.toList.length = u.size ∧ (∀ k ∈ v.cells.toList, k.oneCell' = true) ∧ RepT F t y (cs.take d ++ v.cells.toList ++ cs.drop (d + u.size))
  | t, [], x, y, c, v, cs, hr, hs, hv => by
    have h1 : setP t [] x c = asVal t c := by cases t <;> rfl
    rw [h1] at hs
    obtain ⟨vs, hvs, rfl⟩ := asVal_sound hv hs
    rw [pack_cells hvs]
    refine ⟨0, t, at_nil t, hvs.length, hvs.one, ?_⟩
    rw [List.take_zero, List.nil_append, Nat.zero_add, List.drop_eq_nil_of_le (by rw [hr.length]; omega), List.append_nil]
    exact hvs
  | .pair a b, 0 :: p, x, y, c, v, cs, hr, hs, hv => by
    simp only [setP, Option.map_eq_some_iff] at hs
    obtain ⟨z, hz, rfl⟩ := hs
    simp only [RepT] at hr
    obtain ⟨c1, c2, rfl, h1, h2⟩ := hr
    obtain ⟨d, u, hat, hl, ho, hr⟩ := setP_sound a p h1 hz hv
    refine ⟨d, u, by simpa [Ty.at] using hat, hl, ho, ?_⟩
    have hle := at_size a p hat
    rw [← h1.length] at hle
    simp only [RepT]
    refine ⟨_, c2, ?_, hr, h2⟩
    rw [List.take_append_of_le_length (by omega), List.drop_append_of_le_length (by omega)]
    simp
  | .pair a b, (k + 1) :: p, x, y, c, v, cs, hr, hs, hv => by
    simp only [setP, Option.map_eq_some_iff] at hs
    obtain ⟨z, hz, rfl⟩ := hs
    simp only [RepT] at hr
    obtain ⟨c1, c2, rfl, h1, h2⟩ := hr
    obtain ⟨d, u, hat, hl, ho, hr⟩ := setP_sound b (k :: p) h2 hz hv
    refine ⟨a.size + d, u, by simp [Ty.at, hat], hl, ho, ?_⟩
    simp only [RepT]
    refine ⟨c1, _, ?_, h1, hr⟩
    rw [← h1.length, List.take_append, List.drop_append, List.take_of_length_le (by omega), List.drop_eq_nil_of_le (by omega)]
    have e1 : c1.length + d - c1.length = d := by omega
    have e2 : c1.length + d + u.size - c1.length = d + u.size := by omega
    rw [e1, e2]
    simp
  | .mu a, k :: p, x, y, c, v, cs, hr, hs, hv => by
    rw [RepT.mu] at hr
    obtain ⟨c1, c2, rfl, h1, h2⟩ := hr
    simp only [setP] at hs
    split at hs
    · rename_i hk
      split at hs
      · rename_i hp
        simp only [Option.map_eq_some_iff] at hs
        obtain ⟨z, hz, rfl⟩ := hs
        obtain ⟨vs, hvs, rfl⟩ := asVal_sound hv hz
        rw [pack_cells hvs]
        refine ⟨a.size, .sl (.mu a), by simp [Ty.at, hk, hp], hvs.length, hvs.one, ?_⟩
        have hl := h2.length
        refine RepT.mu.2 ⟨c1, vs, ?_, h1, hvs⟩
        rw [← h1.length, List.take_left, List.drop_eq_nil_of_le (by rw [List.length_append]; omega), List.append_nil]
      · cases hs
    · rename_i hk
      simp only [Option.map_eq_some_iff] at hs
      obtain ⟨z, hz, rfl⟩ := hs
      obtain ⟨d, u, hat, hl, ho, hr⟩ := setP_sound a (k :: p) h1 hz hv
      refine ⟨d, u, by simp only [Ty.at]; rw [if_neg hk]; exact hat, hl, ho, ?_⟩
      have hle := at_size a (k :: p) hat
      rw [← h1.length] at hle
      refine RepT.mu.2 ⟨_, c2, ?_, hr, h2⟩
      rw [List.take_append_of_le_length (by omega), List.drop_append_of_le_length (by omega)]
      simp
  | .int _, _ :: _, _, _, _, _, _, _, h, _ => by simp [setP] at h
  | .bool, _ :: _, _, _, _, _, _, _, h, _ => by simp [setP] at h
  | .str, _ :: _, _, _, _, _, _, _, h, _ => by simp [setP] at h
  | .err, _ :: _, _, _, _, _, _, _, h, _ => by simp [setP] at h
  | .sl _, _ :: _, _, _, _, _, _, _, h, _ => by simp [setP] at h
  | .arr _ _, _ :: _, _, _, _, _, _, _, h, _ => by simp [setP] at h
  | .unit, _ :: _, _, _, _, _, _, _, h, _ => by simp [setP] at h

/-! ### The parts of a variable -/
/-- A list of contents, to its end. -/
def C.isList : C → Bool
  | .unit => true
  | .cons _ b => b.isList
  | _ => false

theorem appX_rep : ∀ {c d : C} {l m : List Value}, c.isList = true → RepX F κ s c l → RepX F κ s d m → RepX F κ s (appX c d) (l ++ m)
  | .unit, d, l, m, _, h, h2 => by
    simp only [RepX] at h
    subst h
    simpa [appX] using h2
  | .cons a b, d, l, m, hl, h, h2 => by
    simp only [RepX] at h
    obtain ⟨c1, c2, rfl, h1, h3⟩ := h
    simp only [appX, RepX]
    exact ⟨c1, c2 ++ m, by rw [List.append_assoc], h1, appX_rep hl h3 h2⟩
  | .val .., _, _, _, h, _, _ => by simp [C.isList] at h
  | .own _, _, _, _, h, _, _ => by simp [C.isList] at h
  | .ptr .., _, _, _, h, _, _ => by simp [C.isList] at h
  | .eptr .., _, _, _, h, _, _ => by simp [C.isList] at h
  | .aptr .., _, _, _, h, _, _ => by simp [C.isList] at h
  | .adr .., _, _, _, h, _, _ => by simp [C.isList] at h
  | .may .., _, _, _, h, _, _ => by simp [C.isList] at h
  | .brow .., _, _, _, h, _, _ => by simp [C.isList] at h
  | .fptr .., _, _, _, h, _, _ => by simp [C.isList] at h
  | .fn .., _, _, _, h, _, _ => by simp [C.isList] at h
  | .tup _, _, _, _, h, _, _ => by simp [C.isList] at h
  | .agg _, _, _, _, h, _, _ => by simp [C.isList] at h
  | .rsl .., _, _, _, h, _, _ => by simp [C.isList] at h
  | .nil, _, _, _, h, _, _ => by simp [C.isList] at h
  | .dead, _, _, _, h, _, _ => by simp [C.isList] at h
  | .vec .., _, _, _, h, _, _ => by simp [C.isList] at h
  | .iter .., _, _, _, h, _, _ => by simp [C.isList] at h
  | .rcd _, _, _, _, h, _, _ => by simp [C.isList] at h

theorem appX_list : ∀ {c d : C}, c.isList = true → d.isList = true → (appX c d).isList = true
  | .unit, d, _, h => by simpa [appX] using h
  | .cons a b, d, hl, h => by
    simp only [appX, C.isList]
    exact appX_list (by simpa [C.isList] using hl) h
  | .val .., _, h, _ => by simp [C.isList] at h
  | .own _, _, h, _ => by simp [C.isList] at h
  | .ptr .., _, h, _ => by simp [C.isList] at h
  | .eptr .., _, h, _ => by simp [C.isList] at h
  | .aptr .., _, h, _ => by simp [C.isList] at h
  | .adr .., _, h, _ => by simp [C.isList] at h
  | .may .., _, h, _ => by simp [C.isList] at h
  | .brow .., _, h, _ => by simp [C.isList] at h
  | .fptr .., _, h, _ => by simp [C.isList] at h
  | .fn .., _, h, _ => by simp [C.isList] at h
  | .tup _, _, h, _ => by simp [C.isList] at h
  | .agg _, _, h, _ => by simp [C.isList] at h
  | .rsl .., _, h, _ => by simp [C.isList] at h
  | .nil, _, h, _ => by simp [C.isList] at h
  | .dead, _, h, _ => by simp [C.isList] at h
  | .vec .., _, h, _ => by simp [C.isList] at h
  | .iter .., _, h, _ => by simp [C.isList] at h
  | .rcd _, _, h, _ => by simp [C.isList] at h

theorem appX_refs : ∀ (c d : C) (o : Nat), o ∈ (appX c d).refs → o ∈ c.refs ∨ o ∈ d.refs
  | .cons a b, d, o, h => by
    simp only [appX, C.refs, List.mem_append] at h ⊢
    rcases h with h | h
    · exact .inl (.inl h)
    · exact (appX_refs b d o h).imp .inr id
  | .unit, d, o, h => by simp only [appX] at h; exact .inr h
  | .val .., _, _, h => by simp only [appX] at h; exact .inr h
  | .own _, _, _, h => by simp only [appX] at h; exact .inr h
  | .ptr .., _, _, h => by simp only [appX] at h; exact .inr h
  | .eptr .., _, _, h => by simp only [appX] at h; exact .inr h
  | .aptr .., _, _, h => by simp only [appX] at h; exact .inr h
  | .adr .., _, _, h => by simp only [appX] at h; exact .inr h
  | .may .., _, _, h => by simp only [appX] at h; exact .inr h
  | .brow .., _, _, h => by simp only [appX] at h; exact .inr h
  | .fptr .., _, _, h => by simp only [appX] at h; exact .inr h
  | .fn .., _, _, h => by simp only [appX] at h; exact .inr h
  | .tup _, _, _, h => by simp only [appX] at h; exact .inr h
  | .agg _, _, _, h => by simp only [appX] at h; exact .inr h
  | .rsl .., _, _, h => by simp only [appX] at h; exact .inr h
  | .nil, _, _, h => by simp only [appX] at h; exact .inr h
  | .dead, _, _, h => by simp only [appX] at h; exact .inr h
  | .vec .., _, _, h => by simp only [appX] at h; exact .inr h
  | .iter .., _, _, h => by simp only [appX] at h; exact .inr h
  | .rcd _, _, _, h => by simp only [appX] at h; exact .inr h

theorem leaf1 {t : Ty} {x : t.den} {cs : List Value} (h : RepT F t x cs) : RepX F κ s (.cons (.val t x) .unit) cs := by
  simp only [RepX]
  exact ⟨cs, [], by simp, h, rfl⟩

theorem leaves_sound : ∀ (t : Ty) {x : t.den} {cs : List Value}, RepT F t x cs → RepX F κ s (leaves t x) cs ∧ (leaves t x).isList = true ∧ (leaves t x).refs = []
  | .unit, x, cs, h => by
    simp only [RepT] at h
    subst h
    exact ⟨by simp [leaves, RepX], rfl, rfl⟩
  | .pair a b, x, cs, h => by
    simp only [RepT] at h
    obtain ⟨c1, c2, rfl, h1, h2⟩ := h
    obtain ⟨i1, i2, i3⟩ := leaves_sound a h1
    obtain ⟨j1, j2, j3⟩ := leaves_sound b h2
    refine ⟨appX_rep i2 i1 j1, appX_list i2 j2, ?_⟩
    cases hc : (leaves (Ty.pair a b) x).refs with
    | nil => rfl
    | cons o r =>
      have : o ∈ (leaves (Ty.pair a b) x).refs := by rw [hc]; simp
      rcases appX_refs _ _ o this with h | h
      · rw [i3] at h; cases h
      · rw [j3] at h; cases h
  | .mu a, x, cs, h => by
    rw [RepT.mu] at h
    obtain ⟨c1, c2, rfl, h1, h2⟩ := h
    obtain ⟨i1, i2, i3⟩ := leaves_sound a h1
    refine ⟨appX_rep i2 i1 (leaf1 h2), appX_list i2 rfl, ?_⟩
    cases hc : (leaves (Ty.mu a) x).refs with
    | nil => rfl
    | cons o r =>
      have : o ∈ (leaves (Ty.mu a) x).refs := by rw [hc]; simp
      rcases appX_refs _ _ o this with h | h
      · rw [i3] at h; cases h
      · cases h
  | .int k, x, cs, h => ⟨leaf1 h, rfl, rfl⟩
  | .bool, x, cs, h => ⟨leaf1 h, rfl, rfl⟩
  | .str, x, cs, h => ⟨leaf1 h, rfl, rfl⟩
  | .err, x, cs, h => ⟨leaf1 h, rfl, rfl⟩
  | .sl _, x, cs, h => ⟨leaf1 h, rfl, rfl⟩
  | .arr _ _, x, cs, h => ⟨leaf1 h, rfl, rfl⟩

theorem appX_bty : ∀ (c d : C), c.isList = true → c.bty = none → d.bty = none → (appX c d).bty = none
  | .unit, d, _, _, h => by simpa [appX] using h
  | .cons a b, d, _, h, _ => by
    simp only [appX]
    cases a <;> first | rfl | (simp [C.bty] at h)
  | .val .., _, h, _, _ => by simp [C.isList] at h
  | .own _, _, h, _, _ => by simp [C.isList] at h
  | .ptr .., _, h, _, _ => by simp [C.isList] at h
  | .eptr .., _, h, _, _ => by simp [C.isList] at h
  | .aptr .., _, h, _, _ => by simp [C.isList] at h
  | .adr .., _, h, _, _ => by simp [C.isList] at h
  | .may .., _, h, _, _ => by simp [C.isList] at h
  | .brow .., _, h, _, _ => by simp [C.isList] at h
  | .fptr .., _, h, _, _ => by simp [C.isList] at h
  | .fn .., _, h, _, _ => by simp [C.isList] at h
  | .tup _, _, h, _, _ => by simp [C.isList] at h
  | .agg _, _, h, _, _ => by simp [C.isList] at h
  | .rsl .., _, h, _, _ => by simp [C.isList] at h
  | .nil, _, h, _, _ => by simp [C.isList] at h
  | .dead, _, h, _, _ => by simp [C.isList] at h
  | .vec .., _, h, _, _ => by simp [C.isList] at h
  | .iter .., _, h, _, _ => by simp [C.isList] at h
  | .rcd _, _, h, _, _ => by simp [C.isList] at h

theorem leaves_form : ∀ (t : Ty) (x : t.den), (leaves t x).isList = true ∧ (leaves t x).bty = none
  | .unit, x => ⟨rfl, rfl⟩
  | .pair a b, x => by
    obtain ⟨i1, i2⟩ := leaves_form a x.1
    obtain ⟨j1, j2⟩ := leaves_form b x.2
    exact ⟨appX_list i1 j1, appX_bty _ _ i1 i2 j2⟩
  | .mu a, x => by
    obtain ⟨i1, i2⟩ := leaves_form a x.data
    exact ⟨appX_list i1 rfl, appX_bty _ _ i1 i2 rfl⟩
  | .int k, x => ⟨rfl, rfl⟩
  | .bool, x => ⟨rfl, rfl⟩
  | .str, x => ⟨rfl, rfl⟩
  | .err, x => ⟨rfl, rfl⟩
  | .sl _, x => ⟨rfl, rfl⟩
  | .arr _ _, x => ⟨rfl, rfl⟩
theorem leaves_bty (t : Ty) (x : t.den) : (leaves t x).bty = none := (leaves_form t x).2

/-- A variable of a type, new. -/
theorem allocR_sound (hI : Inv n f F κ s a w) {h : OH} {t : Ty} {x : t.den} {T : TypeId} {cells : Array Value} {sem : Sem Value} {dst : Option Nat} {r : Res} {u : St}
    (hnew : ∀ m ∈ h.new, s.get (okey m) = none) (hx : RepT F t x cells.toList) (hs : 0 < t.size ∨ t = .unit)
    (hrun : sem.run P w = .ok (.pointer (some ⟨w.heap.size, 0, none⟩)) { w with heap := w.heap.push (.cells cells T) })
    (hr : allocR h t x dst = some r) (hu : r.run = some u) : Does P n f F κ s a w sem dst u := by
  unfold allocR at hr
  split at hr
  · rename_i o hho
    have hno : s.get (okey o) = none := hnew o (by rw [hho]; simp)
    split at hr
    · rename_i m e xs
      cases hr; cases hu
      simp only [RepT] at hx
      obtain ⟨hm, hc, hel⟩ := hx
      have hI2 := hI.fresh (o := o) (p := 0) (q := m) (c := .vec (some m) e xs) hno (by simp [C.refs]) (push_chg (o := .cells cells T) (d := w.drawn)) (by
        intro κ' s' _ hκ' _
        simp only [RepO, hκ']
        exact ⟨fun _ h => by cases h; exact ⟨hm, _, _, rfl⟩, cells, T, _, push_get (d := w.drawn), .inr (Nat.le_refl _), ⟨by omega, fun h => by cases h⟩, by simp at hc; omega, fun i hi => by rw [Nat.zero_add]; exact hel i hi⟩)
      refine ⟨_, .ptr o 0, F, _, _, [(okey o, .vec (some m) e xs)], rfl, hrun, Froz.le_refl F, hI2, rep_ptr.2 ?_, by simp [C.refs, St.upd, St.get_set]⟩
      intro c hc' _
      exact ⟨w.heap.size, 0, m, by simp, rfl⟩
    · cases hr; cases hu
      obtain ⟨_, _, hrefs⟩ := leaves_sound (κ := κ) (s := s) _ hx
      have hI2 := hI.fresh (o := o) (p := 0) (q := 0) (c := .rcd (leaves t x)) hno (by simp only [C.refs, hrefs]; simp) (push_chg (o := .cells cells T) (d := w.drawn)) (by
        intro κ' s' _ hκ' _
        simp only [RepO]
        exact ⟨w.heap.size, cells, T, _, hκ', push_get (d := w.drawn), .inr (Nat.le_refl _), (leaves_sound _ hx).1, fun T0 h => by rw [leaves_bty] at h; cases h⟩)
      refine ⟨_, .ptr o 0, F, _, _, [(okey o, .rcd (leaves t x))], rfl, hrun, Froz.le_refl F, hI2, rep_ptr.2 ?_, by simp [C.refs, St.upd, St.get_set]⟩
      intro c hc' _
      exact ⟨w.heap.size, 0, 0, by simp, rfl⟩
  · cases hr

theorem alloc_run (hΓ : CtxT Γ P) {T : TypeId} {t : Ty} (ht : Γ.tab T = some t) : ∃ cells : Array Value, (∀ F, RepT F t t.zero cells.toList) ∧
    (Instr.alloc T true (.tuple #[])).run P w = .ok (.pointer (some ⟨w.heap.size, 0, none⟩)) { w with heap := w.heap.push (.cells cells T) } := by
  obtain ⟨i, z, hi⟩ := tyIs_info (hΓ.tab _ _ ht)
  refine ⟨z.cells, hi.rep, ?_⟩
  simp only [Instr.alloc, Sem.run_bind, zero_run hi, Result.andThen_ok, newVar, newRow, run_newObj, Sem.run_pure]

/-- A new builder. -/
theorem bldR_core (hI : Inv n f F κ s a w) {h : OH} {T : TypeId} {dst : Option Nat} {r : Res} {u : St} (hnew : ∀ m ∈ h.new, s.get (okey m) = none) (hnd : h.new.Nodup)
    {sem : Sem Value} (hrun : sem.run P w = .ok (.pointer (some ⟨w.heap.size, 0, none⟩)) { w with heap := w.heap.push (.cells #[.pointer none, .slice none 0 0] T) })
    (hr : bldR h T dst = some r) (hu : r.run = some u) : Does P n f F κ s a w sem dst u := by
  unfold bldR at hr
  split at hr
  · rename_i o m hho
    cases hr; cases hu
    rw [hho] at hnew hnd
    have hno : s.get (okey o) = none := hnew o (by simp)
    have hmo : s.get (okey m) = none := hnew m (by simp)
    have hne : o ≠ m := by simpa using hnd
    have hI1 := hI.obj (o := m) (c := .vec none (.int .u8) []) (pl := none) (w' := w) hmo (by simp [C.refs]) rfl (by
      intro κ' s' _ hκ' _
      simp only [RepO, hκ']
      exact ⟨by simp, trivial⟩)
    have hno' : (s.set (okey m) (.vec none (.int .u8) [])).get (okey o) = none := by rw [St.get_set, if_neg (fun e => hne (okey_inj e).symm)]; exact hno
    have hI2 := hI1.freshS (o := o) (p := 0) (q := 0) (c := .rcd (.cons (.adr o T) (.cons (.brow m) .unit))) (w' := { w with heap := w.heap.push (.cells #[.pointer none, .slice none 0 0] T) }) hno'
      (fun o' ho' hoo => by
        simp only [C.refs, List.cons_append, List.nil_append, List.append_nil, List.mem_cons, List.not_mem_nil, or_false] at ho'
        rcases ho' with rfl | rfl
        · exact absurd rfl hoo
        · simp [St.get_set])
      (push_chg (o := .cells #[.pointer none, .slice none 0 0] T) (d := w.drawn)) (by
        intro κ' s' hκo hκ' hs'
        simp only [RepO]
        refine ⟨w.heap.size, _, T, _, hκ', push_get (d := w.drawn), .inr (Nat.le_refl _), ?_, fun T0 h => by simpa [C.bty] using h⟩
        simp only [RepX]
        refine ⟨[.pointer none], [.slice none 0 0], rfl, ⟨?_, rfl⟩, [.slice none 0 0], [], rfl, ⟨?_, rfl⟩, rfl⟩
        · exact rep_adr.2 (fun c _ _ => .inl rfl)
        · refine rep_brow.2 (fun n' t' xs hx => ?_)
          rw [hs' m (Ne.symm hne), St.get_set, if_pos rfl] at hx
          cases hx
          rw [hκo m (Ne.symm hne), if_pos rfl]
          rfl)
    refine ⟨_, .ptr o 0, F, _, _, [(okey m, .vec none (.int .u8) []), (okey o, .rcd (.cons (.adr o T) (.cons (.brow m) .unit)))], rfl, hrun, Froz.le_refl F, hI2, rep_ptr.2 ?_, by simp [C.refs, St.upd, St.get_set]⟩
    intro c hc' _
    exact ⟨w.heap.size, 0, 0, by simp, rfl⟩
  · cases hr

theorem bldR_sound (hΓ : CtxT Γ P) (hI : Inv n f F κ s a w) {h : OH} {T : TypeId} {dst : Option Nat} {r : Res} {u : St} (hnew : ∀ m ∈ h.new, s.get (okey m) = none) (hnd : h.new.Nodup) (hT : Γ.bld T = true)
    (hr : bldR h T dst = some r) (hu : r.run = some u) : Does P n f F κ s a w (Instr.alloc T true (.tuple #[])) dst u := by
  obtain ⟨i, hi, hsz, hz⟩ := (bldIs_spec (hΓ.bld T hT)).zero
  exact bldR_core hI hnew hnd (by
    simp only [Instr.alloc, Sem.run_bind, zeroValue, typeInfo_run hi, hz, Result.andThen_ok, newVar, newRow, run_newObj, Sem.run_pure]
    rfl) hr hu

theorem box_run {T : TypeId} {v : Value} : (Instr.box T v).run P w = .ok (.pointer (some ⟨w.heap.size, 0, none⟩)) { w with heap := w.heap.push (.cells v.cells T) } := by
  simp only [Instr.box, newVar, newRow, Sem.run_bind, run_newObj, Result.andThen_ok, Sem.run_pure]

/-! ### Stores -/
theorem live_one {c : C} {v : Value} (hg : ∀ k c, g k = some c → s.get k = some c) (hl : c.lone = true) (hc : c.cells = 1) (ha : c.aggV = false) (hlive : liveC g c = true)
    (hv : RepC F κ s c v) : v.oneCell' = true ∧ RepX F κ s (.cons c .unit) [v] := by
  have out : RepX F κ s c [v] → RepX F κ s (.cons c .unit) [v] := fun h => by
    simp only [RepX]
    exact ⟨[v], [], rfl, h, rfl⟩
  cases c <;> simp only [C.lone, Bool.false_eq_true] at hl <;> simp only [liveC, Bool.false_eq_true] at hlive
  case val t x =>
    obtain ⟨cs, hr, rfl⟩ := rep_val.1 hv
    simp only [C.aggV] at ha
    have hlen := hr.length
    rw [size_one ha] at hlen
    match cs, hlen with
    | [v], _ =>
      simp only [pack, ha, Bool.false_eq_true, if_false, List.headD_cons]
      exact ⟨hr.one v (by simp), by simp only [RepX]; exact ⟨[v], [], rfl, hr, rfl⟩⟩
  case own o =>
    refine ⟨?_, out (by simp only [RepX]; exact ⟨hv, rfl⟩)⟩
    split at hlive
    · rename_i n t xs h
      exact SlAt.one (rep_own.1 hv _ _ _ (hg _ _ h))
    · cases hlive
  case brow o =>
    refine ⟨?_, out (by simp only [RepX]; exact ⟨hv, rfl⟩)⟩
    split at hlive
    · rename_i n t xs h
      exact SlAt.one (rep_own.1 (brow_own hv) _ _ _ (hg _ _ h))
    · cases hlive
  case ptr o off =>
    refine ⟨?_, out (by simp only [RepX]; exact ⟨hv, rfl⟩)⟩
    split at hlive
    · rename_i c h
      obtain ⟨b, p, q, _, rfl⟩ := rep_ptr.1 hv c (hg _ _ h) (by rintro rfl; simp [C.isObj] at hlive)
      rfl
    · cases hlive
  case eptr o off t i path =>
    refine ⟨?_, out (by simp only [RepX]; exact ⟨hv, rfl⟩)⟩
    split at hlive
    · rename_i n t' xs h
      have := of_decide_eq_true hlive
      subst this
      obtain ⟨_, _, b, p, q, d, u, _, _, rfl⟩ := rep_eptr.1 hv _ _ (hg _ _ h)
      rfl
    · cases hlive
  case aptr o off m t i path =>
    refine ⟨?_, out (by simp only [RepX]; exact ⟨hv, rfl⟩)⟩
    split at hlive
    · rename_i x h
      obtain ⟨_, _, hp⟩ := rep_aptr.1 hv
      obtain ⟨b, p, q, d, u, _, _, rfl⟩ := hp _ (hg _ _ h) (by simp)
      rfl
    · cases hlive
  case fptr t x =>
    refine ⟨?_, out (by simp only [RepX]; exact ⟨hv, rfl⟩)⟩
    obtain ⟨b, off, c, T, fr, _, rfl, _⟩ := rep_fptr.1 hv
    rfl
  case fn i caps =>
    refine ⟨?_, out (by simp only [RepX]; exact ⟨hv, rfl⟩)⟩
    simp only [RepL, List.cons.injEq, and_true] at hv
    obtain ⟨us, rfl, _⟩ := hv
    rfl
  case nil =>
    refine ⟨?_, out (by simp only [RepX]; exact ⟨hv, rfl⟩)⟩
    rw [rep_nil] at hv
    obtain ⟨a, rfl⟩ := hv
    rfl

theorem putX_unit (x : C) : putX x 0 .unit = some x := by cases x <;> rfl

theorem putX_sound : ∀ (x : C) (off : Nat) (p : C) {cs vs : List Value} {x' : C}, RepX F κ s x cs → RepX F κ s p vs → putX x off p = some x' →
    off + vs.length ≤ cs.length ∧ RepX F κ s x' (cs.take off ++ vs ++ cs.drop (off + vs.length)) ∧ ∀ o ∈ x'.refs, o ∈ x.refs ∨ o ∈ p.refs := by
  have nothing : ∀ (x : C) {cs vs : List Value} {x' : C}, RepX F κ s x cs → RepX F κ s .unit vs → putX x 0 .unit = some x' →
      0 + vs.length ≤ cs.length ∧ RepX F κ s x' (cs.take 0 ++ vs ++ cs.drop (0 + vs.length)) ∧ ∀ o ∈ x'.refs, o ∈ x.refs ∨ o ∈ C.unit.refs := fun x cs vs x' hx hp h => by
    rw [putX_unit] at h
    cases h
    simp only [RepX] at hp
    subst hp
    exact ⟨by simp, by simpa using hx, fun o ho => .inl ho⟩
  intro x
  induction x with
  | cons a b _ ihb =>
    intro off p cs vs x' hx hp h
    cases off with
    | zero =>
      cases p with
      | unit => exact nothing _ hx hp h
      | cons p q =>
        simp only [putX] at h
        split at h
        · rename_i hc
          simp only [Option.map_eq_some_iff] at h
          obtain ⟨y, hy, rfl⟩ := h
          simp only [RepX] at hx hp
          obtain ⟨c1, c2, rfl, h1, h2⟩ := hx
          obtain ⟨v1, v2, rfl, g1, g2⟩ := hp
          have e1 := cells_len hc.2.1 h1
          have e2 := cells_len hc.1 g1
          have hcc := hc.2.2
          obtain ⟨i1, i2, i3⟩ := ihb 0 q h2 g2 hy
          refine ⟨by simp; omega, ?_, fun o ho => ?_⟩
          · simp only [RepX]
            refine ⟨v1, _, ?_, g1, i2⟩
            simp only [List.take_zero, List.nil_append, Nat.zero_add, List.append_assoc, List.length_append]
            rw [List.drop_append, List.drop_eq_nil_of_le (by omega), List.nil_append]
            congr 3
            omega
          · simp only [C.refs, List.mem_append] at ho ⊢
            rcases ho with ho | ho
            · exact .inr (.inl ho)
            · exact (i3 o ho).imp .inr .inr
        · cases h
      | _ => simp [putX] at h
    | succ m =>
      have h : (if a.lone = true ∧ a.cells ≤ m + 1 ∧ 0 < a.cells then (putX b (m + 1 - a.cells) p).map (.cons a) else none) = some x' := by cases p <;> simpa only [putX] using h
      split at h
      · rename_i hc
        simp only [Option.map_eq_some_iff] at h
        obtain ⟨y, hy, rfl⟩ := h
        simp only [RepX] at hx
        obtain ⟨c1, c2, rfl, h1, h2⟩ := hx
        have e1 := cells_len hc.1 h1
        obtain ⟨i1, i2, i3⟩ := ihb (m + 1 - a.cells) p h2 hp hy
        refine ⟨by simp; omega, ?_, fun o ho => ?_⟩
        · simp only [RepX]
          refine ⟨c1, _, ?_, h1, i2⟩
          rw [List.take_append, List.drop_append, List.take_of_length_le (by omega), List.drop_eq_nil_of_le (by omega)]
          simp only [List.append_assoc, List.nil_append]
          congr 3
          · rw [e1]
          · congr 2; omega
        · simp only [C.refs, List.mem_append] at ho ⊢
          rcases ho with ho | ho
          · exact .inl (.inl ho)
          · exact (i3 o ho).imp .inr id
      · cases h
  | _ =>
    intro off p cs vs x' hx hp h
    cases off with
    | zero =>
      cases p with
      | unit => exact nothing _ hx hp h
      | _ => simp [putX] at h
    | succ m => cases p <;> simp [putX] at h


theorem splice_in {α : Type} (A B D V : List α) {m u : Nat} (h : m + u ≤ B.length) :
    (A ++ B ++ D).take (A.length + m) ++ V ++ (A ++ B ++ D).drop (A.length + m + u) = A ++ (B.take m ++ V ++ B.drop (m + u)) ++ D := by
  rw [List.append_assoc A B D, Nat.add_assoc, List.take_length_add_append, List.drop_length_add_append, List.take_append_of_le_length (by omega), List.drop_append_of_le_length (by omega)]
  simp only [List.append_assoc]

/-- What a store must show: it gives no value. -/
def Stores (P : Program) (n : Nat) (f : Frame0) (F : Froz) (_κ : Conc) (s : St) (a : Act) (w : World) (sem : Sem Unit) (u : St) : Prop :=
  ∃ κ' w', sem.run P w = .ok () w' ∧ Inv n f F κ' (s.upd u) a w'

theorem nilP_sound : ∀ (c : C) {vs : List Value}, c.nilP = true → RepG F κ s c vs → vs.length = c.len ∧ (∀ v ∈ vs, v.oneCell' = true) ∧ c.refs = [] ∧ RepX F κ s c vs := by
  intro c
  induction c with
  | cons a b _ ih =>
    intro vs hc h
    simp only [RepG] at h
    obtain ⟨c1, c2, rfl, h1, h2⟩ := h
    cases a with
    | val t x =>
      simp only [C.nilP, Bool.and_eq_true, Bool.not_eq_true'] at hc
      obtain ⟨i1, i2, i3, i4⟩ := ih hc.2 h2
      simp only [RepG] at h1
      have hl := h1.length
      rw [size_one hc.1] at hl
      refine ⟨by rw [List.length_append, hl, i1, C.len]; omega, fun v hv => ?_, by simp only [C.refs, i3, List.append_nil], ?_⟩
      · rcases List.mem_append.1 hv with hv | hv
        · exact h1.one v hv
        · exact i2 v hv
      · simp only [RepX]
        exact ⟨c1, c2, rfl, h1, i4⟩
    | nil =>
      simp only [C.nilP] at hc
      obtain ⟨i1, i2, i3, i4⟩ := ih hc h2
      simp only [RepG] at h1
      obtain ⟨ad, rfl⟩ := h1
      refine ⟨by rw [List.length_append, i1, C.len]; simp; omega, fun v hv => ?_, by simp only [C.refs, i3, List.append_nil], ?_⟩
      · rcases List.mem_append.1 hv with hv | hv
        · simp only [List.mem_singleton] at hv
          subst hv
          rfl
        · exact i2 v hv
      · simp only [RepX]
        exact ⟨_, c2, rfl, ⟨by simp only [RepL]; exact ⟨ad, rfl⟩, rfl⟩, i4⟩
    | _ => simp [C.nilP] at hc
  | unit =>
    intro vs _ h
    simp only [RepG] at h
    subst h
    exact ⟨rfl, by simp, rfl, by simp only [RepX]⟩
  | _ => intro vs hc; simp [C.nilP] at hc
theorem storeR_sound (hΓ : CtxT Γ P) (hI : Inv n f F κ s a w) (hg : ∀ k c, g k = some c → s.get k = some c) {T : TypeId} {cx cv : C} {vx vv : Value} {r : Res} {u : St}
    (hx : RepC F κ s cx vx) (hv : RepC F κ s cv vv) (hvr : ∀ o ∈ cv.refs, (s.get (okey o)).isSome = true) (hr : storeR Γ T cx cv g = some r) (hu : r.run = some u) :
    Stores P n f F κ s a w (Instr.storeAt T vx vv) u := by
  unfold storeR at hr
  split at hr
  · rename_i ob off t ht
    have hty := hΓ.tab _ _ ht
    split at hr
    · -- a whole array
      rename_i m e xs hgo
      split at hr
      · rename_i he
        obtain ⟨rfl, rfl⟩ := he
        simp only [Option.map_eq_some_iff] at hr
        obtain ⟨ys, hys, rfl⟩ := hr
        cases hu
        obtain ⟨cs, hcs, rfl⟩ := asVal_sound hv hys
        have hso := hg _ _ hgo
        obtain ⟨b, p, q, hκ, rfl⟩ := rep_ptr.1 hx _ hso (by simp)
        have ho := hI.objs ob _ hso
        simp only [RepO, hκ] at ho
        obtain ⟨h1, c, T', fr, hb, hfr, hq, hroom, hel⟩ := ho
        obtain ⟨hm, hmb⟩ := h1 m rfl
        have hlen := hcs.length
        simp only [Ty.size] at hlen
        have hle : m * e.size ≤ q * e.size := Nat.mul_le_mul_right _ (by omega)
        have hrun := store_run (P := P) hty hb hfr (v := pack (.arr m e) cs) (off := p + 0) (by rw [pack_cells hcs, hcs.length]) (by simp only [Ty.size]; omega) (by rw [pack_cells hcs]; exact hcs.one)
        rw [pack_cells hcs] at hrun
        refine ⟨κ, _, hrun, ?_⟩
        simp only [St.upd]
        refine hI.write hso rfl rfl hκ (fun n' t' zs hz => ?_) (by simp [C.refs]) row_chg (fun s' hle' => ?_)
        · cases hz
          exact ⟨xs, rfl, by simp only [RepT] at hcs; omega⟩
        · have hm' : List.length ys = m := by simp only [RepT] at hcs; exact hcs.1
          simp only [RepO, hκ]
          refine ⟨fun _ h => by cases h; exact ⟨hm', hmb⟩, _, _, _, row_get hb, by simpa [splice_size] using hfr, ⟨by omega, hq.2⟩, by rw [splice_size]; omega, fun i hi => ?_⟩
          simp only [RepT] at hcs
          have hy := hcs.2.2 i hi
          rw [Nat.add_zero, splice_list _ _ _ (by omega), List.append_assoc]
          have hp : (c.toList.take p).length = p := by simp; omega
          have hie : i * e.size + e.size ≤ m * e.size := by rw [← Nat.succ_mul]; exact Nat.mul_le_mul_right _ (by omega)
          rw [List.drop_append, List.drop_eq_nil_of_le (by omega), List.nil_append, hp, Nat.add_sub_cancel_left, take_left_drop (by omega)]
          exact hy
      · cases hr
    · -- a part of a struct
      rename_i x hgo
      have hso := hg _ _ hgo
      obtain ⟨b, p, q, hκ, rfl⟩ := rep_ptr.1 hx _ hso (by simp)
      have ho := hI.objs ob _ hso
      simp only [RepO] at ho
      obtain ⟨b', c, T', fr, hκ', hb, hfr, hX, hB⟩ := ho
      rw [hκ] at hκ'
      cases hκ'
      have fin : ∀ (pc : C) (vs : List Value) (x' : C), RepX F κ s pc vs → (∀ o ∈ pc.refs, (s.get (okey o)).isSome = true) → putX x off pc = some x' → (x'.bty = none ∨ x'.bty = x.bty) → vv.cells.toList = vs → vs.length = t.size →
          (∀ k ∈ vs, k.oneCell' = true) → Stores P n f F κ s a w (Instr.storeAt T (.pointer (some ⟨b, 0 + off, none⟩)) vv) [(okey ob, .rcd x')] := by
        intro pc vs x' hpc hpr hput hbt hvs hl h1
        obtain ⟨i1, i2, i3⟩ := putX_sound x off pc hX hpc hput
        have hfit : 0 + off + t.size ≤ c.size := by
          rw [← hl]; simpa using i1
        have hrun := store_run (P := P) hty hb hfr (v := vv) (off := 0 + off) (by rw [hvs, hl]) hfit (by rw [hvs]; exact h1)
        rw [hvs] at hrun
        refine ⟨κ, _, hrun, ?_⟩
        simp only [St.upd]
        refine hI.write hso rfl rfl hκ (fun n' t' zs hz => by cases hz) (fun o' ho' => ?_) row_chg (fun s' hle' => ?_)
        · simp only [C.refs] at ho'
          rcases i3 o' ho' with h | h
          · exact hI.closed _ _ hso o' (by simpa only [C.refs] using h)
          · exact hpr o' h
        · simp only [RepO]
          refine ⟨b, _, _, _, hκ, row_get hb, by simpa [splice_size] using hfr, ?_⟩
          rw [splice_list _ _ _ (by omega), Nat.zero_add]
          exact ⟨RepX.mono (Froz.le_refl F) _ _ (fun o _ => hle' o) i2, fun T0 h => hbt.elim (fun e => by rw [e] at h; cases h) (fun e => hB T0 (by rw [← e]; exact h))⟩
      split at hr
      · rename_i hagg
        split at hr
        · rename_i y hy
          simp only [Option.bind_eq_some_iff] at hr
          obtain ⟨x', hx', hr⟩ := hr
          split at hr
          rotate_left
          · cases hr
          rename_i hbt
          cases hr
          cases hu
          obtain ⟨cs, hcs, rfl⟩ := asVal_sound hv hy
          obtain ⟨l1, _, l3⟩ := leaves_sound (κ := κ) (s := s) _ hcs
          exact fin _ cs x' l1 (by rw [l3]; simp) hx' hbt (pack_cells hcs) hcs.length hcs.one
        · split at hr
          · rename_i pc _
            split at hr
            rotate_left
            · cases hr
            rename_i hc
            simp only [Option.bind_eq_some_iff] at hr
            obtain ⟨x', hx', hr⟩ := hr
            split at hr
            rotate_left
            · cases hr
            rename_i hbt
            cases hr
            cases hu
            simp only [RepL] at hv
            obtain ⟨vs, hvv, hG⟩ := hv
            have hvv : vv = .agg vs.toArray := by simpa using hvv
            obtain ⟨l1, l2, l3, l4⟩ := nilP_sound pc hc.1 hG
            exact fin pc vs x' l4 (by rw [l3]; simp) hx' hbt (by rw [hvv]; simp [Value.cells]) (by rw [l1, hc.2]) l2
          · cases hr
      · rename_i hagg
        have hagg' : t.agg = false := by simpa using hagg
        split at hr
        · rename_i hc
          simp only [Option.bind_eq_some_iff] at hr
          obtain ⟨x', hx', hr⟩ := hr
          split at hr
          rotate_left
          · cases hr
          rename_i hbt
          cases hr
          cases hu
          obtain ⟨l1, l2⟩ := live_one hg hc.1 hc.2.1 hc.2.2.1 hc.2.2.2 hv
          refine fin _ [vv] x' l2 (fun o ho => ?_) hx' hbt ?_ (by rw [size_one hagg']; rfl) (by simpa using l1)
          · simp only [C.refs, List.append_nil] at ho
            exact hvr o ho
          · cases vv <;> simp_all [Value.cells, Value.oneCell']
        · cases hr
    · cases hr
  · -- an element
    rename_i ob e i path t ht
    have hty := hΓ.tab _ _ ht
    split at hr
    · rename_i m e' xs d u' hgo hat
      split at hr
      · rename_i he
        subst he
        split at hr
        · rename_i he2
          subst he2
          split at hr
          · rename_i y hy
            cases hr; cases hu
            have hso := hg _ _ hgo
            obtain ⟨h0, hl, b, p, q, d', u2, hκ, hat', rfl⟩ := rep_eptr.1 hx _ _ hso
            rw [hat] at hat'
            cases hat'
            have ho := hI.objs ob _ hso
            simp only [RepO, hκ] at ho
            obtain ⟨h1, c, T', fr, hb, hfr, hq, hroom, hel⟩ := ho
            have hi : i.toNat < xs.length := by omega
            have hget : xs.getD i.toNat e'.zero = xs[i.toNat] := by simp [List.getD, List.getElem?_eq_getElem hi]
            rw [hget] at hy
            obtain ⟨d2, u3, hat2, hvl, hone, hry⟩ := setP_sound _ _ (hel _ hi) hy hv
            rw [hat] at hat2
            cases hat2
            have hle := at_size _ _ hat
            have hie : ∀ k, k < xs.length → k * e'.size + e'.size ≤ q * e'.size := fun k hk => by rw [← Nat.succ_mul]; exact Nat.mul_le_mul_right _ (by omega)
            have hii := hie _ hi
            have hfit : p + 0 + i.toNat * e'.size + d + u'.size ≤ c.size := by omega
            have hrun := store_run (P := P) hty hb hfr (v := vv) (off := p + 0 + i.toNat * e'.size + d) hvl hfit hone
            refine ⟨κ, _, hrun, ?_⟩
            simp only [St.upd]
            refine hI.write hso rfl rfl hκ (fun n' t' zs hz => ?_) (by simp [C.refs]) row_chg (fun s' hle' => ?_)
            · cases hz
              exact ⟨xs, rfl, by simp⟩
            · simp only [RepO, hκ]
              refine ⟨fun m' hm' => by rw [List.length_set]; exact h1 m' hm', _, _, _, row_get hb, by simpa [splice_size] using hfr, by simpa using hq, by rw [splice_size]; omega, fun k hk => ?_⟩
              rw [List.length_set] at hk
              have hkk := hie k hk
              have hspl : p + 0 + i.toNat * e'.size + d + vv.cells.toList.length ≤ c.size := by omega
              by_cases hki : k = i.toNat
              · subst hki
                rw [List.getElem_set_self]
                have hwin : ((splice c (p + 0 + i.toNat * e'.size + d) vv.cells.toList).toList.drop (p + i.toNat * e'.size)).take e'.size =
                    ((c.toList.drop (p + i.toNat * e'.size)).take e'.size).take d ++ vv.cells.toList ++ ((c.toList.drop (p + i.toNat * e'.size)).take e'.size).drop (d + u'.size) := by
                  rw [splice_list _ _ _ hspl]
                  simp only [Nat.add_zero]
                  rw [hvl]
                  exact splice_window hle hvl (by simp; omega)
                rw [hwin]
                exact hry
              · rw [List.getElem_set_ne (fun h => hki h.symm)]
                rcases Nat.lt_or_ge k i.toNat with hlt | hge
                · have : k * e'.size + e'.size ≤ i.toNat * e'.size := by rw [← Nat.succ_mul]; exact Nat.mul_le_mul_right _ (by omega)
                  rw [splice_before hspl (by omega)]
                  exact hel k hk
                · have : i.toNat * e'.size + e'.size ≤ k * e'.size := by rw [← Nat.succ_mul]; exact Nat.mul_le_mul_right _ (by omega)
                  rw [splice_behind hspl (by omega)]
                  exact hel k hk
          · cases hr
        · cases hr
      · cases hr
    · cases hr
  · -- an element of an array in a struct
    rename_i ob off m e i path t ht
    have hty := hΓ.tab _ _ ht
    split at hr
    · rename_i x d u' hgo hat
      split at hr
      · rename_i n' e' xs rest hdr
        split at hr
        · rename_i he
          subst he
          split at hr
          · rename_i he2
            obtain ⟨rfl, rfl⟩ := he2
            split at hr
            · rename_i y hy
              simp only [Option.bind_eq_some_iff] at hr
              obtain ⟨x', hput, hr⟩ := hr
              split at hr
              rotate_left
              · cases hr
              rename_i hbt
              cases hr
              cases hu
              have hso := hg _ _ hgo
              obtain ⟨h0, hl, hp⟩ := rep_aptr.1 hx
              obtain ⟨b, p, q, d', u2, hκ, hat', rfl⟩ := hp _ hso (by simp)
              rw [hat] at hat'
              cases hat'
              have ho := hI.objs ob _ hso
              simp only [RepO] at ho
              obtain ⟨b', c, T', fr, hκ', hb, hfr, hX, hB⟩ := ho
              rw [hκ] at hκ'
              cases hκ'
              obtain ⟨hR, _⟩ := dropX_sound x off hX hdr
              simp only [RepX] at hR
              obtain ⟨c1, c2, hc, h1, _⟩ := hR
              simp only [RepT] at h1
              obtain ⟨hm, hcl, hel⟩ := h1
              have hi : i.toNat < List.length xs := by omega
              have hget : List.getD xs i.toNat e'.zero = xs[i.toNat] := by simp [List.getD, List.getElem?_eq_getElem hi]
              simp only at hy
              rw [hget] at hy
              obtain ⟨d2, u3, hat2, hvl, hone, hry⟩ := setP_sound _ _ (hel _ hi) hy hv
              rw [hat] at hat2
              cases hat2
              have hle := at_size _ _ hat
              have hie : ∀ k, k < n' → k * e'.size + e'.size ≤ n' * e'.size := fun k hk => by rw [← Nat.succ_mul]; exact Nat.mul_le_mul_right _ (by omega)
              have hii := hie i.toNat (by omega)
              have hspl : i.toNat * e'.size + d + vv.cells.toList.length ≤ c1.toArray.size := by rw [hvl, List.size_toArray]; omega
              have hct : c1.toArray.toList = c1 := rfl
              have hc1 : RepT F (.arr n' e') (List.set xs i.toNat y) (splice c1.toArray (i.toNat * e'.size + d) vv.cells.toList).toList := by
                simp only [RepT]
                refine ⟨by rw [List.length_set]; exact hm, by rw [Array.length_toList, splice_size]; simpa using hcl, fun k hk => ?_⟩
                rw [List.length_set] at hk
                have hkk := hie k (by omega)
                by_cases hki : k = i.toNat
                · subst hki
                  rw [List.getElem_set_self]
                  have hwin : ((splice c1.toArray (i.toNat * e'.size + d) vv.cells.toList).toList.drop (i.toNat * e'.size)).take e'.size =
                      ((c1.drop (i.toNat * e'.size)).take e'.size).take d ++ vv.cells.toList ++ ((c1.drop (i.toNat * e'.size)).take e'.size).drop (d + u'.size) := by
                    rw [splice_list _ _ _ hspl, hvl, hct]
                    exact splice_window hle hvl (by omega)
                  rw [hwin]
                  exact hry
                · rw [List.getElem_set_ne (fun h => hki h.symm)]
                  rcases Nat.lt_or_ge k i.toNat with hlt | hge
                  · have : k * e'.size + e'.size ≤ i.toNat * e'.size := by rw [← Nat.succ_mul]; exact Nat.mul_le_mul_right _ (by omega)
                    rw [splice_before hspl (by omega)]
                    exact hel k hk
                  · have : i.toNat * e'.size + e'.size ≤ k * e'.size := by rw [← Nat.succ_mul]; exact Nat.mul_le_mul_right _ (by omega)
                    rw [splice_behind hspl (by omega)]
                    exact hel k hk
              have hX2 : RepX F κ s (.cons (.val (.arr n' e') (List.set xs i.toNat y)) .unit) (splice c1.toArray (i.toNat * e'.size + d) vv.cells.toList).toList := leaf1 hc1
              obtain ⟨i1, i2, i3⟩ := putX_sound x off _ hX hX2 hput
              have hlc : (splice c1.toArray (i.toNat * e'.size + d) vv.cells.toList).toList.length = n' * e'.size := by rw [Array.length_toList, splice_size]; simpa using hcl
              rw [hlc] at i1 i2
              have hcs : c.toList = c.toList.take off ++ c1 ++ c2 := by rw [List.append_assoc, ← hc, List.take_append_drop]
              have hA : (c.toList.take off).length = off := by simp at i1 ⊢; omega
              have hcells : c.toList.take off ++ (splice c1.toArray (i.toNat * e'.size + d) vv.cells.toList).toList ++ c.toList.drop (off + n' * e'.size) =
                  (splice c (0 + off + i.toNat * e'.size + d) vv.cells.toList).toList := by
                rw [splice_list _ _ _ hspl, splice_list _ _ _ (by simp at i1; omega), hvl]
                have hd2 : c.toList.drop (off + n' * e'.size) = c2 := by
                  rw [← List.drop_drop, hc, ← hcl, List.drop_left]
                rw [hd2]
                have := splice_in (c.toList.take off) c1 c2 vv.cells.toList (m := i.toNat * e'.size + d) (u := u'.size) (by omega)
                rw [← hcs, hA] at this
                rw [show 0 + off + i.toNat * e'.size + d = off + (i.toNat * e'.size + d) by omega, this]
              rw [hcells] at i2
              have hfit : 0 + off + i.toNat * e'.size + d + u'.size ≤ c.size := by simp at i1; omega
              have hrun := store_run (P := P) hty hb hfr (v := vv) (off := 0 + off + i.toNat * e'.size + d) hvl hfit hone
              refine ⟨κ, _, hrun, ?_⟩
              simp only [St.upd]
              refine hI.write hso rfl rfl hκ (fun n' t' zs hz => by cases hz) (fun o' ho' => ?_) row_chg (fun s' hle' => ?_)
              · simp only [C.refs] at ho'
                rcases i3 o' ho' with h | h
                · exact hI.closed _ _ hso o' (by simpa only [C.refs] using h)
                · simp [C.refs] at h
              · simp only [RepO]
                exact ⟨b, _, _, _, hκ, row_get hb, by simpa [splice_size] using hfr, RepX.mono (Froz.le_refl F) _ _ (fun o _ => hle' o) i2, fun T0 h => hbt.elim (fun e => by rw [e] at h; cases h) (fun e => hB T0 (by rw [← e]; exact h))⟩
            · cases hr
          · cases hr
        · cases hr
      · cases hr
    · cases hr
  · cases hr


/-- A builder is written anew, before anything was written to it. -/
theorem zstoreR_sound (hΓ : CtxT Γ P) (hI : Inv n f F κ s a w) (hg : ∀ k c, g k = some c → s.get k = some c) {h : OH} {T : TypeId} {cx cv : C} {vx vv : Value} {r : Res} {u : St} (hnew : ∀ m ∈ h.new, s.get (okey m) = none)
    (hT : Γ.bld T = true) (hx : RepC F κ s cx vx) (hv : RepC F κ s cv vv) (hr : zstoreR h T cx cv g = some r) (hu : r.run = some u) :
    Stores P n f F κ s a w (Instr.storeAt T vx vv) u := by
  unfold zstoreR at hr
  split at hr
  · rename_i ob ob' m m2 hwr hnw
    split at hr
    · rename_i ob2 T' m' hgo hgm
      split at hr
      · rename_i hc
        obtain ⟨e1, e2, e3, e4, hne⟩ := hc
        have e1 := e1.symm
        have e2 := e2.symm
        have e3 := e3.symm
        subst e1 e2 e3 e4
        cases hr; cases hu
        have hso := hg _ _ hgo
        have hsm := hg _ _ hgm
        have hno : s.get (okey m2) = none := hnew m2 (by rw [hnw]; simp)
        have hm2o : m2 ≠ ob := fun e => by subst e; rw [hso] at hno; cases hno
        have hm2m : m2 ≠ m := fun e => by subst e; rw [hsm] at hno; cases hno
        obtain ⟨b, p, q, hκ, rfl⟩ := rep_ptr.1 hx _ hso (by simp)
        have ho := hI.objs ob _ hso
        simp only [RepO] at ho
        obtain ⟨b', c, T0, fr, hκ', hb, hfr, hX, hB⟩ := ho
        rw [hκ] at hκ'
        cases hκ'
        have hT0 := hB _ rfl
        subst hT0
        have hc2 : c.toList.length = 2 := by
          simp only [RepX] at hX
          obtain ⟨c1, c2, e, ⟨_, l1⟩, c3, c4, rfl, ⟨_, l2⟩, rfl⟩ := hX
          rw [e]
          simp [l1, l2]
        have hsz : c.size = 2 := by simpa using hc2
        have hvv : vv = .agg #[.pointer none, .slice none 0 0] := by
          simp only [RepL, RepG] at hv
          obtain ⟨us, e, v1, r1, e1, e2, v2, r2, e3, e4, e5⟩ := hv
          have e := (List.cons.inj e).1
          subst e5 e4 e3 e2 e1
          rw [e]
          rfl
        subst hvv
        obtain ⟨i, hi, his, _⟩ := (bldIs_spec (hΓ.bld _ hT)).zero
        have hrun : (Instr.storeAt T0 (.pointer (some ⟨b, 0 + 0, none⟩)) (.agg #[.pointer none, .slice none 0 0])).run P w = .ok () (World.row w b #[.pointer none, .slice none 0 0] T0 fr) := by
          have := storeCells_run (P := P) (off := 0) [.pointer none, .slice none 0 0] 0 c w hb hfr (by simp; omega) (by simp [Value.oneCell'])
          have hsp : splice c (0 + 0) [.pointer none, .slice none 0 0] = #[.pointer none, .slice none 0 0] := by
            apply Array.ext'
            rw [splice_list _ _ _ (by simp; omega)]
            have : c.toList.drop 2 = [] := List.drop_of_length_le (by omega)
            simp [this]
          rw [hsp] at this
          simp only [Instr.storeAt, Instr.sureAddr, storeVar, Sem.run_bind, Sem.run_pure, Result.andThen_ok, Go.sizeOf, typeInfo_run hi, his]
          exact this
        have hI1 := hI.kill m
        have hno1 : (s.set (okey m) .dead).get (okey m2) = none := by rw [St.get_set, if_neg (fun e => hm2m (okey_inj e).symm)]; exact hno
        have hI2 := hI1.obj (o := m2) (c := .vec none (.int .u8) []) (pl := none) (w' := w) hno1 (by simp [C.refs]) rfl (by
          intro κ' s' _ hκ' _
          simp only [RepO, hκ']
          exact ⟨by simp, trivial⟩)
        have hso2 : ((s.set (okey m) .dead).set (okey m2) (.vec none (.int .u8) [])).get (okey ob) = some (.rcd (.cons (.adr ob T0) (.cons (.brow m) .unit))) := by
          rw [St.get_set, if_neg (fun e => hm2o (okey_inj e)), St.get_set, if_neg (fun e => hne (okey_inj e))]
          exact hso
        have hsm2 : ((s.set (okey m) .dead).set (okey m2) (.vec none (.int .u8) [])).get (okey m2) = some (.vec none (.int .u8) []) := by rw [St.get_set, if_pos rfl]
        refine ⟨fun o' => if o' = m2 then none else κ o', _, hrun, ?_⟩
        simp only [St.upd]
        refine hI2.write (o := ob) (b := b) (p := 0) (q := 0) hso2 rfl rfl (by simp [Ne.symm hm2o, hκ]) (fun n' t' zs hz => by cases hz) (fun o' ho' => ?_) row_chg (fun s' hle' => ?_)
        · simp only [C.refs, List.cons_append, List.nil_append, List.append_nil, List.mem_cons, List.not_mem_nil, or_false] at ho'
          rcases ho' with rfl | rfl
          · rw [hso2]; rfl
          · rw [hsm2]; rfl
        · simp only [RepO]
          refine ⟨b, _, _, _, by simp [Ne.symm hm2o, hκ], row_get hb, by simpa [hsz] using hfr, ?_, fun T1 h1 => by simpa [C.bty] using h1⟩
          simp only [RepX]
          refine ⟨[.pointer none], [.slice none 0 0], rfl, ⟨rep_adr.2 (fun c _ _ => .inl rfl), rfl⟩, [.slice none 0 0], [], rfl, ⟨rep_brow.2 (fun n' t' xs hx => ?_), rfl⟩, rfl⟩
          obtain ⟨ys, h1, h2, h3⟩ := (hle' m2).vec _ _ _ hx
          rw [hsm2] at h1
          cases h1
          have : xs = [] := List.eq_nil_of_length_eq_zero (by rw [← h2]; rfl)
          subst this
          simp [sliceAt]
      · cases hr
    · cases hr
  · cases hr

end
end Go.Fe
