/- One operation, whatever it is. -/
import Derived.Test.YtmnpchoocaiegaaGreatDoorFeCall
namespace Go.Fe
open Go

section
variable {Γ : Ctx} {P : Program} {n : Nat} {f : Frame0} {F : Froz} {κ : Conc} {s : St} {a : Act} {w : World} {g : Nat → Option C}

/-- Structs that are compared. -/
def EqOK (P : Program) (eqt : TypeId → Option Ty) : Prop := ∀ T t, eqt T = some t → t.isRec = true → ∀ (F : Froz) (p q : t.den) (vx vy : Value), RepV F t p vx → RepV F t q vy → ∀ w op x y,
  (eqGuard op T x y vx vy).run P w = .ok () w ∧ (Op.equal T vx vy).run P w = .ok (t.beq p q) w

/-- All that is known of the program. -/
structure CtxOK (Γ : Ctx) (P : Program) : Prop extends CtxT Γ P where
  eqs : EqOK P Γ.eqt
  fns : ∀ i args objs r, Γ.fn i args objs = some r → FnOK P Γ.glob i (Γ.fn i) ∧ ∀ vals w, (callFunc i vals).run P w = .ok (.enter i vals) w

/-- What follows an operation. -/
def Then (n : Nat) (f : Frame0) (F : Froz) (s : St) (a : Act) (dst : Option Nat) (u : St) (next : Act → World → Prop) : Prop :=
  ∀ F' κ' a' w', F.le F' → Inv n f F' κ' (s.upd u) a' w' → (∀ t, dst ≠ some t → a'.tmps.getD t undef = a.tmps.getD t undef) → next a' w'

theorem does_wp {o : Oper} {sem : Sem Value} {u : St} {next : Act → World → Prop} {Q : Exit → Act → World → Prop} (hd : Does P n f F κ s a w sem o.dst u)
    (hx : execOp a.eval o = (do pure (.value (← sem)))) (hdst : ∀ d, o.dst = some d → d < n ∧ d < 100000) (hn : Then n f F s a o.dst u next) : o.wp P a w next Q := by
  obtain ⟨v, c, F', κ', w', uo, rfl, hr, hF, hI, hv, hc⟩ := hd
  refine wp_val (w' := w') (v := v) (by rw [hx]; simp only [Sem.run_bind, hr, Result.andThen_ok, Sem.run_pure]) (hn F' κ' _ w' hF ?_ (fun t ht => put_frame t ht))
  rw [upd_append]
  exact put_inv hI hdst hv hc

theorem mnmxR_sound {f1 : Int → Int → Int} {m2 : Value → Value → Sem Value} (hf : ∀ k x k' y, (m2 (.int k x) (.int k' y)) = pure (.int k (f1 x y))) {k : IntKind} : ∀ {r : C} {x m : Int} {vs : List Value},
    RepL F κ s r vs → mnmxR f1 k x r = some m → (vs.foldlM m2 (.int k x)).run P w = .ok (.int k m) w
  | .unit, x, m, vs, h, hm => by
    simp only [mnmxR, Option.some.injEq] at hm
    subst hm
    simp only [RepL] at h
    subst h
    rfl
  | .cons (.val (.int k') b) r, x, m, vs, h, hm => by
    simp only [mnmxR] at hm
    split at hm
    · rename_i hk
      subst hk
      simp only [RepL] at h
      obtain ⟨v, vs', rfl, ⟨v', hv', hrv⟩, h2⟩ := h
      cases hv'
      have := rep_int (F := F) (κ := κ) (s := s) |>.1 (rep_val.2 hrv)
      subst this
      simp only [List.foldlM_cons, Sem.run_bind, hf, Sem.run_pure, Result.andThen_ok]
      exact mnmxR_sound hf h2 hm
    · cases hm
  | .cons (.val .bool _) _, _, _, _, _, hm => by simp [mnmxR] at hm
  | .cons (.val .str _) _, _, _, _, _, hm => by simp [mnmxR] at hm
  | .cons (.val (.sl _) _) _, _, _, _, _, hm => by simp [mnmxR] at hm
  | .cons (.val (.arr _ _) _) _, _, _, _, _, hm => by simp [mnmxR] at hm
  | .cons (.val .unit _) _, _, _, _, _, hm => by simp [mnmxR] at hm
  | .cons (.val (.pair _ _) _) _, _, _, _, _, hm => by simp [mnmxR] at hm
  | .cons (.own _) _, _, _, _, _, hm => by simp [mnmxR] at hm
  | .cons (.ptr ..) _, _, _, _, _, hm => by simp [mnmxR] at hm
  | .cons (.eptr ..) _, _, _, _, _, hm => by simp [mnmxR] at hm
  | .cons (.fptr ..) _, _, _, _, _, hm => by simp [mnmxR] at hm
  | .cons (.fn ..) _, _, _, _, _, hm => by simp [mnmxR] at hm
  | .cons (.tup _) _, _, _, _, _, hm => by simp [mnmxR] at hm
  | .cons (.agg _) _, _, _, _, _, hm => by simp [mnmxR] at hm
  | .cons (.rsl ..) _, _, _, _, _, hm => by simp [mnmxR] at hm
  | .cons (.cons ..) _, _, _, _, _, hm => by simp [mnmxR] at hm
  | .cons .unit _, _, _, _, _, hm => by simp [mnmxR] at hm
  | .cons .nil _, _, _, _, _, hm => by simp [mnmxR] at hm
  | .cons .dead _, _, _, _, _, hm => by simp [mnmxR] at hm
  | .cons (.vec ..) _, _, _, _, _, hm => by simp [mnmxR] at hm
  | .cons (.rcd _) _, _, _, _, _, hm => by simp [mnmxR] at hm
  | .val .., _, _, _, _, hm => by simp [mnmxR] at hm
  | .own _, _, _, _, _, hm => by simp [mnmxR] at hm
  | .ptr .., _, _, _, _, hm => by simp [mnmxR] at hm
  | .eptr .., _, _, _, _, hm => by simp [mnmxR] at hm
  | .fptr .., _, _, _, _, hm => by simp [mnmxR] at hm
  | .fn .., _, _, _, _, hm => by simp [mnmxR] at hm
  | .tup _, _, _, _, _, hm => by simp [mnmxR] at hm
  | .agg _, _, _, _, _, hm => by simp [mnmxR] at hm
  | .rsl .., _, _, _, _, hm => by simp [mnmxR] at hm
  | .nil, _, _, _, _, hm => by simp [mnmxR] at hm
  | .dead, _, _, _, _, hm => by simp [mnmxR] at hm
  | .vec .., _, _, _, _, hm => by simp [mnmxR] at hm
  | .iter .., _, _, _, _, hm => by simp [mnmxR] at hm
  | .rcd _, _, _, _, _, hm => by simp [mnmxR] at hm

theorem rep_cons {b c : C} {vs : List Value} (h : RepL F κ s (.cons b c) vs) : ∃ v r, vs = v :: r ∧ RepC F κ s b v ∧ RepL F κ s c r := by
  simpa only [RepL] using h
theorem rep_unit {vs : List Value} (h : RepL F κ s .unit vs) : vs = [] := by simpa only [RepL] using h

theorem mnmx_sound {f1 : Int → Int → Int} {m2 : Value → Value → Sem Value} (hf : ∀ k x k' y, (m2 (.int k x) (.int k' y)) = pure (.int k (f1 x y))) {args : C} {vals : List Value} {dst : Option Nat} {r : Res} {u : St} {sem : Sem Value}
    (hsem : ∀ x r, vals = x :: r → sem = r.foldlM m2 x) (h : RepL F κ s args vals) (hr : mnmx f1 args dst = some r) (hu : r.run = some u) : Gives P F κ s w sem dst u := by
  unfold mnmx at hr
  split at hr
  · rename_i k x rest
    simp only [Option.map_eq_some_iff] at hr
    obtain ⟨m, hm, rfl⟩ := hr
    cases hu
    obtain ⟨v, vs, rfl, h1, h2⟩ := rep_cons h
    rw [rep_int] at h1
    subst h1
    refine ⟨_, _, rfl, ?_, rep_int.2 rfl, by simp [C.refs]⟩
    rw [hsem _ _ rfl]
    exact mnmxR_sound hf h2 hm
  · cases hr

theorem builtinR_sound (hΓ : CtxT Γ P) (hI : Inv n f F κ s a w) (hg : ∀ k c, g k = some c → s.get k = some c) {h : OH} (hnew : ∀ m ∈ h.new, s.get (okey m) = none) {b : Builtin} {ts : Array TypeId} {ty : TypeId} {consts : Array Bool}
    {args : C} {vals : List Value} {dst : Option Nat} {r : Res} {u : St} (hargs : RepL F κ s args vals) (hr : builtinR Γ h b ts.toList args g dst = some r) (hu : r.run = some u) :
    ∃ sem, builtin b ts ty consts vals.toArray = (do pure (.value (← sem))) ∧ Does P n f F κ s a w sem dst u := by
  unfold builtinR at hr
  split at hr
  · rename_i T rest x hts
    obtain ⟨v, vs, rfl, h1, h2⟩ := rep_cons hargs
    have := rep_unit h2
    subst this
    exact ⟨_, rfl, Gives.does hI (lenR_sound hΓ hI hg (ts := ts) (by rw [← Array.getElem?_toList, hts]; rfl) h1 hr hu)⟩
  · rename_i T U rest x y hts
    obtain ⟨v, vs, rfl, h1, h2⟩ := rep_cons hargs
    obtain ⟨v2, vs2, rfl, h3, h4⟩ := rep_cons h2
    have := rep_unit h4
    subst this
    have e0 : ts[0]? = some T := by rw [← Array.getElem?_toList, hts]; rfl
    have e1 : ts[1]? = some U := by rw [← Array.getElem?_toList, hts]; rfl
    split at hr
    · rename_i e hU
      obtain ⟨E, hE, _⟩ := tyIs_sl (hΓ.tab _ _ hU)
      exact ⟨_, rfl, appendR_sound hΓ hI hg e0 e1 hE (.inl ⟨_, rfl⟩) hnew h1 h3 hr hu⟩
    · rename_i hU
      exact ⟨_, rfl, appendR_sound hΓ hI hg e0 e1 (tyIs_str (hΓ.tab _ _ hU)) (.inr rfl) hnew h1 h3 hr hu⟩
    · cases hr
  · rename_i T rest x y hts
    obtain ⟨v, vs, rfl, h1, h2⟩ := rep_cons hargs
    obtain ⟨v2, vs2, rfl, h3, h4⟩ := rep_cons h2
    have := rep_unit h4
    subst this
    exact ⟨_, rfl, copyR_sound hΓ hI hg (ts := ts) (by rw [← Array.getElem?_toList, hts]; rfl) h1 h3 hr hu⟩
  · exact ⟨_, rfl, Gives.does hI (mnmx_sound (m2 := Builtin.min2) (fun k x k' y => by simp only [Builtin.min2, mn]) (fun x r hv => by subst hv; rfl) hargs hr hu)⟩
  · exact ⟨_, rfl, Gives.does hI (mnmx_sound (m2 := Builtin.max2) (fun k x k' y => by simp only [Builtin.max2, mx]) (fun x r hv => by subst hv; rfl) hargs hr hu)⟩
  · cases hr

theorem chk_true {b : Bool} {u : Unit} (h : chk b = some u) : b = true := by cases b <;> simp_all [chk]

theorem buildArr_sound (hΓ : CtxT Γ P) (hI : Inv n f F κ s a w) (hG : GlobOK Γ F) (hg : ∀ k c, g k = some c → s.get k = some c) {T : TypeId} {m : Nat} {ps : Array (Nat × Operand)} {e : Ty} {qs : List (Nat × C)} {dst : Option Nat}
    (ht : Γ.tab T = some (.arr m e)) (hqs : partsC Γ g ps.toList = some qs) {xs : List e.den} (hxs : buildE e 0 qs = some xs) (hlen : xs.length = m) :
    Gives P F κ s w (Instr.build T (ps.map fun (i, x) => (i, a.eval x))) dst (Out1 dst (.val (.arr m e) xs)) := by
  obtain ⟨E, hT, hpos, hE⟩ := tyIs_arr (hΓ.tab _ _ ht)
  obtain ⟨i, z, hi⟩ := tyIs_info (hΓ.tab _ _ ht)
  have hzs : z.cells.size = m * e.size := by
    have := (hi.rep F).length
    simpa [Ty.size] using this
  have htwo := parts_sound (a := a) hI hG hg hqs
  obtain ⟨cells', hfill, hsz, _, hel⟩ := buildE_sound (e := e) (total := m) (cells := z.cells) (k := 0) htwo hzs (by omega) hxs
  have hps : (ps.map fun (i, x) => (i, a.eval x)).toList = ps.toList.map fun p => (p.1, a.eval p.2) := by simp
  refine ⟨.agg cells', _, rfl, ?_, rep_val.2 ⟨cells'.toList, ?_, ?_⟩, by simp [C.refs]⟩
  · simp only [Instr.build, Sem.run_bind, zero_run hi, Result.andThen_ok, underlying_run hT, sizeOf_run hE, hps, hfill, Sem.run_pure]
  · simp only [RepT]
    refine ⟨hlen, by simp [hsz, hzs], fun k hk => ?_⟩
    have := hel k hk
    rw [Nat.zero_add] at this
    exact this
  · simp [pack, Ty.agg]

theorem buildArr0_sound (hΓ : CtxT Γ P) {T : TypeId} {m : Nat} {ps : Array (Nat × Operand)} {e : Ty} {dst : Option Nat}
    (ht : Γ.tab T = some (.arr m e)) (hqs : partsC Γ g ps.toList = some []) :
    Gives P F κ s w (Instr.build T (ps.map fun (i, x) => (i, a.eval x))) dst (Out1 dst (.val (.arr m e) (Ty.arr m e).zero)) := by
  obtain ⟨E, hT, hpos, hE⟩ := tyIs_arr (hΓ.tab _ _ ht)
  obtain ⟨i, z, hi⟩ := tyIs_info (hΓ.tab _ _ ht)
  have hnil : ps.toList = [] := by
    cases hl : ps.toList with
    | nil => rfl
    | cons p r =>
      rw [hl] at hqs
      obtain ⟨j, x⟩ := p
      simp only [partsC] at hqs
      split at hqs <;> cases hqs
  have hps : (ps.map fun (i, x) => (i, a.eval x)).toList = [] := by simp [hnil]
  refine ⟨.agg z.cells, _, rfl, ?_, rep_val.2 ⟨z.cells.toList, hi.rep F, by simp [pack, Ty.agg]⟩, by simp [C.refs]⟩
  have hf : ∀ g : Nat → Option (Nat × Nat), Instr.fill g z.cells [] = some z.cells := fun _ => rfl
  simp only [Instr.build, Sem.run_bind, zero_run hi, Result.andThen_ok, underlying_run hT, sizeOf_run hE, hps, hf, Sem.run_pure]

theorem buildSlice_sound (hΓ : CtxT Γ P) (hI : Inv n f F κ s a w) (hG : GlobOK Γ F) (hg : ∀ k c, g k = some c → s.get k = some c) {h : OH} (hnew : ∀ m ∈ h.new, s.get (okey m) = none) {T : TypeId} {m : Nat} {ps : Array (Nat × Operand)} {e : Ty} {qs : List (Nat × C)}
    (ht : Γ.tab T = some (.sl e)) (hqs : partsC Γ g ps.toList = some qs) {xs : List e.den} (hxs : buildE e 0 qs = some xs) (hlen : xs.length = m) (hsmall : m * e.size ≤ 16777216) {dst : Option Nat} {r : Res} {u : St}
    (hr : (match h.new with
      | [] => some (Res.ok (Out1 dst (.val (.sl e) xs)))
      | [o] => some (Res.ok ((okey o, .vec none e xs) :: Out1 dst (.own o)))
      | _ => none) = some r) (hu : r.run = some u) : Does P n f F κ s a w (Instr.buildSlice T m (ps.map fun (i, x) => (i, a.eval x))) dst u := by
  obtain ⟨E, hT, hpos, hE⟩ := tyIs_sl (hΓ.tab _ _ ht)
  obtain ⟨i, z, hi⟩ := tyIs_info hE
  have hzs : z.cells.size = e.size := by
    have := (hi.rep F).length
    simpa using this
  have htwo := parts_sound (a := a) hI hG hg hqs
  obtain ⟨cells', hfill, hsz, _, hel⟩ := buildE_sound (e := e) (total := m) (cells := (Array.range (m * e.size)).map (fun j => z.cells[j % z.cells.size]!)) (k := 0) htwo (by simp) (by omega) hxs
  have hps : (ps.map fun (i, x) => (i, a.eval x)).toList = ps.toList.map fun p => (p.1, a.eval p.2) := by simp
  have hsize : cells'.size = m * e.size := by rw [hsz]; simp
  have hbig : ¬ m * e.size > 2 ^ 24 := by omega
  have hrun : (Instr.buildSlice T m (ps.map fun (i, x) => (i, a.eval x))).run P w = .ok (.slice (some ⟨w.heap.size, 0, none⟩) m m) { w with heap := w.heap.push (.cells cells' E) } := by
    simp only [Instr.buildSlice, Sem.run_bind, underlying_run hT, Result.andThen_ok, sizeOf_run hE, hbig, if_false, Sem.run_ite]
    by_cases hz : m * e.size = 0
    · have hm0 : m = 0 := by
        rcases Nat.mul_eq_zero.1 hz with h | h
        · exact h
        · omega
      subst hm0
      have hr0 : Array.range 0 = #[] := rfl
      simp only [Nat.zero_mul, hr0, Array.map_empty] at hfill
      simp only [Nat.zero_mul, if_true, Sem.run_pure, Result.andThen_ok, hr0, Array.map_empty, hps, hfill, newRow, Sem.run_bind, run_newObj]
    · rw [if_neg hz]
      simp only [zero_run hi, Result.andThen_ok, Sem.run_bind, Sem.run_pure, hps, hfill, newRow, run_newObj]
  split at hr
  · -- data
    cases hr; cases hu
    have hI1 := hI.more (push_chg (o := .cells cells' E) (d := w.drawn))
    obtain ⟨hF, hI2⟩ := hI1.extend (b := w.heap.size) (ob := .cells cells' E) (push_get (d := w.drawn)) (.inl hI.kept.size) (by
      intro o' c' p' q' h1 h2 h3
      have := RepO.lt hI h1 h2 h3
      omega)
    refine ⟨_, .val (.sl e) xs, _, κ, _, [], by simp, hrun, hF, hI2, rep_sl.2 ⟨_, _, by rw [hlen], by omega, .inr ⟨w.heap.size, 0, cells', E, (0, 0), rfl, by simp, fun k hk => ?_⟩⟩, by simp [C.refs]⟩
    have := hel k hk
    rw [Nat.zero_add] at this ⊢
    exact this.mono hF
  · -- a row of its own
    rename_i o2 ho2
    cases hr; cases hu
    have hno : s.get (okey o2) = none := hnew o2 (by rw [ho2]; simp)
    subst hlen
    refine row_fresh hI hrun hno (push_chg (d := w.drawn)) (push_get (d := w.drawn)) (.inr (Nat.le_refl _)) (Nat.le_refl _) (by rw [hsize]; exact Nat.le_refl _) (tyIs_sl5 (hΓ.tab _ _ ht) hT) (fun k hk => ?_)
    have := hel k hk
    rw [Nat.zero_add] at this
    exact this
  · cases hr

theorem box_sound (hI : Inv n f F κ s a w) (hG : GlobOK Γ F) (hg : ∀ k c, g k = some c → s.get k = some c) {h : OH} (hnew : ∀ m ∈ h.new, s.get (okey m) = none) {T : TypeId} {x : Operand} {c : C} (hc : opnd Γ g x = some c) {t : Ty} (hs : 0 < t.size) {y : t.den} (hy : asVal t c = some y)
    {dst : Option Nat} {r : Res} {u : St} (hr : allocR h t y dst = some r) (hu : r.run = some u) : Does P n f F κ s a w (Instr.box T (a.eval x)) dst u := by
  obtain ⟨cs, hcs, hpk⟩ := asVal_sound (opnd_sound hI hG hg hc).1 hy
  have hcells : (a.eval x).cells.toList = cs := by rw [hpk]; exact pack_cells hcs
  exact allocR_sound hI hnew (cells := (a.eval x).cells) (by rw [hcells]; exact hcs) (.inl hs) box_run hr hu

theorem box_sound2 (hI : Inv n f F κ s a w) (hG : GlobOK Γ F) (hg : ∀ k c, g k = some c → s.get k = some c) {h : OH} (hnew : ∀ m ∈ h.new, s.get (okey m) = none) {T : TypeId} {x : Operand} {c : C} (hc : opnd Γ g x = some c)
    {dst : Option Nat} {r : Res} {u : St} (hr : (match h.new with
        | [n] => if c.lone = true ∧ c.cells = 1 ∧ c.aggV = false ∧ liveC g c = true then some (Res.ok ((okey n, .rcd (.cons c .unit)) :: Out1 dst (.ptr n 0))) else none
        | _ => none) = some r) (hu : r.run = some u) : Does P n f F κ s a w (Instr.box T (a.eval x)) dst u := by
  have opn := opnd_sound hI hG hg hc
  split at hr
  · rename_i m hm
    split at hr
    · rename_i hc1
      cases hr; cases hu
      obtain ⟨l1, l2⟩ := live_one hg hc1.1 hc1.2.1 hc1.2.2.1 hc1.2.2.2 opn.1
      have hno : s.get (okey m) = none := hnew m (by rw [hm]; simp)
      have hcells : (a.eval x).cells = #[a.eval x] := by cases hv : a.eval x <;> simp_all [Value.cells, Value.oneCell']
      have hrun := box_run (P := P) (w := w) (T := T) (v := a.eval x)
      rw [hcells] at hrun
      have hrefs : ∀ o' ∈ (C.rcd (.cons c .unit)).refs, (s.get (okey o')).isSome = true := fun o' ho' => opn.2 o' (by simpa [C.refs] using ho')
      have hI2 := hI.fresh (o := m) (p := 0) (q := 0) (c := .rcd (.cons c .unit)) hno hrefs (push_chg (o := .cells #[a.eval x] T) (d := w.drawn)) (by
        intro κ' s' hκ' hκm hs'
        simp only [RepO]
        refine ⟨w.heap.size, _, T, _, hκm, push_get (d := w.drawn), .inr (Nat.le_refl _), ?_, fun T0 h => by
          cases c <;> first | (simp [C.bty] at h; done) | (simp [liveC] at hc1)⟩
        refine RepX.mono (Froz.le_refl F) _ _ (fun o' ho' => ?_) l2
        have hne : o' ≠ m := by
          rintro rfl
          have := hrefs o' (by simpa only [C.refs] using ho')
          rw [hno] at this; cases this
        exact .of_eq (hs' o' hne) (hκ' o' hne))
      refine ⟨_, .ptr m 0, F, _, _, [(okey m, .rcd (.cons c .unit))], rfl, hrun, Froz.le_refl F, hI2, rep_ptr.2 ?_, by simp [C.refs, St.upd, St.get_set]⟩
      intro c' _ _
      exact ⟨w.heap.size, 0, 0, by simp, rfl⟩
    · cases hr
  · cases hr

theorem build_sound (hΓ : CtxT Γ P) (hI : Inv n f F κ s a w) (hG : GlobOK Γ F) (hg : ∀ k c, g k = some c → s.get k = some c) {T : TypeId} {ps : Array (Nat × Operand)} {t : Ty} {qs : List (Nat × C)}
    (ht : Γ.tab T = some t) (hqs : partsC Γ g ps.toList = some qs) (hrec : t.isRec = true) {x : t.den} (hx : buildP t t.zero qs = some x) {dst : Option Nat} :
    Gives P F κ s w (Instr.build T (ps.map fun (i, x) => (i, a.eval x))) dst (Out1 dst (.val t x)) := by
  obtain ⟨i, z, hi⟩ := tyIs_info (hΓ.tab _ _ ht)
  obtain ⟨fs, hfs, hfl⟩ := tyIs_rec hrec (hΓ.tab _ _ ht)
  obtain ⟨places, hp, hpl⟩ := places_run (P := P) (w := w) hfl
  have htwo := parts_sound (a := a) hI hG hg hqs
  obtain ⟨cells', hfill, hrep⟩ := buildP_sound (P := P) (cells := z.cells) hfl hpl htwo (hi.rep F) hx
  refine ⟨.agg cells', _, rfl, ?_, rep_val.2 ⟨cells'.toList, hrep, by simp [pack, rec_agg hrec]⟩, by simp [C.refs]⟩
  have hps : (ps.map fun (i, x) => (i, a.eval x)).toList = ps.toList.map fun p => (p.1, a.eval p.2) := by simp
  simp only [Instr.build, Sem.run_bind, zero_run hi, underlying_run hfs, Result.andThen_ok, hp, hps, hfill, Sem.run_pure]

theorem repG_X : ∀ (c : C) (vs : List Value), c.noMay = true → RepG F κ s c vs → RepX F κ s c vs := by
  intro c
  induction c with
  | cons a b iha ihb =>
    intro vs hm h
    simp only [C.noMay, Bool.and_eq_true] at hm
    simp only [RepG] at h
    obtain ⟨c1, c2, e, h1, h2⟩ := h
    simp only [RepX]
    exact ⟨c1, c2, e, iha _ hm.1 h1, ihb _ hm.2 h2⟩
  | unit => intro vs _ h; simpa only [RepG, RepX] using h
  | val t x => intro vs _ h; simpa only [RepG, RepX] using h
  | ptr o off =>
    intro vs _ h
    simp only [RepG] at h
    obtain ⟨v, rfl, h⟩ := h
    simp only [RepX, RepL]
    exact ⟨⟨v, rfl, h⟩, rfl⟩
  | nil =>
    intro vs _ h
    simp only [RepG] at h
    obtain ⟨a, rfl⟩ := h
    simp only [RepX, RepL]
    exact ⟨⟨a, rfl⟩, rfl⟩
  | dead =>
    intro vs _ h
    simp only [RepG] at h
    obtain ⟨a, rfl⟩ := h
    simp only [RepX, RepL]
    exact ⟨⟨a, rfl⟩, rfl⟩
  | may p q => intro vs hm _; simp [C.noMay] at hm
  | fn k c =>
    intro vs _ h
    simp only [RepG] at h
    obtain ⟨rfl, rfl⟩ := h
    simp only [RepX, RepL]
    exact ⟨⟨[], rfl, rfl⟩, rfl⟩
  | _ => intro vs _ h; simp only [RepG] at h

theorem appG_rep {d : C} {m : List Value} (h2 : RepG F κ s d m) : ∀ {c : C} {l : List Value}, c.isList = true → RepG F κ s c l → RepG F κ s (appX c d) (l ++ m) := by
  intro c
  induction c with
  | cons a b _ ih =>
    intro l hl h
    simp only [RepG] at h
    obtain ⟨c1, c2, rfl, h1, h3⟩ := h
    simp only [appX, RepG]
    exact ⟨c1, c2 ++ m, by rw [List.append_assoc], h1, ih (by simpa [C.isList] using hl) h3⟩
  | unit =>
    intro l hl h
    simp only [RepG] at h
    subst h
    simpa [appX] using h2
  | _ => intro l hl; simp [C.isList] at hl

theorem leafG {t : Ty} {x : t.den} {cs : List Value} (h : RepT F t x cs) : RepG F κ s (.cons (.val t x) .unit) cs := by
  simp only [RepG]
  exact ⟨cs, [], by simp, h, rfl⟩
theorem zleaves_sound : ∀ (t : Ty) {cs : List Value}, zeroIs t cs = true → RepG F κ s (zleaves t) cs ∧ (zleaves t).isList = true ∧ (zleaves t).refs = []
  | .unit, cs, h => by
    have := zeroIs_rep F .unit cs h
    simp only [RepT] at this
    subst this
    exact ⟨by simp [zleaves, RepG], rfl, rfl⟩
  | .pair a b, cs, h => by
    simp only [zeroIs, Bool.and_eq_true] at h
    obtain ⟨i1, i2, i3⟩ := zleaves_sound a h.1
    obtain ⟨j1, j2, j3⟩ := zleaves_sound b h.2
    have hc := appG_rep j1 i2 i1
    rw [List.take_append_drop] at hc
    refine ⟨hc, appX_list i2 j2, ?_⟩
    cases hr : (zleaves (Ty.pair a b)).refs with
    | nil => rfl
    | cons o r =>
      have : o ∈ (zleaves (Ty.pair a b)).refs := by rw [hr]; simp
      rcases appX_refs _ _ o this with h | h
      · rw [i3] at h; cases h
      · rw [j3] at h; cases h
  | .mu a, cs, h => by
    simp only [zeroIs, Bool.and_eq_true] at h
    obtain ⟨i1, i2, i3⟩ := zleaves_sound a h.1
    have h2 := h.2
    split at h2
    · rename_i e
      have hj : RepG F κ s (.cons .nil .unit) (cs.drop a.size) := by
        rw [e]
        simp only [RepG]
        exact ⟨[_], [], rfl, ⟨_, rfl⟩, rfl⟩
      have hc := appG_rep hj i2 i1
      rw [List.take_append_drop] at hc
      refine ⟨hc, appX_list i2 rfl, ?_⟩
      cases hr : (zleaves (Ty.mu a)).refs with
      | nil => rfl
      | cons o r =>
        have : o ∈ (zleaves (Ty.mu a)).refs := by rw [hr]; simp
        rcases appX_refs _ _ o this with h | h
        · rw [i3] at h; cases h
        · cases h
    · cases h2
  | .sl e, cs, h => by
    unfold zeroIs at h
    split at h <;> simp_all
    refine ⟨?_, rfl, rfl⟩
    simp only [zleaves, RepG]
    exact ⟨[_], [], rfl, ⟨_, rfl⟩, rfl⟩
  | .int k, cs, h => ⟨leafG (zeroIs_rep F _ cs h), rfl, rfl⟩
  | .bool, cs, h => ⟨leafG (zeroIs_rep F _ cs h), rfl, rfl⟩
  | .str, cs, h => ⟨leafG (zeroIs_rep F _ cs h), rfl, rfl⟩
  | .err, cs, h => ⟨leafG (zeroIs_rep F _ cs h), rfl, rfl⟩
  | .arr _ _, cs, h => ⟨leafG (zeroIs_rep F _ cs h), rfl, rfl⟩

theorem buildZ_sound (hΓ : CtxT Γ P) {T : TypeId} {ps : Array (Nat × Operand)} {t : Ty} (ht : Γ.tab T = some t) (hqs : partsC Γ g ps.toList = some []) (hrec : t.isRec = true) {dst : Option Nat} :
    Gives P F κ s w (Instr.build T (ps.map fun (i, x) => (i, a.eval x))) dst (Out1 dst (.agg (zleaves t))) := by
  obtain ⟨i, z, hi⟩ := tyIs_info (hΓ.tab _ _ ht)
  obtain ⟨fs, hfs, hfl⟩ := tyIs_rec hrec (hΓ.tab _ _ ht)
  obtain ⟨places, hp, hpl⟩ := places_run (P := P) (w := w) hfl
  obtain ⟨h1, _, h3⟩ := zleaves_sound (F := F) (κ := κ) (s := s) t hi.zer
  have hnil : ps.toList = [] := by
    cases hl : ps.toList with
    | nil => rfl
    | cons p r =>
      rw [hl] at hqs
      obtain ⟨j, x⟩ := p
      simp only [partsC] at hqs
      split at hqs <;> cases hqs
  have hps : (ps.map fun (i, x) => (i, a.eval x)).toList = [] := by simp [hnil]
  refine ⟨.agg z.cells, _, rfl, ?_, ?_, by simp [C.refs, h3]⟩
  · have hf : Instr.fill (places[·]?) z.cells [] = some z.cells := rfl
    simp only [Instr.build, Sem.run_bind, zero_run hi, underlying_run hfs, Result.andThen_ok, hp, hps, hf, Sem.run_pure]
  · simp only [RepL]
    exact ⟨z.cells.toList, by simp, h1⟩

theorem zfill_sound {place : Nat → Option (Nat × Nat)} : ∀ (t : Ty) {ps : List (Nat × Value)} {qs : List (Nat × C)} {i : Nat} {c : C} {cells : Array Value} {pre zs : List Value}, Two F κ s ps qs → zfill t i qs = some c → cells.toList = pre ++ zs → zeroIs t zs = true →
    (∀ k d u, t.fld k = some (d, u) → place (i + k) = some (pre.length + d, u.size)) → ∃ cells' us, Instr.fill place cells ps = some cells' ∧ cells'.toList = pre ++ us ∧ RepG F κ s c us ∧ c.refs = [] := by
  intro t
  induction t with
  | unit =>
    intro ps qs i c cells pre zs h2 hz hc h0 _
    cases h2 with
    | cons _ _ => simp [zfill] at hz
    | nil =>
      simp only [zfill, Option.some.injEq] at hz
      subst hz
      have := zeroIs_rep F .unit zs h0
      simp only [RepT] at this
      subst this
      exact ⟨cells, [], rfl, hc, by simp [RepG], rfl⟩
  | pair a b _ ih =>
    intro ps qs i c cells pre zs h2 hz hc h0 hpl
    have hlen := (zeroIs_rep F _ zs h0).length
    simp only [Ty.size] at hlen
    simp only [zeroIs, Bool.and_eq_true] at h0
    have zero : ∀ {ps : List (Nat × Value)} {qs : List (Nat × C)} {c : C}, Two F κ s ps qs → (zfill b (i + 1) qs).map (appX (zleaves a)) = some c → ∃ cells' us, Instr.fill place cells ps = some cells' ∧ cells'.toList = pre ++ us ∧ RepG F κ s c us ∧ c.refs = [] := by
      intro ps qs c h2 hz
      simp only [Option.map_eq_some_iff] at hz
      obtain ⟨c', hc', rfl⟩ := hz
      obtain ⟨cells', us, h3, h4, h5, h6⟩ := ih (pre := pre ++ zs.take a.size) h2 hc' (by rw [hc, List.append_assoc, List.take_append_drop]) h0.2 (fun k d u hk => by
        have := hpl (k + 1) (a.size + d) u (by simp only [Ty.fld, hk, Option.map_some])
        rw [show i + 1 + k = i + (k + 1) by omega, this, List.length_append, List.length_take, Nat.min_eq_left (by omega), Nat.add_assoc])
      obtain ⟨l1, l2, l3⟩ := zleaves_sound (F := F) (κ := κ) (s := s) a h0.1
      refine ⟨cells', zs.take a.size ++ us, h3, by rw [h4, List.append_assoc], appG_rep h5 l2 l1, ?_⟩
      cases hr : (appX (zleaves a) c').refs with
      | nil => rfl
      | cons o r =>
        rcases appX_refs _ _ o (by rw [hr]; simp) with h | h
        · rw [l3] at h; cases h
        · rw [h6] at h; cases h
    cases h2 with
    | nil => exact zero .nil hz
    | @cons j v d r q hv h2 =>
      simp only [zfill] at hz
      split at hz
      · rename_i hj
        subst hj
        split at hz
        · rename_i x hx
          split at hz
          · cases hz
          · rename_i hagg
            simp only [Option.map_eq_some_iff] at hz
            obtain ⟨c', hc', rfl⟩ := hz
            obtain ⟨cs, hcs, rfl⟩ := asVal_sound hv hx
            have hcl := hcs.length
            have hsz : cells.size = pre.length + zs.length := by
              have := congrArg List.length hc
              simpa using this
            have hp0 := hpl 0 0 a rfl
            rw [Nat.add_zero, Nat.add_zero] at hp0
            have hsp : (splice cells pre.length (pack a cs).cells.toList).toList = (pre ++ cs) ++ zs.drop a.size := by
              rw [pack_cells hcs, splice_list _ _ _ (by rw [hcl, hsz]; omega), hc, hcl]
              simp [List.drop_append]
            obtain ⟨cells', us, h3, h4, h5, h6⟩ := ih (pre := pre ++ cs) h2 hc' hsp h0.2 (fun k d u hk => by
              have := hpl (k + 1) (a.size + d) u (by simp only [Ty.fld, hk, Option.map_some])
              rw [show j + 1 + k = j + (k + 1) by omega, this, List.length_append, hcl, Nat.add_assoc])
            refine ⟨cells', cs ++ us, ?_, by rw [h4, List.append_assoc], ?_, by simp only [C.refs, h6, List.append_nil]⟩
            · rw [fill_step hp0 (by have := congrArg List.length (pack_cells hcs); rw [Array.length_toList, hcl] at this; exact this) (by omega)]
              exact h3
            · simp only [RepG]
              exact ⟨cs, us, rfl, hcs, h5⟩
        · cases hz
      · exact zero (.cons hv h2) hz
  | _ => intro ps qs i c cells pre zs _ hz; simp [zfill] at hz

theorem buildF_sound (hΓ : CtxT Γ P) (hI : Inv n f F κ s a w) (hG : GlobOK Γ F) (hg : ∀ k c, g k = some c → s.get k = some c) {T : TypeId} {ps : Array (Nat × Operand)} {t : Ty} {qs : List (Nat × C)}
    (ht : Γ.tab T = some t) (hqs : partsC Γ g ps.toList = some qs) (hrec : t.isRec = true) {c : C} (hx : zfill t 0 qs = some c) {dst : Option Nat} :
    Gives P F κ s w (Instr.build T (ps.map fun (i, x) => (i, a.eval x))) dst (Out1 dst (.agg c)) := by
  obtain ⟨i, z, hi⟩ := tyIs_info (hΓ.tab _ _ ht)
  obtain ⟨fs, hfs, hfl⟩ := tyIs_rec hrec (hΓ.tab _ _ ht)
  obtain ⟨places, hp, hpl⟩ := places_run (P := P) (w := w) hfl
  have htwo := parts_sound (a := a) hI hG hg hqs
  obtain ⟨cells', us, hfill, hus, hrep, hrefs⟩ := zfill_sound (place := (places[·]?)) (cells := z.cells) (pre := []) t htwo hx (by simp) hi.zer (fun k d u hk => by rw [Nat.zero_add, List.length_nil, Nat.zero_add]; exact hpl k d u hk)
  have hps : (ps.map fun (i, x) => (i, a.eval x)).toList = ps.toList.map fun p => (p.1, a.eval p.2) := by simp
  refine ⟨.agg cells', _, rfl, ?_, ?_, by simp [C.refs, hrefs]⟩
  · simp only [Instr.build, Sem.run_bind, zero_run hi, underlying_run hfs, Result.andThen_ok, hp, hps, hfill, Sem.run_pure]
  · simp only [RepL]
    exact ⟨us, by rw [List.nil_append] at hus; rw [← hus], hrep⟩

theorem buildB_sound (hΓ : CtxT Γ P) {T : TypeId} (hb : Γ.bld T = true) {dst : Option Nat} :
    Gives P F κ s w (Instr.build T ((#[] : Array (Nat × Operand)).map fun (i, x) => (i, a.eval x))) dst (Out1 dst zbC) := by
  obtain ⟨i, hi, _, hz⟩ := (bldIs_spec (hΓ.bld T hb)).zero
  obtain ⟨fd, fd', j, j', hU, _, _, hj, _, hj', _⟩ := (bldIs_spec (hΓ.bld T hb)).flds
  have hs1 : (Go.sizeOf fd.type).run P w = .ok j.size w := by simp [Go.sizeOf, typeInfo_run hj]
  have hs2 : (Go.sizeOf fd'.type).run P w = .ok j'.size w := by simp [Go.sizeOf, typeInfo_run hj']
  have hp : (#[fd, fd'].mapM fun fd => do pure (fd.offset, ← Go.sizeOf fd.type) : Sem (Array (Nat × Nat))).run P w = .ok #[(fd.offset, j.size), (fd'.offset, j'.size)] w := by
    have : (#[fd, fd'].mapM fun fd => do pure (fd.offset, ← Go.sizeOf fd.type) : Sem (Array (Nat × Nat))) = List.toArray <$> ([fd, fd'].mapM fun fd => do pure (fd.offset, ← Go.sizeOf fd.type)) := by
      rw [← Array.mapM_eq_mapM_toList]
    rw [this, Sem.run_map]
    simp only [List.mapM_cons, List.mapM_nil, Sem.run_bind, hs1, hs2, Result.andThen_ok, Sem.run_pure]
  refine ⟨.agg #[.pointer none, .slice none 0 0], _, rfl, ?_, ?_, by simp [zbC, C.refs]⟩
  · have hf : ∀ g : Nat → Option (Nat × Nat), Instr.fill g #[.pointer none, .slice none 0 0] [] = some #[.pointer none, .slice none 0 0] := fun _ => rfl
    have hps : ((#[] : Array (Nat × Operand)).map fun (i, x) => (i, a.eval x)).toList = [] := by simp
    simp only [Instr.build, zeroValue, Sem.run_bind, typeInfo_run hi, hz, underlying_run hU, Result.andThen_ok, hp, Value.cells, hps, hf, Sem.run_pure]
  · simp only [zbC, RepL, RepG]
    exact ⟨[.pointer none, .slice none 0 0], rfl, [.pointer none], [.slice none 0 0], rfl, rfl, [.slice none 0 0], [], rfl, rfl, rfl⟩

theorem boxG_sound (hI : Inv n f F κ s a w) (hG : GlobOK Γ F) (hg : ∀ k c, g k = some c → s.get k = some c) {h : OH} (hnew : ∀ m ∈ h.new, s.get (okey m) = none) {T : TypeId} {x : Operand} {c : C} (hc : opnd Γ g x = some (.agg c))
    {dst : Option Nat} {r : Res} {u : St} (hr : (match h.new with
        | [n] => if c.bty = none ∧ c.noMay = true then some (Res.ok ((okey n, .rcd c) :: Out1 dst (.ptr n 0))) else none
        | _ => none) = some r) (hu : r.run = some u) : Does P n f F κ s a w (Instr.box T (a.eval x)) dst u := by
  have opn := opnd_sound hI hG hg hc
  split at hr
  · rename_i m hm
    split at hr
    · rename_i hb
      cases hr; cases hu
      have h1 := opn.1
      simp only [RepL] at h1
      obtain ⟨us, hv, hus⟩ := h1
      have hv : a.eval x = .agg us.toArray := by simpa using hv
      have hno : s.get (okey m) = none := hnew m (by rw [hm]; simp)
      have hcells : (a.eval x).cells = us.toArray := by rw [hv]; rfl
      have hrun := box_run (P := P) (w := w) (T := T) (v := a.eval x)
      rw [hcells] at hrun
      have hrefs : ∀ o' ∈ (C.rcd c).refs, (s.get (okey o')).isSome = true := fun o' ho' => opn.2 o' (by simpa [C.refs] using ho')
      have hI2 := hI.fresh (o := m) (p := 0) (q := 0) (c := .rcd c) hno hrefs (push_chg (o := .cells us.toArray T) (d := w.drawn)) (by
        intro κ' s' hκ' hκm hs'
        simp only [RepO]
        refine ⟨w.heap.size, _, T, _, hκm, push_get (d := w.drawn), .inr (Nat.le_refl _), ?_, fun T0 h => by rw [hb.1] at h; cases h⟩
        refine RepX.mono (Froz.le_refl F) _ _ (fun o' ho' => ?_) (by simpa using repG_X _ _ hb.2 hus)
        have hne : o' ≠ m := by
          rintro rfl
          have := hrefs o' (by simpa only [C.refs] using ho')
          rw [hno] at this; cases this
        exact .of_eq (hs' o' hne) (hκ' o' hne))
      refine ⟨_, .ptr m 0, F, _, _, [(okey m, .rcd c)], rfl, hrun, Froz.le_refl F, hI2, rep_ptr.2 ?_, by simp [C.refs, St.upd, St.get_set]⟩
      intro c' _ _
      exact ⟨w.heap.size, 0, 0, by simp, rfl⟩
    · cases hr
  · cases hr

theorem evOp0_sound (hΓ : CtxOK Γ P) (hI : Inv n f F κ s a w) (hG : GlobOK Γ F) (hg : ∀ k c, g k = some c → s.get k = some c) {h : OH} {o : Oper} (hnew : ∀ m ∈ h.new, s.get (okey m) = none) (hnd : h.new.Nodup)
    (hdst : ∀ d, o.dst = some d → d < n ∧ d < 100000) {r : Res} {u : St} (hr : evOp0 Γ h o g = some r) (hu : r.run = some u) {next : Act → World → Prop} {Q : Exit → Act → World → Prop}
    (hn : Then n f F s a o.dst u next) : o.wp P a w next Q := by
  have opn : ∀ {x c}, opnd Γ g x = some c → _ := fun {x c} hx => opnd_sound hI hG hg hx
  have fin : ∀ {sem : Sem Value}, Does P n f F κ s a w sem o.dst u → execOp a.eval o = (do pure (.value (← sem))) → o.wp P a w next Q := fun h1 h2 => does_wp h1 h2 hdst hn
  have val : ∀ {v c}, u = Out1 o.dst c → execOp a.eval o = pure (.value v) → RepC F κ s c v → (∀ o ∈ c.refs, (s.get (okey o)).isSome = true) → o.wp P a w next Q := fun {v c} h1 h2 h3 h4 =>
    fin (sem := pure v) (Gives.does hI ⟨v, c, h1, rfl, h3, h4⟩) (by rw [h2]; rfl)
  unfold evOp0 at hr
  split at hr
  · rename_i x he
    simp only [Option.map_eq_some_iff] at hr
    obtain ⟨c, hc, rfl⟩ := hr
    cases hu
    exact val rfl (by simp only [execOp, he]) (opn hc).1 (opn hc).2
  · rename_i x he
    simp only [Option.map_eq_some_iff] at hr
    obtain ⟨c, hc, rfl⟩ := hr
    cases hu
    exact val rfl (by simp only [execOp, he]) (opn hc).1 (opn hc).2
  · rename_i c x y he
    split at hr
    · rename_i p cy hc hx hy
      cases hr
      obtain ⟨z, hz, rfl⟩ := Res.run_bind hu
      have hp := chk_true hz
      have hcv := rep_bool.1 (opn hc).1
      refine val (v := a.eval y) rfl ?_ (opn hy).1 (opn hy).2
      simp only [execOp, he, hcv, asBool, pure_bind]
      have : p = false := by simpa using hp
      rw [this]
      rfl
    · rename_i p cx _ hc hx hy
      cases hr
      obtain ⟨z, hz, rfl⟩ := Res.run_bind hu
      have hp := chk_true hz
      have hcv := rep_bool.1 (opn hc).1
      refine val (v := a.eval x) rfl ?_ (opn hx).1 (opn hx).2
      simp only [execOp, he, hcv, asBool, pure_bind]
      rw [hp]
      rfl
    · rename_i p cy _ hc hx hy
      cases hr
      obtain ⟨z, hz, rfl⟩ := Res.run_bind hu
      have hp := chk_true hz
      have hcv := rep_bool.1 (opn hc).1
      refine val (v := a.eval y) rfl ?_ (opn hy).1 (opn hy).2
      simp only [execOp, he, hcv, asBool, pure_bind]
      have : p = false := by simpa using hp
      rw [this]
      rfl
    · rename_i p cx _ _ hc hx hy
      cases hr
      obtain ⟨z, hz, rfl⟩ := Res.run_bind hu
      have hp := chk_true hz
      have hcv := rep_bool.1 (opn hc).1
      refine val (v := a.eval x) rfl ?_ (opn hx).1 (opn hx).2
      simp only [execOp, he, hcv, asBool, pure_bind]
      rw [hp]
      rfl
    · rename_i p t p1 t' p2 hc hx hy
      split at hr
      · rename_i ht
        subst ht
        cases hr; cases hu
        have hcv := rep_bool.1 (opn hc).1
        refine val (v := if p then a.eval x else a.eval y) rfl (by simp only [execOp, he, hcv, asBool, pure_bind]) ?_ (by simp [C.refs])
        cases p
        · exact (opn hy).1
        · exact (opn hx).1
      · cases hr
    · cases hr
  · -- alloc
    rename_i T he
    split at hr
    · rename_i hb
      exact fin (bldR_sound hΓ.toCtxT hI hnew hnd hb hr hu) (by simp only [execOp, he])
    simp only [Option.bind_eq_some_iff] at hr
    obtain ⟨t, ht, hr⟩ := hr
    obtain ⟨cells, hrep, hrun⟩ := alloc_run (P := P) (w := w) hΓ.toCtxT ht
    split at hr
    · rename_i hs
      exact fin (allocR_sound hI hnew (hrep F) hs hrun hr hu) (by simp only [execOp, he])
    · cases hr
  · -- box
    rename_i T x he
    split at hr
    · rename_i _ c ht hc
      exact fin (sem := Instr.box T (a.eval x)) (boxG_sound hI hG hg hnew hc hr hu) (by simp only [execOp, he])
    · rename_i t c _ ht hc
      split at hr
      · rename_i hs
        split at hr
        · rename_i y hy
          exact fin (sem := Instr.box T (a.eval x)) (box_sound hI hG hg hnew hc hs hy hr hu) (by simp only [execOp, he])
        · exact fin (sem := Instr.box T (a.eval x)) (box_sound2 hI hG hg hnew hc hr hu) (by simp only [execOp, he])
      · cases hr
    · cases hr
  · -- build
    rename_i T ps he
    split at hr
    · rename_i hb
      split at hr
      · rename_i hps
        cases hr; cases hu
        have hps' : ps = #[] := Array.eq_empty_of_size_eq_zero hps
        subst hps'
        exact fin (Gives.does hI (buildB_sound (a := a) hΓ.toCtxT hb)) (by simp only [execOp, he])
      · cases hr
    split at hr
    · rename_i m e qs ht hqs
      split at hr
      · rename_i xs hxs
        split at hr
        · rename_i hlen
          cases hr; cases hu
          exact fin (Gives.does hI (buildArr_sound hΓ.toCtxT hI hG hg ht hqs hxs hlen)) (by simp only [execOp, he])
        split at hr
        · rename_i hq0
          cases hr; cases hu
          exact fin (Gives.does hI (buildArr0_sound (a := a) hΓ.toCtxT ht (by rw [hqs, hq0]))) (by simp only [execOp, he])
        · cases hr
      · cases hr
    · rename_i t qs _ ht hqs
      split at hr
      · rename_i hrec
        split at hr
        · rename_i hz
          cases hr; cases hu
          exact fin (Gives.does hI (buildZ_sound (a := a) hΓ.toCtxT ht (by rw [hqs, hz.2]) hrec)) (by simp only [execOp, he])
        split at hr
        · simp only [Option.map_eq_some_iff] at hr
          obtain ⟨c, hx, rfl⟩ := hr
          cases hu
          exact fin (Gives.does hI (buildF_sound hΓ.toCtxT hI hG hg ht hqs hrec hx)) (by simp only [execOp, he])
        simp only [Option.map_eq_some_iff] at hr
        obtain ⟨x, hx, rfl⟩ := hr
        cases hu
        exact fin (Gives.does hI (build_sound hΓ.toCtxT hI hG hg ht hqs hrec hx)) (by simp only [execOp, he])
      · cases hr
    · cases hr
  · -- buildSlice
    rename_i T m ps he
    split at hr
    · rename_i e qs ht hqs
      split at hr
      · rename_i xs hxs
        split at hr
        · rename_i hlen
          exact fin (buildSlice_sound hΓ.toCtxT hI hG hg hnew ht hqs hxs hlen.1 hlen.2 hr hu) (by simp only [execOp, he])
        · cases hr
      · cases hr
    · cases hr
  · -- load
    rename_i T p he
    simp only [Option.bind_eq_some_iff] at hr
    obtain ⟨c, hc, hr⟩ := hr
    exact fin (Gives.does hI (loadR_sound hΓ.toCtxT hI hg (opn hc).1 hr hu)) (by simp only [execOp, he])
  · -- store
    rename_i T p v he
    split at hr
    · rename_i c d hc hd hnone
      split at hr
      · rename_i hb
        obtain ⟨κ', w', hrun, hI2⟩ := zstoreR_sound hΓ.toCtxT hI hg hnew hb (opn hc).1 (opn hd).1 hr hu
        refine wp_skp (w' := w') (by simp only [execOp, he, Sem.run_bind, hrun, Result.andThen_ok, Sem.run_pure]) ?_
        rw [hnone]
        exact hn F κ' a w' (Froz.le_refl F) hI2 (fun t _ => rfl)
      obtain ⟨κ', w', hrun, hI2⟩ := storeR_sound hΓ.toCtxT hI hg (opn hc).1 (opn hd).1 (opn hd).2 hr hu
      refine wp_skp (w' := w') (by simp only [execOp, he, Sem.run_bind, hrun, Result.andThen_ok, Sem.run_pure]) ?_
      rw [hnone]
      exact hn F κ' a w' (Froz.le_refl F) hI2 (fun t _ => rfl)
    · cases hr
  · -- nilCheck
    rename_i x he
    simp only [Option.bind_eq_some_iff] at hr
    obtain ⟨c, hc, hr⟩ := hr
    split at hr
    · rename_i hcc
      cases hr; cases hu
      obtain ⟨h1, h2⟩ := opn hc
      have hp : ∃ ad, a.eval x = .pointer (some ad) := by
        obtain ⟨hadd, hlive⟩ := hcc
        cases c <;> simp only [C.addr, Bool.false_eq_true] at hadd <;> simp only [liveC] at hlive
        · split at hlive
          · rename_i d hd
            obtain ⟨b, p, q, _, hv⟩ := rep_ptr.1 h1 d (hg _ _ hd) (by rintro rfl; simp [C.isObj] at hlive)
            exact ⟨_, hv⟩
          · cases hlive
        · split at hlive
          · rename_i t' _ _ hd
            have := of_decide_eq_true hlive
            subst this
            obtain ⟨_, _, b, p, q, d, u, _, _, hv⟩ := rep_eptr.1 h1 _ _ (hg _ _ hd)
            exact ⟨_, hv⟩
          · cases hlive
        · split at hlive
          · rename_i x hd
            obtain ⟨_, _, hp⟩ := rep_aptr.1 h1
            obtain ⟨b, p, q, d, u, _, _, hv⟩ := hp _ (hg _ _ hd) (by simp)
            exact ⟨_, hv⟩
          · cases hlive
        · obtain ⟨b, off, c, T, fr, _, hv, _⟩ := rep_fptr.1 h1
          exact ⟨_, hv⟩
      obtain ⟨ad, hv⟩ := hp
      refine val (v := a.eval x) rfl ?_ h1 h2
      simp only [execOp, he, hv]
    · cases hr
  · -- binOp
    rename_i op T x y yT he
    split at hr
    · rename_i c d hc hd
      split at hr
      · rename_i hcond
        obtain ⟨ms, hT⟩ := tyIs_err (hΓ.tab _ _ hcond.1)
        have hnil : ∀ {z : Operand} {b : Bool}, isNilC z = true → opnd Γ g z = some (.val .err b) → b = false := fun {z b} hz ho => by
          unfold isNilC at hz
          split at hz
          · simpa [opnd, constC, eq_comm] using ho
          · cases hz
        have hab : c = false ∨ d = false := hcond.2.imp (fun h => hnil h hc) (fun h => hnil h hd)
        exact fin (Gives.does hI (errR_sound (x := x) (y := y) hT (opn hc).1 (opn hd).1 hcond.2 hab hr hu)) (by simp only [execOp, he])
      · cases hr
    · rename_i e xs hc hd
      split at hr
      · rename_i hcond
        obtain ⟨E, hT, _, _⟩ := tyIs_sl (hΓ.tab _ _ hcond.1)
        obtain ⟨ad, cap, hv, hcap, hel⟩ := rep_sl.1 (opn hc).1
        have hyv : a.eval y = .slice none 0 0 := by
          have hy := hcond.2
          unfold isNilS at hy
          split at hy
          · rfl
          · cases hy
        have := nilR_sound (P := P) (w := w) (F := F) (κ := κ) (s := s) (x := x) (y := y) (a := ad) (m := List.length xs) (cap := cap) hT (fun h => by
          subst h
          rcases hel with h | ⟨b, off, c, T', fr, h, _⟩
          · simp [h]
          · cases h) hr hu
        rw [← hv, ← hyv] at this
        exact fin (Gives.does hI this) (by simp only [execOp, he])
      · cases hr
    · rename_i c d _ _ hc hd
      refine fin (Gives.does hI (binR_sound (x := x) (y := y) (fun h => tyIs_bool (hΓ.tab _ _ h)) (fun t u' p q hfl htt h1 h2 => ?_) (opn hc).1 (opn hd).1 hr hu)) (by simp only [execOp, he])
      exact hΓ.eqs T _ htt rfl F p q _ _ h1 h2 w op x y
    · cases hr
  · -- unOp
    rename_i op T x he
    simp only [Option.bind_eq_some_iff] at hr
    obtain ⟨c, hc, hr⟩ := hr
    exact fin (Gives.does hI (unR_sound (opn hc).1 hr hu)) (by simp only [execOp, he])
  · -- convert
    rename_i S T x he
    simp only [Option.bind_eq_some_iff] at hr
    obtain ⟨c, hc, hr⟩ := hr
    exact fin (convertR_sound hΓ.toCtxT hI hg hnew (opn hc).1 hr hu) (by simp only [execOp, he])
  · -- makeSlice
    rename_i T l c he
    split at hr
    · rename_i cl cc hl hc
      exact fin (makeSliceR_sound hΓ.toCtxT hI hnew (opn hl).1 (opn hc).1 hr hu) (by simp only [execOp, he])
    · cases hr
  · -- slice to nothing
    rename_i T x he
    simp only [Option.bind_eq_some_iff] at hr
    obtain ⟨c, hc, hr⟩ := hr
    exact fin (slice0R_sound hΓ.toCtxT hI hg (opn hc).1 hr hu) (by simp only [execOp, he]; rfl)
  · -- slice
    rename_i T x lo hi _ he
    simp only [Option.bind_eq_some_iff] at hr
    obtain ⟨c, hc, hr⟩ := hr
    exact fin (sliceR_sound hΓ.toCtxT hI hg (fun m i j h => ends_sound hI hG hg h) hnew (opn hc).1 hr hu) (by simp only [execOp, he, Option.map_none])
  · -- fieldAddr
    rename_i T x k he
    simp only [Option.bind_eq_some_iff] at hr
    obtain ⟨c, hc, hr⟩ := hr
    split at hr
    · rename_i hb
      exact fin (Gives.does hI (bldAddrR_sound hΓ.toCtxT hg hb (opn hc).1 (opn hc).2 hr hu)) (by simp only [execOp, he])
    exact fin (Gives.does hI (fieldAddrR_sound hΓ.toCtxT hg (opn hc).1 (opn hc).2 hr hu)) (by simp only [execOp, he])
  · -- field
    rename_i T x k he
    simp only [Option.bind_eq_some_iff] at hr
    obtain ⟨c, hc, hr⟩ := hr
    exact fin (Gives.does hI (fieldR_sound hΓ.toCtxT (opn hc).1 hr hu)) (by simp only [execOp, he])
  · -- indexAddr
    rename_i T x i he
    split at hr
    · rename_i c d hc hd
      exact fin (Gives.does hI (indexAddrR_sound hΓ.toCtxT hI hg (opn hc).1 (opn hc).2 (opn hd).1 hr hu)) (by simp only [execOp, he])
    · cases hr
  · -- index
    rename_i T x i he
    split at hr
    · rename_i c d hc hd
      exact fin (Gives.does hI (indexR_sound hΓ.toCtxT (opn hc).1 (opn hd).1 hr hu)) (by simp only [execOp, he])
    · cases hr
  · -- extract
    rename_i x i he
    split at hr
    · rename_i c hc
      simp only [Option.map_eq_some_iff] at hr
      obtain ⟨d, hd, rfl⟩ := hr
      cases hu
      obtain ⟨h1, h2⟩ := opn hc
      simp only [RepL, List.cons.injEq, and_true] at h1
      obtain ⟨us, hv, h1⟩ := h1
      obtain ⟨v, hv2, hv3, hv4⟩ := list_get h1 hd
      refine val (v := v) rfl ?_ hv3 (fun o ho => h2 o (by simpa only [C.refs] using hv4 o ho))
      have hv2' : us.toArray[i]? = some v := by simpa using hv2
      simp only [execOp, he, Instr.extract, hv, hv2', pure_bind]
    · cases hr
  · -- makeFunc
    rename_i i first caps he
    split at hr
    · rename_i hz
      simp only [Option.map_eq_some_iff] at hr
      obtain ⟨c, hc, rfl⟩ := hr
      cases hu
      obtain ⟨h1, h2⟩ := opnds_sound hI hG hg hc
      have hf : first = #[] := Array.eq_empty_of_size_eq_zero hz
      subst hf
      refine val (v := .func (.func i) #[] (caps.map a.eval)) rfl (by simp only [execOp, he, Instr.makeFunc, List.map_toArray, List.map_nil, pure_bind]) ?_ (by simpa only [C.refs] using h2)
      simp only [RepL, List.cons.injEq, and_true]
      exact ⟨caps.toList.map a.eval, by congr 1; apply Array.ext'; simp, h1⟩
    · cases hr
  · -- builtins
    rename_i b xs ts he
    simp only [Option.bind_eq_some_iff] at hr
    obtain ⟨c, hc, hr⟩ := hr
    obtain ⟨h1, _⟩ := opnds_sound hI hG hg hc
    obtain ⟨sem, hs, hd⟩ := builtinR_sound (ty := o.type) (consts := xs.map fun | .const _ => true | _ => false) hΓ.toCtxT hI hg hnew h1 hr hu
    refine fin hd ?_
    rw [← hs]
    simp only [execOp, he, resolve, invoke, pure_bind]
    congr 1
    apply Array.ext'
    simp
  · -- calls
    rename_i fo xs ts he
    split at hr
    · rename_i i caps c hf hc
      simp only [Option.bind_eq_some_iff] at hr
      obtain ⟨args, hargs, hr⟩ := hr
      obtain ⟨h1, h2⟩ := opn hf
      simp only [RepL, List.cons.injEq, and_true] at h1
      obtain ⟨us, hv, h1⟩ := h1
      obtain ⟨h3, h4⟩ := opnds_sound hI hG hg hc
      obtain ⟨h5, _⟩ := list_app h3 hargs h1
      have finish : (∃ args' objs' r', Γ.fn i args' objs' = some r') → (FnOK P Γ.glob i (Γ.fn i) → Calls P i (xs.toList.map a.eval ++ us).toArray w fun e w' => ∃ v, e = .returned v ∧ next (a.put o.dst v) w') → o.wp P a w next Q := by
        rintro ⟨_, _, _, hfn⟩ hcall
        obtain ⟨hok, hent⟩ := hΓ.fns i _ _ _ hfn
        have hrun : (execOp a.eval o).run P w = .ok (.enter i (xs.toList.map a.eval ++ us).toArray) w := by
          simp only [execOp, he, resolve, hv, Deferred.ofValue, pure_bind, invoke]
          have : (#[] ++ xs.map a.eval ++ us.toArray : Array Value) = (xs.toList.map a.eval ++ us).toArray := by
            apply Array.ext'; simp
          rw [this]
          exact hent _ w
        unfold Oper.wp
        rw [hrun, Oper.upon_enter]
        refine (hcall hok).mono fun e w' => ?_
        rintro ⟨v, rfl, h⟩
        exact h
      have onward : ∀ (F' : Froz) (κ' : Conc) (v : Value) (w' : World) (c : C) (uo : St), F.le F' → u = uo ++ Out1 o.dst c → Inv n f F' κ' (s.upd uo) a w' → RepC F' κ' (s.upd uo) c v → (∀ o ∈ c.refs, ((s.upd uo).get (okey o)).isSome = true) → next (a.put o.dst v) w' := fun F' κ' v w' c uo hF hu' hI' hv' hc' => by
        refine hn F' κ' _ w' hF ?_ (fun t ht => put_frame t ht)
        rw [hu', upd_append]
        exact put_inv hI' hdst hv' hc'
      split at hr
      · refine finish ?_ (fun hok => callR_sound (K := fun v w' => next (a.put o.dst v) w') hok hI hG hg hnew hnd h5 hr hu onward)
        unfold callR at hr
        split at hr
        · cases hr
        · simp only at hr
          split at hr
          · split at hr
            · cases hr
            · rename_i hx; exact ⟨_, _, _, hx⟩
            · cases hr
            · cases hr
          · cases hr
      · refine finish ?_ (fun hok => callL_sound (K := fun v w' => next (a.put o.dst v) w') hok hI hG hg hnew h5 hr hu onward)
        unfold callL at hr
        split at hr
        · split at hr
          · split at hr
            · rename_i hx; exact ⟨_, _, _, hx⟩
            · cases hr
          · cases hr
        · cases hr
    · cases hr
  · cases hr

end
end Go.Fe
