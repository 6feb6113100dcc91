/- Functions that defer a closure which recovers. -/
import Derived.Test.YtmnpchoocaiegaaGreatDoorFePan
import Derived.Recover
namespace Go.Fe
open Go

/-- A frame that leaves by a panic, before and behind its recovery. -/
def met (T : Nat) (v : Value) (r : Bool) : FrameMode := .panicking [{ v := .iface T v, recovered := r }]

section
variable {Γ : Ctx} {P : Program} {n : Nat} {f : Frame0} {F : Froz} {κ : Conc} {s : St} {a : Act} {w : World}

/-! ### The closure -/
def recCall (c : Call) : Bool := match c.callee with
  | .builtin b => (match b with
    | .recover => c.args.size == 0
    | _ => false)
  | _ => false
def recOp (o : Op) : Bool := match o with
  | .call c => recCall c
  | _ => false
def tyTest (o : Op) : Option (Nat × Nat × Nat) := match o with
  | .typeAssert x I T ok => (match x with
    | .tmp d => if ok = true then some (d, I, T) else none
    | _ => none)
  | _ => none
theorem recOp_eq {o : Op} (h : recOp o = true) : ∃ c, o = .call c ∧ c.callee = .builtin .recover ∧ c.args = #[] := by
  cases o <;> simp only [recOp, Bool.false_eq_true] at h
  rename_i c
  unfold recCall at h
  refine ⟨c, rfl, ?_⟩
  split at h
  · rename_i b hb
    split at h
    · exact ⟨hb, by simpa using h⟩
    · cases h
  · cases h
theorem tyTest_eq {o : Op} {d I T : Nat} (h : tyTest o = some (d, I, T)) : o = .typeAssert (.tmp d) I T true := by
  cases o <;> simp only [tyTest, reduceCtorEq] at h
  split at h
  · split at h
    · rename_i hok
      cases h
      rw [hok]
    · cases h
  · cases h
/-- The closure's code: recover, the test of the type, the rest. q: what the test comes to. -/
noncomputable def evClo {X : Type} (Γ : Ctx) (n T : Nat) (hs : List OH) (h : HC) (q : C) (c : Code) (s : St) (k : Ex → St → Option X) : Option X := match c with
  | .seq (.region _ ops false) y => match ops[0]?, ops[1]? with
    | some o0, some o1 => match o0.dst, o1.dst, tyTest o1.op with
      | some d0, some d1, some (d0', _, T') =>
        if recOp o0.op = true ∧ d0' = d0 ∧ T' = T ∧ d1 < n ∧ d1 < 100000 ∧ d0 < n ∧ d0 < 100000 ∧ o0.guard = none ∧ o1.guard = none ∧ 2 ≤ ops.size then
          evOpsK Γ n ops hs (fun s => evCode Γ n drawsOK h y s k) (fun _ _ _ => none) (List.range' 2 (ops.size - 2)) ((s.set d0 .dead).set d1 q)
        else none
      | _, _, _ => none
    | _, _ => none
  | _ => none

theorem wpOpsS_of {ops : Array Oper} {Q : Exit → Act → List Frame → World → Prop} {cs : List Frame} (hno : ∀ a w, ¬ Q .outgrown a cs w) : ∀ (l : List Nat) (a : Act) (w : World), wpOps P ops (fun e a' w' => Q e a' cs w') l a w → wpOpsS P ops Q l a cs w
  | [], a, w, h => h
  | i :: r, a, w, h => by
    simp only [wpOps] at h
    simp only [wpOpsS]
    cases ho : ops[i]? with
    | none => rw [ho] at h; exact wpOpsS_of hno r a w h
    | some o =>
      rw [ho] at h
      simp only at h ⊢
      by_cases hw : Region.wanted o (yielded ops a.tmps) = true
      · rw [if_pos hw] at h ⊢
        rcases h with h | ⟨_, a', w', h⟩
        · unfold Oper.wp at h
          generalize (execOp a.eval o).run P w = r0 at h
          cases r0 with
          | ok x w' =>
            cases x <;> simp only [Oper.upon] at h ⊢ <;> first
              | exact wpOpsS_of hno r _ _ h
              | exact h.elim
              | skip
            · refine Calls.mono h (fun e w'' he => ?_)
              cases e with
              | returned v => exact wpOpsS_of hno r _ _ he
              | panicked ch => exact he
              | outgrown => obtain ⟨a', w', h⟩ := he; exact absurd h (hno _ _)
            · exact Rows.mono h (fun v w'' he => wpOpsS_of hno r _ _ he)
          | halt x w' => cases x <;> simp only [Oper.upon] at h ⊢ <;> exact h
        · exact absurd h (hno _ _)
      · rw [if_neg hw] at h ⊢
        exact wpOpsS_of hno r _ _ h

theorem wpOpsS_rec {ops : Array Oper} {Q : Exit → Act → List Frame → World → Prop} {i : Nat} {rest : List Nat} {o : Oper} {cs cs' : List Frame} {x : Value} (ho : ops[i]? = some o) (hw : Region.wanted o (yielded ops a.tmps) = true)
    (hr : (execOp a.eval o).run P w = .ok .recover w) (hrec : (match recoverD cs with
      | some (x, cs') => (x, cs')
      | none => (.nilIface, cs)) = (x, cs')) (h : wpOpsS P ops Q rest (a.put o.dst x) cs' w) : wpOpsS P ops Q (i :: rest) a cs w := by
  simp only [wpOpsS]
  rw [ho]
  simp only [hw, if_true, hr]
  revert hrec
  cases recoverD cs with
  | none =>
    intro hrec
    simp only [Prod.mk.injEq] at hrec
    obtain ⟨h1, h2⟩ := hrec
    simp only
    rw [h1, h2]
    exact h
  | some q =>
    intro hrec
    obtain ⟨q1, q2⟩ := q
    simp only [Prod.mk.injEq] at hrec
    obtain ⟨h1, h2⟩ := hrec
    simp only
    rw [h1, h2]
    exact h

/-- What the test of a recovered value's type comes to. -/
def cloQ (t : Ty) (p : Option t.den) : C := match p with
  | some x => .tup (.cons (.val t x) (.cons (.val .bool true) .unit))
  | none => .tup (.cons (.val t t.zero) (.cons (.val .bool false) .unit))
/-- The mode that the closure meets, and the one that it leaves. -/
def cloU (T : Nat) (v : Option Value) (r : Bool) : FrameMode := match v with
  | some v => met T v r
  | none => .returning

theorem set_of_put (hI : Inv n f F κ s a w) {d : Nat} {v : Value} {c : C} (hd : d < n ∧ d < 100000) (hv : RepC F κ s c v) (hc : c.refs = []) : Inv n f F κ (s.set d c) (a.put (some d) v) w := by
  have := put_inv (dst := some d) hI (fun d' h => by cases h; exact hd) hv (by rw [hc]; intro o ho; cases ho)
  exact this

/-- A closure that is deferred: its code with hints, how it is run, and the objects that it is handed. -/
structure Clo where
  n : Nat
  T : Nat
  t : Ty
  hs : List OH
  h : HC
  I : Inst
  c : Code
  wr : List Nat
noncomputable def evCloF (Γ : Ctx) (K : Clo) (p : Option K.t.den) (x : Ks.den K.I.args) (y : Ks.den K.I.objs) : Option K.I.out.den :=
  evClo Γ K.n K.T K.hs K.h (cloQ K.t p) K.c (slotsAt 0 (Ks.unpack K.I.args x) ++ ost 0 (Ks.unpack K.I.objs y)) fun e s => match e with
    | .exit _ => none
    | .pan _ => none
    | _ => K.I.out.pack s
/-- A payload, and a value, if there is one. -/
def SameV (F : Froz) (t : Ty) (p : Option t.den) (v : Option Value) : Prop := match p, v with
  | some x, some v => RepV F t x v
  | none, none => True
  | _, _ => False
/-- What the program must have. -/
structure CloIs (Γ : Ctx) (P : Program) (D : FuncId) (K : Clo) : Prop where
  fn : ∃ fn, P.funcs[D]? = some fn ∧ fn.body = some K.c ∧ fn.ntmps = K.n ∧ fn.results = #[]
  ok : K.I.ok K.n 0 (dsts K.c) = true
  tab : Γ.tab K.T = some K.t
  un : ∃ d, P.underlying K.T = some d ∧ ∀ ms, d ≠ .interface ms
  call : ∀ vals w, (callFunc D vals).run P w = .ok (.enter D vals) w

theorem returned_of {e : Ending} {objs : List C} {k : Nat} {o : Out} {w' : World} (h : Comes1 objs k o .returned w F κ e w') : e ≠ .outgrown := by
  obtain ⟨v, _, _, rfl, _⟩ := h
  simp

theorem clo_sound (hΓ : CtxOK Γ P) (hm : P.follows .mixedOrders = true) {D : FuncId} {K : Clo} (hK : CloIs Γ P D K) {p : Option K.t.den} {args : C} {objs : List C} {ax : Ks.den K.I.args} {oy : Ks.den K.I.objs} {x : K.I.out.den}
    (hax : takeL K.I.args args = some ax) (hoy : takeO K.I.objs objs = some oy) (he : evCloF Γ K p ax oy = some x)
    {F : Froz} {κ : Conc} {w : World} {vals : List Value} {v : Option Value} (hv : SameV F K.t p v) (hG : GlobF Γ.glob F) (hI : Inv 0 ⟨w, mayOf objs κ, F, []⟩ F κ (ost 0 objs) act0 w)
    (hargs : RepL F κ (ost 0 objs) args vals) (hrefs : ∀ o ∈ args.refs, o < objs.length) :
    CallsD P D vals.toArray (cloU K.T v false) w fun e u w' => u = cloU K.T v true ∧ Comes1 objs K.I.news (K.I.outs x) .returned w F κ e w' := by
  obtain ⟨fn, hf, hb, hn, hres⟩ := hK.fn
  obtain ⟨hI0, hend⟩ := fn_fin hΓ (rs := []) (W := dsts K.c) K.I hn hres hK.ok hax hoy hI hargs hrefs
  have hn9 : K.n ≤ 90000 := by
    have := hK.ok
    unfold Inst.ok at this
    simp only [Bool.and_eq_true, decide_eq_true_eq] at this
    exact this.1.1.1.2.1
  refine callsD_of_wpS hf hb (fun c₀ cs hu => ?_)
  unfold evCloF evClo at he
  split at he
  rotate_left
  · cases he
  rename_i c0 id ops y hc
  split at he
  rotate_left
  · cases he
  rename_i o0 o1 ho0 ho1
  split at he
  rotate_left
  · cases he
  rename_i d0 d1 d0' iT T' e0 e1 e2
  split at he
  rotate_left
  · cases he
  rename_i hck
  obtain ⟨hrec, rfl, hT', hd1, hd1', hd0, hd0', hg0, hg1, hsz⟩ := hck
  subst hT'
  have e2 := tyTest_eq e2
  obtain ⟨rc, e3, e4, e5⟩ := recOp_eq hrec
  obtain ⟨U, hU, hUi⟩ := hK.un
  obtain ⟨ti, z, hti⟩ := tyIs_info (hΓ.tab _ _ hK.tab)
  rw [hc]
  refine wpS_seq (wpS_region ?_)
  have hrange : List.range ops.size = 0 :: 1 :: List.range' 2 (ops.size - 2) := by
    obtain ⟨m, hm⟩ : ∃ m, ops.size = m + 2 := ⟨ops.size - 2, by omega⟩
    rw [hm, List.range_eq_range', Nat.add_sub_cancel]
    rfl
  rw [hrange]
  -- what is recovered
  let v1 : Value := match v with
    | some v => .iface K.T v
    | none => .nilIface
  let c1 : Frame := { c₀ with mode := cloU K.T v true }
  have hrun0 : ∀ a : Act, (execOp a.eval o0).run P w = .ok .recover w := fun a => by
    simp [execOp, e3, resolve, e4, e5, invoke, builtin]
  have hrecD : (match recoverD (c₀ :: cs) with
      | some (x, cs') => (x, cs')
      | none => (.nilIface, c₀ :: cs)) = (v1, c1 :: cs) := by
    unfold recoverD
    cases v with
    | none =>
      have hu' : c₀.mode = .returning := hu
      simp only [hu', v1, c1, cloU]
      rw [← hu']
    | some v =>
      have hu' : c₀.mode = met K.T v false := hu
      simp only [hu', met, v1, c1, cloU]
  have hw0 : ∀ g, Region.wanted o0 g = true := fun g => by simp [Region.wanted, hg0]
  have hw1 : ∀ g, Region.wanted o1 g = true := fun g => by simp [Region.wanted, hg1]
  -- the test
  obtain ⟨v2, hrun1, hrep1⟩ : ∃ v2, (∀ a : Act, a.eval (.tmp d0') = v1 → (execOp a.eval o1).run P w = .ok (.value v2) w) ∧ ∀ κ s, RepC F κ s (cloQ K.t p) v2 := by
    cases v with
    | none =>
      cases p with
      | some _ => exact hv.elim
      | none =>
        refine ⟨.tuple #[z, .bool false], fun a ha => ?_, fun κ s => ?_⟩
        · have : (Instr.typeAssert .nilIface iT K.T true).run P w = .ok (.tuple #[z, .bool false]) w := by
            clear he hrun0 hrecD
            cases U <;> first
              | exact absurd rfl (hUi _)
              | simp only [Instr.typeAssert, Sem.run_bind, underlying_run hU, Result.andThen_ok, if_true, zero_run hti, Sem.run_pure]
          simp only [execOp, e2, ha, v1, Sem.run_bind, this, Result.andThen_ok, Sem.run_pure]
        · simp only [cloQ, RepL]
          exact ⟨[z, .bool false], rfl, _, _, rfl, ⟨_, rfl, ⟨z.cells.toList, hti.rep F, hti.form⟩⟩, _, _, rfl, ⟨_, rfl, by simp [RepV, RepT, pack, Ty.agg]⟩, rfl⟩
    | some v =>
      cases p with
      | none => exact hv.elim
      | some x =>
        refine ⟨.tuple #[v, .bool true], fun a ha => ?_, fun κ s => ?_⟩
        · have : (Instr.typeAssert (.iface K.T v) iT K.T true).run P w = .ok (.tuple #[v, .bool true]) w := by
            clear he hrun0 hrecD
            cases U <;> first
              | exact absurd rfl (hUi _)
              | simp only [Instr.typeAssert, Sem.run_bind, underlying_run hU, Result.andThen_ok, if_true, Sem.run_pure]
          simp only [execOp, e2, ha, v1, Sem.run_bind, this, Result.andThen_ok, Sem.run_pure]
        · simp only [cloQ, RepL]
          exact ⟨[v, .bool true], rfl, _, _, rfl, ⟨_, rfl, hv⟩, _, _, rfl, ⟨_, rfl, by simp [RepV, RepT, pack, Ty.agg]⟩, rfl⟩
  generalize ha0 : ({ tmps := vals.toArray ++ Array.replicate (fn.ntmps - vals.toArray.size) undef, defers := [] } : Act) = a0 at hI0 hend ⊢
  have hqr : (cloQ K.t p).refs = [] := by unfold cloQ; cases p <;> simp [C.refs]
  have hI1 := set_of_put hI0 (v := v1) (c := .dead) ⟨hd0, hd0'⟩ rep_dead rfl
  have hI2 := set_of_put hI1 (v := v2) (c := cloQ K.t p) ⟨hd1, hd1'⟩ (hrep1 _ _) hqr
  have hev1 : (a0.put (some d0') v1).eval (.tmp d0') = v1 := by
    simp [Act.eval, Act.put, Array.getD_eq_getD_getElem?, hI0.tmps, hd0]
  have hno : ∀ a w', ¬ Exit.thenS (y.wpS P (bodyPostS P fn c₀ cs fun e u w' => u = cloU K.T v true ∧ Comes1 objs K.I.news (K.I.outs x) .returned w F κ e w')) (bodyPostS P fn c₀ cs fun e u w' => u = cloU K.T v true ∧ Comes1 objs K.I.news (K.I.outs x) .returned w F κ e w') .outgrown a (c1 :: cs) w' := by
    intro a w' h
    obtain ⟨u', _, h⟩ := h
    exact returned_of h rfl
  -- behind the first two
  have rest : wpOpsS P ops (Exit.thenS (y.wpS P (bodyPostS P fn c₀ cs fun e u w' => u = cloU K.T v true ∧ Comes1 objs K.I.news (K.I.outs x) .returned w F κ e w')) (bodyPostS P fn c₀ cs fun e u w' => u = cloU K.T v true ∧ Comes1 objs K.I.news (K.I.outs x) .returned w F κ e w')) (List.range' 2 (ops.size - 2)) ((a0.put (some d0') v1).put (some d1) v2) (c1 :: cs) w := by
    refine wpOpsS_of hno _ _ _ ?_
    rcases evOpsK_eq _ _ he with ⟨s', h1, h2⟩ | ⟨pre, i, post, s1, T, u, t, p, _, _, _, h3⟩
    · refine evSteps_text hΓ _ h1 hI2 hG (fun F' κ' a' w' hF hI' hfr => ?_)
      refine wpS_of_wp (evCode_sound hΓ hm K.h y h2 hI' (GlobOK.mono hF hG) (fun e s2 F2 a2 w2 yy hk hF2 hl => ?_))
      cases hl with
      | fall => cases hk
      | go hcalm hI3 hfr2 =>
        have hfrall : ∀ t, t ∉ dsts K.c → a2.tmps.getD t undef = a0.tmps.getD t undef := fun t ht => by
          rw [hc] at ht
          simp only [dsts, List.mem_append, not_or] at ht
          have hreg := fun i o ho => dsts_region (id := id) (d := false) (by simpa only [dsts] using ht.1) i o ho
          rw [hfr2 t ht.2, hfr t hreg, put_frame t (fun e => hreg 1 o1 ho1 (by rw [e1]; exact e)), put_frame t (fun e => hreg 0 o0 ho0 (by rw [e0]; exact e))]
        have fin : K.I.out.pack s2 = some x → a2.defers = [] ∧ ∃ u', c1 :: cs = { c₀ with mode := u' } :: cs ∧ ∃ vv, (results fn a2.tmps).run P w2 = .ok vv w2 ∧ (u' = cloU K.T v true ∧ Comes1 objs K.I.news (K.I.outs x) .returned w F κ (.returned vv) w2) := fun hp => by
          obtain ⟨vv, h1, h2⟩ := hend K.n s2 F2 _ a2 w2 [] x hn9 (Froz.le_trans hF hF2) hI3 hfrall rfl hp
          exact ⟨hI3.defers, _, rfl, vv, h1, rfl, h2⟩
        cases e with
        | normal => exact fin hk
        | exit i => cases hk
        | ret => exact fin hk
        | pan => cases hcalm
    · cases h3
  have hval : (execOp (a0.put (some d0') v1).eval o1).run P w = .ok (.value v2) w := hrun1 _ hev1
  have step1 : wpOpsS P ops (Exit.thenS (y.wpS P (bodyPostS P fn c₀ cs fun e u w' => u = cloU K.T v true ∧ Comes1 objs K.I.news (K.I.outs x) .returned w F κ e w')) (bodyPostS P fn c₀ cs fun e u w' => u = cloU K.T v true ∧ Comes1 objs K.I.news (K.I.outs x) .returned w F κ e w')) (1 :: List.range' 2 (ops.size - 2)) (a0.put (some d0') v1) (c1 :: cs) w := by
    simp only [wpOpsS]
    rw [ho1]
    simp only [hw1, if_true, hval, Oper.upon_value]
    rw [e1]
    exact rest
  exact wpOpsS_rec ho0 (hw0 _) (hrun0 _) hrecD (by rw [e0]; exact step1)

/-- The call of the closure: its objects are those that K.wr names. -/
noncomputable def callClo (Γ : Ctx) (K : Clo) (p : Option K.t.den) (caps : C) (s : St) : Option St :=
  match K.wr.mapM fun o => s.get (okey o) with
  | none => none
  | some objs =>
    if caps.refs.all (K.wr.contains ·) && objs.all (fun c => c.isObj && c.refs.all (K.wr.contains ·)) && decide (K.wr.Nodup) then
      match takeL K.I.args (caps.ren fun o => K.wr.idxOf o), takeO K.I.objs (objs.map (C.ren fun o => K.wr.idxOf o)) with
      | some x, some y => (evCloF Γ K p x y).map fun z => s.upd ((((K.I.outs z).objs ++ (K.I.outs z).news).zip (K.wr ++ [])).map fun q => (okey q.2, q.1.ren fun i => (K.wr ++ []).getD i 0))
      | _, _ => none
    else none
theorem callClo_sound (hΓ : CtxOK Γ P) (hm : P.follows .mixedOrders = true) {D : FuncId} {K : Clo} (hK : CloIs Γ P D K) (hnews : K.I.news = 0) (hI : Inv n f F κ s a w) (hG : GlobOK Γ F) {p : Option K.t.den} {caps : C} {vals : List Value} (hcaps : RepL F κ s caps vals)
    {s2 : St} (he : callClo Γ K p caps s = some s2) {v : Option Value} (hv : SameV F K.t p v) :
    CallsD P D vals.toArray (cloU K.T v false) w fun e u w' => u = cloU K.T v true ∧ ∃ x, e = .returned x ∧ ∃ F' κ', F.le F' ∧ Inv n f F' κ' s2 a w' := by
  unfold callClo at he
  split at he
  · cases he
  rename_i objs hobjs
  split at he
  rotate_left
  · cases he
  rename_i hchk
  simp only [Bool.and_eq_true, List.all_eq_true, decide_eq_true_eq, List.contains_eq_mem] at hchk
  obtain ⟨⟨hrefs, hoall⟩, hwnd⟩ := hchk
  split at he
  rotate_left
  · cases he
  rename_i x y hx hy
  simp only [Option.map_eq_some_iff] at he
  obtain ⟨z, hz, rfl⟩ := he
  have core := call_core (X := fun R => CallsD P D vals.toArray (cloU K.T v false) w fun e u w' => u = cloU K.T v true ∧ R e w') (fun R R' h h' => CallsD.mono h' (fun e u w' hh => ⟨hh.1, h _ _ hh.2⟩)) hI (fun _ _ h => h)
    (new := []) (fun m hm => by cases hm) List.nodup_nil hobjs hrefs hoall hwnd hcaps (k := K.I.news) hnews (out := K.I.outs z) (E := .returned) (fun κ' h1 h2 h3 => clo_sound hΓ hm hK hx hy hz hv (fun i p hp => hG i p hp) h1 h2 h3) (dst := none) rfl
    (K := fun _ w' => ∃ F' κ', F.le F' ∧ Inv n f F' κ' (s.upd ((((K.I.outs z).objs ++ (K.I.outs z).news).zip (K.wr ++ [])).map fun q => (okey q.2, q.1.ren fun i => (K.wr ++ []).getD i 0))) a w')
    (fun F' κ' v w' c uo hF hu hI' _ _ _ => ⟨F', κ', hF, by
      simp only [Out1, List.append_nil] at hu
      simp only [List.append_nil]
      rw [hu]
      exact hI'⟩)
  exact core

/-! ### The function -/
/-- Hints: the region that defers with what follows (ks: the slots that the closure captures), and what stands ahead. -/
inductive HD where
  | here (hs : List OH) (h : HC) (ks : List Nat)
  | seq (h : HC) (r : HD)
def defOp (o : Op) : Option Operand := match o with
  | .defer c => (match c.callee with
    | .value g => if c.args.size == 0 then some g else none
    | _ => none)
  | _ => none
theorem defOp_eq {o : Op} {g : Operand} (h : defOp o = some g) : ∃ c, o = .defer c ∧ c.callee = .value g ∧ c.args = #[] := by
  cases o <;> simp only [defOp, reduceCtorEq] at h
  rename_i c
  refine ⟨c, rfl, ?_⟩
  split at h
  · rename_i g' hg
    split at h
    · rename_i hs
      cases h
      exact ⟨hg, by simpa using hs⟩
    · cases h
  · cases h
/-- Are the captured contents those of these slots: addresses of objects? -/
def capsOK (s : St) : C → List Nat → Bool
  | .unit, [] => true
  | .cons (.ptr o 0) r, k :: ks => (match s.get k, s.get (okey o) with
    | some (.ptr o' 0), some c => decide (o' = o) && c.isObj
    | _, _ => false) && decide (k < 90000) && capsOK s r ks
  | _, _ => false
def capsAt (s : St) : List Nat → Option C
  | [] => some .unit
  | k :: ks => if k < 90000 then match s.get k with
    | some c => (capsAt s ks).map (.cons c)
    | none => none
    else none
theorem capsOK_eq (hI : Inv n f F κ s a w) : ∀ {caps : C} {ks : List Nat} {us : List Value}, capsOK s caps ks = true → RepL F κ s caps us → us = ks.map (a.tmps.getD · undef)
  | .unit, [], us, _, h => by simpa only [RepL, List.map_nil] using h
  | .cons (.ptr o 0) r, k :: ks, us, hc, h => by
    simp only [capsOK, Bool.and_eq_true, decide_eq_true_eq] at hc
    obtain ⟨⟨hc, hk⟩, hr⟩ := hc
    obtain ⟨v, us', rfl, h1, h2⟩ := rep_cons h
    split at hc
    · rename_i o' c h3 h4
      simp only [Bool.and_eq_true, decide_eq_true_eq] at hc
      obtain ⟨rfl, hobj⟩ := hc
      have hne : c ≠ .dead := by rintro rfl; simp [C.isObj] at hobj
      obtain ⟨b, p, q, e1, e2⟩ := rep_ptr.1 h1 _ h4 hne
      obtain ⟨b', p', q', e3, e4⟩ := rep_ptr.1 (hI.slots k _ h3 (by omega)) _ h4 hne
      rw [e1] at e3
      cases e3
      rw [List.map_cons, e2, e4, capsOK_eq hI hr h2]
    · cases hc
  | .unit, _ :: _, _, hc, _ => by simp [capsOK] at hc
  | .cons _ _, [], _, hc, _ => by simp [capsOK] at hc
  | .cons (.ptr _ (_ + 1)) _, _ :: _, _, hc, _ => by simp [capsOK] at hc
  | .cons (.val ..) _, _ :: _, _, hc, _ | .cons (.own _) _, _ :: _, _, hc, _ | .cons (.eptr ..) _, _ :: _, _, hc, _ | .cons (.aptr ..) _, _ :: _, _, hc, _ | .cons (.adr ..) _, _ :: _, _, hc, _ | .cons (.brow _) _, _ :: _, _, hc, _
  | .cons (.may ..) _, _ :: _, _, hc, _ | .cons (.fptr ..) _, _ :: _, _, hc, _ | .cons (.fn ..) _, _ :: _, _, hc, _ | .cons (.tup _) _, _ :: _, _, hc, _ | .cons (.agg _) _, _ :: _, _, hc, _ | .cons (.rsl ..) _, _ :: _, _, hc, _
  | .cons (.cons ..) _, _ :: _, _, hc, _ | .cons .unit _, _ :: _, _, hc, _ | .cons .nil _, _ :: _, _, hc, _ | .cons .dead _, _ :: _, _, hc, _ | .cons (.vec ..) _, _ :: _, _, hc, _ | .cons (.rcd _) _, _ :: _, _, hc, _ | .cons (.iter ..) _, _ :: _, _, hc, _ => by simp [capsOK] at hc
  | .val .., _, _, hc, _ | .own _, _, _, hc, _ | .ptr .., _, _, hc, _ | .eptr .., _, _, hc, _ | .aptr .., _, _, hc, _ | .adr .., _, _, hc, _ | .brow _, _, _, hc, _ | .may .., _, _, hc, _ | .fptr .., _, _, hc, _ | .fn .., _, _, hc, _
  | .tup _, _, _, hc, _ | .agg _, _, _, hc, _ | .rsl .., _, _, hc, _ | .nil, _, _, hc, _ | .dead, _, _, hc, _ | .vec .., _, _, hc, _ | .rcd _, _, _, hc, _ | .iter .., _, _, hc, _ => by simp [capsOK] at hc
theorem capsAt_rep (hI : Inv n f F κ s a w) : ∀ {ks : List Nat} {caps : C}, capsAt s ks = some caps → RepL F κ s caps (ks.map (a.tmps.getD · undef))
  | [], caps, h => by
    simp only [capsAt, Option.some.injEq] at h
    subst h
    simp only [RepL, List.map_nil]
  | k :: ks, caps, h => by
    simp only [capsAt] at h
    split at h
    · rename_i hk
      split at h
      · rename_i c hc
        simp only [Option.map_eq_some_iff] at h
        obtain ⟨r, hr, rfl⟩ := h
        simp only [RepL, List.map_cons]
        exact ⟨_, _, rfl, hI.slots k c hc (by omega), capsAt_rep hI hr⟩
      · cases h
    · cases h
theorem capsAt_lt {s : St} : ∀ {ks : List Nat} {caps : C}, capsAt s ks = some caps → ∀ k ∈ ks, k < 90000
  | [], _, _, k, hk => by cases hk
  | j :: ks, caps, h, k, hk => by
    simp only [capsAt] at h
    split at h
    · rename_i hj
      split at h
      · simp only [Option.map_eq_some_iff] at h
        obtain ⟨r, hr, _⟩ := h
        rcases List.mem_cons.1 hk with rfl | hk
        · exact hj
        · exact capsAt_lt hr k hk
      · cases h
    · cases h

noncomputable def evDoor {X : Type} (Γ : Ctx) (n : Nat) (D : Nat) : HD → Code → St → (Ex → St → Option X) → (List Nat → Ex → St → Option X) → Option X
  | .seq h r, .seq x y, s, kA, kB => evCode Γ n drawsOK h x s fun e s' => match e with
    | .normal => evDoor Γ n D r y s' kA kB
    | e => kA e s'
  | .here hs h ks, .seq (.region _ ops false) y, s, _, kB => match ops[ops.size - 1]? with
    | none => none
    | some o => match defOp o.op, o.dst, o.guard with
      | some g, none, none => if ks.all (fun k => !(dsts y).contains k) then evOpsK Γ n ops hs (fun s1 => match opnd Γ s1.get g with
          | some (.fn D' caps) => if D' = D ∧ capsOK s1 caps ks = true then evCode Γ n drawsOK h y s1 (kB ks) else none
          | _ => none) (fun _ _ _ => none) (List.range (ops.size - 1)) s
        else none
      | _, _, _ => none
  | _, _, _, _, _ => none

theorem evSteps_then (hΓ : CtxOK Γ P) {ops : Array Oper} {hs : List OH} {Q : Exit → Act → World → Prop} {post : List Nat} : ∀ (l : List Nat) {F : Froz} {κ : Conc} {s : St} {a : Act} {w : World} {s' : St}, evSteps Γ n ops hs l s = some s' →
    Inv n f F κ s a w → GlobOK Γ F → (∀ F' κ' a' w', F.le F' → Inv n f F' κ' s' a' w' → (∀ t, (∀ (i : Nat) o, ops[i]? = some o → o.dst ≠ some t) → a'.tmps.getD t undef = a.tmps.getD t undef) → wpOps P ops Q post a' w') → wpOps P ops Q (l ++ post) a w
  | [], F, κ, s, a, w, s', h, hI, hG, hQ => by
    simp only [evSteps, Option.some.injEq] at h
    subst h
    exact hQ F κ a w (Froz.le_refl F) hI (fun _ _ => rfl)
  | i :: r, F, κ, s, a, w, s', h, hI, hG, hQ => by
    simp only [evSteps, Option.bind_eq_some_iff] at h
    obtain ⟨s1, h1, h2⟩ := h
    rw [List.cons_append, wpOps_cons]
    refine evStep_sound hΓ hI hG h1 (fun F' κ' a' w' hF hI' hfr => ?_)
    refine evSteps_then hΓ r h2 hI' (hG.mono hF) (fun F2 κ2 a2 w2 hF2 hI2 hfr2 => hQ F2 κ2 a2 w2 (Froz.le_trans hF hF2) hI2 (fun t ht => ?_))
    rw [hfr2 t ht]
    refine hfr t ?_
    cases ho : ops[i]? with
    | none => simp
    | some o => exact ht i o ho

/-- The same with a call deferred. -/
theorem Inv.ds (hI : Inv n f F κ s a w) (ds : List Deferred) : Inv n { f with ds := ds } F κ s { a with defers := ds } w :=
  ⟨hI.tmps, rfl, hI.frozen, hI.slots, hI.objs, hI.free, hI.apart, hI.closed, ⟨hI.kept.size, hI.kept.same, hI.kept.rest⟩, hI.grown⟩

def dfr (D : Nat) (us : List Value) : Deferred := { target := .fn (.func D) us.toArray, args := #[] }

theorem evDoor_sound (hΓ : CtxOK Γ P) (hm : P.follows .mixedOrders = true) {D : Nat} : ∀ (hd : HD) (c : Code) {X : Type} {kA : Ex → St → Option X} {kB : List Nat → Ex → St → Option X} {F : Froz} {κ : Conc} {s : St} {a : Act} {w : World} {x : X} {Q : Exit → Act → World → Prop},
    evDoor Γ n D hd c s kA kB = some x → Inv n f F κ s a w → f.ds = [] → GlobOK Γ F →
    (∀ e s' F' a' w' y, kA e s' = some x → F.le F' → Lands n f (dsts c) a e s' F' a' w' y → Q y a' w') →
    (∀ ks us e s' F' a' w' y, kB ks e s' = some x → F.le F' → Lands n { f with ds := [dfr D us] } (dsts c) a e s' F' a' w' y → us = ks.map (a'.tmps.getD · undef) → Q y a' w') → c.wp P Q a w := by
  intro hd
  induction hd with
  | seq h r ih =>
    intro c X kA kB F κ s a w x Q he hI hf hG hQA hQB
    cases c <;> simp only [evDoor] at he <;> first | (cases he; done) | skip
    rename_i cx cy
    have hL : ∀ {t : Nat}, t ∈ dsts cx → t ∈ dsts (.seq cx cy) := fun h => by simp only [dsts, List.mem_append]; exact .inl h
    have hL2 : ∀ {W : List Nat} {f' : Frame0} {a1 : Act} {e s' F' a' w' y}, (∀ t, t ∉ dsts cx → a1.tmps.getD t undef = a.tmps.getD t undef) → Lands n f' (dsts cy) a1 e s' F' a' w' y → Lands n f' (dsts (.seq cx cy)) a e s' F' a' w' y := fun {W f' a1 e s' F' a' w' y} hfr hl => hl.mono (fun t ht => by
      simp only [dsts, List.mem_append, not_or] at ht
      exact ⟨ht.2, hfr t ht.1⟩)
    refine wp_seq (evCode_sound hΓ hm h cx he hI hG (fun e s' F' a' w' y h1 h2 hl => ?_))
    cases hl with
    | fall g1 g2 g3 g4 g5 => exact hQA (.pan _) s' F' a' w' _ h1 h2 ((Lands.fall g1 g2 g3 g4 g5).sub (fun t => hL))
    | go g1 g2 g3 =>
      cases e with
      | normal =>
        exact ih cy h1 g2 hf (hG.mono h2) (fun e s2 F2 a2 w2 y k1 k2 k3 => hQA e s2 F2 a2 w2 y k1 (Froz.le_trans h2 k2) (hL2 (W := []) g3 k3))
          (fun ks us e s2 F2 a2 w2 y k1 k2 k3 k4 => hQB ks us e s2 F2 a2 w2 y k1 (Froz.le_trans h2 k2) (hL2 (W := []) g3 k3) k4)
      | exit i => exact hQA (.exit i) s' F' a' w' _ h1 h2 ((Lands.go (e := .exit i) rfl g2 g3).sub (fun t => hL))
      | ret => exact hQA .ret s' F' a' w' _ h1 h2 ((Lands.go (e := .ret) rfl g2 g3).sub (fun t => hL))
      | pan => cases g1
  | here hs h ks =>
    intro c X kA kB F κ s a w x Q he hI hf hG hQA hQB
    obtain ⟨id, ops, y, rfl⟩ : ∃ id ops y, c = .seq (.region id ops false) y := by
      cases c with
      | seq cx cy =>
        cases cx with
        | region id ops d =>
          cases d with
          | false => exact ⟨_, _, _, rfl⟩
          | true => simp [evDoor] at he
        | _ => simp [evDoor] at he
      | _ => simp [evDoor] at he
    simp only [evDoor] at he
    split at he
    · cases he
    rename_i o ho
    split at he
    rotate_left
    · cases he
    rename_i g hg hdst hgd
    split at he
    rotate_left
    · cases he
    rename_i hks
    obtain ⟨dc, e1, e2, e3⟩ := defOp_eq hg
    have hsz : 0 < ops.size := by
      rcases Nat.eq_zero_or_pos ops.size with h0 | h0
      · rw [h0] at ho; simp [Array.eq_empty_of_size_eq_zero h0] at ho
      · exact h0
    refine wp_seq (wp_region ?_)
    have hr : List.range ops.size = List.range (ops.size - 1) ++ [ops.size - 1] := by
      obtain ⟨m, hm⟩ : ∃ m, ops.size = m + 1 := ⟨ops.size - 1, by omega⟩
      rw [hm, List.range_succ]; rfl
    rw [hr]
    rcases evOpsK_eq _ _ he with ⟨s1, h1, h2⟩ | ⟨pre, i, post, s1, T, u, t, p, _, _, _, h3⟩
    rotate_left
    · cases h3
    refine evSteps_then hΓ _ h1 hI hG (fun F1 κ1 a1 w1 hF1 hI1 hfr1 => ?_)
    simp only at h2
    split at h2
    rotate_left
    · cases h2
    rename_i D' caps hfn
    split at h2
    rotate_left
    · cases h2
    rename_i hck
    obtain ⟨rfl, hcaps⟩ := hck
    obtain ⟨hrep, _⟩ := opnd_sound hI1 (hG.mono hF1) (fun _ _ h => h) hfn
    simp only [RepL, List.cons.injEq, and_true] at hrep
    obtain ⟨us, hv, hrep⟩ := hrep
    have hus := capsOK_eq hI1 hcaps hrep
    have hrun : (execOp a1.eval o).run P w1 = .ok (.defer (dfr D' us)) w1 := by
      simp [execOp, e1, resolve, e2, e3, hv, Deferred.ofValue, dfr]
    have hw : Region.wanted o (yielded ops a1.tmps) = true := by simp [Region.wanted, hgd]
    have hI2 := hI1.ds [dfr D' us]
    have hreg : ∀ {t}, t ∉ dsts (.region id ops false) → a1.tmps.getD t undef = a.tmps.getD t undef := fun {t} ht => hfr1 t (fun i o ho => dsts_region ht i o ho)
    have step : y.wp P Q { a1 with defers := [dfr D' us] } w1 := by
      refine evCode_sound hΓ hm h y h2 hI2 (hG.mono hF1) (fun e s2 F2 a2 w2 yy k1 k2 k3 => ?_)
      have hfr3 : ∀ t, t ∉ dsts y → a2.tmps.getD t undef = a1.tmps.getD t undef := by
        cases k3 with
        | go _ _ g => exact g
        | fall _ _ _ _ g => exact g
      refine hQB ks us e s2 F2 a2 w2 yy k1 (Froz.le_trans hF1 k2) (k3.mono (fun t ht => ?_)) ?_
      · simp only [dsts, List.mem_append, not_or] at ht
        exact ⟨ht.2, hreg (by simpa only [dsts] using ht.1)⟩
      · rw [hus]
        refine List.map_congr_left (fun k hk => ?_)
        have := List.all_eq_true.1 hks k hk
        exact (hfr3 k (by simpa using this)).symm
    simp only [wpOps]
    rw [ho]
    simp only [hw, if_true]
    refine .inl ?_
    unfold Oper.wp
    rw [hrun, Oper.upon_defer, hdst]
    have hd0 : a1.defers = [] := by rw [hI1.defers, hf]
    rw [hd0]
    exact step

/-- What stands below the results' slots, and the objects. -/
def keepN (n : Nat) (s : St) : St := s.filter fun p => decide (p.1 < n ∨ 100000 ≤ p.1)
theorem keepN_get (m : Nat) : ∀ (s : St) (k : Nat), (keepN m s).get k = if k < m ∨ 100000 ≤ k then s.get k else none
  | [], k => by simp [keepN, St.get]
  | (j, c) :: r, k => by
    have ih := keepN_get m r k
    unfold keepN at ih ⊢
    by_cases hj : j < m ∨ 100000 ≤ j
    · rw [List.filter_cons_of_pos (by simpa using hj)]
      by_cases e : j = k
      · subst e; simp only [St.get, if_true, if_pos hj]
      · simp only [St.get, if_neg e]; exact ih
    · rw [List.filter_cons_of_neg (by simpa using hj)]
      by_cases e : j = k
      · subst e; rw [ih, if_neg hj, if_neg hj]
      · rw [ih]; simp only [St.get, if_neg e]

theorem resSem_same {s : St} {tm tm' : Array Value} : ∀ (rs : List ResultVar) {l : List C}, resList Γ s rs = some l → (∀ t, t < 90000 → tm.getD t undef = tm'.getD t undef) → rs.mapM (resSem tm) = rs.mapM (resSem tm')
  | [], _, _, _ => rfl
  | .tmp t :: r, l, h, ht => by
    simp only [resList] at h
    split at h
    · rename_i h9
      split at h
      · simp only [Option.map_eq_some_iff] at h
        obtain ⟨l', h, _⟩ := h
        simp only [List.mapM_cons, resSem, ht t h9, resSem_same r h ht]
      · cases h
    · cases h
  | .cell t T :: r, l, h, ht => by
    simp only [resList] at h
    split at h
    · rename_i h9
      split at h
      · split at h
        · simp only [Option.map_eq_some_iff] at h
          obtain ⟨l', h, _⟩ := h
          simp only [List.mapM_cons, resSem, ht t h9, resSem_same r h ht]
        · cases h
      · cases h
    · cases h
theorem results_same {fn : Func} {rs : List ResultVar} (hres : fn.results = rs.toArray) {s : St} {l : List C} (h : resList Γ s rs = some l) {tm tm' : Array Value} (ht : ∀ t, t < 90000 → tm.getD t undef = tm'.getD t undef) : results fn tm = results fn tm' := by
  have hdef : ∀ tm, results fn tm = (do
    let vs ← fn.results.mapM (resSem tm)
    pure (if h : vs.size = 1 then vs[0] else .tuple vs)) := fun _ => rfl
  rw [hdef, hdef, hres, List.mapM_toArray, List.mapM_toArray, resSem_same rs h ht]

/-- A function that comes to one of two things. -/
def Inst.semS (I : Inst) (out2 : Shape) (run : Ks.den I.args → Ks.den I.objs → Option (I.out.den ⊕ out2.den)) (args : C) (objs : List C) : Option CRes :=
  match takeL I.args args with
  | none => none
  | some x => match takeO I.objs objs with
    | none => none
    | some y => some (.mkS I.news (run x y) I.outs ({ I with out := out2 } : Inst).outs)
noncomputable def evDoorF (Γ : Ctx) (n : Nat) (D : Nat) (code : Code) (rs : List ResultVar) (hd : HD) (I : Inst) (out2 : Shape) (K : Clo) (x : Ks.den I.args) (y : Ks.den I.objs) : Option (I.out.den ⊕ out2.den) :=
  evDoor Γ n D hd code (slotsAt 0 (Ks.unpack I.args x) ++ ost 0 (Ks.unpack I.objs y))
    (fun e s => match e with
      | .ret => (match resList Γ s rs with
        | none => none
        | some l => (I.out.pack (slotsAt 90000 l ++ s)).map .inl)
      | _ => none)
    fun ks e s => match e with
      | .exit _ => none
      | .pan T' => if T' = K.T then match s.get panKey with
          | some (.val t' p) => if h : t' = K.t then (capsAt (keepN 90000 s) ks).bind fun caps => (callClo Γ K (some (h ▸ p)) caps (keepN 90000 s)).bind fun s2 => match resList Γ s2 rs with
              | none => none
              | some l => (Shape.pack out2 (slotsAt 90000 l ++ s2)).map .inr
            else none
          | _ => none
        else none
      | _ => (capsAt s ks).bind fun caps => (callClo Γ K none caps s).bind fun s2 => match resList Γ s2 rs with
        | none => none
        | some l => (I.out.pack (slotsAt 90000 l ++ s2)).map .inl

theorem invoke_dfr {D : Nat} {us : List Value} (hcall : ∀ vals w, (callFunc D vals).run P w = .ok (.enter D vals) w) : (invoke (dfr D us).target (dfr D us).args).run P w = .ok (.enter D us.toArray) w := by
  have := hcall us.toArray w
  simpa [dfr, invoke] using this

theorem door_ok (hΓ : CtxOK Γ P) (hm : P.follows .mixedOrders = true) {fid : FuncId} {fn : Func} {c : Code} {rs : List ResultVar} (hd : HD) (I : Inst) (out2 : Shape) (K : Clo) {D : Nat}
    (hf : P.funcs[fid]? = some fn) (hb : fn.body = some c) (hn : fn.ntmps = n) (hres : fn.results = rs.toArray) (hok : I.ok n rs.length (dsts c) = true) (hok2 : ({ I with out := out2 } : Inst).ok n rs.length (dsts c) = true)
    (hK : CloIs Γ P D K) (hnews : K.I.news = 0)
    {run : Ks.den I.args → Ks.den I.objs → Option (I.out.den ⊕ out2.den)} (hrun : ∀ x y, evDoorF Γ n D c rs hd I out2 K x y = run x y) : FnOK P Γ.glob fid (I.semS out2 run) := by
  have hn9 : n ≤ 90000 := by
    unfold Inst.ok at hok
    simp only [Bool.and_eq_true, decide_eq_true_eq] at hok
    exact hok.1.1.1.2.1
  refine ⟨fun args objs α k m r x hsem hmx => ?_, fun args objs α t' k T' m r hsem => ?_, fun args objs α β k m r r' hsem => ?_⟩
  · unfold Inst.semS at hsem
    split at hsem
    · cases hsem
    split at hsem
    · cases hsem
    cases hsem
  · unfold Inst.semS at hsem
    split at hsem
    · cases hsem
    split at hsem
    · cases hsem
    cases hsem
  unfold Inst.semS at hsem
  split at hsem
  · cases hsem
  rename_i ax hax
  split at hsem
  · cases hsem
  rename_i oy hoy
  cases hsem
  -- both ways at once
  have both : ∀ (z : I.out.den ⊕ out2.den), run ax oy = some z → CallOK P Γ.glob fid args objs (match z with
      | .inl x => Comes1 objs I.news (I.outs x) .returned
      | .inr x => Comes1 objs I.news (({ I with out := out2 } : Inst).outs x) .returned) := by
    intro z hz F κ w vals hG hI hargs hrefs
    rw [← hrun] at hz
    unfold evDoorF at hz
    obtain ⟨hI0, hend⟩ := fn_fin hΓ I hn hres hok hax hoy hI hargs hrefs
    obtain ⟨_, hend2⟩ := fn_fin hΓ (I := { I with out := out2 }) hn hres hok2 hax hoy hI hargs hrefs
    generalize ha0 : ({ tmps := vals.toArray ++ Array.replicate (fn.ntmps - vals.toArray.size) undef, defers := [] } : Act) = a0 at hI0 hend hend2
    refine calls_of_wp_defers hf hb ?_
    rw [ha0]
    refine evDoor_sound hΓ hm hd c hz hI0 rfl hG (fun e s' F' a' w' y hk hF hl => ?_) (fun ks us e s' F' a' w' y hk hF hl hus => ?_)
    · -- ways out ahead of the deferred call
      cases hl with
      | fall => cases hk
      | go hcalm hI' hfr =>
        cases e with
        | normal => cases hk
        | exit i => cases hk
        | pan => cases hcalm
        | ret =>
          simp only at hk
          split at hk
          · cases hk
          rename_i l hl
          simp only [Option.map_eq_some_iff] at hk
          obtain ⟨x, hx, rfl⟩ := hk
          obtain ⟨v, h1, h2⟩ := hend n s' F' _ a' w' l x hn9 hF hI' hfr hl hx
          show Leaves P fn a'.tmps _ a'.defers .returning w'
          rw [hI'.defers]
          exact ⟨v, h1, h2⟩
    · -- behind it
      have leave : ∀ (v : Option Value) (n' : Nat) (s0 : St) (κ' : Conc) (b : Act) (p : Option K.t.den) (caps : C) (s2 : St) (l : List C) (w' : World), n' ≤ 90000 → F.le F' → Inv n' ⟨w, mayOf objs κ, F, []⟩ F' κ' s0 b w' → SameV F' K.t p v → (∀ t, t < 90000 → b.tmps.getD t undef = a'.tmps.getD t undef) →
          (∀ t, t ∉ dsts c → t < 90000 → a'.tmps.getD t undef = a0.tmps.getD t undef) → RepL F' κ' s0 caps us → callClo Γ K p caps s0 = some s2 → resList Γ s2 rs = some l →
          (match z with
            | .inl x => I.out.pack (slotsAt 90000 l ++ s2) = some x
            | .inr x => Shape.pack out2 (slotsAt 90000 l ++ s2) = some x) → Leaves P fn a'.tmps ((match z with
              | .inl x => Comes1 objs I.news (I.outs x) .returned
              | .inr x => Comes1 objs I.news (({ I with out := out2 } : Inst).outs x) .returned) w F κ) [dfr D us] (cloU K.T v false) w' := by
        intro v n' s0 κ' b p caps s2 l w' hn' hF hI' hsame hbt hfr hcaps hcl hl hz
        have hcallD := callClo_sound hΓ hm hK hnews hI' (GlobOK.mono hF hG) hcaps hcl hsame
        refine ⟨by cases v <;> simp [cloU, met], .func D, us.toArray, D, us.toArray, rfl, invoke_dfr hK.call, hcallD.mono ?_⟩
        rintro e u w2 ⟨rfl, x, rfl, F2, κ2, hF2, hI2⟩
        have hset : settle (cloU K.T v true) = .returning := by cases v <;> rfl
        simp only [hset]
        let b2 : Act := { tmps := (Array.range 90000).map fun k => b.tmps.getD k undef, defers := b.defers }
        have hb2 : ∀ k, b2.tmps.getD k undef = if k < 90000 then b.tmps.getD k undef else undef := fun k => by
          by_cases hk : k < 90000
          · simp [b2, Array.getD_eq_getD_getElem?, hk]
          · simp [b2, Array.getD_eq_getD_getElem?, hk]
        have hfrb : ∀ t, t ∉ dsts c → b2.tmps.getD t undef = a0.tmps.getD t undef := fun t ht => by
          rw [hb2]
          by_cases hk : t < 90000
          · rw [if_pos hk, hbt t hk, hfr t ht hk]
          · rw [if_neg hk]
            have := hI0.tmps
            simp [Array.getD_eq_getD_getElem?, show a0.tmps.size ≤ t by omega]
        have hI3 : Inv 90000 ⟨w, mayOf objs κ, F, []⟩ F2 κ2 s2 b2 w2 := by
          refine ⟨by simp [b2], hI2.defers, hI2.frozen, fun k c hk hk' => ?_, hI2.objs, hI2.free, hI2.apart, hI2.closed, hI2.kept, hI2.grown⟩
          rw [hb2]
          have := hI2.slots k c hk hk'
          by_cases h9 : k < 90000
          · rw [if_pos h9]; exact this
          · rw [if_neg h9]
            have e1 : b.tmps.getD k undef = undef := by
              have := hI'.tmps
              simp [Array.getD_eq_getD_getElem?, show b.tmps.size ≤ k by omega]
            rw [← e1]; exact this
        have hsm : results fn b2.tmps = results fn a'.tmps := results_same hres hl (fun t ht => by rw [hb2, if_pos ht, hbt t ht])
        cases z with
        | inl x =>
          obtain ⟨vv, h1, h2⟩ := hend 90000 s2 F2 κ2 b2 w2 l x (Nat.le_refl _) (Froz.le_trans hF hF2) hI3 hfrb hl hz
          rw [hsm] at h1
          exact ⟨vv, h1, h2⟩
        | inr x =>
          obtain ⟨vv, h1, h2⟩ := hend2 90000 s2 F2 κ2 b2 w2 l x (Nat.le_refl _) (Froz.le_trans hF hF2) hI3 hfrb hl hz
          rw [hsm] at h1
          exact ⟨vv, h1, h2⟩
      cases hl with
      | go hcalm hI' hfr =>
        have hI1 := hI'.ds []
        have fin : ((capsAt s' ks).bind fun caps => (callClo Γ K none caps s').bind fun s2 => match resList Γ s2 rs with
            | none => none
            | some l => (I.out.pack (slotsAt 90000 l ++ s2)).map .inl : Option (I.out.den ⊕ out2.den)) = some z → Leaves P fn a'.tmps ((match z with
              | .inl x => Comes1 objs I.news (I.outs x) .returned
              | .inr x => Comes1 objs I.news (({ I with out := out2 } : Inst).outs x) .returned) w F κ) a'.defers .returning w' := by
          intro hk
          simp only [Option.bind_eq_some_iff] at hk
          obtain ⟨caps, hcaps, s2, hcl, hk⟩ := hk
          split at hk
          · cases hk
          rename_i l hl
          simp only [Option.map_eq_some_iff] at hk
          obtain ⟨x, hx, rfl⟩ := hk
          rw [hI'.defers]
          refine leave none n s' _ { a' with defers := [] } none caps s2 l w' hn9 hF hI1 trivial (fun _ _ => rfl) (fun t ht _ => hfr t ht) ?_ hcl hl hx
          rw [hus]
          exact capsAt_rep hI' hcaps
        cases e with
        | normal => exact fin hk
        | exit i => cases hk
        | ret => exact fin hk
        | pan => cases hcalm
      | fall g1 g2 g3 g4 g5 =>
        rename_i T κ' b v
        simp only at hk
        split at hk
        rotate_left
        · cases hk
        rename_i hT
        split at hk
        rotate_left
        · cases hk
        rename_i t' p hp
        split at hk
        rotate_left
        · cases hk
        rename_i ht
        subst ht
        simp only [Option.bind_eq_some_iff] at hk
        obtain ⟨caps, hcaps, s2, hcl, hk⟩ := hk
        split at hk
        · cases hk
        rename_i l hl
        simp only [Option.map_eq_some_iff] at hk
        obtain ⟨x, hx, rfl⟩ := hk
        have hpv := g2.slots _ _ hp (by unfold panKey; omega)
        rw [g3] at hpv
        let b1 : Act := { tmps := (Array.range 90000).map fun k => b.tmps.getD k undef, defers := [] }
        have hb1 : ∀ k, k < 90000 → b1.tmps.getD k undef = b.tmps.getD k undef := fun k hk => by
          simp [b1, Array.getD_eq_getD_getElem?, hk]
        have hI1 : Inv 90000 ⟨w, mayOf objs κ, F, []⟩ F' κ' (keepN 90000 s') b1 w' := by
          refine ((g2.ds []).reshape (n' := 90000) (s' := keepN 90000 s') (a' := b1) (by simp [b1]) rfl (fun k c hk hk' => ?_) (fun o => .inl ?_))
          · rw [keepN_get] at hk
            split at hk
            · rename_i h9
              have h9 : k < 90000 := by omega
              rw [hb1 k h9]
              exact ⟨g2.slots k c hk hk', g2.closed k c hk⟩
            · cases hk
          · rw [keepN_get, if_pos (.inr (okey_ge o))]
        subst hT
        show Leaves P fn a'.tmps _ a'.defers (.panicking [{ v := .iface K.T v, recovered := false }]) w'
        rw [g1]
        refine leave (some v) 90000 (keepN 90000 s') κ' b1 (some p) caps s2 l w' (Nat.le_refl _) hF hI1 (rep_val.1 hpv) (fun t ht => ?_) (fun t ht _ => g5 t ht) ?_ hcl hl hx
        · rw [hb1 t ht]
          exact g4 t (by omega) (by unfold panKey; omega)
        · rw [hus]
          have := capsAt_rep hI1 hcaps
          have e : ks.map (a'.tmps.getD · undef) = ks.map (b1.tmps.getD · undef) := by
            refine List.map_congr_left (fun k hk => ?_)
            have hk9 := capsAt_lt hcaps k hk
            rw [hb1 k hk9, g4 k (by omega) (by unfold panKey; omega)]
          rw [e]
          exact this
  exact ⟨fun x hx => both (.inl x) hx, fun x hx => both (.inr x) hx⟩
theorem cloIs_of {D : Nat} {K : Clo} (f : Func) (hf : P.funcs[D]? = some f) (hb : f.body.isSome = true) (hc : K.c = bodyOf f) (hn : f.ntmps = K.n) (hr : f.results = #[]) (hok : K.I.ok K.n 0 (dsts K.c) = true)
    (htab : Γ.tab K.T = some K.t) (hun : ((P.underlying K.T).any fun d => match d with
      | .interface _ => false
      | _ => true) = true) (hcall : ∀ vals w, (callFunc D vals).run P w = .ok (.enter D vals) w) : CloIs Γ P D K where
  fn := by
    obtain ⟨c, hc'⟩ := Option.isSome_iff_exists.1 hb
    exact ⟨f, hf, by rw [hc]; exact bodyOf_eq hc', hn, hr⟩
  ok := hok
  tab := htab
  un := by
    cases hU : P.underlying K.T with
    | none => rw [hU] at hun; cases hun
    | some d => exact ⟨d, rfl, by rintro ms rfl; rw [hU] at hun; cases hun⟩
  call := hcall
abbrev Inst.FS (I : Inst) (out2 : Shape) : Type := Ks.den I.args → Ks.den I.objs → Option (I.out.den ⊕ out2.den)
theorem door_put {Γ : Ctx} {P : Program} (hΓ : CtxOK Γ P) (hm : P.follows .mixedOrders = true) (i : Nat) (f : Func) (rs : List ResultVar) (hd : HD) (I : Inst) (out2 : Shape) (n : Nat) (run : I.FS out2) (K : Clo) {D : Nat}
    (hf : P.funcs[i]? = some f) (hb : (f.body.isSome && I.ok n rs.length (dsts (bodyOf f)) && ({ I with out := out2 } : Inst).ok n rs.length (dsts (bodyOf f)) && decide (K.I.news = 0)) = true) (hn : f.ntmps = n) (hr : f.results = rs.toArray)
    (hK : CloIs Γ P D K) (hrun : ∀ x y, evDoorF Γ n D (bodyOf f) rs hd I out2 K x y = run x y) (hc : ∀ vals w, (callFunc i vals).run P w = .ok (.enter i vals) w) : CtxOK (Γ.add i (I.semS out2 run)) P := by
  simp only [Bool.and_eq_true, decide_eq_true_eq] at hb
  obtain ⟨⟨⟨h1, h2⟩, h3⟩, h4⟩ := hb
  obtain ⟨c, hc'⟩ := Option.isSome_iff_exists.1 h1
  exact add_ok hΓ (door_ok hΓ hm hd I out2 K hf (bodyOf_eq hc') hn hr h2 h3 hK h4 hrun) hc
end
end Go.Fe
