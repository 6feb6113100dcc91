/- A region whose order is drawn: operations that leave each other alone. -/
import Derived.Test.YtmnpchoocaiegaaGreatDoorFeStep
namespace Go.Fe
open Go

def rdOf (ops : Array Oper) (hs : List OH) (i : Nat) : List Nat := match ops[i]? with
  | none => []
  | some o => (match o.guard with
    | some (j, _) => (gslot ops j).toList
    | none => []) ++ (hs.getD i {}).ins o
def disj (l m : List Nat) : Bool := l.all fun k => !m.contains k

def freeOf (ops : Array Oper) (hs : List OH) (p i : Nat) : Bool :=
  disj (wrOf ops hs p) (rdOf ops hs i) && disj (wrOf ops hs p) (wrOf ops hs i) && disj (wrOf ops hs i) (rdOf ops hs p)

def isStore : Op → Bool
  | .store .. => true
  | _ => false
def isLook : Op → Bool
  | .nilCheck _ | .fieldAddr .. => true
  | _ => false
/-- A store in place, and a look at no more than what kind of object is there. -/
def lookOf (ops : Array Oper) (hs : List OH) (p i : Nat) : Bool := match ops[p]?, ops[i]? with
  | some q, some o => isStore q.op && q.guard.isNone && (hs.getD p {}).fz.isEmpty && (hs.getD p {}).lend.isEmpty && isLook o.op && o.guard.isNone && (hs.getD i {}).fz.isEmpty && (hs.getD i {}).new.isEmpty && (hs.getD p {}).new.isEmpty &&
      (wrOf ops hs p).all (fun k => decide (100000 ≤ k) || !(rdOf ops hs i).contains k) && disj (wrOf ops hs p) (wrOf ops hs i) && disj (wrOf ops hs i) (rdOf ops hs p)
  | _, _ => false

/-- One operation ahead of another, in the order that is answered. -/
def relOK (ops : Array Oper) (hs : List OH) (b : Array Nat) (p i : Nat) : Bool :=
  decide (p ≠ i) && (match ops[p]? with
    | none => true
    | some o => o.after.toList.all fun e => !Region.binds .any e || decide (e.on ≠ i)) &&
  ((b.getD i 0).testBit p || ((freeOf ops hs p i || (lookOf ops hs p i && !(hs.getD i {}).pan)) && !(hs.getD p {}).pan))
def pairsOK (R : Nat → Nat → Bool) : List Nat → Bool
  | [] => true
  | p :: r => r.all (R p) && pairsOK R r
/-- All operations that stand open to each other leave each other alone. -/
def drawsOK (ops : Array Oper) (hs : List OH) : Bool :=
  let l := ordOf ops hs
  ((List.range ops.size).all fun i => l.contains i && match ops[i]? with
    | none => false
    | some o => o.after.toList.all (fun e => !Region.binds .any e || decide (e.on < i))) && l.all (fun i => decide (i < ops.size)) && decide (l.length = ops.size) && pairsOK (relOK ops hs (Region.before ops)) l

theorem disj_spec {l m : List Nat} (h : disj l m = true) : ∀ k ∈ l, k ∉ m := by
  intro k hk hm
  simp only [disj, List.all_eq_true] at h
  have := h k hk
  simp [hm] at this

section
variable {Γ : Ctx} {P : Program} {n : Nat} {f : Frame0} {ops : Array Oper} {hs : List OH}

theorem upd_out : ∀ (u s : St) (k : Nat), k ∉ u.map (·.1) → (s.upd u).get k = s.get k
  | [], _, _, _ => rfl
  | (j, c) :: r, s, k, h => by
    simp only [List.map_cons, List.mem_cons, not_or] at h
    simp only [St.upd]
    rw [upd_out r _ k h.2, St.get_set, if_neg (fun e => h.1 e.symm)]

theorem upd_in : ∀ (u s s' : St) (k : Nat), k ∈ u.map (·.1) → (s.upd u).get k = (s'.upd u).get k
  | [], _, _, _, h => by simp at h
  | (j, c) :: r, s, s', k, h => by
    simp only [St.upd]
    by_cases hr : k ∈ r.map (·.1)
    · exact upd_in r _ _ k hr
    · simp only [List.map_cons, List.mem_cons] at h
      have e : k = j := h.resolve_right hr
      rw [upd_out r _ k hr, upd_out r _ k hr, St.get_set, St.get_set, if_pos e.symm, if_pos e.symm]

theorem upd_congr (u : St) {s s' : St} (h : ∀ k, s.get k = s'.get k) (k : Nat) : (s.upd u).get k = (s'.upd u).get k := by
  by_cases hk : k ∈ u.map (·.1)
  · exact upd_in u s s' k hk
  · rw [upd_out u s k hk, upd_out u s' k hk, h]

theorem upd_comm {u v : St} (h : ∀ k ∈ u.map (·.1), k ∉ v.map (·.1)) (s : St) (k : Nat) : ((s.upd u).upd v).get k = ((s.upd v).upd u).get k := by
  by_cases hu : k ∈ u.map (·.1)
  · rw [upd_out v _ k (h k hu)]
    exact upd_in u s (s.upd v) k hu
  · rw [upd_out u _ k hu]
    by_cases hv : k ∈ v.map (·.1)
    · exact upd_in v (s.upd u) s k hv
    · rw [upd_out v _ k hv, upd_out v _ k hv, upd_out u _ k hu]

theorem evOp_congr {h : OH} {o : Oper} {s s' : St} (hk : ∀ k ∈ h.ins o, s.get k = s'.get k) : evOp Γ n h o s = evOp Γ n h o s' := by
  have h1 : restr s (h.ins o) = restr s' (h.ins o) := by
    funext k
    unfold restr
    split
    · rename_i hc; exact hk k (by simpa using hc)
    · rfl
  have h2 : h.new.all (fun m => (s.get (okey m)).isNone) = h.new.all (fun m => (s'.get (okey m)).isNone) := by
    rw [Bool.eq_iff_iff, List.all_eq_true, List.all_eq_true]
    have : ∀ m ∈ h.new, s.get (okey m) = s'.get (okey m) := fun m hm => hk _ (by simp only [OH.ins, List.mem_append, List.mem_map]; exact .inl (.inl (.inr ⟨m, .inr hm, rfl⟩)))
    constructor
    · intro h m hm; rw [← this m hm]; exact h m hm
    · intro h m hm; rw [this m hm]; exact h m hm
  unfold evOp
  rw [h1, h2]

theorem evU_congr {i : Nat} {s s' : St} (hk : ∀ k ∈ rdOf ops hs i, s.get k = s'.get k) : evU Γ n ops hs i s = evU Γ n ops hs i s' := by
  unfold evU
  cases ho : ops[i]? with
  | none => rfl
  | some o =>
    have hins : ∀ k ∈ (hs.getD i {}).ins o, s.get k = s'.get k := fun k hkk => hk k (by simp only [rdOf, ho, List.mem_append]; exact .inr hkk)
    simp only [evOp_congr (Γ := Γ) (n := n) hins]
    cases hg : o.guard with
    | none => rfl
    | some p =>
      obtain ⟨j, want⟩ := p
      simp only
      cases hd : gslot ops j with
      | none => rfl
      | some d =>
        have := hk d (by simp only [rdOf, ho, hg, hd, List.mem_append]; exact .inl (by simp))
        simp only [this]

theorem evU_keys {i : Nat} {s u : St} (h : evU Γ n ops hs i s = some u) : ∀ k ∈ u.map (·.1), k ∈ wrOf ops hs i := by
  unfold evU at h
  cases ho : ops[i]? with
  | none => rw [ho] at h; cases h
  | some o =>
    rw [ho] at h
    simp only at h
    have go : (match evOp Γ n (hs.getD i {}) o s with
        | none => none
        | some (u, r) => r.run.bind fun v => if keysIn (u ++ v) ((hs.getD i {}).outs o) then some (u ++ v) else none) = some u → ∀ k ∈ u.map (·.1), k ∈ wrOf ops hs i := fun h k hk => by
      split at h
      · cases h
      · simp only [Option.bind_eq_some_iff] at h
        obtain ⟨v, hv, h⟩ := h
        split at h
        · rename_i hin
          cases h
          simp only [keysIn, List.all_eq_true] at hin
          obtain ⟨p, hp, rfl⟩ := List.mem_map.1 hk
          have := hin p hp
          simp only [wrOf, ho, List.mem_append]
          exact .inr (by simpa using this)
        · cases h
    split at h
    · exact go h
    · split at h
      · cases h
      · split at h
        · split at h
          · split at h
            · exact go h
            · split at h
              · cases h
                intro k hk
                simp only [wrOf, ho, List.mem_append]
                left
                cases hd : o.dst with
                | none => rw [hd] at hk; simp [Out1] at hk
                | some d => rw [hd] at hk; simpa [Out1] using hk
              · cases h
          · split at h
            · cases h
              intro k hk
              simp only [wrOf, ho, List.mem_append]
              left
              cases hd : o.dst with
              | none => rw [hd] at hk; simp [Out1] at hk
              | some d => rw [hd] at hk; simpa [Out1] using hk
            · cases h
          · cases h
        · cases h

theorem evStep_comm0 {p i : Nat} (hf : freeOf ops hs p i = true) {s s1 s2 : St} (h1 : evStep Γ n ops hs p s = some s1) (h2 : evStep Γ n ops hs i s1 = some s2) :
    ∃ t1, evStep Γ n ops hs i s = some t1 ∧ ∃ t2, evStep Γ n ops hs p t1 = some t2 ∧ ∀ k, t2.get k = s2.get k := by
  simp only [freeOf, Bool.and_eq_true] at hf
  have d1 := disj_spec hf.1.1
  have d2 := disj_spec hf.1.2
  have d3 := disj_spec hf.2
  simp only [evStep, Option.map_eq_some_iff] at h1 h2
  obtain ⟨up, hup, rfl⟩ := h1
  obtain ⟨ui, hui, rfl⟩ := h2
  have kp := evU_keys hup
  have e1 : evU Γ n ops hs i s = some ui := by
    rw [← hui]
    exact evU_congr (fun k hk => (upd_out up s k (fun hm => d1 k (kp k hm) hk)).symm)
  have ki := evU_keys e1
  have e2 : evU Γ n ops hs p (s.upd ui) = some up := by
    rw [← hup]
    exact evU_congr (fun k hk => upd_out ui s k (fun hm => d3 k (ki k hm) hk))
  refine ⟨s.upd ui, by simp only [evStep, e1, Option.map_some], (s.upd ui).upd up, by simp only [evStep, e2, Option.map_some], fun k => ?_⟩
  exact (upd_comm (fun k hk hk' => d2 k (kp k hk) (ki k hk')) s k).symm

/-- What kind of object. -/
def C.kd : C → C
  | .vec n t _ => .vec n t []
  | .rcd _ => .rcd .unit
  | c => c
theorem kd_cases {a b : Option C} (h : a.map C.kd = b.map C.kd) : a = b ∨ (∃ n t xs ys, a = some (.vec n t xs) ∧ b = some (.vec n t ys)) ∨ ∃ x y, a = some (.rcd x) ∧ b = some (.rcd y) := by
  cases a with
  | none => cases b with
    | none => exact .inl rfl
    | some d => simp at h
  | some c => cases b with
    | none => simp at h
    | some d =>
      simp only [Option.map_some, Option.some.injEq] at h
      cases c <;> cases d <;> simp only [C.kd] at h <;> try cases h
      all_goals first
        | exact .inl rfl
        | exact .inr (.inl ⟨_, _, _, _, rfl, rfl⟩)
        | exact .inr (.inr ⟨_, _, rfl, rfl⟩)

theorem liveC_look {g g' : Nat → Option C} (h : ∀ k, (g k).map C.kd = (g' k).map C.kd) (c : C) : liveC g c = liveC g' c := by
  cases c with
  | own o => rcases kd_cases (h (okey o)) with e | ⟨n, t, xs, ys, e1, e2⟩ | ⟨x, y, e1, e2⟩ <;> simp only [liveC, *]
  | brow o => rcases kd_cases (h (okey o)) with e | ⟨n, t, xs, ys, e1, e2⟩ | ⟨x, y, e1, e2⟩ <;> simp only [liveC, *]
  | ptr o _ => rcases kd_cases (h (okey o)) with e | ⟨n, t, xs, ys, e1, e2⟩ | ⟨x, y, e1, e2⟩ <;> simp only [liveC, C.isObj, *]
  | eptr o _ t _ _ => rcases kd_cases (h (okey o)) with e | ⟨n, t, xs, ys, e1, e2⟩ | ⟨x, y, e1, e2⟩ <;> simp only [liveC, *]
  | aptr o => rcases kd_cases (h (okey o)) with e | ⟨n, t, xs, ys, e1, e2⟩ | ⟨x, y, e1, e2⟩ <;> simp only [liveC, *]
  | _ => rfl

theorem opnd_look {g g' : Nat → Option C} (h : ∀ k, k < 100000 → g k = g' k) (x : Operand) : opnd Γ g x = opnd Γ g' x := by
  cases x with
  | tmp t =>
    simp only [opnd]
    split
    · rename_i ht; exact h t ht
    · rfl
  | _ => rfl

theorem fieldAddr_look {g g' : Nat → Option C} (h : ∀ k, (g k).map C.kd = (g' k).map C.kd) (T : TypeId) (c : C) (f : Nat) (dst : Option Nat) : fieldAddrR Γ T c f g dst = fieldAddrR Γ T c f g' dst := by
  unfold fieldAddrR
  generalize ((Γ.tab T).bind fun t => (t.fld f).map fun p => (t, p)) = m
  cases m with
  | none => rfl
  | some q =>
    cases c with
    | ptr o _ => rcases kd_cases (h (okey o)) with e | ⟨n, t, xs, ys, e1, e2⟩ | ⟨x, y, e1, e2⟩ <;> simp only [*]
    | eptr o _ t _ path =>
      cases h1 : t.at path <;> cases h2 : t.at (path ++ [f]) <;> rcases kd_cases (h (okey o)) with e | ⟨n, t, xs, ys, e1, e2⟩ | ⟨x, y, e1, e2⟩ <;> simp only [*]
    | aptr o _ _ t _ path =>
      cases h1 : t.at path <;> cases h2 : t.at (path ++ [f]) <;> rcases kd_cases (h (okey o)) with e | ⟨n, t, xs, ys, e1, e2⟩ | ⟨x, y, e1, e2⟩ <;> simp only [*]
    | _ => rfl
theorem bldAddr_look {g g' : Nat → Option C} (h : ∀ k, (g k).map C.kd = (g' k).map C.kd) (c : C) (f : Nat) (dst : Option Nat) : bldAddrR c f g dst = bldAddrR c f g' dst := by
  cases c with
  | ptr o _ => rcases kd_cases (h (okey o)) with e | ⟨n, t, xs, ys, e1, e2⟩ | ⟨x, y, e1, e2⟩ <;> simp only [bldAddrR, *]
  | _ => simp only [bldAddrR]

theorem evOp0_look {h : OH} {o : Oper} (ho : isLook o.op = true) {g g' : Nat → Option C} (h1 : ∀ k, k < 100000 → g k = g' k) (h2 : ∀ k, (g k).map C.kd = (g' k).map C.kd) : evOp0 Γ h o g = evOp0 Γ h o g' := by
  cases hop : o.op <;> rw [hop] at ho <;> simp only [isLook] at ho <;> try cases ho
  · simp only [evOp0, hop, opnd_look h1, liveC_look h2]
  · simp only [evOp0, hop, opnd_look h1, fieldAddr_look h2, bldAddr_look h2]

theorem pField_look {g g' : Nat → Option C} (h : ∀ k, (g k).map C.kd = (g' k).map C.kd) (T : TypeId) (c : C) (f : Nat) (dst : Option Nat) : pFieldR Γ T c f g dst = pFieldR Γ T c f g' dst := by
  unfold pFieldR
  generalize Γ.pst T = m
  cases m with
  | none => cases c <;> rfl
  | some k =>
    cases c with
    | ptr o _ => rcases kd_cases (h (okey o)) with e | ⟨n, t, xs, ys, e1, e2⟩ | ⟨x, y, e1, e2⟩ <;> simp only [*]
    | _ => rfl
theorem pstOp_look {h : OH} {o : Oper} (ho : isLook o.op = true) {g g' : Nat → Option C} (h1 : ∀ k, k < 100000 → g k = g' k) (h2 : ∀ k, (g k).map C.kd = (g' k).map C.kd) : pstOp Γ h o g = pstOp Γ h o g' := by
  cases hop : o.op <;> rw [hop] at ho <;> simp only [isLook] at ho <;> try cases ho
  · simp only [pstOp, hop]
  · simp only [pstOp, hop, opnd_look h1, pField_look h2]
theorem evOp1_look {h : OH} {o : Oper} (ho : isLook o.op = true) {g g' : Nat → Option C} (h1 : ∀ k, k < 100000 → g k = g' k) (h2 : ∀ k, (g k).map C.kd = (g' k).map C.kd) : evOp1 Γ h o g = evOp1 Γ h o g' := by
  unfold evOp1
  rw [evOp0_look ho h1 h2, pstOp_look ho h1 h2]
theorem evOp2_look {h : OH} {o : Oper} (ho : isLook o.op = true) {g g' : Nat → Option C} (h1 : ∀ k, k < 100000 → g k = g' k) (h2 : ∀ k, (g k).map C.kd = (g' k).map C.kd) : evOp2 Γ h o g = evOp2 Γ h o g' := by
  unfold evOp2
  rw [evOp1_look ho h1 h2]
  have : panOp Γ h o g = panOp Γ h o g' := by
    cases hop : o.op <;> rw [hop] at ho <;> simp only [isLook] at ho <;> try cases ho
    · simp only [panOp, hop]
    · simp only [panOp, hop]
  have h3 : rngOp Γ h o g = rngOp Γ h o g' := by
    cases hop : o.op <;> rw [hop] at ho <;> simp only [isLook] at ho <;> try cases ho
    · simp only [rngOp, hop]
    · simp only [rngOp, hop, opnd_look h1, bldAddr_look h2]
  have h4 : isAlloc o.op = false := by
    cases hop : o.op <;> rw [hop] at ho <;> simp only [isLook] at ho <;> first | (cases ho; done) | rfl
  rw [this, h3, h4]
theorem pStoreR_kd {T : TypeId} {p v : C} {g : Nat → Option C} {r : Res} (h : pStoreR Γ T p v g = some r) {u : St} (hu : r.run = some u) : ∀ q ∈ u, ∃ c, g q.1 = some c ∧ c.kd = q.2.kd := by
  unfold pStoreR at h
  split at h
  · split at h
    · rename_i hg
      split at h
      · simp only [Option.bind_eq_some_iff] at h
        obtain ⟨x', _, h⟩ := h
        split at h
        · cases h
          cases hu
          intro q hq
          simp only [List.mem_singleton] at hq
          subst hq
          exact ⟨_, hg, rfl⟩
        · cases h
      · cases h
    · cases h
  · cases h

theorem storeR_kd {T : TypeId} {p v : C} {g : Nat → Option C} {r : Res} (h : storeR Γ T p v g = some r) {u : St} (hu : r.run = some u) : ∀ q ∈ u, ∃ c, g q.1 = some c ∧ c.kd = q.2.kd := by
  unfold storeR at h
  split at h
  · split at h
    · rename_i hg
      split at h
      · simp only [Option.map_eq_some_iff] at h
        obtain ⟨xs, _, rfl⟩ := h
        cases hu
        intro q hq
        simp only [List.mem_singleton] at hq
        subst hq
        exact ⟨_, hg, rfl⟩
      · cases h
    · rename_i hg
      split at h
      · split at h
        · simp only [Option.bind_eq_some_iff] at h
          obtain ⟨x', _, h⟩ := h
          split at h
          · cases h; cases hu
            intro q hq
            simp only [List.mem_singleton] at hq
            subst hq
            exact ⟨_, hg, rfl⟩
          · cases h
        · split at h
          · split at h
            · simp only [Option.bind_eq_some_iff] at h
              obtain ⟨x', _, h⟩ := h
              split at h
              · cases h; cases hu
                intro q hq
                simp only [List.mem_singleton] at hq
                subst hq
                exact ⟨_, hg, rfl⟩
              · cases h
            · cases h
          · cases h
      · split at h
        · simp only [Option.bind_eq_some_iff] at h
          obtain ⟨x', _, h⟩ := h
          split at h
          · cases h; cases hu
            intro q hq
            simp only [List.mem_singleton] at hq
            subst hq
            exact ⟨_, hg, rfl⟩
          · cases h
        · cases h
    · cases h
  · split at h
    · rename_i hg _
      split at h
      · rename_i he
        subst he
        split at h
        · split at h
          · cases h; cases hu
            intro q hq
            simp only [List.mem_singleton] at hq
            subst hq
            exact ⟨_, hg, rfl⟩
          · cases h
        · cases h
      · cases h
    · cases h
  · split at h
    · rename_i hg _
      split at h
      · split at h
        · rename_i he
          subst he
          split at h
          · split at h
            · simp only [Option.bind_eq_some_iff] at h
              obtain ⟨x', _, h⟩ := h
              split at h
              · cases h; cases hu
                intro q hq
                simp only [List.mem_singleton] at hq
                subst hq
                exact ⟨_, hg, rfl⟩
              · cases h
            · cases h
          · cases h
        · cases h
      · cases h
    · cases h
  · cases h

theorem kd_upd {s u : St} (h : ∀ q ∈ u, ∃ c, s.get q.1 = some c ∧ c.kd = q.2.kd) (k : Nat) : ((s.upd u).get k).map C.kd = (s.get k).map C.kd := by
  induction u generalizing s with
  | nil => rfl
  | cons p r ih =>
    obtain ⟨j, d⟩ := p
    have h0 := h (j, d) (List.mem_cons_self ..)
    simp only [St.upd]
    rw [ih (s := s.set j d) (fun q hq => ?_)]
    · rw [St.get_set]
      split
      · rename_i e
        subst e
        obtain ⟨c, h1, h2⟩ := h0
        rw [h1]
        simp only [Option.map_some, h2]
      · rfl
    · obtain ⟨c, h1, h2⟩ := h q (List.mem_cons_of_mem _ hq)
      rw [St.get_set]
      split
      · rename_i e
        obtain ⟨c0, h3, h4⟩ := h0
        simp only at h3 h4
        refine ⟨d, rfl, ?_⟩
        rw [e, h1] at h3
        cases h3
        rw [← h4, h2]
      · exact ⟨c, h1, h2⟩

theorem zstoreR_new {h : OH} {T : TypeId} {p v : C} {g : Nat → Option C} {r : Res} (hr : zstoreR h T p v g = some r) : h.new ≠ [] := by
  unfold zstoreR at hr
  split at hr
  · rename_i hn
    rw [hn]
    exact List.cons_ne_nil _ _
  · cases hr

theorem evStep_look {p i : Nat} (hf : lookOf ops hs p i = true) {s s1 s2 : St} (h1 : evStep Γ n ops hs p s = some s1) (h2 : evStep Γ n ops hs i s1 = some s2) :
    ∃ t1, evStep Γ n ops hs i s = some t1 ∧ ∃ t2, evStep Γ n ops hs p t1 = some t2 ∧ ∀ k, t2.get k = s2.get k := by
  simp only [lookOf] at hf
  split at hf
  · rename_i q o hq ho
    simp only [Bool.and_eq_true] at hf
    obtain ⟨⟨⟨⟨⟨⟨⟨⟨⟨⟨⟨f1, f2⟩, f3⟩, f4⟩, f5⟩, f6⟩, f7⟩, f8⟩, f12⟩, f9⟩, f10⟩, f11⟩ := hf
    have d2 := disj_spec f10
    have d3 := disj_spec f11
    simp only [evStep, Option.map_eq_some_iff] at h1 h2
    obtain ⟨up, hup, rfl⟩ := h1
    obtain ⟨ui, hui, rfl⟩ := h2
    have kp := evU_keys hup
    have hgq : q.guard = none := by simpa using f2
    have hgo : o.guard = none := by simpa using f6
    have hfq : (hs.getD p {}).fz = [] := by simpa using f3
    have hfo : (hs.getD i {}).fz = [] := by simpa using f7
    have hno : (hs.getD i {}).new = [] := by simpa using f8
    have hnp : (hs.getD p {}).new = [] := by simpa using f12
    -- the store changes no object's kind
    have hkd : ∀ k, ((s.upd up).get k).map C.kd = (s.get k).map C.kd := by
      unfold evU at hup
      rw [hq] at hup
      simp only [hgq] at hup
      split at hup
      · cases hup
      · rename_i u r hev
        simp only [Option.bind_eq_some_iff] at hup
        obtain ⟨v, hv, hup⟩ := hup
        split at hup
        · cases hup
          unfold evOp at hev
          split at hev
          · simp only at hev
            · rw [hfq] at hev
              simp only [frzK, Option.map_eq_some_iff, Prod.mk.injEq] at hev
              obtain ⟨r', hr', e1, rfl⟩ := hev
              subst e1
              have hpatch : patch (restr s ((hs.getD p {}).ins q)) [] = restr s ((hs.getD p {}).ins q) := by funext k; rfl
              rw [hpatch] at hr'
              cases hop : q.op <;> rw [hop] at f1 <;> simp only [isStore] at f1 <;> try cases f1
              have kdu : (∀ z ∈ v, ∃ c, (restr s ((hs.getD p {}).ins q)) z.1 = some c ∧ c.kd = z.2.kd) → ∀ k, ((s.upd v).get k).map C.kd = (s.get k).map C.kd := fun this => kd_upd (fun x hx => by
                  obtain ⟨c, hc1, hc2⟩ := this x hx
                  refine ⟨c, ?_, hc2⟩
                  unfold restr at hc1
                  split at hc1
                  · exact hc1
                  · cases hc1)
              unfold evOp2 at hr'
              split at hr'
              · simp only [panOp, hop] at hr'
                cases hr'
              split at hr'
              · rename_i hz
                rw [hop] at hz
                cases hz.2
              split at hr'
              rotate_left
              · simp only [rngOp, hop] at hr'
                cases hr'
              rename_i r' hr'1
              cases hr'
              have hr' := hr'1
              unfold evOp1 at hr'
              split at hr'
              · rename_i r0 hr0
                cases hr'
                simp only [evOp0, hop] at hr0
                split at hr0
                · split at hr0
                  · exact absurd hnp (zstoreR_new hr0)
                  have := storeR_kd hr0 hv
                  simpa using kdu this
                · cases hr0
              · simp only [pstOp, hop] at hr'
                split at hr'
                · have := pStoreR_kd hr' hv
                  simpa using kdu this
                · cases hr'
          · cases hev
        · cases hup
    have hslot : ∀ k, k < 100000 → k ∈ rdOf ops hs i → (s.upd up).get k = s.get k := fun k hk hr => by
      refine upd_out up s k (fun hm => ?_)
      have := List.all_eq_true.1 f9 k (kp k hm)
      simp only [Bool.or_eq_true, decide_eq_true_eq, Bool.not_eq_true'] at this
      rcases this with h | h
      · omega
      · simp [hr] at h
    have e1 : evU Γ n ops hs i s = some ui := by
      rw [← hui]
      have hins : ∀ k, k ∈ (hs.getD i {}).ins o → k ∈ rdOf ops hs i := fun k hk => by simp only [rdOf, ho, List.mem_append]; exact .inr hk
      have hgg : evOp2 Γ (hs.getD i {}) o (restr s ((hs.getD i {}).ins o)) = evOp2 Γ (hs.getD i {}) o (restr (s.upd up) ((hs.getD i {}).ins o)) := by
        refine evOp2_look f5 (fun k hk => ?_) (fun k => ?_)
        · unfold restr
          split
          · rename_i hc; exact (hslot k hk (hins k (by simpa using hc))).symm
          · rfl
        · unfold restr
          split
          · exact (hkd k).symm
          · rfl
      have hp1 : ∀ s' : St, patch (restr s' ((hs.getD i {}).ins o)) [] = restr s' ((hs.getD i {}).ins o) := fun s' => by funext k; rfl
      unfold evU evOp
      simp only [ho, hgo, hno, hfo, frzK, List.all_nil, hp1, hgg]
    have ki := evU_keys e1
    have e2 : evU Γ n ops hs p (s.upd ui) = some up := by
      rw [← hup]
      exact evU_congr (fun k hk => upd_out ui s k (fun hm => d3 k (ki k hm) hk))
    refine ⟨s.upd ui, by simp only [evStep, e1, Option.map_some], (s.upd ui).upd up, by simp only [evStep, e2, Option.map_some], fun k => ?_⟩
    exact (upd_comm (fun k hk hk' => d2 k (kp k hk) (ki k hk')) s k).symm
  · cases hf

theorem evStep_comm {p i : Nat} (hf : (freeOf ops hs p i || lookOf ops hs p i) = true) {s s1 s2 : St} (h1 : evStep Γ n ops hs p s = some s1) (h2 : evStep Γ n ops hs i s1 = some s2) :
    ∃ t1, evStep Γ n ops hs i s = some t1 ∧ ∃ t2, evStep Γ n ops hs p t1 = some t2 ∧ ∀ k, t2.get k = s2.get k := by
  rw [Bool.or_eq_true] at hf
  exact hf.elim (fun h => evStep_comm0 h h1 h2) (fun h => evStep_look h h1 h2)

theorem evSteps_congr : ∀ (l : List Nat) {s t s' : St}, (∀ k, s.get k = t.get k) → evSteps Γ n ops hs l s = some s' → ∃ t', evSteps Γ n ops hs l t = some t' ∧ ∀ k, s'.get k = t'.get k
  | [], s, t, s', h, h1 => by
    simp only [evSteps, Option.some.injEq] at h1
    subst h1
    exact ⟨t, rfl, h⟩
  | i :: r, s, t, s', h, h1 => by
    simp only [evSteps, evStep, Option.bind_eq_some_iff, Option.map_eq_some_iff] at h1
    obtain ⟨s1, ⟨u, hu, rfl⟩, h2⟩ := h1
    obtain ⟨t', h3, h4⟩ := evSteps_congr r (t := t.upd u) (fun k => upd_congr u h k) h2
    refine ⟨t', ?_, h4⟩
    have : evU Γ n ops hs i t = some u := by rw [← hu]; exact evU_congr (fun k _ => (h k).symm)
    simp only [evSteps, evStep, this, Option.map_some, Option.bind_some, h3]

theorem bubble {i : Nat} {post : List Nat} : ∀ (pre : List Nat) {s s' : St}, (∀ p ∈ pre, (freeOf ops hs p i || lookOf ops hs p i) = true) → evSteps Γ n ops hs (pre ++ i :: post) s = some s' →
    ∃ s1, evStep Γ n ops hs i s = some s1 ∧ ∃ s2, evSteps Γ n ops hs (pre ++ post) s1 = some s2 ∧ ∀ k, s2.get k = s'.get k
  | [], s, s', _, h => by
    simp only [List.nil_append, evSteps, Option.bind_eq_some_iff] at h
    obtain ⟨s1, h1, h2⟩ := h
    exact ⟨s1, h1, s', h2, fun _ => rfl⟩
  | p :: pre, s, s', hf, h => by
    simp only [List.cons_append, evSteps, Option.bind_eq_some_iff] at h
    obtain ⟨sp, h1, h2⟩ := h
    obtain ⟨t, h3, t2, h4, h5⟩ := bubble pre (fun q hq => hf q (List.mem_cons_of_mem _ hq)) h2
    obtain ⟨s1, h6, t', h7, h8⟩ := evStep_comm (hf p (List.mem_cons_self ..)) h1 h3
    obtain ⟨t2', h9, h10⟩ := evSteps_congr _ (fun k => (h8 k).symm) h4
    exact ⟨s1, h6, t2', by simp only [List.cons_append, evSteps, h7, Option.bind_some, h9], fun k => by rw [← h10, h5]⟩

/-! ### What stands before what -/
theorem before_spec (ops : Array Oper) : ∀ (i p : Nat), ((Region.before ops).getD i 0).testBit p = true → ∃ o, ops[i]? = some o ∧ ∃ e ∈ o.after, Region.binds .any e = true ∧ (e.on = p ∨ ((Region.before ops).getD e.on 0).testBit p = true) := by
  have inner : ∀ (es : List Edge) (acc : Array Nat) (s p : Nat), (es.foldl (fun s e => if Region.binds .any e then s ||| 2 ^ e.on ||| acc.getD e.on 0 else s) s).testBit p = true →
      s.testBit p = true ∨ ∃ e ∈ es, Region.binds .any e = true ∧ (e.on = p ∨ (acc.getD e.on 0).testBit p = true) := by
    intro es
    induction es with
    | nil => intro acc s p h; exact .inl h
    | cons e r ih =>
      intro acc s p h
      rw [List.foldl_cons] at h
      rcases ih acc _ p h with h | ⟨e', he', h⟩
      · split at h
        · rename_i hb
          simp only [Nat.testBit_or, Bool.or_eq_true] at h
          rcases h with (h | h) | h
          · exact .inl h
          · rw [Nat.testBit_two_pow] at h
            exact .inr ⟨e, List.mem_cons_self .., hb, .inl (by simpa using h)⟩
          · exact .inr ⟨e, List.mem_cons_self .., hb, .inr h⟩
        · exact .inl h
      · exact .inr ⟨e', List.mem_cons_of_mem _ he', h⟩
  have outer : ∀ (l : List Oper) (acc : Array Nat), (∀ i p, (acc.getD i 0).testBit p = true → ∃ o, ops[i]? = some o ∧ ∃ e ∈ o.after, Region.binds .any e = true ∧ (e.on = p ∨ (acc.getD e.on 0).testBit p = true)) →
      (∀ j, l[j]? = ops[acc.size + j]?) →
      ∀ i p, ((l.foldl (fun acc o => acc.push (o.after.foldl (fun s e => if Region.binds .any e then s ||| 2 ^ e.on ||| acc.getD e.on 0 else s) 0)) acc).getD i 0).testBit p = true →
        ∃ o, ops[i]? = some o ∧ ∃ e ∈ o.after, Region.binds .any e = true ∧ (e.on = p ∨ ((l.foldl (fun acc o => acc.push (o.after.foldl (fun s e => if Region.binds .any e then s ||| 2 ^ e.on ||| acc.getD e.on 0 else s) 0)) acc).getD e.on 0).testBit p = true) := by
    intro l
    induction l with
    | nil => intro acc h _ i p hp; exact h i p hp
    | cons o r ih =>
      intro acc h hl i p hp
      rw [List.foldl_cons] at hp ⊢
      generalize hv : o.after.foldl (fun s e => if Region.binds .any e then s ||| 2 ^ e.on ||| acc.getD e.on 0 else s) 0 = v at hp ⊢
      have keep : ∀ j q, (acc.getD j 0).testBit q = true → ((acc.push v).getD j 0).testBit q = true := fun j q hq => by
        have hj : j < acc.size := by
          rcases Nat.lt_or_ge j acc.size with h | h
          · exact h
          · simp [Array.getD_eq_getD_getElem?, Array.getElem?_eq_none h] at hq
        rw [Array.getD_eq_getD_getElem?, Array.getElem?_push, if_neg (by omega), ← Array.getD_eq_getD_getElem?]
        exact hq
      refine ih (acc.push v) ?_ ?_ i p hp
      · intro j q hq
        by_cases hj : j = acc.size
        · subst hj
          rw [Array.getD_eq_getD_getElem?, Array.getElem?_push, if_pos rfl, Option.getD_some, ← hv, ← Array.foldl_toList] at hq
          rcases inner _ _ _ _ hq with h0 | ⟨e, he, hb, h0⟩
          · simp at h0
          · have ho := hl 0
            simp only [List.getElem?_cons_zero, Nat.add_zero] at ho
            exact ⟨o, ho.symm, e, by simpa using he, hb, h0.imp id (keep _ _)⟩
        · have hq' : (acc.getD j 0).testBit q = true := by
            rw [Array.getD_eq_getD_getElem?, Array.getElem?_push, if_neg hj, ← Array.getD_eq_getD_getElem?] at hq
            exact hq
          obtain ⟨o', ho', e, he, hb, h0⟩ := h j q hq'
          exact ⟨o', ho', e, he, hb, h0.imp id (keep _ _)⟩
      · intro j
        have := hl (j + 1)
        simp only [List.getElem?_cons_succ] at this
        rw [this, Array.size_push]
        congr 1
        omega
  intro i p h
  have := outer ops.toList #[] (fun i p h => by simp at h) (fun j => by simp) i p (by
    unfold Region.before at h
    rw [← Array.foldl_toList] at h
    exact h)
  obtain ⟨o, ho, e, he, hb, h0⟩ := this
  refine ⟨o, ho, e, he, hb, h0.imp id (fun h => ?_)⟩
  unfold Region.before
  rw [← Array.foldl_toList]
  exact h


theorem anc_listed {listed : Array Bool} (hback : ∀ i o, ops[i]? = some o → ∀ e ∈ o.after, Region.binds .any e = true → e.on < i)
    (hcl : ∀ j o, ops[j]? = some o → listed.getD j false = true → ∀ e ∈ o.after, Region.binds .any e = true → listed.getD e.on false = true) :
    ∀ (i p : Nat) (o : Oper), ops[i]? = some o → (∀ e ∈ o.after, Region.binds .any e = true → listed.getD e.on false = true) → ((Region.before ops).getD i 0).testBit p = true → listed.getD p false = true := by
  intro i
  induction i using Nat.strongRecOn with
  | _ i ih =>
    intro p o ho hall hp
    obtain ⟨o', ho', e, he, hb, h⟩ := before_spec ops i p hp
    rw [ho] at ho'
    cases ho'
    have hl := hall e he hb
    rcases h with rfl | h
    · exact hl
    · obtain ⟨o2, ho2, _⟩ := before_spec ops e.on p h
      exact ih e.on (hback i o ho e he hb) p o2 ho2 (hcl e.on o2 ho2 hl) h

/-- What drawsOK says. -/
theorem draws_back (hok : drawsOK ops hs = true) : ∀ i o, ops[i]? = some o → ∀ e ∈ o.after, Region.binds .any e = true → e.on < i := fun i o ho e he hb => by
  simp only [drawsOK, Bool.and_eq_true, List.all_eq_true, List.mem_range] at hok
  obtain ⟨hi, _⟩ := Array.getElem?_eq_some_iff.1 ho
  have := (hok.1.1.1 i hi).2
  rw [ho] at this
  simp only [List.all_eq_true] at this
  have := this e (by simpa using he)
  simpa [hb] using this
theorem draws_mem (hok : drawsOK ops hs = true) : ∀ i, i ∈ ordOf ops hs ↔ i < ops.size := fun i => by
  simp only [drawsOK, Bool.and_eq_true, List.all_eq_true, List.mem_range] at hok
  exact ⟨fun h => by simpa using hok.1.1.2 i h, fun h => by simpa using (hok.1.1.1 i h).1⟩
theorem draws_len (hok : drawsOK ops hs = true) : (ordOf ops hs).length = ops.size := by
  simp only [drawsOK, Bool.and_eq_true, decide_eq_true_eq] at hok
  exact hok.1.2
/-- One operation ahead of another. -/
def Rel (ops : Array Oper) (hs : List OH) (p i : Nat) : Prop :=
  p ≠ i ∧ (∀ o, ops[p]? = some o → ∀ e ∈ o.after, Region.binds .any e = true → e.on ≠ i) ∧
  (((Region.before ops).getD i 0).testBit p = true ∨ ((freeOf ops hs p i = true ∨ lookOf ops hs p i = true ∧ (hs.getD i {}).pan = false) ∧ (hs.getD p {}).pan = false))
theorem rel_of {p i : Nat} (h : relOK ops hs (Region.before ops) p i = true) : Rel ops hs p i := by
  simp only [relOK, Bool.and_eq_true, decide_eq_true_eq] at h
  refine ⟨h.1.1, fun o ho e he hb => ?_, by simpa using h.2⟩
  have := h.1.2
  rw [ho] at this
  simp only [List.all_eq_true] at this
  have := this e (by simpa using he)
  simpa [hb] using this
theorem pairs_of {R : Nat → Nat → Bool} : ∀ {l : List Nat}, pairsOK R l = true → l.Pairwise (fun p i => R p i = true)
  | [], _ => .nil
  | p :: r, h => by
    simp only [pairsOK, Bool.and_eq_true, List.all_eq_true] at h
    exact List.pairwise_cons.2 ⟨h.1, pairs_of h.2⟩
theorem draws_rel (hok : drawsOK ops hs = true) : (ordOf ops hs).Pairwise (Rel ops hs) := by
  simp only [drawsOK, Bool.and_eq_true] at hok
  exact (pairs_of hok.2).imp (fun h => rel_of h)
theorem evSteps_any (hΓ : CtxOK Γ P) (hok : drawsOK ops hs = true) {Q : Exit → Act → World → Prop} : ∀ (k : Nat) (l : List Nat) (listed : Array Bool) {F : Froz} {κ : Conc} {s : St} {a : Act} {w : World} {s' : St},
    l.length = k → listed.size = ops.size → l.Pairwise (Rel ops hs) → (∀ j, j ∈ l ↔ j < ops.size ∧ listed.getD j true = false) →
    (∀ j o, ops[j]? = some o → listed.getD j false = true → ∀ e ∈ o.after, Region.binds .any e = true → listed.getD e.on false = true) →
    evSteps Γ n ops hs l s = some s' → Inv n f F κ s a w → GlobOK Γ F →
    (∀ F' κ' s'' a' w', (∀ k, s''.get k = s'.get k) → F.le F' → Inv n f F' κ' s'' a' w' → (∀ t, (∀ (i : Nat) o, ops[i]? = some o → o.dst ≠ some t) → a'.tmps.getD t undef = a.tmps.getD t undef) → Q .normal a' w') →
    wpAny P .any ops Q k listed a w := by
  have hback := draws_back hok
  have hfree : ∀ i p, Rel ops hs p i → ((Region.before ops).getD i 0).testBit p = true ∨ (freeOf ops hs p i || lookOf ops hs p i) = true := fun i p h =>
    h.2.2.imp id (fun h => by rw [Bool.or_eq_true]; exact h.1.imp id (fun h => h.1))
  have gd : ∀ (listed : Array Bool) (j : Nat), j < listed.size → listed.getD j true = listed.getD j false := fun listed j hj => by
    simp [Array.getD_eq_getD_getElem?, Array.getElem?_eq_getElem hj]
  intro k
  induction k with
  | zero =>
    intro l listed F κ s a w s' hl hsz hsort hmem hcl hst hI hG hQ
    have : l = [] := List.eq_nil_of_length_eq_zero hl
    subst this
    simp only [evSteps, Option.some.injEq] at hst
    subst hst
    refine ⟨?_, hQ F κ s a w (fun _ => rfl) (Froz.le_refl F) hI (fun _ _ => rfl)⟩
    cases hr : Region.ready .any ops listed with
    | nil => rfl
    | cons i r =>
      have hi : i ∈ Region.ready .any ops listed := by rw [hr]; exact List.mem_cons_self ..
      obtain ⟨h1, o, ho, _⟩ := mem_ready.1 hi
      obtain ⟨hi', _⟩ := Array.getElem?_eq_some_iff.1 ho
      have := (hmem i).2 ⟨hi', h1⟩
      cases this
  | succ k ih =>
    intro l listed F κ s a w s' hl hsz hsort hmem hcl hst hI hG hQ
    refine ⟨fun hr => ?_, fun i hi => ?_⟩
    · cases l with
      | nil => simp at hl
      | cons i0 r =>
        have h0 := (hmem i0).1 (List.mem_cons_self ..)
        have hready : i0 ∈ Region.ready .any ops listed := by
          refine mem_ready.2 ⟨h0.2, ops[i0], Array.getElem?_eq_getElem h0.1, fun e he hb => ?_⟩
          have hlt := hback i0 _ (Array.getElem?_eq_getElem h0.1) e he hb
          cases hc : listed.getD e.on false with
          | true => rfl
          | false =>
            have hlt' : e.on < listed.size := by omega
            have : e.on ∈ i0 :: r := (hmem e.on).2 ⟨by omega, by rw [gd _ _ hlt', hc]⟩
            rcases List.mem_cons.1 this with h | h
            · omega
            · exact absurd rfl (((List.pairwise_cons.1 hsort).1 _ h).2.1 _ (Array.getElem?_eq_getElem h0.1) e he hb)
        rw [hr] at hready
        cases hready
    · obtain ⟨h1, o, ho, hall⟩ := mem_ready.1 hi
      obtain ⟨hisz, _⟩ := Array.getElem?_eq_some_iff.1 ho
      have hil := (hmem i).2 ⟨hisz, h1⟩
      obtain ⟨pre, post, rfl⟩ := List.append_of_mem hil
      have hpre : ∀ p ∈ pre, (freeOf ops hs p i || lookOf ops hs p i) = true := fun p hp => by
        have hlt : Rel ops hs p i := (List.pairwise_append.1 hsort).2.2 p hp i (List.mem_cons_self ..)
        have hpl := (hmem p).1 (List.mem_append_left _ hp)
        refine (hfree i p hlt).resolve_left (fun hb => ?_)
        have := anc_listed hback hcl i p o ho hall hb
        rw [gd _ _ (by omega)] at hpl
        rw [this] at hpl
        cases hpl.2
      obtain ⟨s1, hs1, s2, hs2, heq⟩ := bubble pre hpre hst
      refine evStep_sound hΓ hI hG hs1 (fun F' κ' a' w' hF hI' hfr => ?_)
      have hset : ∀ j, (listed.setIfInBounds i true).getD j true = if j = i then true else listed.getD j true := fun j => by
        by_cases e : j = i
        · subst e; simp [Array.getD_eq_getD_getElem?, hsz, hisz]
        · simp [Array.getD_eq_getD_getElem?, Array.getElem?_setIfInBounds_ne (Ne.symm e), e]
      have hsetf : ∀ j, (listed.setIfInBounds i true).getD j false = if j = i then true else listed.getD j false := fun j => by
        by_cases e : j = i
        · subst e; simp [Array.getD_eq_getD_getElem?, hsz, hisz]
        · simp [Array.getD_eq_getD_getElem?, Array.getElem?_setIfInBounds_ne (Ne.symm e), e]
      have hsub : (pre ++ post).Sublist (pre ++ i :: post) := List.Sublist.append (List.Sublist.refl _) (List.sublist_cons_self ..)
      have hnodup : ∀ j ∈ pre ++ post, j ≠ i := fun j hj => by
        rcases List.mem_append.1 hj with h | h
        · exact ((List.pairwise_append.1 hsort).2.2 j h i (List.mem_cons_self ..)).1
        · exact ((List.pairwise_cons.1 (List.pairwise_append.1 hsort).2.1).1 j h).1.symm
      refine ih (pre ++ post) (listed.setIfInBounds i true) (by simp at hl ⊢; omega) (by simpa using hsz) (hsort.sublist hsub) (fun j => ?_) (fun j oj hoj hj e he hb => ?_) hs2 hI' (hG.mono hF)
        (fun F2 κ2 s'' a2 w2 hss hF2 hI2 hfr2 => hQ F2 κ2 s'' a2 w2 (fun k => by rw [hss, heq]) (Froz.le_trans hF hF2) hI2 (fun t ht => by rw [hfr2 t ht]; exact hfr t (by rw [ho]; exact ht i o ho)))
      · rw [hset]
        constructor
        · intro hj
          have hne := hnodup j hj
          rw [if_neg hne]
          exact (hmem j).1 (hsub.subset hj)
        · rintro ⟨h2, h3⟩
          split at h3
          · cases h3
          · rename_i hne
            have := (hmem j).2 ⟨h2, h3⟩
            rcases List.mem_append.1 this with h | h
            · exact List.mem_append_left _ h
            · rcases List.mem_cons.1 h with h | h
              · exact absurd h hne
              · exact List.mem_append_right _ h
      · rw [hsetf]
        rw [hsetf] at hj
        split
        · rfl
        · split at hj
          · rename_i e1; subst e1
            rw [ho] at hoj; cases hoj
            exact hall e he hb
          · exact hcl j oj hoj hj e he hb

theorem evP_congr {i : Nat} {s s' : St} (hk : ∀ k ∈ rdOf ops hs i, s.get k = s'.get k) : evP Γ n ops hs i s = evP Γ n ops hs i s' := by
  unfold evP
  cases ho : ops[i]? with
  | none => rfl
  | some o =>
    have hins : ∀ k ∈ (hs.getD i {}).ins o, s.get k = s'.get k := fun k hkk => hk k (by simp only [rdOf, ho, List.mem_append]; exact .inr hkk)
    simp only [evOp_congr (Γ := Γ) (n := n) hins]
    cases hg : o.guard with
    | none => rfl
    | some p =>
      obtain ⟨j, want⟩ := p
      simp only
      cases hd : gslot ops j with
      | none => rfl
      | some d =>
        have := hk d (by simp only [rdOf, ho, hg, hd, List.mem_append]; exact .inl (by simp))
        simp only [this]
theorem evP_pan {i T : Nat} {s u : St} {t : Ty} {p : t.den} (h : evP Γ n ops hs i s = some (T, u, ⟨t, p⟩)) : (hs.getD i {}).pan = true ∧ ∀ k ∈ u.map (·.1), k ∈ wrOf ops hs i := by
  unfold evP at h
  cases ho : ops[i]? with
  | none => rw [ho] at h; cases h
  | some o =>
    rw [ho] at h
    simp only at h
    have go : (match evOp Γ n (hs.getD i {}) o s with
        | none => none
        | some (u, r) => r.fall.bind fun v => if keysIn (u ++ v.2.1) ((hs.getD i {}).outs o) then some (v.1, u ++ v.2.1, v.2.2) else none) = some (T, u, (⟨t, p⟩ : (t : Ty) × t.den)) → (hs.getD i {}).pan = true ∧ ∀ k ∈ u.map (·.1), k ∈ wrOf ops hs i := fun h => by
      split at h
      · cases h
      · rename_i u1 r hev
        simp only [Option.bind_eq_some_iff] at h
        obtain ⟨⟨T', v', t', p'⟩, hv, h⟩ := h
        split at h
        · rename_i hin
          cases h
          refine ⟨?_, fun k hk => ?_⟩
          · unfold evOp at hev
            split at hev
            · simp only at hev
              · split at hev
                · cases hev
                · simp only [Option.map_eq_some_iff, Prod.mk.injEq] at hev
                  obtain ⟨r', hr, rfl, rfl⟩ := hev
                  unfold evOp2 at hr
                  split at hr
                  · rename_i hp; exact hp
                  split at hr
                  · unfold zallocOp at hr
                    split at hr
                    · simp only [Option.map_eq_some_iff] at hr
                      obtain ⟨r', _, rfl⟩ := hr
                      cases hv
                    · cases hr
                  · split at hr
                    · cases hr; cases hv
                    · rw [rngOp_fall hr] at hv; cases hv
            · cases hev
          · simp only [keysIn, List.all_eq_true] at hin
            obtain ⟨q, hq, rfl⟩ := List.mem_map.1 hk
            have := hin q hq
            simp only [wrOf, ho, List.mem_append]
            exact .inr (by simpa using this)
        · cases h
    split at h
    · exact go h
    · split at h
      · cases h
      · split at h
        · split at h
          · split at h
            · exact go h
            · cases h
          · cases h
        · cases h

theorem regW_mem {i k : Nat} (hi : i < ops.size) (h : k ∈ wrOf ops hs i) : k ∈ regW ops hs := by
  unfold regW
  exact List.mem_flatMap.2 ⟨i, List.mem_range.2 hi, h⟩

/-- Operations ahead of a panic, in whatever order. -/
theorem evSteps_anyP (hΓ : CtxOK Γ P) (hok : drawsOK ops hs = true) {Q : Exit → Act → World → Prop} {i0 T : Nat} {u : St} {t : Ty} {p : t.den} {post : List Nat} : ∀ (k : Nat) (pre : List Nat) (listed : Array Bool) {F : Froz} {κ : Conc} {s : St} {a : Act} {w : World} {s1 : St},
    (pre ++ i0 :: post).length = k → listed.size = ops.size → (pre ++ i0 :: post).Pairwise (Rel ops hs) → (∀ j, j ∈ pre ++ i0 :: post ↔ j < ops.size ∧ listed.getD j true = false) →
    (∀ j o, ops[j]? = some o → listed.getD j false = true → ∀ e ∈ o.after, Region.binds .any e = true → listed.getD e.on false = true) →
    evSteps Γ n ops hs pre s = some s1 → evP Γ n ops hs i0 s1 = some (T, u, ⟨t, p⟩) → Inv n f F κ s a w → GlobOK Γ F →
    (∀ F' κ' s2 v a' w', F.le F' → (∀ k, k ∉ regW ops hs → s2.get k = s.get k) → Inv n f F' κ' s2 a' w' → RepC F' κ' s2 (.val t p) v → (∀ t, (∀ (i : Nat) o, ops[i]? = some o → o.dst ≠ some t) → a'.tmps.getD t undef = a.tmps.getD t undef) → Q (.panic [{ v := .iface T v, recovered := false }]) a' w') →
    wpAny P .any ops Q k listed a w := by
  have hback := draws_back hok
  have gd : ∀ (listed : Array Bool) (j : Nat), j < listed.size → listed.getD j true = listed.getD j false := fun listed j hj => by
    simp [Array.getD_eq_getD_getElem?, Array.getElem?_eq_getElem hj]
  intro k
  induction k with
  | zero => intro pre listed F κ s a w s1 hl; simp at hl
  | succ k ih =>
    intro pre listed F κ s a w s1 hl hsz hsort hmem hcl hst hp hI hG hQ
    have hi0 := (hmem i0).1 (by simp)
    refine ⟨fun hr => ?_, fun i hi => ?_⟩
    · obtain ⟨j0, r, hjr⟩ : ∃ j0 r, pre ++ i0 :: post = j0 :: r := by
        cases pre with
        | nil => exact ⟨_, _, rfl⟩
        | cons a b => exact ⟨_, _, rfl⟩
      rw [hjr] at hmem hsort
      have h0 := (hmem j0).1 (List.mem_cons_self ..)
      have hready : j0 ∈ Region.ready .any ops listed := by
        refine mem_ready.2 ⟨h0.2, ops[j0], Array.getElem?_eq_getElem h0.1, fun e he hb => ?_⟩
        have hlt := hback j0 _ (Array.getElem?_eq_getElem h0.1) e he hb
        cases hc : listed.getD e.on false with
        | true => rfl
        | false =>
          have hlt' : e.on < listed.size := by omega
          have : e.on ∈ j0 :: r := (hmem e.on).2 ⟨by omega, by rw [gd _ _ hlt', hc]⟩
          rcases List.mem_cons.1 this with h | h
          · omega
          · exact absurd rfl (((List.pairwise_cons.1 hsort).1 _ h).2.1 _ (Array.getElem?_eq_getElem h0.1) e he hb)
      rw [hr] at hready
      cases hready
    · obtain ⟨h1, o, ho, hall⟩ := mem_ready.1 hi
      obtain ⟨hisz, _⟩ := Array.getElem?_eq_some_iff.1 ho
      have hil := (hmem i).2 ⟨hisz, h1⟩
      have noanc : ∀ q, q ∈ pre ++ i0 :: post → ¬ ((Region.before ops).getD i 0).testBit q = true := fun q hq hb => by
        have hql := (hmem q).1 hq
        have := anc_listed hback hcl i q o ho hall hb
        rw [gd _ _ (by omega)] at hql
        rw [this] at hql
        cases hql.2
      rcases List.mem_append.1 hil with hpre | hpost
      · -- one ahead of the panic
        obtain ⟨p1, p2, rfl⟩ := List.append_of_mem hpre
        have hf : ∀ q ∈ p1, (freeOf ops hs q i || lookOf ops hs q i) = true := fun q hq => by
          have hlt : Rel ops hs q i := (List.pairwise_append.1 (List.pairwise_append.1 hsort).1).2.2 q hq i (List.mem_cons_self ..)
          rcases hlt.2.2 with h | h
          · exact absurd h (noanc q (by simp [hq]))
          · rw [Bool.or_eq_true]; exact h.1.imp id (fun h => h.1)
        obtain ⟨t1, hs1, s2, hs2, heq⟩ := bubble p1 hf hst
        have hp2 : evP Γ n ops hs i0 s2 = some (T, u, ⟨t, p⟩) := by rw [← hp]; exact evP_congr (fun k _ => heq k)
        obtain ⟨ui, hui, rfl⟩ : ∃ ui, evU Γ n ops hs i s = some ui ∧ s.upd ui = t1 := by simpa only [evStep, Option.map_eq_some_iff] using hs1
        have hki := evU_keys hui
        refine evStep_sound hΓ hI hG hs1 (fun F' κ' a' w' hF hI' hfr => ?_)
        have hset : ∀ j, (listed.setIfInBounds i true).getD j true = if j = i then true else listed.getD j true := fun j => by
          by_cases e : j = i
          · subst e; simp [Array.getD_eq_getD_getElem?, hsz, hisz]
          · simp [Array.getD_eq_getD_getElem?, Array.getElem?_setIfInBounds_ne (Ne.symm e), e]
        have hsetf : ∀ j, (listed.setIfInBounds i true).getD j false = if j = i then true else listed.getD j false := fun j => by
          by_cases e : j = i
          · subst e; simp [Array.getD_eq_getD_getElem?, hsz, hisz]
          · simp [Array.getD_eq_getD_getElem?, Array.getElem?_setIfInBounds_ne (Ne.symm e), e]
        have e1 : p1 ++ i :: p2 ++ i0 :: post = p1 ++ i :: (p2 ++ i0 :: post) := by simp
        have e2 : p1 ++ p2 ++ i0 :: post = p1 ++ (p2 ++ i0 :: post) := by simp
        have hsub : (p1 ++ p2 ++ i0 :: post).Sublist (p1 ++ i :: p2 ++ i0 :: post) := by
          rw [e1, e2]; exact List.Sublist.append (List.Sublist.refl _) (List.sublist_cons_self ..)
        have hsort' := hsort
        rw [e1] at hsort'
        have hnodup : ∀ j ∈ p1 ++ p2 ++ i0 :: post, j ≠ i := fun j hj => by
          rw [e2] at hj
          rcases List.mem_append.1 hj with h | h
          · exact ((List.pairwise_append.1 hsort').2.2 j h i (List.mem_cons_self ..)).1
          · exact ((List.pairwise_cons.1 (List.pairwise_append.1 hsort').2.1).1 j h).1.symm
        refine ih (p1 ++ p2) (listed.setIfInBounds i true) (by simp at hl ⊢; omega) (by simpa using hsz) (hsort.sublist hsub) (fun j => ?_) (fun j oj hoj hj e he hb => ?_) hs2 hp2 hI' (hG.mono hF)
          (fun F2 κ2 s3 v a2 w2 hF2 hout hI2 hv hfr2 => hQ F2 κ2 s3 v a2 w2 (Froz.le_trans hF hF2) (fun k hk => by rw [hout k hk, upd_out ui s k (fun hm => hk (regW_mem hisz (hki k hm)))]) hI2 hv (fun t ht => by rw [hfr2 t ht]; exact hfr t (by rw [ho]; exact ht i o ho)))
        · rw [hset]
          constructor
          · intro hj
            rw [if_neg (hnodup j hj)]
            exact (hmem j).1 (hsub.subset hj)
          · rintro ⟨h2, h3⟩
            split at h3
            · cases h3
            · rename_i hne
              have := (hmem j).2 ⟨h2, h3⟩
              rw [e1] at this
              rw [e2]
              rcases List.mem_append.1 this with h | h
              · exact List.mem_append_left _ h
              · rcases List.mem_cons.1 h with h | h
                · exact absurd h hne
                · exact List.mem_append_right _ h
        · rw [hsetf]
          rw [hsetf] at hj
          split
          · rfl
          · split at hj
            · rename_i e1; subst e1
              rw [ho] at hoj; cases hoj
              exact hall e he hb
            · exact hcl j oj hoj hj e he hb
      · rcases List.mem_cons.1 hpost with rfl | hpost
        · -- the panic itself
          have hpi : evP Γ n ops hs i s = some (T, u, ⟨t, p⟩) := by
            have key : ∀ (l : List Nat) {s : St}, (∀ q ∈ l, q ∈ pre) → evSteps Γ n ops hs l s = some s1 → evP Γ n ops hs i s = some (T, u, ⟨t, p⟩) := by
              intro l
              induction l with
              | nil =>
                intro s _ h
                simp only [evSteps, Option.some.injEq] at h
                rw [h]; exact hp
              | cons q r ihl =>
                intro s hq h
                simp only [evSteps, Option.bind_eq_some_iff] at h
                obtain ⟨sq, h1, h2⟩ := h
                have h3 := ihl (fun q' hq' => hq q' (List.mem_cons_of_mem _ hq')) h2
                obtain ⟨uq, huq, rfl⟩ : ∃ ui, evU Γ n ops hs q s = some ui ∧ s.upd ui = sq := by simpa only [evStep, Option.map_eq_some_iff] using h1
                have hqp := hq q (List.mem_cons_self ..)
                have hlt : Rel ops hs q i := (List.pairwise_append.1 hsort).2.2 q hqp i (List.mem_cons_self ..)
                have hfr : freeOf ops hs q i = true := by
                  rcases hlt.2.2 with h | h
                  · exact absurd h (noanc q (by simp [hqp]))
                  · rcases h.1 with h | h
                    · exact h
                    · rw [(evP_pan h3).1] at h; cases h.2
                simp only [freeOf, Bool.and_eq_true] at hfr
                have d1 := disj_spec hfr.1.1
                rw [← h3]
                exact evP_congr (fun k hk => (upd_out uq s k (fun hm => d1 k (evU_keys huq k hm) hk)).symm)
            exact key pre (fun _ h => h) hst
          exact evP_sound hΓ hI hG hpi (fun F' κ' v w' hF hI' hv => hQ F' κ' _ v a w' hF (fun k hk => upd_out u s k (fun hm => hk (regW_mem hisz ((evP_pan hpi).2 k hm)))) hI' hv (fun _ _ => rfl))
        · -- one behind the panic is not ready
          exfalso
          have hlt : Rel ops hs i0 i := (List.pairwise_cons.1 (List.pairwise_append.1 hsort).2.1).1 i hpost
          rcases hlt.2.2 with h | h
          · exact noanc i0 (by simp) h
          · rw [(evP_pan hp).1] at h; cases h.2

theorem evSteps_out : ∀ (l : List Nat) {s s' : St}, (∀ i ∈ l, i < ops.size) → evSteps Γ n ops hs l s = some s' → ∀ k, k ∉ regW ops hs → s'.get k = s.get k
  | [], s, s', _, h, k, _ => by
    simp only [evSteps, Option.some.injEq] at h
    rw [h]
  | i :: r, s, s', hl, h, k, hk => by
    simp only [evSteps, Option.bind_eq_some_iff] at h
    obtain ⟨s1, h1, h2⟩ := h
    obtain ⟨u, hu, rfl⟩ : ∃ ui, evU Γ n ops hs i s = some ui ∧ s.upd ui = s1 := by simpa only [evStep, Option.map_eq_some_iff] using h1
    rw [evSteps_out r (fun j hj => hl j (List.mem_cons_of_mem _ hj)) h2 k hk]
    exact upd_out u s k (fun hm => hk (regW_mem (hl i (List.mem_cons_self ..)) (evU_keys hu k hm)))

/-- A region, whether its order is drawn or not. -/
theorem region_sound (hΓ : CtxOK Γ P) (hm : P.follows .mixedOrders = true) {id : Nat} {d : Bool} (hok : d = false ∨ drawsOK ops hs = true) {Q : Exit → Act → World → Prop} {X : Type} {k : St → Option X} {kp : Nat → (t : Ty) → t.den → Option X} {F : Froz} {κ : Conc} {s : St} {a : Act} {w : World} {x : X}
    (h : evOpsK Γ n ops hs k kp (ordD d ops hs) s = some x) (hI : Inv n f F κ s a w) (hG : GlobOK Γ F)
    (hQ : ∀ s' F' κ' a' w', k s' = some x → F.le F' → Inv n f F' κ' s' a' w' → (∀ t, (∀ (i : Nat) o, ops[i]? = some o → o.dst ≠ some t) → a'.tmps.getD t undef = a.tmps.getD t undef) → Q .normal a' w')
    (hP : ∀ T t p F' κ' s2 v a' w', kp T t p = some x → F.le F' → (∀ k, k ∉ regW ops hs → s2.get k = s.get k) → Inv n f F' κ' s2 a' w' → RepC F' κ' s2 (.val t p) v → (∀ t, (∀ (i : Nat) o, ops[i]? = some o → o.dst ≠ some t) → a'.tmps.getD t undef = a.tmps.getD t undef) → Q (.panic [{ v := .iface T v, recovered := false }]) a' w') :
    (Code.region id ops d).wp P Q a w := by
  rcases evOpsK_eq _ _ h with ⟨s', h1, h2⟩ | ⟨pre, i, post, s1, T, u, t, p, hl, h1, h2, h3⟩
  · cases d with
    | false => exact wp_region (evSteps_text hΓ _ h1 hI hG (fun F' κ' a' w' hF hI' hfr => hQ s' F' κ' a' w' h2 hF hI' hfr))
    | true =>
      have hok' : drawsOK ops hs = true := by simpa using hok
      refine wp_region_any hm (evSteps_any hΓ hok' ops.size (ordOf ops hs) (Array.replicate ops.size false) (draws_len hok') (by simp) (draws_rel hok') (fun j => ?_) (fun j o _ hj => ?_) h1 (hI.world rfl ⟨rfl, rfl⟩) hG
        (fun F' κ' s'' a' w' hss hF hI' hfr => hQ s' F' κ' a' w' h2 hF (hI'.congr (fun k => (hss k).symm)) hfr))
      · rw [draws_mem hok']
        constructor
        · intro hj; exact ⟨hj, by simp [Array.getD_eq_getD_getElem?, hj]⟩
        · exact fun h => h.1
      · have hsz : j < ops.size := by
          rcases Nat.lt_or_ge j ops.size with h | h
          · exact h
          · simp [Array.getD_eq_getD_getElem?, h] at hj
        simp [Array.getD_eq_getD_getElem?, hsz] at hj
  · have hmem : ∀ j, j ∈ pre ++ i :: post ↔ j < ops.size := fun j => by
      rw [← hl]
      cases d with
      | false => exact List.mem_range
      | true => exact draws_mem (by simpa using hok) j
    cases d with
    | false =>
      refine wp_region ?_
      rw [show List.range ops.size = pre ++ i :: post from hl]
      refine evSteps_fall hΓ pre h1 h2 hI hG (fun F' κ' v a' w' hF hI' hv hfr => hP T t p F' κ' _ v a' w' h3 hF (fun k hk => ?_) hI' hv hfr)
      rw [upd_out u s1 k (fun hm => hk (regW_mem ((hmem i).1 (by simp)) ((evP_pan h2).2 k hm)))]
      exact evSteps_out pre (fun j hj => (hmem j).1 (by simp [hj])) h1 k hk
    | true =>
      have hok' : drawsOK ops hs = true := by simpa using hok
      refine wp_region_any hm (evSteps_anyP hΓ hok' ops.size pre (Array.replicate ops.size false) (by rw [← draws_len hok', ← hl]; rfl) (by simp) (by rw [← hl]; exact draws_rel hok') (fun j => ?_) (fun j o _ hj => ?_) h1 h2 (hI.world rfl ⟨rfl, rfl⟩) hG
        (fun F' κ' s2 v a' w' hF hout hI' hv hfr => hP T t p F' κ' s2 v a' w' h3 hF hout hI' hv hfr))
      · rw [hmem]
        constructor
        · intro hj; exact ⟨hj, by simp [Array.getD_eq_getD_getElem?, hj]⟩
        · exact fun h => h.1
      · have hsz : j < ops.size := by
          rcases Nat.lt_or_ge j ops.size with h | h
          · exact h
          · simp [Array.getD_eq_getD_getElem?, h] at hj
        simp [Array.getD_eq_getD_getElem?, hsz] at hj

end
end Go.Fe
