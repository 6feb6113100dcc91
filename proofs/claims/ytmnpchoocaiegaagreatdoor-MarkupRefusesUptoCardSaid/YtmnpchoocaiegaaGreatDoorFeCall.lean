/- Calls: what a function's contract says, and how a caller uses it. -/
import Derived.Test.YtmnpchoocaiegaaGreatDoorFeOpG
namespace Go.Fe
open Go

/-- Objects alone, numbered from k on. -/
def ost : Nat → List C → St
  | _, [] => []
  | k, c :: r => (okey k, c) :: ost (k + 1) r

theorem ost_get (l : List C) : ∀ (k i : Nat), (ost k l).get (okey (k + i)) = l[i]? := by
  induction l with
  | nil => intro k i; rfl
  | cons c r ih =>
    intro k i
    simp only [ost, St.get]
    by_cases hi : i = 0
    · subst hi; simp
    · rw [if_neg (fun e => hi (by have := okey_inj e; omega))]
      obtain ⟨j, rfl⟩ : ∃ j, i = j + 1 := ⟨i - 1, by omega⟩
      rw [show k + (j + 1) = (k + 1) + j by omega, ih]
      simp

theorem ost_get0 (l : List C) (i : Nat) : (ost 0 l).get (okey i) = l[i]? := by
  have := ost_get l 0 i
  rwa [Nat.zero_add] at this

theorem ost_slot (l : List C) : ∀ (k j : Nat), j < 100000 → (ost k l).get j = none := by
  induction l with
  | nil => intro k j _; rfl
  | cons c r ih =>
    intro k j hj
    simp only [ost, St.get]
    rw [if_neg (by have := okey_ge k; omega)]
    exact ih _ _ hj

theorem ost_key (j : Nat) (hj : 100000 ≤ j) : ∃ i, j = okey i := ⟨j - 100000, by unfold okey; omega⟩

def act0 : Act := { tmps := #[], defers := [] }

/-- The blocks that a call may change. -/
def mayOf (objs : List C) (κ : Conc) : Nat → Prop := fun b => ∃ i c p q, objs[i]? = some c ∧ c.isObj = true ∧ κ i = some (b, p, q)

/-- What a call comes to: E v, and what the caller is handed back. -/
def Comes1 (objs : List C) (k : Nat) (o : Out) (E : Value → Ending) (w : World) (F : Froz) (κ : Conc) (e : Ending) (w' : World) : Prop :=
  ∃ v F' κ', e = E v ∧ F.le F' ∧ Inv 0 ⟨w, mayOf objs κ, F, []⟩ F' κ' (ost 0 (o.objs ++ o.news)) act0 w' ∧
      RepC F' κ' (ost 0 (o.objs ++ o.news)) o.res v ∧ (∀ j ∈ o.res.refs, j < (o.objs ++ o.news).length) ∧ o.objs.length = objs.length ∧ o.news.length = k ∧
      ∀ i, i < objs.length → ObjLe κ (ost 0 objs) κ' (ost 0 (o.objs ++ o.news)) i
/-- A call with arguments of these contents. -/
def CallOK (P : Program) (glob : Glob) (fid : Nat) (args : C) (objs : List C) (R : World → Froz → Conc → Ending → World → Prop) : Prop :=
  ∀ (F : Froz) (κ : Conc) (w : World) (vals : List Value), GlobF glob F →
    Inv 0 ⟨w, mayOf objs κ, F, []⟩ F κ (ost 0 objs) act0 w → RepL F κ (ost 0 objs) args vals → (∀ o ∈ args.refs, o < objs.length) →
    Calls P fid vals.toArray w (R w F κ)
/-- The ending by a panic that nobody has recovered. -/
def fallen (T : Nat) (v : Value) : Ending := .panicked [{ v := .iface T v, recovered := false }]
/-- What is handed back behind a panic. -/
def outP (objs : List C) (t : Ty) (p : t.den) : Out := ⟨.val t p, objs.map fun _ => .dead, []⟩

/-- What is known of a function. -/
def FnOK1 (P : Program) (glob : Glob) (fid : Nat) (sem : C → List C → Option CRes) : Prop :=
  ∀ (args : C) (objs : List C) (α : Type) (k : Nat) (m : Option α) (r : α → Out) (x : α), sem args objs = some (.mk k m r) → m = some x →
    CallOK P glob fid args objs (Comes1 objs k (r x) .returned)
/-- .. that may end in a panic. -/
def FnOK2 (P : Program) (glob : Glob) (fid : Nat) (sem : C → List C → Option CRes) : Prop :=
  ∀ (args : C) (objs : List C) (α : Type) (t : Ty) (k T : Nat) (m : Option (α ⊕ t.den)) (r : α → Out), sem args objs = some (.mkP k T m r) →
    (∀ x, m = some (.inl x) → CallOK P glob fid args objs (Comes1 objs k (r x) .returned)) ∧ ∀ p, m = some (.inr p) → CallOK P glob fid args objs (Comes1 objs 0 (outP objs t p) (fallen T))
/-- .. that comes to one of two things. -/
def FnOK3 (P : Program) (glob : Glob) (fid : Nat) (sem : C → List C → Option CRes) : Prop :=
  ∀ (args : C) (objs : List C) (α β : Type) (k : Nat) (m : Option (α ⊕ β)) (r : α → Out) (r' : β → Out), sem args objs = some (.mkS k m r r') →
    (∀ x, m = some (.inl x) → CallOK P glob fid args objs (Comes1 objs k (r x) .returned)) ∧ ∀ x, m = some (.inr x) → CallOK P glob fid args objs (Comes1 objs k (r' x) .returned)
structure FnOK (P : Program) (glob : Glob) (fid : Nat) (sem : C → List C → Option CRes) : Prop where
  one : FnOK1 P glob fid sem
  two : FnOK2 P glob fid sem
  three : FnOK3 P glob fid sem
def CRes.quiet : CRes → Bool
  | .mk .. => true
  | _ => false
/-- A function that never panics. -/
theorem FnOK.of {P : Program} {glob : Glob} {fid : Nat} {sem : C → List C → Option CRes} (h : FnOK1 P glob fid sem) (hq : ∀ args objs q, sem args objs = some q → q.quiet = true) : FnOK P glob fid sem :=
  ⟨h, fun args objs _ _ _ _ _ _ he => (by have := hq _ _ _ he; cases this), fun args objs _ _ _ _ _ _ he => by have := hq _ _ _ he; cases this⟩

/-! ### Other names for objects -/
theorem RepG.ren {F : Froz} {κ κ' : Conc} {s s' : St} {ρ : Nat → Nat} : ∀ (c : C) (vs : List Value), (∀ o ∈ c.refs, κ' (ρ o) = κ o ∧ ∀ c', s'.get (okey (ρ o)) = some c' → ∃ c0, s.get (okey o) = some c0 ∧ c' = c0.ren ρ) →
    RepG F κ s c vs → RepG F κ' s' (c.ren ρ) vs
  | .cons a b, vs, ho, h => by
    simp only [RepG, C.ren] at h ⊢
    obtain ⟨v, r, e, h1, h2⟩ := h
    exact ⟨v, r, e, RepG.ren a _ (fun o hm => ho o (by simp only [C.refs, List.mem_append]; exact .inl hm)) h1,
      RepG.ren b _ (fun o hm => ho o (by simp only [C.refs, List.mem_append]; exact .inr hm)) h2⟩
  | .unit, vs, _, h => by simpa only [RepG, C.ren] using h
  | .val t x, vs, _, h => by simpa only [RepG, C.ren] using h
  | .ptr o off, vs, ho, h => by
    simp only [RepG, C.ren] at h ⊢
    obtain ⟨v, e, h⟩ := h
    refine ⟨v, e, fun c hg hc => ?_⟩
    obtain ⟨hk, hs⟩ := ho o (by simp [C.refs])
    obtain ⟨c0, h0, rfl⟩ := hs _ hg
    obtain ⟨b, p, q, h1, h2⟩ := h c0 h0 (by rintro rfl; exact hc rfl)
    exact ⟨b, p, q, by rw [hk, h1], h2⟩
  | .nil, vs, _, h => by simpa only [RepG, C.ren] using h
  | .dead, vs, _, h => by simpa only [RepG, C.ren] using h
  | .own _, vs, _, h => by simp only [RepG] at h
  | .eptr .., vs, _, h => by simp only [RepG] at h
  | .aptr .., vs, _, h => by simp only [RepG] at h
  | .adr .., vs, _, h => by simp only [RepG] at h
  | .brow _, vs, _, h => by simp only [RepG] at h
  | .may .., vs, _, h => by simpa only [RepG, C.ren] using h
  | .fptr .., vs, _, h => by simp only [RepG] at h
  | .fn .., vs, _, h => by simp only [RepG, C.ren] at h ⊢; exact ⟨by rw [h.1]; rfl, h.2⟩
  | .tup _, vs, _, h => by simp only [RepG] at h
  | .agg _, vs, _, h => by simp only [RepG] at h
  | .rsl .., vs, _, h => by simp only [RepG] at h
  | .vec .., vs, _, h => by simp only [RepG] at h
  | .iter .., vs, _, h => by simp only [RepG] at h
  | .rcd _, vs, _, h => by simp only [RepG] at h
theorem RepL.ren {F : Froz} {κ κ' : Conc} {s s' : St} {ρ : Nat → Nat} : ∀ (c : C) (vs : List Value), (∀ o ∈ c.refs, κ' (ρ o) = κ o ∧ ∀ c', s'.get (okey (ρ o)) = some c' → ∃ c0, s.get (okey o) = some c0 ∧ c' = c0.ren ρ) →
    RepL F κ s c vs → RepL F κ' s' (c.ren ρ) vs
  | .cons a b, vs, ho, h => by
    simp only [RepL, C.ren] at h ⊢
    obtain ⟨v, r, e, h1, h2⟩ := h
    exact ⟨v, r, e, RepL.ren a _ (fun o hm => ho o (by simp only [C.refs, List.mem_append]; exact .inl hm)) h1,
      RepL.ren b _ (fun o hm => ho o (by simp only [C.refs, List.mem_append]; exact .inr hm)) h2⟩
  | .unit, vs, _, h => by simpa only [RepL, C.ren] using h
  | .val t x, vs, _, h => by simpa only [RepL, C.ren] using h
  | .own o, vs, ho, h => by
    simp only [RepL, C.ren] at h ⊢
    obtain ⟨v, e, h⟩ := h
    refine ⟨v, e, fun n t xs hg => ?_⟩
    obtain ⟨hk, hs⟩ := ho o (by simp [C.refs])
    obtain ⟨c0, h0, hc⟩ := hs _ hg
    cases c0 <;> simp only [C.ren, reduceCtorEq] at hc
    cases hc
    rw [hk]
    exact h _ _ _ h0
  | .ptr o off, vs, ho, h => by
    simp only [RepL, C.ren] at h ⊢
    obtain ⟨v, e, h⟩ := h
    refine ⟨v, e, fun c hg hc => ?_⟩
    obtain ⟨hk, hs⟩ := ho o (by simp [C.refs])
    obtain ⟨c0, h0, rfl⟩ := hs _ hg
    obtain ⟨b, p, q, h1, h2⟩ := h c0 h0 (by rintro rfl; exact hc rfl)
    exact ⟨b, p, q, by rw [hk, h1], h2⟩
  | .eptr o off t i path, vs, ho, h => by
    simp only [RepL, C.ren] at h ⊢
    obtain ⟨v, e, h⟩ := h
    refine ⟨v, e, fun n xs hg => ?_⟩
    obtain ⟨hk, hs⟩ := ho o (by simp [C.refs])
    obtain ⟨c0, h0, hc⟩ := hs _ hg
    cases c0 <;> simp only [C.ren, reduceCtorEq] at hc
    cases hc
    rw [hk]
    exact h _ _ h0
  | .aptr o off n t i path, vs, ho, h => by
    simp only [RepL, C.ren] at h ⊢
    obtain ⟨v, e, e0, e1, h⟩ := h
    refine ⟨v, e, e0, e1, fun c hg hc => ?_⟩
    obtain ⟨hk, hs⟩ := ho o (by simp [C.refs])
    obtain ⟨c0, h0, rfl⟩ := hs _ hg
    rw [hk]
    exact h c0 h0 (by rintro rfl; exact hc rfl)
  | .adr o T, vs, ho, h => by
    simp only [RepL, C.ren] at h ⊢
    obtain ⟨v, e, h⟩ := h
    refine ⟨v, e, fun c hg hc => ?_⟩
    obtain ⟨hk, hs⟩ := ho o (by simp [C.refs])
    obtain ⟨c0, h0, rfl⟩ := hs _ hg
    rw [hk]
    exact h c0 h0 (by rintro rfl; exact hc rfl)
  | .may p q, vs, _, h => by simpa only [RepL, C.ren] using h
  | .brow o, vs, ho, h => by
    simp only [RepL, C.ren] at h ⊢
    obtain ⟨v, e, h⟩ := h
    refine ⟨v, e, fun n t xs hg => ?_⟩
    obtain ⟨hk, hs⟩ := ho o (by simp [C.refs])
    obtain ⟨c0, h0, hc⟩ := hs _ hg
    cases c0 <;> simp only [C.ren, reduceCtorEq] at hc
    cases hc
    rw [hk]
    exact h _ _ _ h0
  | .fptr t x, vs, _, h => by simpa only [RepL, C.ren] using h
  | .fn f c, vs, ho, h => by
    simp only [RepL, C.ren] at h ⊢
    obtain ⟨us, e, h⟩ := h
    exact ⟨us, e, RepL.ren c us (fun o hm => ho o (by simpa only [C.refs] using hm)) h⟩
  | .tup c, vs, ho, h => by
    simp only [RepL, C.ren] at h ⊢
    obtain ⟨us, e, h⟩ := h
    exact ⟨us, e, RepL.ren c us (fun o hm => ho o (by simpa only [C.refs] using hm)) h⟩
  | .agg c, vs, ho, h => by
    simp only [RepL, C.ren] at h ⊢
    obtain ⟨us, e, h⟩ := h
    exact ⟨us, e, RepG.ren c us (fun o hm => ho o (by simpa only [C.refs] using hm)) h⟩
  | .rsl o m k, vs, ho, h => by
    simp only [RepL, C.ren] at h ⊢
    obtain ⟨v, e, h⟩ := h
    refine ⟨v, e, fun c hg hc => ?_⟩
    obtain ⟨hk, hs⟩ := ho o (by simp [C.refs])
    obtain ⟨c0, h0, rfl⟩ := hs _ hg
    obtain ⟨b, p, q, h1, h2⟩ := h c0 h0 (by rintro rfl; exact hc rfl)
    exact ⟨b, p, q, by rw [hk, h1], h2⟩
  | .nil, vs, _, h => by simpa only [RepL, C.ren] using h
  | .dead, vs, _, h => by simpa only [RepL, C.ren] using h
  | .vec .., vs, _, h => by simp only [RepL] at h
  | .iter .., vs, _, h => by simp only [RepL] at h
  | .rcd _, vs, _, h => by simp only [RepL] at h

theorem RepX.ren {F : Froz} {κ κ' : Conc} {s s' : St} {ρ : Nat → Nat} : ∀ (c : C) (vs : List Value), (∀ o ∈ c.refs, κ' (ρ o) = κ o ∧ ∀ c', s'.get (okey (ρ o)) = some c' → ∃ c0, s.get (okey o) = some c0 ∧ c' = c0.ren ρ) →
    RepX F κ s c vs → RepX F κ' s' (c.ren ρ) vs
  | .cons a b, vs, ho, h => by
    simp only [RepX, C.ren] at h ⊢
    obtain ⟨v, r, e, h1, h2⟩ := h
    exact ⟨v, r, e, RepX.ren a _ (fun o hm => ho o (by simp only [C.refs, List.mem_append]; exact .inl hm)) h1,
      RepX.ren b _ (fun o hm => ho o (by simp only [C.refs, List.mem_append]; exact .inr hm)) h2⟩
  | .unit, vs, _, h => by simpa only [RepX, C.ren] using h
  | .val t x, vs, _, h => by simpa only [RepX, C.ren] using h
  | .own o, vs, ho, h => by have := RepL.ren (.own o) vs ho (by simpa only [RepX] using h.1); simp only [RepX, C.ren] at h this ⊢; exact ⟨this, h.2⟩
  | .ptr o off, vs, ho, h => by have := RepL.ren (.ptr o off) vs ho (by simpa only [RepX] using h.1); simp only [RepX, C.ren] at h this ⊢; exact ⟨this, h.2⟩
  | .eptr o off t i p, vs, ho, h => by have := RepL.ren (.eptr o off t i p) vs ho (by simpa only [RepX] using h.1); simp only [RepX, C.ren] at h this ⊢; exact ⟨this, h.2⟩
  | .aptr o off n t i p, vs, ho, h => by have := RepL.ren (.aptr o off n t i p) vs ho (by simpa only [RepX] using h.1); simp only [RepX, C.ren] at h this ⊢; exact ⟨this, h.2⟩
  | .adr o T, vs, ho, h => by have := RepL.ren (.adr o T) vs ho (by simpa only [RepX] using h.1); simp only [RepX, C.ren] at h this ⊢; exact ⟨this, h.2⟩
  | .brow o, vs, ho, h => by have := RepL.ren (.brow o) vs ho (by simpa only [RepX] using h.1); simp only [RepX, C.ren] at h this ⊢; exact ⟨this, h.2⟩
  | .may p q, vs, ho, h => by have := RepL.ren (.may p q) vs ho (by simpa only [RepX] using h.1); simp only [RepX, C.ren] at h this ⊢; exact ⟨this, h.2⟩
  | .fptr t x, vs, ho, h => by have := RepL.ren (.fptr t x) vs ho (by simpa only [RepX] using h.1); simp only [RepX, C.ren] at h this ⊢; exact ⟨this, h.2⟩
  | .fn f c, vs, ho, h => by have := RepL.ren (.fn f c) vs ho (by simpa only [RepX] using h.1); simp only [RepX, C.ren] at h this ⊢; exact ⟨this, h.2⟩
  | .tup c, vs, ho, h => by have := RepL.ren (.tup c) vs ho (by simpa only [RepX] using h.1); simp only [RepX, C.ren] at h this ⊢; exact ⟨this, h.2⟩
  | .agg c, vs, ho, h => by have := RepL.ren (.agg c) vs ho (by simpa only [RepX] using h.1); simp only [RepX, C.ren] at h this ⊢; exact ⟨this, h.2⟩
  | .rsl o m k, vs, ho, h => by have := RepL.ren (.rsl o m k) vs ho (by simpa only [RepX] using h.1); simp only [RepX, C.ren] at h this ⊢; exact ⟨this, h.2⟩
  | .nil, vs, ho, h => by have := RepL.ren .nil vs ho (by simpa only [RepX] using h.1); simp only [RepX, C.ren] at h this ⊢; exact ⟨this, h.2⟩
  | .dead, vs, ho, h => by have := RepL.ren .dead vs ho (by simpa only [RepX] using h.1); simp only [RepX, C.ren] at h this ⊢; exact ⟨this, h.2⟩
  | .vec .., vs, _, h => by simp only [RepX, RepL] at h; exact h.1.elim
  | .iter .., vs, _, h => by simp only [RepX, RepL] at h; exact h.1.elim
  | .rcd _, vs, _, h => by simp only [RepX, RepL] at h; exact h.1.elim

theorem ren_bty (ρ : Nat → Nat) (c : C) : (c.ren ρ).bty = c.bty := by
  cases c <;> first | rfl | skip
  rename_i a b
  cases a <;> rfl

theorem RepO.ren {F : Froz} {κ κ' : Conc} {s s' : St} {w : World} {ρ : Nat → Nat} {o : Nat} {c : C} (hk : κ' (ρ o) = κ o)
    (ho : ∀ o ∈ c.refs, κ' (ρ o) = κ o ∧ ∀ c', s'.get (okey (ρ o)) = some c' → ∃ c0, s.get (okey o) = some c0 ∧ c' = c0.ren ρ) (h : RepO F κ s w o c) : RepO F κ' s' w (ρ o) (c.ren ρ) := by
  cases c with
  | vec n t xs => simp only [RepO, C.ren, hk] at h ⊢; exact h
  | rcd x =>
    simp only [RepO, C.ren, hk] at h ⊢
    obtain ⟨b, c, T, fr, h0, h1, h2, h3, h4⟩ := h
    exact ⟨b, c, T, fr, h0, h1, h2, RepX.ren _ _ ho h3, fun T0 h => h4 T0 (by rw [← ren_bty ρ]; exact h)⟩
  | iter x pos => simp only [RepO, C.ren, hk] at h ⊢; exact h
  | _ => trivial

theorem ren_isObj (ρ : Nat → Nat) (c : C) : (c.ren ρ).isObj = c.isObj := by cases c <;> rfl
theorem ren_refs (ρ : Nat → Nat) : ∀ c : C, (c.ren ρ).refs = c.refs.map ρ
  | .cons a b => by simp only [C.ren, C.refs, List.map_append, ren_refs ρ a, ren_refs ρ b]
  | .fn _ c => by simp only [C.ren, C.refs, ren_refs ρ c]
  | .tup c => by simp only [C.ren, C.refs, ren_refs ρ c]
  | .agg c => by simp only [C.ren, C.refs, ren_refs ρ c]
  | .rsl .. => rfl
  | .rcd c => by simp only [C.ren, C.refs, ren_refs ρ c]
  | .own _ => rfl
  | .ptr .. => rfl
  | .eptr .. => rfl
  | .aptr .. => rfl
  | .adr .. => rfl
  | .may .. => rfl
  | .brow .. => rfl
  | .val .. => rfl
  | .fptr .. => rfl
  | .unit => rfl
  | .nil => rfl
  | .dead => rfl
  | .vec .. => rfl
  | .iter .. => rfl
theorem mapM_get {g : Nat → Option C} : ∀ {l : List Nat} {objs : List C}, (l.mapM fun o => g (okey o)) = some objs → objs.length = l.length ∧ ∀ (i o : Nat), l[i]? = some o → ∃ c, g (okey o) = some c ∧ objs[i]? = some c
  | [], objs, h => by
    simp only [List.mapM_nil, pure, Option.some.injEq] at h
    subst h
    exact ⟨rfl, fun i o h => by simp at h⟩
  | a :: r, objs, h => by
    simp only [List.mapM_cons, bind, Option.bind_eq_some_iff, pure, Option.some.injEq] at h
    obtain ⟨c, hc, cs, hcs, rfl⟩ := h
    obtain ⟨h1, h2⟩ := mapM_get hcs
    refine ⟨by simp [h1], fun i o hi => ?_⟩
    match i with
    | 0 => simp only [List.getElem?_cons_zero, Option.some.injEq] at hi; subst hi; exact ⟨c, hc, rfl⟩
    | i + 1 => simp only [List.getElem?_cons_succ] at hi ⊢; exact h2 i o hi

/-- Several objects written at once. -/
theorem upd_zip (s : St) : ∀ (L : List C) (N : List Nat), N.Nodup → L.length = N.length →
    (∀ (i o : Nat) (c : C), N[i]? = some o → L[i]? = some c → (s.upd ((L.zip N).map fun p => (okey p.2, p.1))).get (okey o) = some c) ∧
    (∀ k, (∀ o ∈ N, k ≠ okey o) → (s.upd ((L.zip N).map fun p => (okey p.2, p.1))).get k = s.get k)
  | [], [], _, _ => ⟨fun i o c h => by simp at h, fun k _ => rfl⟩
  | c :: L, o :: N, hN, hl => by
    simp only [List.nodup_cons] at hN
    obtain ⟨h1, h2⟩ := upd_zip (s.set (okey o) c) L N hN.2 (by simpa using hl)
    simp only [List.zip_cons_cons, List.map_cons, St.upd]
    constructor
    · intro i o' c' hi hc
      match i with
      | 0 =>
        simp only [List.getElem?_cons_zero, Option.some.injEq] at hi hc
        subst hi hc
        rw [h2 _ (fun o' ho' e => hN.1 (by rw [okey_inj e]; exact ho')), St.get_set, if_pos rfl]
      | i + 1 => simp only [List.getElem?_cons_succ] at hi hc; exact h1 i o' c' hi hc
    · intro k hk
      rw [h2 k (fun o' ho' => hk o' (List.mem_cons_of_mem _ ho')), St.get_set, if_neg (fun e => hk o (List.mem_cons_self ..) e.symm)]
  | [], _ :: _, _, hl => by simp at hl
  | _ :: _, [], _, hl => by simp at hl

theorem idx_get {l : List Nat} (hl : l.Nodup) {i o : Nat} (h : l[i]? = some o) : l.idxOf o = i := by
  obtain ⟨hi, rfl⟩ := List.getElem?_eq_some_iff.1 h
  exact hl.idxOf_getElem i hi
theorem get_idx {l : List Nat} {o : Nat} (h : o ∈ l) : l[l.idxOf o]? = some o := by
  have := List.idxOf_lt_length_of_mem h
  rw [List.getElem?_eq_getElem this, List.getElem_idxOf this]

section
variable {Γ : Ctx} {P : Program} {n : Nat} {f : Frame0} {F : Froz} {κ : Conc} {s : St} {a : Act} {w : World} {g : Nat → Option C}

theorem dead_zip {ρ ρ' : Nat → Nat} : ∀ (l : List Nat) (objs : List C), l.length = objs.length → ((objs.map ((fun _ => C.dead) ∘ C.ren ρ)).zip l).map (fun q => (okey q.2, q.1.ren ρ')) = l.map fun o => (okey o, C.dead)
  | [], [], _ => rfl
  | [], _ :: _, h => by simp at h
  | _ :: _, [], h => by simp at h
  | a :: l, c :: objs, h => by
    simp only [List.map_cons, List.zip_cons_cons, Function.comp, C.ren]
    rw [← dead_zip (ρ := ρ) (ρ' := ρ') l objs (by simpa using h)]

theorem call_core {X : (Ending → World → Prop) → Prop} (hX : ∀ R R', (∀ e w', R e w' → R' e w') → X R → X R') (hI : Inv n f F κ s a w) (hg : ∀ k c, g k = some c → s.get k = some c) {wr new : List Nat} (hnew : ∀ m ∈ new, s.get (okey m) = none) (hnd : new.Nodup)
    {objs : List C} (hobjs : (wr.mapM fun o => g (okey o)) = some objs) {args : C} (hrefs : ∀ o ∈ args.refs, o ∈ wr) (hoall : ∀ c ∈ objs, c.isObj = true ∧ ∀ o ∈ c.refs, o ∈ wr) (hwnd : wr.Nodup)
    {vals : List Value} (hargs : RepL F κ s args vals) {k : Nat} (hk : k = new.length) {out : Out} {E : Value → Ending}
    (hcall : ∀ κ', Inv 0 ⟨w, mayOf (objs.map (C.ren fun o => wr.idxOf o)) κ', F, []⟩ F κ' (ost 0 (objs.map (C.ren fun o => wr.idxOf o))) act0 w → RepL F κ' (ost 0 (objs.map (C.ren fun o => wr.idxOf o))) (args.ren fun o => wr.idxOf o) vals →
      (∀ o ∈ (args.ren fun o => wr.idxOf o).refs, o < (objs.map (C.ren fun o => wr.idxOf o)).length) → X (Comes1 (objs.map (C.ren fun o => wr.idxOf o)) k out E w F κ')) {dst : Option Nat} {u : St}
    (hu : u = ((out.objs ++ out.news).zip (wr ++ new)).map (fun p => (okey p.2, p.1.ren fun i => (wr ++ new).getD i 0)) ++ Out1 dst (out.res.ren fun i => (wr ++ new).getD i 0)) {K : Value → World → Prop}
    (hK : ∀ F' κ' v w' c uo, F.le F' → u = uo ++ Out1 dst c → Inv n f F' κ' (s.upd uo) a w' → RepC F' κ' (s.upd uo) c v → (∀ o ∈ c.refs, ((s.upd uo).get (okey o)).isSome = true) → c = out.res.ren (fun i => (wr ++ new).getD i 0) → K v w') :
    X fun e w' => ∃ v, e = E v ∧ K v w' := by
          obtain ⟨hlen, hget⟩ := mapM_get hobjs
          have hwget : ∀ o ∈ wr, ∃ c, s.get (okey o) = some c ∧ objs[wr.idxOf o]? = some c := fun o ho => by
            obtain ⟨c, hc, hc'⟩ := hget _ _ (get_idx ho)
            exact ⟨c, hg _ _ hc, hc'⟩
          generalize hback : (fun o => wr.idxOf o) = back at hcall
          have hb : ∀ o, back o = wr.idxOf o := fun o => by rw [← hback]
          let κc : Conc := fun i => κ (wr.getD i 0)
          have hκc : ∀ o ∈ wr, κc (back o) = κ o := fun o ho => by
            simp only [κc, hb, List.getD, get_idx ho, Option.getD_some]
          have hκi : ∀ (i o : Nat), wr[i]? = some o → κc i = κ o := fun i o hi => by simp [κc, List.getD, hi]
          have hto : ∀ o ∈ wr, κc (back o) = κ o ∧ ∀ c', (ost 0 (objs.map (C.ren back))).get (okey (back o)) = some c' → ∃ c0, s.get (okey o) = some c0 ∧ c' = c0.ren back := fun o ho => by
            refine ⟨hκc o ho, fun c' hc' => ?_⟩
            rw [ost_get0, List.getElem?_map, hb] at hc'
            obtain ⟨c, hc, hc2⟩ := hwget o ho
            rw [hc2] at hc'
            cases hc'
            exact ⟨c, hc, rfl⟩
          have hi_of : ∀ {i : Nat} {c : C}, (objs.map (C.ren back))[i]? = some c → ∃ o c0, wr[i]? = some o ∧ s.get (okey o) = some c0 ∧ objs[i]? = some c0 ∧ c = c0.ren back ∧ c0.isObj = true ∧ (∀ o' ∈ c0.refs, o' ∈ wr) := fun {i c} hc => by
            rw [List.getElem?_map] at hc
            simp only [Option.map_eq_some_iff] at hc
            obtain ⟨c0, h0, rfl⟩ := hc
            obtain ⟨hi, rfl⟩ := List.getElem?_eq_some_iff.1 h0
            have hi' : i < wr.length := by omega
            obtain ⟨c1, h1, h2⟩ := hget i _ (List.getElem?_eq_getElem hi')
            rw [h0] at h2
            cases h2
            have hmem := hoall _ (List.getElem_mem hi)
            exact ⟨_, _, List.getElem?_eq_getElem hi', hg _ _ h1, h0, rfl, hmem.1, fun o' ho' => by simpa using hmem.2 o' ho'⟩
          have hblen : ∀ o ∈ wr, back o < objs.length := fun o ho => by rw [hb, hlen]; exact List.idxOf_lt_length_of_mem ho
          -- the callee's beginning
          have hI0 : Inv 0 ⟨w, mayOf (objs.map (C.ren back)) κc, F, []⟩ F κc (ost 0 (objs.map (C.ren back))) act0 w := by
            constructor
            · rfl
            · rfl
            · exact hI.frozen
            · intro k c hk hk'; rw [ost_slot _ _ _ hk'] at hk; cases hk
            · intro i c hc
              rw [ost_get0] at hc
              obtain ⟨o, c0, h1, h2, h3, rfl, h5, h6⟩ := hi_of hc
              have hbi : back o = i := by rw [hb]; exact idx_get hwnd h1
              have := RepO.ren (s' := ost 0 (objs.map (C.ren back))) (κ' := κc) (ρ := back) (o := o) (by rw [hκc o (List.mem_of_getElem? h1)]) (fun o' ho' => hto o' (h6 o' ho')) (hI.objs o c0 h2)
              rw [hbi] at this
              exact this
            · intro i c b p q hc hobj hκb
              rw [ost_get0] at hc
              obtain ⟨o, c0, h1, h2, h3, rfl, h5, h6⟩ := hi_of hc
              rw [hκi i o h1] at hκb
              exact ⟨(hI.free o c0 b p q h2 h5 hκb).1, .inr ⟨i, _, p, q, hc, hobj, by rw [hκi i o h1]; exact hκb⟩⟩
            · intro i c b p q i' c' p' q' hc hobj hκb hc' hobj' hκb'
              rw [ost_get0] at hc hc'
              obtain ⟨o, c0, h1, h2, h3, rfl, h5, h6⟩ := hi_of hc
              obtain ⟨o', c0', h1', h2', h3', rfl, h5', h6'⟩ := hi_of hc'
              rw [hκi i o h1] at hκb
              rw [hκi i' o' h1'] at hκb'
              have := hI.apart o c0 b p q o' c0' p' q' h2 h5 hκb h2' h5' hκb'
              subst this
              rw [← idx_get hwnd h1, ← idx_get hwnd h1']
            · intro j c hc o ho
              by_cases hj : j < 100000
              · rw [ost_slot _ _ _ hj] at hc; cases hc
              · obtain ⟨i, rfl⟩ := ost_key j (by omega)
                rw [ost_get0] at hc
                obtain ⟨o1, c0, h1, h2, h3, rfl, h5, h6⟩ := hi_of hc
                rw [ren_refs] at ho
                obtain ⟨o2, ho2, rfl⟩ := List.mem_map.1 ho
                rw [ost_get0]
                have := hblen o2 (h6 o2 ho2)
                simp [this]
            · exact ⟨Nat.le_refl _, fun _ _ _ => rfl, rfl, rfl⟩
            · intro b o h; exact .inl h
          have hargs0 : RepL F κc (ost 0 (objs.map (C.ren back))) (args.ren back) vals := RepL.ren args vals (fun o ho => hto o (by simpa using hrefs o ho)) hargs
          have hcall := hcall κc hI0 hargs0 (fun o ho => by
            rw [ren_refs] at ho
            obtain ⟨o2, ho2, rfl⟩ := List.mem_map.1 ho
            rw [List.length_map]
            exact hblen o2 (by simpa using hrefs o2 ho2))
          refine hX _ _ (fun e w' => ?_) hcall
          rintro ⟨v, F', κ', rfl, hF, hI1, hres, hresr, hol, hnl, hole⟩
          refine ⟨v, rfl, ?_⟩
          generalize hL : out.objs ++ out.news = L at hI1 hres hresr hole
          have hLlen : L.length = (wr ++ new).length := by rw [← hL, List.length_append, List.length_append, hol, hnl, List.length_map, hlen, hk]
          have hNnd : (wr ++ new).Nodup := by
            rw [List.nodup_append]
            refine ⟨hwnd, hnd, fun x1 hx1 x2 hx2 => ?_⟩
            rintro rfl
            obtain ⟨c, hc, _⟩ := hwget x1 hx1
            rw [hnew x1 hx2] at hc
            cases hc
          generalize hN : wr ++ new = N at hLlen hNnd
          have hNw : ∀ (i : Nat), i < wr.length → N[i]? = wr[i]? := fun i hi => by rw [← hN, List.getElem?_append_left hi]
          have hinN : ∀ o, o ∈ N ↔ o ∈ wr ∨ o ∈ new := fun o => by rw [← hN, List.mem_append]
          let fore : Nat → Nat := fun i => N.getD i 0
          have hforeg : ∀ (i : Nat), i < L.length → N[i]? = some (fore i) := fun i hi => by
            simp only [fore, List.getD]
            rw [List.getElem?_eq_getElem (by omega)]; rfl
          obtain ⟨hu1, hu2⟩ := upd_zip s (L.map (C.ren fore)) N hNnd (by simpa using hLlen)
          have hzip : ((L.map (C.ren fore)).zip N).map (fun p => (okey p.2, p.1)) = (L.zip N).map (fun p => (okey p.2, p.1.ren fore)) := by
            rw [List.zip_map_left, List.map_map]; rfl
          rw [hzip] at hu1 hu2
          generalize hU : (L.zip N).map (fun p => (okey p.2, p.1.ren fore)) = U at hu1 hu2
          let κ2 : Conc := fun o => if o ∈ N then κ' (N.idxOf o) else κ o
          have hnotN : ∀ k, k < 100000 → ∀ o ∈ N, k ≠ okey o := fun k hk o _ => by have := okey_ge o; omega
          -- names back
          have hfrom : ∀ i, i < L.length → κ2 (fore i) = κ' i ∧ ∀ c', (s.upd U).get (okey (fore i)) = some c' → ∃ c0, (ost 0 L).get (okey i) = some c0 ∧ c' = c0.ren fore := fun i hi => by
            have hg1 := hforeg i hi
            refine ⟨?_, fun c' hc' => ?_⟩
            · simp only [κ2, if_pos (List.mem_of_getElem? hg1), idx_get hNnd hg1]
            · have hLi : (L.map (C.ren fore))[i]? = some (L[i].ren fore) := by simp [hi]
              rw [hu1 i _ _ hg1 hLi] at hc'
              cases hc'
              exact ⟨L[i], by rw [ost_get0, List.getElem?_eq_getElem hi], rfl⟩
          have hobjs_of : ∀ o c, (s.upd U).get (okey o) = some c → o ∈ N → ∃ i c0, i < L.length ∧ fore i = o ∧ L[i]? = some c0 ∧ c = c0.ren fore := fun o c hc ho => by
            have hgi := get_idx ho
            have hi : N.idxOf o < L.length := by rw [hLlen]; exact List.idxOf_lt_length_of_mem ho
            have hLi : (L.map (C.ren fore))[N.idxOf o]? = some (L[N.idxOf o].ren fore) := by simp [hi]
            rw [hu1 _ _ _ hgi hLi] at hc
            cases hc
            refine ⟨_, L[N.idxOf o], hi, ?_, List.getElem?_eq_getElem hi, rfl⟩
            have := hforeg _ hi
            rw [hgi] at this
            exact (Option.some.inj this).symm
          have hle : ∀ o, (s.get (okey o)).isSome = true → ObjLe κ s κ2 (s.upd U) o := fun o ho => by
            by_cases hoN : o ∈ N
            · have hw : o ∈ wr := by
                rcases (hinN o).1 hoN with h1 | h1
                · exact h1
                · rw [hnew o h1] at ho; cases ho
              have hi := List.idxOf_lt_length_of_mem hw
              have hNi : N[wr.idxOf o]? = some o := by rw [hNw _ hi]; exact get_idx hw
              have hidx := idx_get hNnd hNi
              have hole' := hole (wr.idxOf o) (by rw [List.length_map, hlen]; exact hi)
              have hκ2 : κ2 o = κ' (wr.idxOf o) := by simp only [κ2, if_pos hoN, hidx]
              have hκo : κc (wr.idxOf o) = κ o := by rw [← hb]; exact hκc o hw
              obtain ⟨c, hc, hc2⟩ := hwget o hw
              have hLi : wr.idxOf o < L.length := by rw [hLlen, ← hN, List.length_append]; omega
              have hsc : (ost 0 (objs.map (C.ren back))).get (okey (wr.idxOf o)) = some (c.ren back) := by rw [ost_get0, List.getElem?_map, hc2]; rfl
              have hs1 : (ost 0 L).get (okey (wr.idxOf o)) = some L[wr.idxOf o] := by rw [ost_get0, List.getElem?_eq_getElem hLi]
              have hsu : (s.upd U).get (okey o) = some (L[wr.idxOf o].ren fore) := hu1 _ _ _ hNi (by simp [hLi])
              constructor
              · intro n t ys hys
                rw [hsu] at hys
                have hv : L[wr.idxOf o] = .vec n t ys := by
                  cases hLc : L[wr.idxOf o] <;> rw [hLc] at hys <;> simp only [C.ren, Option.some.injEq, reduceCtorEq] at hys
                  exact hys
                rw [hv] at hs1
                obtain ⟨xs, hxs, hl, hkk⟩ := hole'.vec n t ys hs1
                rw [hsc] at hxs
                have hcv : c = .vec n t xs := by
                  cases hcc : c <;> rw [hcc] at hxs <;> simp only [C.ren, Option.some.injEq, reduceCtorEq] at hxs
                  exact hxs
                exact ⟨xs, by rw [hc, hcv], hl, by rw [hκ2, hkk, hκo]⟩
              · intro c' hc' hd
                rw [hsu] at hc'
                cases hc'
                have hd' : L[wr.idxOf o] ≠ .dead := fun e => hd (by rw [e]; rfl)
                obtain ⟨c2, hc2', hd2, hkk⟩ := hole'.any _ hs1 hd'
                rw [hsc] at hc2'
                cases hc2'
                exact ⟨c, hc, fun e => hd2 (by rw [e]; rfl), by rw [hκ2, hkk, hκo]⟩
            · exact .of_eq (hu2 _ (fun o' ho' e => hoN (by rw [okey_inj e]; exact ho'))) (by simp only [κ2, if_neg hoN])
          have hout : ∀ o, o ∉ N → (s.upd U).get (okey o) = s.get (okey o) := fun o ho => hu2 _ (fun o' ho' e => ho (by rw [okey_inj e]; exact ho'))
          have hmay_of : ∀ b, mayOf (objs.map (C.ren back)) κc b → ∃ o c p q, o ∈ wr ∧ s.get (okey o) = some c ∧ c.isObj = true ∧ κ o = some (b, p, q) := fun b => by
            rintro ⟨i, c, p, q, hc, hobj, hκb⟩
            obtain ⟨o, c0, h1, h2, h3, rfl, h5, h6⟩ := hi_of hc
            exact ⟨o, c0, p, q, List.mem_of_getElem? h1, h2, h5, by rw [← hκi i o h1]; exact hκb⟩
          have hblk : ∀ (i : Nat) (c : C) (b p q : Nat), L[i]? = some c → c.isObj = true → κ' i = some (b, p, q) → w.heap.size ≤ b ∨ ∃ o c p q, o ∈ wr ∧ s.get (okey o) = some c ∧ c.isObj = true ∧ κ o = some (b, p, q) := fun i c b p q hc hobj hκb => by
            have := (hI1.free i c b p q (by rw [ost_get0]; exact hc) hobj hκb).2
            exact this.imp id (hmay_of b)
          have hI2 : Inv n f F' κ2 (s.upd U) a w' := by
            constructor
            · exact hI.tmps
            · exact hI.defers
            · exact hI1.frozen
            · intro k c hk hk'
              rw [hu2 k (hnotN k hk')] at hk
              exact RepL.mono hF _ _ (fun o ho => hle o (hI.closed k c hk o ho)) (hI.slots k c hk hk')
            · intro o c hc
              by_cases hoN : o ∈ N
              · obtain ⟨i, c0, hi, rfl, hL0, rfl⟩ := hobjs_of o c hc hoN
                have hs1 : (ost 0 L).get (okey i) = some c0 := by rw [ost_get0, hL0]
                refine RepO.ren (s' := s.upd U) (κ' := κ2) (ρ := fore) (o := i) (hfrom i hi).1 (fun o' ho' => ?_) (hI1.objs i c0 hs1)
                have := hI1.closed _ _ hs1 o' ho'
                rw [ost_get0] at this
                refine hfrom o' ?_
                rcases Nat.lt_or_ge o' L.length with h1 | h1
                · exact h1
                · rw [List.getElem?_eq_none h1] at this; cases this
              · rw [hout o hoN] at hc
                by_cases hobj : c.isObj = true
                · refine RepO.mono hF (by simp only [κ2, if_neg hoN]) (fun o' ho' => hle o' (hI.closed _ _ hc o' ho')) (fun b p q hκb => ?_) (hI.objs o c hc)
                  refine hI1.kept.same b (RepO.lt hI hc hobj hκb) (fun hm => ?_)
                  obtain ⟨o2, c2, p2, q2, h1, h2, h3, h4⟩ := hmay_of b hm
                  have := hI.apart o c b p q o2 c2 p2 q2 hc hobj hκb h2 h3 h4
                  subst this
                  exact hoN ((hinN o).2 (.inl h1))
                · cases c <;> first | trivial | exact absurd rfl hobj
            · intro o c b p q hc hobj hκb
              by_cases hoN : o ∈ N
              · obtain ⟨i, c0, hi, rfl, hL0, rfl⟩ := hobjs_of o c hc hoN
                rw [(hfrom i hi).1] at hκb
                rw [ren_isObj] at hobj
                have h1 := hI1.free i c0 b p q (by rw [ost_get0]; exact hL0) hobj hκb
                refine ⟨h1.1, ?_⟩
                rcases hblk i c0 b p q hL0 hobj hκb with h2 | ⟨o2, c2, p2, q2, h2, h3, h4, h5⟩
                · exact .inl (Nat.le_trans hI.kept.size h2)
                · exact (hI.free o2 c2 b p2 q2 h3 h4 h5).2
              · rw [hout o hoN] at hc
                simp only [κ2, if_neg hoN] at hκb
                have h1 := hI.free o c b p q hc hobj hκb
                refine ⟨?_, h1.2⟩
                cases hFb : F' b with
                | none => rfl
                | some ob =>
                  rcases hI1.grown b ob hFb with h2 | h2 | h2
                  · have h2' : F b = some ob := h2
                    rw [h1.1] at h2'; cases h2'
                  · have := RepO.lt hI hc hobj hκb
                    simp only at h2
                    omega
                  · obtain ⟨o2, c2, p2, q2, h3, h4, h5, h6⟩ := hmay_of b h2
                    have := hI.apart o c b p q o2 c2 p2 q2 hc hobj hκb h4 h5 h6
                    subst this
                    exact absurd ((hinN o).2 (.inl h3)) hoN
            · intro o1 c1 b p q o2 c2 p' q' h1 i1 k1 h2 i2 k2
              have mixed : ∀ (o : Nat) (c : C) (p q i : Nat) (c0 : C) (p' q' : Nat), o ∉ N → s.get (okey o) = some c → c.isObj = true → κ o = some (b, p, q) → L[i]? = some c0 → c0.isObj = true → κ' i = some (b, p', q') → False := by
                intro o c p q i c0 p' q' hoN hc hobj hκb hL0 hobj0 hκi'
                rcases hblk i c0 b p' q' hL0 hobj0 hκi' with h3 | ⟨o3, c3, p3, q3, h3, h4, h5, h6⟩
                · have := RepO.lt hI hc hobj hκb
                  omega
                · have := hI.apart o c b p q o3 c3 p3 q3 hc hobj hκb h4 h5 h6
                  subst this
                  exact hoN ((hinN o).2 (.inl h3))
              by_cases hN1 : o1 ∈ N
              · obtain ⟨j1, d1, hj1, rfl, hL1, rfl⟩ := hobjs_of o1 c1 h1 hN1
                rw [(hfrom j1 hj1).1] at k1
                rw [ren_isObj] at i1
                by_cases hN2 : o2 ∈ N
                · obtain ⟨j2, d2, hj2, rfl, hL2, rfl⟩ := hobjs_of o2 c2 h2 hN2
                  rw [(hfrom j2 hj2).1] at k2
                  rw [ren_isObj] at i2
                  have := hI1.apart j1 d1 b p q j2 d2 p' q' (by rw [ost_get0]; exact hL1) i1 k1 (by rw [ost_get0]; exact hL2) i2 k2
                  rw [this]
                · rw [hout o2 hN2] at h2
                  simp only [κ2, if_neg hN2] at k2
                  exact (mixed o2 c2 p' q' j1 d1 p q hN2 h2 i2 k2 hL1 i1 k1).elim
              · rw [hout o1 hN1] at h1
                simp only [κ2, if_neg hN1] at k1
                by_cases hN2 : o2 ∈ N
                · obtain ⟨j2, d2, hj2, rfl, hL2, rfl⟩ := hobjs_of o2 c2 h2 hN2
                  rw [(hfrom j2 hj2).1] at k2
                  rw [ren_isObj] at i2
                  exact (mixed o1 c1 p q j2 d2 p' q' hN1 h1 i1 k1 hL2 i2 k2).elim
                · rw [hout o2 hN2] at h2
                  simp only [κ2, if_neg hN2] at k2
                  exact hI.apart o1 c1 b p q o2 c2 p' q' h1 i1 k1 h2 i2 k2
            · intro k c hk o ho
              have old : (s.get (okey o)).isSome = true → ((s.upd U).get (okey o)).isSome = true := fun hs => by
                by_cases hoN : o ∈ N
                · have hgi := get_idx hoN
                  have hi : N.idxOf o < L.length := by rw [hLlen]; exact List.idxOf_lt_length_of_mem hoN
                  rw [hu1 _ _ (L[N.idxOf o].ren fore) hgi (by simp [hi])]
                  rfl
                · rw [hout o hoN]; exact hs
              by_cases hkN : ∃ o' ∈ N, k = okey o'
              · obtain ⟨o', ho', rfl⟩ := hkN
                obtain ⟨i, c0, hi, hfi, hL0, rfl⟩ := hobjs_of o' c hk ho'
                rw [ren_refs] at ho
                obtain ⟨i2, hi2, rfl⟩ := List.mem_map.1 ho
                have := hI1.closed (okey i) c0 (by rw [ost_get0]; exact hL0) i2 hi2
                rw [ost_get0] at this
                have hi2' : i2 < L.length := by
                  rcases Nat.lt_or_ge i2 L.length with h1 | h1
                  · exact h1
                  · rw [List.getElem?_eq_none h1] at this; cases this
                rw [hu1 i2 _ (L[i2].ren fore) (hforeg i2 hi2') (by simp [hi2'])]
                rfl
              · rw [hu2 k (fun o' ho' e => hkN ⟨o', ho', e⟩)] at hk
                exact old (hI.closed k c hk o ho)
            · constructor
              · exact Nat.le_trans hI.kept.size hI1.kept.size
              · intro b hb1 hb2
                rw [hI1.kept.same b (Nat.lt_of_lt_of_le hb1 hI.kept.size) (fun hm => ?_), hI.kept.same b hb1 hb2]
                obtain ⟨o2, c2, p2, q2, h3, h4, h5, h6⟩ := hmay_of b hm
                rcases (hI.free o2 c2 b p2 q2 h4 h5 h6).2 with h7 | h7
                · omega
                · exact hb2 h7
              · exact ⟨hI1.kept.rest.1.trans hI.kept.rest.1, hI1.kept.rest.2.trans hI.kept.rest.2⟩
            · intro b ob hFb
              rcases hI1.grown b ob hFb with h2 | h2 | h2
              · exact hI.grown b ob h2
              · exact .inr (.inl (Nat.le_trans hI.kept.size h2))
              · obtain ⟨o2, c2, p2, q2, h3, h4, h5, h6⟩ := hmay_of b h2
                exact .inr (hI.free o2 c2 b p2 q2 h4 h5 h6).2
          refine hK F' κ2 v w' (out.res.ren fore) U hF ?_ hI2 (RepL.ren _ _ (fun i hi => hfrom i (hresr i hi)) hres) (fun o ho => ?_) ?_
          · rw [hu, ← hU, hL]
            simp only [fore, ← hN]
          · rw [ren_refs] at ho
            obtain ⟨i2, hi2, rfl⟩ := List.mem_map.1 ho
            have hi2' := hresr i2 hi2
            rw [hu1 i2 _ (L[i2].ren fore) (hforeg i2 hi2') (by simp [hi2'])]
            rfl
          · simp only [fore, ← hN]

theorem callR_sound {fid : Nat} (hok : FnOK P Γ.glob fid (Γ.fn fid)) (hI : Inv n f F κ s a w) (hG : GlobOK Γ F) (hg : ∀ k c, g k = some c → s.get k = some c) {h : OH} (hnew : ∀ m ∈ h.new, s.get (okey m) = none) (hnd : h.new.Nodup)
    {args : C} {vals : List Value} {dst : Option Nat} {r : Res} {u : St} (hargs : RepL F κ s args vals) (hr : callR Γ h fid args g dst = some r) (hu : r.run = some u) {K : Value → World → Prop}
    (hK : ∀ F' κ' v w' c uo, F.le F' → u = uo ++ Out1 dst c → Inv n f F' κ' (s.upd uo) a w' → RepC F' κ' (s.upd uo) c v → (∀ o ∈ c.refs, ((s.upd uo).get (okey o)).isSome = true) → K v w') :
    Calls P fid vals.toArray w fun e w' => ∃ v, e = .returned v ∧ K v w' := by
  unfold callR at hr
  split at hr
  · cases hr
  · rename_i objs hobjs
    simp only at hr
    split at hr
    · rename_i hchk
      simp only [Bool.and_eq_true, List.all_eq_true, decide_eq_true_eq, List.contains_eq_mem] at hchk
      obtain ⟨⟨hrefs, hoall⟩, hwnd⟩ := hchk
      split at hr
      · cases hr
      · rename_i α k m r0 hsem
        split at hr
        · rename_i hk
          cases hr
          obtain ⟨x, hx, rfl⟩ := Res.run_bind hu
          exact call_core (fun _ _ h h' => Calls.mono h' h) hI hg hnew hnd hobjs hrefs hoall hwnd hargs hk (fun κ' h1 h2 h3 => hok.one _ _ α k m r0 x hsem hx F κ' w vals (fun i p hp => hG i p hp) h1 h2 h3) rfl (fun F' κ' v w' c uo h1 h2 h3 h4 h5 _ => hK F' κ' v w' c uo h1 h2 h3 h4 h5)
        · cases hr
      · cases hr
      · cases hr
    · cases hr
theorem callP_sound {fid : Nat} (hok : FnOK P Γ.glob fid (Γ.fn fid)) (hI : Inv n f F κ s a w) (hG : GlobOK Γ F) (hg : ∀ k c, g k = some c → s.get k = some c) {h : OH} (hnew : ∀ m ∈ h.new, s.get (okey m) = none) (hnd : h.new.Nodup)
    {args : C} {vals : List Value} {dst : Option Nat} {r : Rs} (hargs : RepL F κ s args vals) (hr : callP Γ h fid args g dst = some r) {K : Value → World → Prop} :
    (∀ u, r.run = some u → (∀ F' κ' v w' c uo, F.le F' → u = uo ++ Out1 dst c → Inv n f F' κ' (s.upd uo) a w' → RepC F' κ' (s.upd uo) c v → (∀ o ∈ c.refs, ((s.upd uo).get (okey o)).isSome = true) → K v w') →
      Calls P fid vals.toArray w fun e w' => ∃ v, e = .returned v ∧ K v w') ∧
    ∀ T u t p, r.fall = some (T, u, ⟨t, p⟩) → (∀ F' κ' v w', F.le F' → Inv n f F' κ' (s.upd u) a w' → RepC F' κ' (s.upd u) (.val t p) v → K v w') → Calls P fid vals.toArray w fun e w' => ∃ v, e = fallen T v ∧ K v w' := by
  unfold callP at hr
  split at hr
  · cases hr
  · rename_i objs hobjs
    simp only at hr
    split at hr
    · rename_i hchk
      simp only [Bool.and_eq_true, List.all_eq_true, decide_eq_true_eq, List.contains_eq_mem] at hchk
      obtain ⟨⟨hrefs, hoall⟩, hwnd⟩ := hchk
      split at hr
      · rename_i α t0 k T0 m r0 hsem
        split at hr
        · rename_i hk
          cases hr
          have h2 := hok.two _ _ α t0 k T0 m r0 hsem
          constructor
          · intro u hu hK
            cases m with
            | none => cases hu
            | some y => cases y with
              | inr p => cases hu
              | inl x =>
                cases hu
                exact call_core (fun _ _ h h' => Calls.mono h' h) hI hg hnew hnd hobjs hrefs hoall hwnd hargs hk (fun κ' g1 g2 g3 => h2.1 x rfl F κ' w vals (fun i p hp => hG i p hp) g1 g2 g3) rfl (fun F' κ' v w' c uo h1 h2 h3 h4 h5 _ => hK F' κ' v w' c uo h1 h2 h3 h4 h5)
          · intro T u t p hu hK
            cases m with
            | none => cases hu
            | some y => cases y with
              | inl x => cases hu
              | inr p' =>
                cases hu
                refine call_core (fun _ _ h h' => Calls.mono h' h) (new := []) (dst := none) hI hg (fun m hm => by cases hm) List.nodup_nil hobjs hrefs hoall hwnd hargs (k := 0) rfl (fun κ' g1 g2 g3 => h2.2 _ rfl F κ' w vals (fun i p hp => hG i p hp) g1 g2 g3) rfl (fun F' κ' v w' c uo hF hu hI' hv hc hcc => ?_)
                have e : (((outP (objs.map (C.ren fun o => h.wr.idxOf o)) t0 p').objs ++ (outP (objs.map (C.ren fun o => h.wr.idxOf o)) t0 p').news).zip (h.wr ++ [])).map (fun q => (okey q.2, q.1.ren fun i => (h.wr ++ []).getD i 0)) = h.wr.map fun o => (okey o, C.dead) := by
                  have hl := (mapM_get hobjs).1
                  simp only [outP, List.append_nil, List.map_map]
                  exact dead_zip h.wr objs hl.symm
                rw [e] at hu
                simp only [Out1, List.append_nil] at hu
                subst hu
                subst hcc
                exact hK F' κ' v w' hF hI' hv
        · cases hr
      · rename_i α β k m r0 r1 hsem
        split at hr
        · rename_i hk
          cases hr
          have h2 := hok.three _ _ α β k m r0 r1 hsem
          refine ⟨fun u hu hK => ?_, fun T u t p hu => by cases hu⟩
          cases m with
          | none => cases hu
          | some y => cases y with
            | inl x =>
              cases hu
              exact call_core (fun _ _ h h' => Calls.mono h' h) hI hg hnew hnd hobjs hrefs hoall hwnd hargs hk (fun κ' g1 g2 g3 => h2.1 x rfl F κ' w vals (fun i p hp => hG i p hp) g1 g2 g3) rfl (fun F' κ' v w' c uo h1 h2 h3 h4 h5 _ => hK F' κ' v w' c uo h1 h2 h3 h4 h5)
            | inr x =>
              cases hu
              exact call_core (fun _ _ h h' => Calls.mono h' h) hI hg hnew hnd hobjs hrefs hoall hwnd hargs hk (fun κ' g1 g2 g3 => h2.2 x rfl F κ' w vals (fun i p hp => hG i p hp) g1 g2 g3) rfl (fun F' κ' v w' c uo h1 h2 h3 h4 h5 _ => hK F' κ' v w' c uo h1 h2 h3 h4 h5)
        · cases hr
      · cases hr
    · cases hr

theorem rep_own' {F : Froz} {κ : Conc} {s : St} {o : Nat} {v : Value} : RepC F κ s (.own o) v ↔ ∀ n t xs, s.get (okey o) = some (.vec n t xs) → SlAt (κ o) xs.length v := by
  simp [RepL]
theorem GlobOK.mono' {Γ : Ctx} {F F' : Froz} (hF : F.le F') (h : GlobOK Γ F) : GlobOK Γ F' := h.mono hF
theorem solid_rep {F F' : Froz} : ∀ {t : Ty} {x : t.den} {cs : List Value}, t.solid = true → RepT F t x cs → RepT F' t x cs
  | .int _, _, _, _, h => h
  | .bool, _, _, _, h => h
  | .str, _, _, _, h => h
  | .unit, _, _, _, h => h
  | .pair a b, x, cs, hf, h => by
    simp only [Ty.solid, Bool.and_eq_true] at hf
    simp only [RepT] at h ⊢
    obtain ⟨c1, c2, e, h1, h2⟩ := h
    exact ⟨c1, c2, e, solid_rep hf.1 h1, solid_rep hf.2 h2⟩
theorem world_le (hI : Inv n f F κ s a w) : F.le (fun b => w.heap[b]?) := fun b o h => hI.frozen b o h
theorem ownD_sound (hI : Inv n f F κ s a w) (hg : ∀ k c, g k = some c → s.get k = some c) : ∀ (c : C) {cs : List Value}, RepX F κ s c cs → RepX (fun b => w.heap[b]?) κ s (ownD g c) cs
  | .cons a b, cs, h => by
    simp only [RepX] at h
    obtain ⟨c1, c2, rfl, h1, h2⟩ := h
    simp only [ownD, RepX]
    refine ⟨c1, c2, rfl, ?_, ownD_sound hI hg b h2⟩
    have mono : ∀ d, RepX F κ s d c1 → RepX (fun b => w.heap[b]?) κ s d c1 := fun d hd => RepX.mono (world_le hI) _ _ (fun _ _ => .of_eq rfl rfl) hd
    split
    · rename_i i
      split
      · rename_i e xs hgi
        have hs := hg _ _ hgi
        simp only [RepX] at h1 ⊢
        obtain ⟨h1, hl⟩ := h1
        obtain ⟨v, rfl⟩ := List.length_eq_one_iff.1 hl
        have hv := rep_own'.1 h1 _ _ _ hs
        have ho := hI.objs i _ hs
        simp only [RepO] at ho
        obtain ⟨_, ho⟩ := ho
        simp only [RepT]
        cases hk : κ i with
        | none =>
          rw [hk] at hv ho
          subst ho
          obtain ⟨ad, rfl⟩ := hv
          exact ⟨ad, 0, rfl, Nat.le_refl _, .inl rfl⟩
        | some q =>
          obtain ⟨b', p, q⟩ := q
          rw [hk] at hv ho
          simp only [SlAt] at hv
          subst hv
          obtain ⟨c, T, fr, hb, _, hq, _, hel⟩ := ho
          exact ⟨_, _, rfl, hq.1, .inr ⟨b', p, c, T, fr, rfl, hb, fun j hj => (hel j hj).mono (world_le hI)⟩⟩
      · exact mono _ h1
    · exact mono _ h1
  | .unit, cs, h => by simpa only [ownD, RepX] using h
  | .val t x, cs, h => by
    simp only [ownD]
    exact RepX.mono (world_le hI) _ _ (fun _ _ => .of_eq rfl rfl) h
  | .ptr .., cs, h | .nil, cs, h | .dead, cs, h | .own _, cs, h | .eptr .., cs, h | .aptr .., cs, h | .adr .., cs, h | .brow _, cs, h | .may .., cs, h | .fptr .., cs, h | .fn .., cs, h | .tup _, cs, h | .agg _, cs, h | .rsl .., cs, h | .vec .., cs, h | .rcd _, cs, h => by
    simp only [ownD]
    exact RepX.mono (world_le hI) _ _ (fun _ _ => .of_eq rfl rfl) h
theorem lendArg_sound (hI : Inv n f F κ s a w) (hg : ∀ k c, g k = some c → s.get k = some c) {lend : List (Nat × Nat)} : ∀ (c : C) {c' : C} {vs : List Value}, RepL F κ s c vs → lendArg Γ lend g c = some c' →
    RepL (fun b => w.heap[b]?) (fun _ => none) [] c' vs ∧ c'.refs = []
  | .cons a b, c', vs, h, hl => by
    simp only [RepL] at h
    obtain ⟨v, r, rfl, h1, h2⟩ := h
    cases a with
    | val t x =>
      simp only [lendArg] at hl
      simp only [Option.map_eq_some_iff] at hl
      obtain ⟨b', hb, rfl⟩ := hl
      obtain ⟨i1, i2⟩ := lendArg_sound hI hg b h2 hb
      simp only [RepL, List.cons.injEq, and_true] at h1
      obtain ⟨v', rfl, cs, hcs, hv⟩ := h1
      refine ⟨?_, by simp [C.refs, i2]⟩
      simp only [RepL]
      exact ⟨v, r, rfl, ⟨v, rfl, cs, hcs.mono (world_le hI), hv⟩, i1⟩
    | ptr o off =>
      cases off with
      | succ _ => simp [lendArg] at hl
      | zero =>
        simp only [lendArg] at hl
        split at hl
        · rename_i T c hT hgo
          split at hl
          · rename_i t ht
            split at hl
            · rename_i x hx
              simp only [Option.map_eq_some_iff] at hl
              obtain ⟨b', hb, rfl⟩ := hl
              obtain ⟨i1, i2⟩ := lendArg_sound hI hg b h2 hb
              have hs := hg _ _ hgo
              simp only [RepL, List.cons.injEq, and_true] at h1
              obtain ⟨v', rfl, hv⟩ := h1
              obtain ⟨bb, p, q, hk, rfl⟩ := hv _ hs (by simp)
              have ho := hI.objs o _ hs
              simp only [RepO] at ho
              obtain ⟨b1, cells, T', fr, hk', hb1, _, hX, _⟩ := ho
              rw [hk] at hk'
              cases hk'
              have hX1 := ownD_sound hI hg c hX
              obtain ⟨g1, g2⟩ := gather_sound t _ hX1 hx
              simp only [RepX] at g2
              refine ⟨?_, by simp [C.refs, i2]⟩
              simp only [RepL]
              exact ⟨_, r, rfl, ⟨_, rfl, bb, 0, cells, T', fr, hb1, rfl, by simpa using g1⟩, i1⟩
            · cases hl
          · cases hl
        · cases hl
    | _ => simp [lendArg] at hl
  | .unit, c', vs, h, hl => by
    simp only [lendArg, Option.some.injEq] at hl
    subst hl
    simp only [RepL] at h ⊢
    exact ⟨h, rfl⟩
  | .val .., c', vs, h, hl | .ptr .., c', vs, h, hl | .nil, c', vs, h, hl | .dead, c', vs, h, hl | .own _, c', vs, h, hl | .eptr .., c', vs, h, hl | .aptr .., c', vs, h, hl | .adr .., c', vs, h, hl | .brow _, c', vs, h, hl | .may .., c', vs, h, hl | .fptr .., c', vs, h, hl | .fn .., c', vs, h, hl | .tup _, c', vs, h, hl | .agg _, c', vs, h, hl | .rsl .., c', vs, h, hl | .vec .., c', vs, h, hl | .rcd _, c', vs, h, hl => by simp [lendArg] at hl

theorem callL_sound {fid : Nat} (hok : FnOK P Γ.glob fid (Γ.fn fid)) (hI : Inv n f F κ s a w) (hG : GlobOK Γ F) (hg : ∀ k c, g k = some c → s.get k = some c) {h : OH} (hnew : ∀ m ∈ h.new, s.get (okey m) = none)
    {args : C} {vals : List Value} {T : TypeId} {dst : Option Nat} {r : Res} {u : St} (hargs : RepL F κ s args vals) (hr : callL Γ h fid T args g dst = some r) (hu : r.run = some u) {K : Value → World → Prop}
    (hK : ∀ F' κ' v w' c uo, F.le F' → u = uo ++ Out1 dst c → Inv n f F' κ' (s.upd uo) a w' → RepC F' κ' (s.upd uo) c v → (∀ o ∈ c.refs, ((s.upd uo).get (okey o)).isSome = true) → K v w') :
    Calls P fid vals.toArray w fun e w' => ∃ v, e = .returned v ∧ K v w' := by
  unfold callL at hr
  split at hr
  rotate_left
  · cases hr
  rename_i args' e m0 hargs' hT hnw
  split at hr
  rotate_left
  · cases hr
  rename_i hflat
  split at hr
  rotate_left
  · cases hr
  rename_i α k m r0 hsem
  split at hr
  rotate_left
  · cases hr
  rename_i hk
  subst hk
  cases hr
  obtain ⟨ys, hys, rfl⟩ := Res.run_bind hu
  simp only [Option.bind_eq_some_iff] at hys
  obtain ⟨x, hx, hout⟩ := hys
  obtain ⟨hrep, hrefs⟩ := lendArg_sound hI hg args hargs hargs'
  have hIc : Inv 0 ⟨w, mayOf [] (fun _ => none), fun b => w.heap[b]?, []⟩ (fun b => w.heap[b]?) (fun _ => none) (ost 0 []) act0 w := by
    constructor
    · rfl
    · rfl
    · intro b o h; exact h
    · intro k c h; simp [ost, St.get] at h
    · intro o c h; simp [ost, St.get] at h
    · intro o c b p q h; simp [ost, St.get] at h
    · intro o c b p q o' c' p' q' h; simp [ost, St.get] at h
    · intro k c h; simp [ost, St.get] at h
    · exact ⟨Nat.le_refl _, fun _ _ _ => rfl, rfl, rfl⟩
    · intro b o h; exact .inl h
  refine (hok.one args' [] α 1 m r0 x hsem hx _ (fun _ => none) w vals (GlobOK.mono' (world_le hI) hG) hIc hrep (by simp [hrefs])).mono ?_
  rintro e' w' ⟨v, F', κ', rfl, hF', hI', hv, _⟩
  refine ⟨v, rfl, ?_⟩
  unfold lentOut at hout
  split at hout
  rotate_left
  · cases hout
  rename_i e'' ys' hres hobjs hnews
  split at hout
  rotate_left
  · cases hout
  rename_i he
  subst he
  cases hout
  rw [hobjs, hnews] at hI' hv
  rw [hres] at hv
  have hno : s.get (okey m0) = none := hnew m0 (by rw [hnw]; simp)
  have hsame : ∀ b, b < w.heap.size → w'.heap[b]? = w.heap[b]? := fun b hb => hI'.kept.same b hb (by rintro ⟨i, c, p, q, h, _⟩; simp at h)
  have hI2 := hI.more (w' := w') ⟨hI'.kept.size, fun b' _ hb => hsame b' hb, hI'.kept.rest⟩
  have hget0 : (ost 0 ([] ++ [C.vec none e'' ys'])).get (okey 0) = some (.vec none e'' ys') := by rw [ost_get0]; rfl
  have ho := hI'.objs 0 _ hget0
  have hfresh : ∀ b p q, κ' 0 = some (b, p, q) → w.heap.size ≤ b := fun b p q hb => by
    have h1 := (hI'.free 0 _ b p q hget0 rfl hb).1
    rcases Nat.lt_or_ge b w.heap.size with h2 | h2
    · have := hF' b _ (show (fun b => w.heap[b]?) b = some w.heap[b] from Array.getElem?_eq_getElem h2)
      rw [h1] at this; cases this
    · exact h2
  have hFn : ∀ b, w.heap.size ≤ b → F b = none := fun b hb => by
    cases hFb : F b with
    | none => rfl
    | some o =>
      have := (Array.getElem?_eq_some_iff.1 (hI.frozen b o hFb)).1
      omega
  have hI3 := hI2.obj (o := m0) (c := .vec none e'' ys') (pl := κ' 0) (w' := w') hno (by simp [C.refs]) (by
    split
    · rfl
    · rename_i b p q hb
      have hb' := hfresh b p q hb
      refine ⟨⟨Nat.le_refl _, fun _ _ _ => rfl, rfl, rfl⟩, hFn b hb', .inl (Nat.le_trans hI.kept.size hb'), fun o' c' p' q' h1 h2 h3 => ?_⟩
      have := RepO.lt hI h1 h2 h3
      omega) (fun κ2 s2 _ hκ2 _ => by
    simp only [RepO, hκ2] at ho ⊢
    refine ⟨fun _ h => (by cases h), ?_⟩
    have ho2 := ho.2
    cases hk : κ' 0 with
    | none => rw [hk] at ho2; exact ho2
    | some q =>
      obtain ⟨b, p, q⟩ := q
      rw [hk] at ho2
      obtain ⟨c, T', fr, g1, g2, g3, g4, g5⟩ := ho2
      exact ⟨c, T', fr, g1, g2, g3, g4, fun i hi => solid_rep hflat (g5 i hi)⟩)
  refine hK F _ v w' (.own m0) [(okey m0, .vec none e'' ys')] (Froz.le_refl F) rfl hI3 (rep_own'.2 ?_) (by simp [C.refs, St.upd, St.get_set])
  intro n2 t2 xs2 h2
  simp only [St.upd, St.get_set, if_true, Option.some.injEq, C.vec.injEq] at h2
  obtain ⟨_, rfl, h2⟩ := h2
  cases h2
  simp only [if_true]
  exact rep_own'.1 hv _ _ _ hget0
end
end Go.Fe
