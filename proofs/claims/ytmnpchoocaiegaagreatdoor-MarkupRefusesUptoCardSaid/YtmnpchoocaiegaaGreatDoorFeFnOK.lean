/- A function's contract. -/
import Derived.Test.YtmnpchoocaiegaaGreatDoorFeFn
namespace Go.Fe
open Go

def resSem (tmps : Array Value) : ResultVar → Sem Value
  | .tmp t => pure (tmps.getD t undef)
  | .cell a t => do loadVar t (← asAddr (tmps.getD a undef))

def resV : List Value → Value
  | [v] => v
  | l => .tuple l.toArray

section
variable {Γ : Ctx} {P : Program} {n : Nat} {f : Frame0} {F : Froz} {κ : Conc} {s : St} {a : Act} {w : World}

theorem loadAt_addr {T : TypeId} {v x : Value} (h : (Instr.loadAt T v).run P w = .ok x w) : (do loadVar T (← asAddr v) : Sem Value).run P w = .ok x w := by
  unfold Instr.loadAt Instr.sureAddr at h
  split at h
  · exact h
  · simp [Sem.run_bind] at h

theorem resList_run (hΓ : CtxT Γ P) (hI : Inv n f F κ s a w) : ∀ (rs : List ResultVar) {l : List C}, resList Γ s rs = some l → ∃ vs, (rs.mapM (resSem a.tmps)).run P w = .ok vs w ∧
    l.length = rs.length ∧ vs.length = rs.length ∧ ∀ (j : Nat) (c : C), l[j]? = some c → RepC F κ s c (vs.getD j undef) ∧ ∀ o ∈ c.refs, (s.get (okey o)).isSome = true
  | [], l, h => by
    simp only [resList, Option.some.injEq] at h
    subst h
    exact ⟨[], by simp, rfl, rfl, fun j c hc => by simp at hc⟩
  | .tmp t :: r, l, h => by
    simp only [resList] at h
    by_cases ht : t < 90000
    · rw [if_pos ht] at h
      split at h
      · rename_i c hc
        simp only [Option.map_eq_some_iff] at h
        obtain ⟨l', hl', rfl⟩ := h
        obtain ⟨vs, h0, h1, h3, h2⟩ := resList_run hΓ hI r hl'
        refine ⟨a.tmps.getD t undef :: vs, by simp only [List.mapM_cons, resSem, Sem.run_bind, Sem.run_pure, Result.andThen_ok, h0], by simp [h1], by simp [h3], fun j d hd => ?_⟩
        cases j with
        | zero =>
          simp only [List.getElem?_cons_zero, Option.some.injEq] at hd
          subst hd
          exact ⟨by simpa using hI.slots t _ hc (Nat.lt_trans ht (by decide)), hI.closed t _ hc⟩
        | succ j =>
          simp only [List.getElem?_cons_succ] at hd
          have := h2 j d hd
          exact ⟨by simpa using this.1, this.2⟩
      · cases h
    · rw [if_neg ht] at h; cases h
  | .cell t T :: r, l, h => by
    simp only [resList] at h
    by_cases ht : t < 90000
    · rw [if_pos ht] at h
      split at h
      · rename_i p hp
        split at h
        · rename_i k c hlo
          simp only [Option.map_eq_some_iff] at h
          obtain ⟨l', hl', rfl⟩ := h
          obtain ⟨vs, h0, h1, h3, h2⟩ := resList_run hΓ hI r hl'
          obtain ⟨v, c', hu, hrun, hrep, href⟩ := loadR_sound hΓ hI (fun _ _ h => h) (hI.slots t _ hp (Nat.lt_trans ht (by decide))) hlo rfl
          simp only [Out1, List.cons.injEq, Prod.mk.injEq, and_true] at hu
          obtain ⟨_, rfl⟩ := hu
          refine ⟨v :: vs, ?_, by simp [h1], by simp [h3], fun j d hd => ?_⟩
          · have := loadAt_addr hrun
            simp only [List.mapM_cons, resSem]
            rw [Sem.run_bind, this]
            simp only [Sem.run_bind, Sem.run_pure, Result.andThen_ok, h0]
          · cases j with
            | zero =>
              simp only [List.getElem?_cons_zero, Option.some.injEq] at hd
              subst hd
              exact ⟨by simpa using hrep, href⟩
            | succ j =>
              simp only [List.getElem?_cons_succ] at hd
              have := h2 j d hd
              exact ⟨by simpa using this.1, this.2⟩
        · cases h
      · cases h
    · rw [if_neg ht] at h; cases h

theorem results_run {fn : Func} {rs : List ResultVar} {vs : List Value} {tmps : Array Value} (hfn : fn.results = rs.toArray) (hl : (rs.mapM (resSem tmps)).run P w = .ok vs w) :
    (results fn tmps).run P w = .ok (resV vs) w := by
  have hdef : results fn tmps = (do
    let vs ← fn.results.mapM (resSem tmps)
    pure (if h : vs.size = 1 then vs[0] else .tuple vs)) := rfl
  rw [hdef, hfn, List.mapM_toArray]
  simp only [Sem.run_bind, map_eq_pure_bind, hl, Result.andThen_ok, Sem.run_pure]
  congr 1
  match vs with
  | [] => rfl
  | [v] => rfl
  | _ :: _ :: _ => rfl

/-- The same contents among other slots. -/
theorem Inv.reshape (hI : Inv n f F κ s a w) {n' : Nat} {s' : St} {a' : Act} (hn : a'.tmps.size = n') (hd : a'.defers = f.ds)
    (hs : ∀ k c, s'.get k = some c → k < 100000 → RepC F κ s c (a'.tmps.getD k undef) ∧ ∀ o ∈ c.refs, (s.get (okey o)).isSome = true)
    (ho : ∀ o, s'.get (okey o) = s.get (okey o) ∨ (s.get (okey o) = none ∧ s'.get (okey o) = some .dead)) : Inv n' f F κ s' a' w := by
  have hle : ∀ o, ObjLe κ s κ s' o := fun o => by
    rcases ho o with h | ⟨h1, h2⟩
    · exact .of_eq h rfl
    · constructor
      · intro n t ys h; rw [h2] at h; cases h
      · intro c h hc; rw [h2] at h; cases h; exact absurd rfl hc
  have hget : ∀ o c, s'.get (okey o) = some c → c.isObj = true → s.get (okey o) = some c := fun o c h hc => by
    rcases ho o with h1 | ⟨h1, h2⟩
    · rw [← h1]; exact h
    · rw [h2] at h; cases h; simp [C.isObj] at hc
  have hsome : ∀ o, (s.get (okey o)).isSome = true → (s'.get (okey o)).isSome = true := fun o h => by
    rcases ho o with h1 | ⟨h1, h2⟩
    · rw [h1]; exact h
    · rw [h2]; rfl
  constructor
  · exact hn
  · exact hd
  · exact hI.frozen
  · intro k c hk hk'; exact RepL.mono (Froz.le_refl F) _ _ (fun o _ => hle o) (hs k c hk hk').1
  · intro o c hc
    by_cases hobj : c.isObj = true
    · exact RepO.mono (Froz.le_refl F) rfl (fun o _ => hle o) (fun _ _ _ _ => rfl) (hI.objs o c (hget o c hc hobj))
    · cases c <;> first | trivial | exact absurd rfl hobj
  · intro o c b p q h1 h2 h3; exact hI.free o c b p q (hget o c h1 h2) h2 h3
  · intro o c b p q o' c' p' q' h1 h2 h3 h4 h5 h6; exact hI.apart o c b p q o' c' p' q' (hget o c h1 h2) h2 h3 (hget o' c' h4 h5) h5 h6
  · intro k c hk o hoo
    rcases Nat.lt_or_ge k 100000 with hlt | hge
    · exact hsome o ((hs k c hk hlt).2 o hoo)
    · obtain ⟨i, rfl⟩ : ∃ i, k = okey i := ⟨k - 100000, by unfold okey; omega⟩
      rcases ho i with h | ⟨h1, h2⟩
      · rw [h] at hk; exact hsome o (hI.closed _ c hk o hoo)
      · rw [h2] at hk; cases hk; simp [C.refs] at hoo
  · exact hI.kept
  · exact hI.grown

theorem listC_rep : ∀ (l : List C) (vs : List Value), l.length = vs.length → (∀ (j : Nat) (c : C), l[j]? = some c → RepC F κ s c (vs.getD j undef)) → RepL F κ s (listC l) vs
  | [], [], _, _ => by simp [listC, RepL]
  | [], _ :: _, h, _ => by simp at h
  | _ :: _, [], h, _ => by simp at h
  | c :: l, v :: vs, h, hr => by
    simp only [listC, RepL]
    exact ⟨v, vs, rfl, by simpa using hr 0 c rfl, listC_rep l vs (by simpa using h) (fun j d hd => by simpa using hr (j + 1) d (by simpa using hd))⟩

theorem listC_refs : ∀ (l : List C) (o : Nat), o ∈ (listC l).refs → ∃ c ∈ l, o ∈ c.refs
  | [], o, h => by simp [listC, C.refs] at h
  | c :: l, o, h => by
    simp only [listC, C.refs, List.mem_append] at h
    rcases h with h | h
    · exact ⟨c, List.mem_cons_self .., h⟩
    · obtain ⟨d, hd, ho⟩ := listC_refs l o h
      exact ⟨d, List.mem_cons_of_mem _ hd, ho⟩

theorem resC_rep (l : List C) (vs : List Value) (hl : l.length = vs.length) (hr : ∀ (j : Nat) (c : C), l[j]? = some c → RepC F κ s c (vs.getD j undef)) : RepC F κ s (resC l) (resV vs) := by
  have tup : ∀ (l : List C) (vs : List Value), l.length = vs.length → (∀ (j : Nat) (c : C), l[j]? = some c → RepC F κ s c (vs.getD j undef)) → RepC F κ s (.tup (listC l)) (.tuple vs.toArray) := fun l vs hl hr => by
    simp only [RepL]
    exact ⟨vs, rfl, listC_rep l vs hl hr⟩
  match l, vs, hl with
  | [], [], _ => exact tup [] [] rfl hr
  | [c], [v], _ => simpa [resC, resV] using hr 0 c rfl
  | _ :: _ :: _, _ :: _ :: _, h => exact tup _ _ h hr

theorem resC_refs (l : List C) (o : Nat) (h : o ∈ (resC l).refs) : ∃ c ∈ l, o ∈ c.refs := by
  have tup : ∀ l : List C, o ∈ (C.tup (listC l)).refs → ∃ c ∈ l, o ∈ c.refs := fun l h => listC_refs l o (by simpa only [C.refs] using h)
  match l, h with
  | [], h => exact tup [] h
  | [c], h => exact ⟨c, List.mem_cons_self .., h⟩
  | _ :: _ :: _, h => exact tup _ h

end
end Go.Fe
