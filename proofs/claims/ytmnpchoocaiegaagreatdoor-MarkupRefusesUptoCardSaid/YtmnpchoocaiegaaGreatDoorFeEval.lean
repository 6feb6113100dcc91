/- Code that the evaluator answers does what it says. -/
import Derived.Test.YtmnpchoocaiegaaGreatDoorFeDraw
import Derived.Test.YtmnpchoocaiegaaGreatDoorFePack
import Derived.LoopN
namespace Go.Fe
open Go

def Ex.toExit : Ex → Exit
  | .normal => .normal
  | .exit n => .exit n
  | .ret => .ret
  | .pan _ => .ret
def Ex.calm : Ex → Bool
  | .pan _ => false
  | _ => true

theorem get_append : ∀ (t u : St) (k : Nat), St.get (t ++ u) k = match St.get t k with
    | some c => some c
    | none => St.get u k
  | [], u, k => by simp [St.get]
  | (j, d) :: r, u, k => by
    simp only [List.cons_append, St.get]
    split
    · rfl
    · exact get_append r u k

theorem get_from : ∀ (s : St) {k : Nat} {c : C}, s.get k = some c → (k, c) ∈ s
  | [], k, c, h => by simp [St.get] at h
  | (j, d) :: r, k, c, h => by
    simp only [St.get] at h
    split at h
    · rename_i e; cases h; subst e; exact List.mem_cons_self ..
    · exact List.mem_cons_of_mem _ (get_from r h)

theorem keep_from {s : St} {W : List Nat} {σ : Shape} {k : Nat} {c : C} (h : (keep s W σ).get k = some c) :
    k < 100000 ∧ c.plain = true ∧ k ∉ W ∧ s.get k = some c := by
  have hm := get_from _ h
  unfold keep at hm
  obtain ⟨p, hp, hq⟩ := List.mem_filterMap.1 hm
  split at hq
  · rename_i d hd
    split at hq
    · rename_i hc
      cases hq
      simp only [Bool.and_eq_true, decide_eq_true_eq, Bool.not_eq_true', List.contains_eq_mem, decide_eq_false_iff_not] at hc
      exact ⟨hc.1.1.1, hc.1.1.2, hc.1.2, hd⟩
    · cases hq
  · cases hq

theorem plain_refs {c : C} (h : c.plain = true) : c.refs = [] := by
  cases c <;> first | rfl | cases h

section
variable {Γ : Ctx} {P : Program} {n : Nat} {f : Frame0} {F F' : Froz} {κ κ' : Conc} {s : St} {a a' : Act} {w w' : World}

theorem Inv.keep (hI : Inv n f F κ s a w) {t : St} (hI' : Inv n f F' κ' t a' w') (hF : F.le F') {W : List Nat} {σ : Shape}
    (hfr : ∀ k, k ∉ W → a'.tmps.getD k undef = a.tmps.getD k undef) : Inv n f F' κ' (t ++ Fe.keep s W σ) a' w' := by
  have hob : ∀ o, St.get (t ++ Fe.keep s W σ) (okey o) = t.get (okey o) := fun o => by
    rw [get_append]
    cases ht : t.get (okey o) with
    | some c => rfl
    | none =>
      simp only
      cases hk : (Fe.keep s W σ).get (okey o) with
      | none => rfl
      | some c => have := (keep_from hk).1; have := okey_ge o; omega
  have hle : ∀ o, ObjLe κ' t κ' (t ++ Fe.keep s W σ) o := fun o => .of_eq (hob o) rfl
  constructor
  · exact hI'.tmps
  · exact hI'.defers
  · exact hI'.frozen
  · intro k c hk hk'
    rw [get_append] at hk
    cases ht : t.get k with
    | some d =>
      rw [ht] at hk
      cases hk
      exact RepL.mono (Froz.le_refl F') _ _ (fun o _ => hle o) (hI'.slots k _ ht hk')
    | none =>
      rw [ht] at hk
      obtain ⟨h1, h2, h3, h4⟩ := keep_from hk
      rw [show a'.tmps.getD k undef = a.tmps.getD k undef from hfr k h3]
      exact RepL.mono hF _ _ (fun o ho => by rw [plain_refs h2] at ho; cases ho) (hI.slots k c h4 hk')
  · intro o c ho
    rw [hob] at ho
    exact RepO.mono (Froz.le_refl F') rfl (fun o _ => hle o) (fun _ _ _ _ => rfl) (hI'.objs o c ho)
  · intro o c b p q ho; rw [hob] at ho; exact hI'.free o c b p q ho
  · intro o c b p q o' c' p' q' ho h1 h2 ho'; rw [hob] at ho ho'; exact hI'.apart o c b p q o' c' p' q' ho h1 h2 ho'
  · intro k c hk o ho
    rw [hob]
    rw [get_append] at hk
    cases ht : t.get k with
    | some d => rw [ht] at hk; cases hk; exact hI'.closed k _ ht o ho
    | none => rw [ht] at hk; rw [plain_refs (keep_from hk).2.1] at ho; cases ho
  · exact hI'.kept
  · exact hI'.grown

theorem elim_sound {X : Type} {e : Ex} {s1 : St} {K : Shape → Ex → St → Option X} {x : X} : ∀ (es : Exits) {y : es.den}, Exits.pack es e s1 = some y → Exits.elim es y K = some x →
    ∃ (σ : Shape) (z : σ.den), σ.pack s1 = some z ∧ K σ e (σ.unpack z) = some x
  | [], y, _, _ => nomatch y
  | [(e', σ)], y, h, h' => by
    simp only [Exits.pack] at h
    split at h
    · rename_i he
      subst he
      exact ⟨σ, y, h, by simpa only [Exits.elim, elimK] using h'⟩
    · cases h
  | (e', σ) :: p :: r, y, h, h' => by
    simp only [Exits.pack] at h
    split at h
    · rename_i he
      subst he
      simp only [Option.map_eq_some_iff] at h
      obtain ⟨z, hz, rfl⟩ := h
      exact ⟨σ, z, hz, by simpa only [Exits.elim, elimK] using h'⟩
    · simp only [Option.map_eq_some_iff] at h
      obtain ⟨z, hz, rfl⟩ := h
      exact elim_sound (p :: r) hz (by simpa only [Exits.elim, elimK] using h')

theorem know_same {x : Operand} {b : Bool} (h : opnd Γ s.get x = some (.val .bool b)) : know s x b = s := by
  unfold know
  split
  · rename_i t
    simp only [opnd] at h
    split at h
    · exact set_same s h
    · cases h
  · rfl

theorem know_may (hI : Inv n f F κ s a w) {x : Operand} {p q b : Bool} (h : opnd Γ s.get x = some (.may p q)) (hv : a.eval x = .bool b) : Inv n f F κ (know s x b) a w := by
  unfold know
  split
  · rename_i t
    simp only [opnd] at h
    split at h
    · rename_i ht
      exact hI.reslot ht (rep_bool.2 hv) (by simp [C.refs])
    · cases h
  · exact hI

theorem agree_some {X : Type} {p q : Option X} {x : X} (h : agree p q = some x) : p = some x ∧ q = some x := by
  unfold agree at h
  split at h
  · rename_i e; exact ⟨h, by rw [← e]; exact h⟩
  · cases h

theorem dsts_region {id : Nat} {ops : Array Oper} {d : Bool} {t : Nat} (h : t ∉ dsts (.region id ops d)) (i : Nat) (o : Oper) (ho : ops[i]? = some o) : o.dst ≠ some t := by
  intro hd
  apply h
  simp only [dsts, List.mem_filterMap]
  exact ⟨o, by rw [Array.mem_toList_iff]; exact Array.mem_of_getElem? ho, hd⟩

/-- How many rounds of a loop a hint speaks of at most. -/
def HC.turns : HC → Nat
  | .loop .. => rounds
  | .again _ q => q.turns + 1
  | .cut _ p => p.turns
  | _ => 0

/-- Where code comes to: a way out, or a panic whose value stands at a slot of its own. -/
inductive Lands (n : Nat) (f : Frame0) (W : List Nat) (a : Act) : Ex → St → Froz → Act → World → Exit → Prop
  | go {e : Ex} {s' : St} {F' : Froz} {κ' : Conc} {a' : Act} {w' : World} : e.calm = true → Inv n f F' κ' s' a' w' → (∀ t, t ∉ W → a'.tmps.getD t undef = a.tmps.getD t undef) → Lands n f W a e s' F' a' w' e.toExit
  | fall {T : Nat} {s' : St} {F' : Froz} {κ' : Conc} {a' b : Act} {w' : World} {v : Value} : a'.defers = f.ds → Inv 100000 f F' κ' s' b w' → b.tmps.getD panKey undef = v →
      (∀ t, t < 100000 → t ≠ panKey → b.tmps.getD t undef = a'.tmps.getD t undef) → (∀ t, t ∉ W → a'.tmps.getD t undef = a.tmps.getD t undef) → Lands n f W a (.pan T) s' F' a' w' (.panic [{ v := .iface T v, recovered := false }])
theorem Lands.mono {W W' : List Nat} {e : Ex} {y : Exit} {s' : St} {a0 : Act} (h : Lands n f W a e s' F' a' w' y) (hW : ∀ t, t ∉ W' → t ∉ W ∧ a.tmps.getD t undef = a0.tmps.getD t undef) : Lands n f W' a0 e s' F' a' w' y := by
  cases h with
  | go h1 h2 h3 => exact .go h1 h2 (fun t ht => by rw [h3 t (hW t ht).1, (hW t ht).2])
  | fall h1 h2 h3 h4 h5 => exact .fall h1 h2 h3 h4 (fun t ht => by rw [h5 t (hW t ht).1, (hW t ht).2])
theorem Lands.sub {W W' : List Nat} {e : Ex} {y : Exit} {s' : St} (h : Lands n f W a e s' F' a' w' y) (hW : ∀ t, t ∈ W → t ∈ W') : Lands n f W' a e s' F' a' w' y := h.mono (fun t ht => ⟨fun hm => ht (hW t hm), rfl⟩)

theorem wipe_get (W : List Nat) : ∀ (s : St) (k : Nat), (wipe s W).get k = if W.contains k then (if k < 100000 then none else (s.get k).map fun _ => C.dead) else s.get k
  | [], k => by simp only [wipe, St.get, Option.map_none, ite_self]
  | (j, c) :: r, k => by
    have ih := wipe_get W r k
    by_cases e : j = k
    · subst e
      by_cases hw : W.contains j = true
      · by_cases hl : j < 100000
        · simp only [wipe, if_pos hw, if_pos hl]
          rw [ih, if_pos hw, if_pos hl]
        · simp only [wipe, if_pos hw, if_neg hl, St.get, if_true, Option.map_some]
      · simp only [wipe, if_neg hw, St.get, if_true]
    · have hr : (St.get ((j, c) :: r) k) = St.get r k := by simp only [St.get, if_neg e]
      rw [hr, ← ih]
      by_cases hw : W.contains j = true
      · by_cases hl : j < 100000
        · simp only [wipe, if_pos hw, if_pos hl]
        · simp only [wipe, if_pos hw, if_neg hl, St.get, if_neg e]
      · simp only [wipe, if_neg hw, St.get, if_neg e]

/-- What is left behind a panic. -/
theorem Inv.wiped {s2 : St} {W : List Nat} {t : Ty} {p : t.den} {v : Value} (h0 : ∀ k c, s.get k = some c → ∀ o ∈ c.refs, (s.get (okey o)).isSome = true) (hI : Inv n f F κ s2 a w) (hout : ∀ k, k ∉ W → s2.get k = s.get k) (hv : RepC F κ s2 (.val t p) v) :
    ∃ b : Act, Inv 100000 f F κ ((panKey, .val t p) :: wipe s W) b w ∧ b.tmps.getD panKey undef = v ∧ ∀ t, t < 100000 → t ≠ panKey → b.tmps.getD t undef = a.tmps.getD t undef := by
  let b : Act := { tmps := (Array.range 100000).map fun k => if k = panKey then v else a.tmps.getD k undef, defers := a.defers }
  have hb : ∀ k, k < 100000 → b.tmps.getD k undef = if k = panKey then v else a.tmps.getD k undef := fun k hk => by
    simp [b, Array.getD_eq_getD_getElem?, hk]
  have hget : ∀ k, St.get ((panKey, .val t p) :: wipe s W) k = if panKey = k then some (.val t p) else if W.contains k then (if k < 100000 then none else (s.get k).map fun _ => C.dead) else s.get k := fun k => by
    simp only [St.get, wipe_get]
  have hobj : ∀ o, St.get ((panKey, .val t p) :: wipe s W) (okey o) = s2.get (okey o) ∨ St.get ((panKey, .val t p) :: wipe s W) (okey o) = some .dead ∨ St.get ((panKey, .val t p) :: wipe s W) (okey o) = none := fun o => by
    have hp : panKey ≠ okey o := by have := okey_ge o; unfold panKey; omega
    rw [hget, if_neg hp]
    by_cases hw : W.contains (okey o) = true
    · rw [if_pos hw, if_neg (by have := okey_ge o; omega)]
      cases s.get (okey o) with
      | none => exact .inr (.inr rfl)
      | some c => exact .inr (.inl rfl)
    · rw [if_neg hw]
      exact .inl (hout _ (by simpa using hw)).symm
  have hle : ∀ o, ObjLe κ s2 κ ((panKey, .val t p) :: wipe s W) o := fun o => by
    rcases hobj o with h | h | h
    · exact .of_eq h rfl
    · constructor
      · intro n t ys e; rw [h] at e; cases e
      · intro c e hc; rw [h] at e; cases e; exact absurd rfl hc
    · constructor
      · intro n t ys e; rw [h] at e; cases e
      · intro c e hc; rw [h] at e; cases e
  have hreal : ∀ o c, St.get ((panKey, .val t p) :: wipe s W) (okey o) = some c → c.isObj = true → s2.get (okey o) = some c := fun o c h hc => by
    rcases hobj o with e | e | e
    · rw [← e]; exact h
    · rw [e] at h; cases h; simp [C.isObj] at hc
    · rw [e] at h; cases h
  refine ⟨b, ?_, by rw [hb _ (by unfold panKey; omega), if_pos rfl], fun t h1 h2 => by rw [hb t h1, if_neg h2]⟩
  constructor
  · simp [b]
  · exact hI.defers
  · exact hI.frozen
  · intro k c hk hk'
    rw [hb k hk']
    rw [hget] at hk
    by_cases hp : panKey = k
    · rw [if_pos hp] at hk
      rw [if_pos hp.symm]
      cases hk
      exact rep_val.2 (rep_val.1 hv)
    · rw [if_neg hp] at hk
      rw [if_neg (Ne.symm hp)]
      by_cases hw : W.contains k = true
      · rw [if_pos hw, if_pos hk'] at hk; cases hk
      · rw [if_neg hw, ← hout k (by simpa using hw)] at hk
        exact RepL.mono (Froz.le_refl F) _ _ (fun o _ => hle o) (hI.slots k c hk hk')
  · intro o c hc
    by_cases hob : c.isObj = true
    · exact RepO.mono (Froz.le_refl F) rfl (fun o _ => hle o) (fun _ _ _ _ => rfl) (hI.objs o c (hreal o c hc hob))
    · cases c <;> first | exact absurd rfl hob | exact True.intro
  · intro o c b p q h1 h2 h3; exact hI.free o c b p q (hreal o c h1 h2) h2 h3
  · intro o c b p q o' c' p' q' h1 h2 h3 h4 h5 h6; exact hI.apart o c b p q o' c' p' q' (hreal o c h1 h2) h2 h3 (hreal o' c' h4 h5) h5 h6
  · intro k c hk o ho
    have hso : (s.get (okey o)).isSome = true → (St.get ((panKey, .val t p) :: wipe s W) (okey o)).isSome = true := fun h => by
      have hp : panKey ≠ okey o := by have := okey_ge o; unfold panKey; omega
      rw [hget, if_neg hp]
      by_cases hw : W.contains (okey o) = true
      · rw [if_pos hw, if_neg (by have := okey_ge o; omega)]
        simpa using h
      · rw [if_neg hw]; exact h
    rw [hget] at hk
    by_cases hp : panKey = k
    · rw [if_pos hp] at hk; cases hk; simp [C.refs] at ho
    · rw [if_neg hp] at hk
      by_cases hw : W.contains k = true
      · rw [if_pos hw] at hk
        split at hk
        · cases hk
        · simp only [Option.map_eq_some_iff] at hk
          obtain ⟨_, _, rfl⟩ := hk
          simp [C.refs] at ho
      · rw [if_neg hw] at hk
        exact hso (h0 k c hk o ho)
  · exact hI.kept
  · exact hI.grown

/-- WHAT CODE DOES. -/
theorem evCode_both (hΓ : CtxOK Γ P) (hm : P.follows .mixedOrders = true) : ∀ (h : HC), (∀ (c : Code) {X : Type} {k : Ex → St → Option X} {F : Froz} {κ : Conc} {s : St} {a : Act} {w : World} {x : X} {Q : Exit → Act → World → Prop},
    evCode Γ n drawsOK h c s k = some x → Inv n f F κ s a w → GlobOK Γ F →
    (∀ e s' F' a' w' y, k e s' = some x → F.le F' → Lands n f (dsts c) a e s' F' a' w' y → Q y a' w') → c.wp P Q a w) ∧
    ∀ (c : Code) {X : Type} {k : Ex → St → Option X} {F : Froz} {κ : Conc} {s : St} {a : Act} {w : World} {x : X} {Q : Exit → Act → World → Prop},
    evCode Γ n drawsOK h (.loop c) s k = some x → Inv n f F κ s a w → GlobOK Γ F →
    (∀ e s' F' a' w' y, k e s' = some x → F.le F' → Lands n f (dsts c) a e s' F' a' w' y → Q y a' w') → Code.rounds P c Q h.turns a w := by
  intro h
  induction h with
  | leaf =>
    refine ⟨?_, fun c X k F κ s a w x Q he => by simp [evCode] at he⟩
    intro c X k F κ s a w x Q he hI hG hQ
    cases c <;> simp only [evCode] at he <;> first | (cases he; done) | skip
    · exact wp_skip (hQ .normal s F a w _ he (Froz.le_refl F) (.go (e := .normal) rfl hI (fun _ _ => rfl)))
    · exact wp_exit (hQ (.exit _) s F a w _ he (Froz.le_refl F) (.go (e := .exit _) rfl hI (fun _ _ => rfl)))
    · exact wp_ret (hQ .ret s F a w _ he (Froz.le_refl F) (.go (e := .ret) rfl hI (fun _ _ => rfl)))
  | region hs =>
    refine ⟨?_, fun c X k F κ s a w x Q he => by simp [evCode] at he⟩
    intro c X k F κ s a w x Q he hI hG hQ
    cases c <;> simp only [evCode] at he <;> first | (cases he; done) | skip
    split at he
    · rename_i id ops d hd
      rw [Bool.or_eq_true] at hd
      refine region_sound hΓ hm (by simpa using hd) he hI hG (fun s' F' κ' a' w' h1 h2 h3 h4 => hQ .normal s' F' a' w' _ h1 h2 (.go (e := .normal) rfl h3 (fun t ht => h4 t (fun i o ho => dsts_region ht i o ho))))
        (fun T t p F' κ' s2 v a' w' h1 h2 hout h3 hv hfr => ?_)
      obtain ⟨b, hb, hbv, hbt⟩ := h3.wiped (W := regW ops hs) (fun k c hk => hI.closed k c hk) hout hv
      exact hQ (.pan T) _ F' a' w' _ h1 h2 (.fall h3.defers hb hbv hbt (fun t ht => hfr t (fun i o ho => dsts_region ht i o ho)))
    · cases he
  | seq p q ihp ihq =>
    refine ⟨?_, fun c X k F κ s a w x Q he => by simp [evCode] at he⟩
    intro c X k F κ s a w x Q he hI hG hQ
    cases c <;> simp only [evCode] at he <;> first | (cases he; done) | skip
    have hL : ∀ {cx cy : Code} {t : Nat}, t ∈ dsts cx → t ∈ dsts (.seq cx cy) := fun h => by simp only [dsts, List.mem_append]; exact .inl h
    refine wp_seq (ihp.1 _ he hI hG (fun e s' F' a' w' y h1 h2 hl => ?_))
    cases hl with
    | fall g1 g2 g3 g4 g5 => exact hQ (.pan _) s' F' a' w' _ h1 h2 ((Lands.fall g1 g2 g3 g4 g5).sub (fun t => hL))
    | go g1 g2 g3 =>
      cases e with
      | normal =>
        refine ihq.1 _ h1 g2 (hG.mono h2) (fun e s2 F2 a2 w2 y k1 k2 k3 => hQ e s2 F2 a2 w2 y k1 (Froz.le_trans h2 k2) (k3.mono (fun t ht => ?_)))
        simp only [dsts, List.mem_append, not_or] at ht
        exact ⟨ht.2, g3 t ht.1⟩
      | exit i => exact hQ (.exit i) s' F' a' w' _ h1 h2 ((Lands.go (e := .exit i) rfl g2 g3).sub (fun t => hL))
      | ret => exact hQ .ret s' F' a' w' _ h1 h2 ((Lands.go (e := .ret) rfl g2 g3).sub (fun t => hL))
      | pan => cases g1
  | cond p q ihp ihq =>
    refine ⟨?_, fun c X k F κ s a w x Q he => by simp [evCode] at he⟩
    intro c X k F κ s a w x Q he hI hG hQ
    cases c <;> simp only [evCode] at he <;> first | (cases he; done) | skip
    rename_i y cx cy
    have yes : ∀ {s'}, a.eval y = .bool true → Inv n f F κ s' a w → evCode Γ n drawsOK p cx s' k = some x → (Code.cond y cx cy).wp P Q a w := fun hev hI' he =>
      wp_cond_true hev (ihp.1 _ he hI' hG (fun e s' F' a' w' y h1 h2 h3 => hQ e s' F' a' w' y h1 h2 (h3.sub (fun t ht => by simp only [dsts, List.mem_append]; exact .inl ht))))
    have no : ∀ {s'}, a.eval y = .bool false → Inv n f F κ s' a w → evCode Γ n drawsOK q cy s' k = some x → (Code.cond y cx cy).wp P Q a w := fun hev hI' he =>
      wp_cond_false hev (ihq.1 _ he hI' hG (fun e s' F' a' w' y h1 h2 h3 => hQ e s' F' a' w' y h1 h2 (h3.sub (fun t ht => by simp only [dsts, List.mem_append]; exact .inr ht))))
    split at he
    · rename_i b hb
      have hev : a.eval y = .bool b := rep_bool.1 (opnd_sound hI hG (fun _ _ h => h) hb).1
      cases b with
      | true =>
        simp only [cond_true, know_same hb] at he
        exact yes hev hI he
      | false =>
        simp only [cond_false, know_same hb] at he
        exact no hev hI he
    · rename_i pp qq hb
      obtain ⟨b, hev, hbq⟩ := rep_may.1 (opnd_sound hI hG (fun _ _ h => h) hb).1
      have hI' := know_may hI hb hev
      have hbr : (b = true → evCode Γ n drawsOK p cx (know s y true) k = some x) ∧ (b = false → evCode Γ n drawsOK q cy (know s y false) k = some x) := by
        cases qq with
        | true =>
          simp only [cond_true] at he
          obtain ⟨h1, h2⟩ := agree_some he
          exact ⟨fun _ => h1, fun _ => h2⟩
        | false =>
          simp only [cond_false] at he
          cases pp <;> cases b <;> simp_all
      cases b with
      | true => exact yes hev hI' (hbr.1 rfl)
      | false => exact no hev hI' (hbr.2 rfl)
    · cases he
  | block p ihp =>
    refine ⟨?_, fun c X k F κ s a w x Q he => by simp [evCode] at he⟩
    intro c X k F κ s a w x Q he hI hG hQ
    cases c <;> simp only [evCode] at he <;> first | (cases he; done) | skip
    rename_i id body
    refine wp_block (ihp.1 _ he hI hG (fun e s' F' a' w' y h1 h2 hl => ?_))
    cases hl with
    | fall g1 g2 g3 g4 g5 => exact hQ (.pan _) s' F' a' w' _ h1 h2 (.fall g1 g2 g3 g4 g5)
    | go g1 g2 g3 =>
      cases e with
      | normal => exact hQ .normal s' F' a' w' _ h1 h2 (.go (e := .normal) rfl g2 g3)
      | exit i =>
        simp only at h1
        simp only [Ex.toExit, Exit.inBlock]
        by_cases hid : i = id
        · rw [if_pos hid] at h1 ⊢
          exact hQ .normal s' F' a' w' _ h1 h2 (.go (e := .normal) rfl g2 g3)
        · rw [if_neg hid] at h1 ⊢
          exact hQ (.exit i) s' F' a' w' _ h1 h2 (.go (e := .exit i) rfl g2 g3)
      | ret => exact hQ .ret s' F' a' w' _ h1 h2 (.go (e := .ret) rfl g2 g3)
      | pan => cases g1
  | loop σ es hb ihp =>
    have main : ∀ (body : Code) {X : Type} {k : Ex → St → Option X} {F : Froz} {κ : Conc} {s : St} {a : Act} {w : World} {x : X} {Q : Exit → Act → World → Prop},
        evCode Γ n drawsOK (.loop σ es hb) (.loop body) s k = some x → Inv n f F κ s a w → GlobOK Γ F →
        (∀ e s' F' a' w' y, k e s' = some x → F.le F' → Lands n f (dsts body) a e s' F' a' w' y → Q y a' w') → Code.rounds P body Q rounds a w := by
     intro body X k F κ s a w x Q he hI hG hQ
     simp only [evCode] at he
     split at he
     · cases he
     · rename_i p0 hp0
       rw [Option.bind_eq_some_iff] at he
       obtain ⟨x', hl, hx⟩ := he
       unfold loop at hl
       revert hl
       obtain ⟨F1, κ1, hF1, hI1⟩ := shape_sound hI hp0
       have hk1 := hI.keep hI1 hF1 (W := dsts body) (σ := σ) (fun _ _ => rfl)
       have key : ∀ N (p : σ.den) F1 κ1 a1 w1, F.le F1 → Inv n f F1 κ1 (σ.unpack p ++ Fe.keep s (dsts body) σ) a1 w1 → (∀ t, t ∉ dsts body → a1.tmps.getD t undef = a.tmps.getD t undef) →
           loopK (S := σ.den) (R := es.den) (fun q => evCode Γ n drawsOK hb body (σ.unpack q ++ Fe.keep s (dsts body) σ) fun e s => match e with
             | .normal => (σ.pack s).map Sum.inl
             | e => (es.pack e s).map Sum.inr) N p = some x' → Code.rounds P body Q N a1 w1 := by
         intro N
         induction N with
         | zero => intro p F1 κ1 a1 w1 _ _ _ hl; cases hl
         | succ N ih =>
           intro p F1 κ1 a1 w1 hF1 hI1 hfr hl
           rw [rounds_succ]
           simp only [loopK] at hl
           split at hl
           · cases hl
           · rename_i p' hp'
             refine ihp.1 body hp' hI1 (hG.mono hF1) (fun e s' F' a' w' y g1 g2 g3 => ?_)
             cases g3 with
             | fall => simp at g1
             | go h1 h2 h3 =>
               have hfr' : ∀ t, t ∉ dsts body → a'.tmps.getD t undef = a.tmps.getD t undef := fun t ht => by rw [h3 t ht, hfr t ht]
               cases e with
               | normal =>
                 simp only [Option.map_eq_some_iff, Sum.inl.injEq, exists_eq_right] at g1
                 obtain ⟨F2, κ2, hF2, hI2⟩ := shape_sound h2 g1
                 have hF3 := Froz.le_trans hF1 (Froz.le_trans g2 hF2)
                 exact ih p' F2 κ2 a' w' hF3 (hI.keep hI2 hF3 hfr') hfr' hl
               | exit i => simp at g1
               | ret => simp at g1
               | pan => cases h1
           · rename_i r hr
             cases hl
             refine ihp.1 body hr hI1 (hG.mono hF1) (fun e s' F' a' w' y g1 g2 g3 => ?_)
             cases g3 with
             | fall h1 h2 h3 h4 h5 =>
               simp only [Option.map_eq_some_iff, Sum.inr.injEq, exists_eq_right] at g1
               obtain ⟨σ', z, hz, hk⟩ := elim_sound es g1 hx
               obtain ⟨F2, κ2, hF2, hI2⟩ := shape_sound h2 hz
               exact hQ (.pan _) _ F2 a' w' _ hk (Froz.le_trans hF1 (Froz.le_trans g2 hF2)) (.fall h1 hI2 h3 h4 (fun t ht => by rw [h5 t ht, hfr t ht]))
             | go h1 h2 h3 =>
               have hfr' : ∀ t, t ∉ dsts body → a'.tmps.getD t undef = a.tmps.getD t undef := fun t ht => by rw [h3 t ht, hfr t ht]
               have fin : ∀ e, e.calm = true → Exits.pack es e s' = some x' → Q e.toExit a' w' := fun e hc hp => by
                 obtain ⟨σ', z, hz, hk⟩ := elim_sound es hp hx
                 obtain ⟨F2, κ2, hF2, hI2⟩ := shape_sound h2 hz
                 have hF3 := Froz.le_trans hF1 (Froz.le_trans g2 hF2)
                 have hk' : k e (σ'.unpack z ++ Fe.keep s (dsts body) σ') = some x := by cases e <;> first | exact hk | cases hc
                 exact hQ e _ F2 a' w' _ hk' hF3 (.go hc (hI.keep hI2 hF3 hfr') hfr')
               cases e with
               | normal => simp at g1
               | exit i =>
                 simp only [Option.map_eq_some_iff, Sum.inr.injEq, exists_eq_right] at g1
                 exact fin _ rfl g1
               | ret =>
                 simp only [Option.map_eq_some_iff, Sum.inr.injEq, exists_eq_right] at g1
                 exact fin _ rfl g1
               | pan => cases h1
       exact fun hl => key rounds p0 F1 κ1 a w hF1 hk1 (fun _ _ => rfl) hl
    refine ⟨?_, fun c X k F κ s a w x Q he hI hG hQ => main c he hI hG hQ⟩
    intro c X k F κ s a w x Q he hI hG hQ
    cases c
    case loop body => exact wp_loop_rounds rounds (main body he hI hG (fun e s' F' a' w' y h1 h2 h3 => hQ e s' F' a' w' y h1 h2 (h3.sub (fun t ht => by simpa only [dsts] using ht))))
    all_goals (simp [evCode] at he)
  | again p q ihp ihq =>
    have main : ∀ (body : Code) {X : Type} {k : Ex → St → Option X} {F : Froz} {κ : Conc} {s : St} {a : Act} {w : World} {x : X} {Q : Exit → Act → World → Prop},
        evCode Γ n drawsOK (.again p q) (.loop body) s k = some x → Inv n f F κ s a w → GlobOK Γ F →
        (∀ e s' F' a' w' y, k e s' = some x → F.le F' → Lands n f (dsts body) a e s' F' a' w' y → Q y a' w') → Code.rounds P body Q (q.turns + 1) a w := by
      intro body X k F κ s a w x Q he hI hG hQ
      simp only [evCode] at he
      rw [rounds_succ]
      exact ihp.1 body he hI hG (fun e s' F' a' w' y h1 h2 hl => by
          cases hl with
          | fall g1 g2 g3 g4 g5 => exact hQ (.pan _) s' F' a' w' _ h1 h2 (.fall g1 g2 g3 g4 g5)
          | go g1 g2 g3 =>
            cases e with
            | normal =>
              exact ihq.2 body h1 g2 (hG.mono h2) (fun e s2 F2 a2 w2 y k1 k2 k3 => hQ e s2 F2 a2 w2 y k1 (Froz.le_trans h2 k2) (k3.mono (fun t ht => ⟨ht, g3 t ht⟩)))
            | exit i => exact hQ (.exit i) s' F' a' w' _ h1 h2 (.go (e := .exit i) rfl g2 g3)
            | ret => exact hQ .ret s' F' a' w' _ h1 h2 (.go (e := .ret) rfl g2 g3)
            | pan => cases g1)
    refine ⟨?_, fun c X k F κ s a w x Q he hI hG hQ => main c he hI hG hQ⟩
    intro c X k F κ s a w x Q he hI hG hQ
    cases c
    case loop body =>
      exact wp_loop_rounds _ (main body he hI hG (fun e s' F' a' w' y h1 h2 h3 => hQ e s' F' a' w' y h1 h2 (h3.sub (fun t ht => by simpa only [dsts] using ht))))
    all_goals (simp [evCode] at he)
  | cut es p ihp =>
    have fin : ∀ {W : List Nat} {X : Type} {k : Ex → St → Option X} {F : Froz} {κ : Conc} {s : St} {a : Act} {w : World} {x : X} {y : es.den} {Q : Exit → Act → World → Prop}, Inv n f F κ s a w → Exits.elim es y (fun σ e t => k e (keepE e t (keep s W σ))) = some x →
        (∀ e s' F' a' w' y, k e s' = some x → F.le F' → Lands n f W a e s' F' a' w' y → Q y a' w') → ∀ e s' F' a' w' z, es.pack e s' = some y → F.le F' → Lands n f W a e s' F' a' w' z → Q z a' w' := by
      intro W X k F κ s a w x y Q hI h2 hQ e s' F' a' w' z g1 g2 g3
      obtain ⟨σ, q, hq, hk⟩ := elim_sound es g1 h2
      cases g3 with
      | fall k1 k2 k3 k4 k5 =>
        obtain ⟨F2, κ2, hF2, hI2⟩ := shape_sound k2 hq
        exact hQ (.pan _) _ F2 a' w' _ hk (Froz.le_trans g2 hF2) (.fall k1 hI2 k3 k4 k5)
      | go k1 k2 k3 =>
        obtain ⟨F2, κ2, hF2, hI2⟩ := shape_sound k2 hq
        have hk' : k e (σ.unpack q ++ Fe.keep s W σ) = some x := by cases e <;> first | exact hk | cases k1
        exact hQ e _ F2 a' w' _ hk' (Froz.le_trans g2 hF2) (.go k1 (hI.keep hI2 (Froz.le_trans g2 hF2) k3) k3)
    refine ⟨?_, ?_⟩
    · intro c X k F κ s a w x Q he hI hG hQ
      simp only [evCode] at he
      rw [Option.bind_eq_some_iff] at he
      obtain ⟨y, h1, h2⟩ := he
      exact ihp.1 c h1 hI hG (fin hI h2 hQ)
    · intro c X k F κ s a w x Q he hI hG hQ
      simp only [evCode] at he
      rw [Option.bind_eq_some_iff] at he
      obtain ⟨y, h1, h2⟩ := he
      exact ihp.2 c h1 hI hG (fin hI h2 hQ)

theorem evCode_sound (hΓ : CtxOK Γ P) (hm : P.follows .mixedOrders = true) (h : HC) (c : Code) {X : Type} {k : Ex → St → Option X} {F : Froz} {κ : Conc} {s : St} {a : Act} {w : World} {x : X} {Q : Exit → Act → World → Prop}
    (he : evCode Γ n drawsOK h c s k = some x) (hI : Inv n f F κ s a w) (hG : GlobOK Γ F)
    (hQ : ∀ e s' F' a' w' y, k e s' = some x → F.le F' → Lands n f (dsts c) a e s' F' a' w' y → Q y a' w') : c.wp P Q a w :=
  (evCode_both hΓ hm h).1 c he hI hG hQ

end
end Go.Fe
