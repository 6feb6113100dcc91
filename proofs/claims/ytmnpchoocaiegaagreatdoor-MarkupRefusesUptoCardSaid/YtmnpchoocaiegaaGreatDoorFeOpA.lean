/- Operations that give a value and leave memory as it is. -/
import Derived.Test.YtmnpchoocaiegaaGreatDoorFeMem
import Derived.Laws.Strings
namespace Go.Fe
open Go

/-- What is known of the program. -/
structure CtxT (Γ : Ctx) (P : Program) : Prop where
  bld : ∀ T, Γ.bld T = true → bldIs P T = true
  bw : ∀ T, Γ.bw T = true → bwIs P T = true
  tab : ∀ T t, Γ.tab T = some t → tyIs P t (.inl T) = true
  pst : ∀ T k, Γ.pst T = some k → pstIs P T k = true
  psl : ∀ T k, Γ.psl T = some k → pslIs P T k = true
  pp : ∀ T, Γ.pp T = true → ppIs P T = true
  fa : ∀ T k, Γ.fa T = some k → faIs P T k = true

def GlobOK (Γ : Ctx) (F : Froz) : Prop := GlobF Γ.glob F

theorem GlobOK.mono {Γ : Ctx} {F F' : Froz} (hF : F.le F') (h : GlobOK Γ F) : GlobOK Γ F' := fun i p hi => by
  obtain ⟨c, T, fr, x, h1, h2, h3⟩ := h i p hi
  exact ⟨c, T, fr, x, hF _ _ h1, h2.mono hF, h3⟩

section
variable {F : Froz} {κ : Conc} {s : St}

theorem rep_val {t : Ty} {x : t.den} {v : Value} : RepC F κ s (.val t x) v ↔ RepV F t x v := by
  simp [RepL]
theorem rep_int {k : IntKind} {x : Int} {v : Value} : RepC F κ s (.val (.int k) x) v ↔ v = .int k x := by
  simp [RepL, RepV, RepT, pack, Ty.agg]
theorem rep_bool {x : Bool} {v : Value} : RepC F κ s (.val .bool x) v ↔ v = .bool x := by
  simp [RepL, RepV, RepT, pack, Ty.agg]
theorem rep_str {x : Str} {v : Value} : RepC F κ s (.val .str x) v ↔ v = .string ⟨x.toArray⟩ := by
  simp [RepL, RepV, RepT, pack, Ty.agg]
theorem rep_err {x : Bool} {v : Value} : RepC F κ s (.val .err x) v ↔ ErrV x v := by
  simp only [RepL, RepV, RepT, pack, Ty.agg, Bool.false_eq_true, if_false]
  constructor
  · rintro ⟨v', e, cs, ⟨u, rfl, hu⟩, rfl⟩
    cases e
    exact hu
  · intro h
    exact ⟨v, rfl, [v], ⟨v, rfl, h⟩, rfl⟩
theorem rep_nil {v : Value} : RepC F κ s .nil v ↔ ∃ a, v = .slice a 0 0 := by simp [RepL]
theorem rep_dead {v : Value} : RepC F κ s .dead v := by simp [RepL]
theorem rep_fptr {t : Ty} {x : t.den} {v : Value} : RepC F κ s (.fptr t x) v ↔
    ∃ b off c T fr, F b = some (.cells c T fr) ∧ v = .pointer (some ⟨b, off, none⟩) ∧ RepT F t x ((c.toList.drop off).take t.size) := by
  simp [RepL]
theorem rep_own {o : Nat} {v : Value} : RepC F κ s (.own o) v ↔ ∀ n t xs, s.get (okey o) = some (.vec n t xs) → SlAt (κ o) xs.length v := by
  simp [RepL]
theorem rep_ptr {o off : Nat} {v : Value} : RepC F κ s (.ptr o off) v ↔ ∀ c, s.get (okey o) = some c → c ≠ .dead → ∃ b p q, κ o = some (b, p, q) ∧ v = .pointer (some ⟨b, p + off, none⟩) := by
  simp [RepL]
theorem rep_eptr {o off : Nat} {t : Ty} {i : Int} {path : List Nat} {v : Value} : RepC F κ s (.eptr o off t i path) v ↔
    ∀ n xs, s.get (okey o) = some (.vec n t xs) → 0 ≤ i ∧ i < xs.length ∧
      ∃ b p q d u, κ o = some (b, p, q) ∧ t.at path = some (d, u) ∧ v = .pointer (some ⟨b, p + off + i.toNat * t.size + d, none⟩) := by
  simp [RepL]
theorem rep_aptr {o off m : Nat} {t : Ty} {i : Int} {path : List Nat} {v : Value} : RepC F κ s (.aptr o off m t i path) v ↔
    0 ≤ i ∧ i < m ∧ ∀ c, s.get (okey o) = some c → c ≠ .dead → ∃ b p q d u, κ o = some (b, p, q) ∧ t.at path = some (d, u) ∧ v = .pointer (some ⟨b, p + off + i.toNat * t.size + d, none⟩) := by
  simp [RepL]
theorem rep_adr {o T : Nat} {v : Value} : RepC F κ s (.adr o T) v ↔
    ∀ c, s.get (okey o) = some c → c ≠ .dead → v = .pointer none ∨ ∃ b p q, κ o = some (b, p, q) ∧ v = .pointer (some ⟨b, p, none⟩) := by
  simp [RepL]
theorem rep_sl {e : Ty} {xs : List e.den} {v : Value} : RepC F κ s (.val (.sl e) xs) v ↔ ∃ a cap, v = .slice a xs.length cap ∧ xs.length ≤ cap ∧
      (xs = [] ∨ ∃ b off c T fr, a = some ⟨b, off, none⟩ ∧ F b = some (.cells c T fr) ∧
        ∀ i (h : i < xs.length), RepT F e xs[i] ((c.toList.drop (off + i * e.size)).take e.size)) := by
  rw [rep_val]
  constructor
  · rintro ⟨cs, h, rfl⟩
    simp only [RepT] at h
    obtain ⟨a, cap, rfl, h1, h2⟩ := h
    exact ⟨a, cap, rfl, h1, h2⟩
  · rintro ⟨a, cap, rfl, h1, h2⟩
    exact ⟨[.slice a xs.length cap], by simp only [RepT]; exact ⟨a, cap, rfl, h1, h2⟩, rfl⟩

theorem list_get {c : C} {l : List Value} {i : Nat} {d : C} (h : RepL F κ s c l) (hi : nthC c i = some d) : ∃ v, l[i]? = some v ∧ RepC F κ s d v ∧ ∀ o ∈ d.refs, o ∈ c.refs := by
  induction i generalizing c l with
  | zero =>
    cases c <;> simp only [nthC, reduceCtorEq, Option.some.injEq] at hi
    subst hi
    simp only [RepL] at h
    obtain ⟨v, r, rfl, h1, _⟩ := h
    exact ⟨v, rfl, h1, fun o ho => by simp only [C.refs, List.mem_append]; exact .inl ho⟩
  | succ i ih =>
    cases c <;> simp only [nthC, reduceCtorEq] at hi
    simp only [RepL] at h
    obtain ⟨v, r, rfl, _, h2⟩ := h
    obtain ⟨u, h3, h4, h5⟩ := ih h2 hi
    exact ⟨u, by simpa using h3, h4, fun o ho => by simp only [C.refs, List.mem_append]; exact .inr (h5 o ho)⟩

theorem list_app : ∀ {c d e : C} {l m : List Value}, RepL F κ s c l → appC c d = some e → RepL F κ s d m → RepL F κ s e (l ++ m) ∧ ∀ o ∈ e.refs, o ∈ c.refs ∨ o ∈ d.refs
  | .unit, d, e, l, m, h, he, h2 => by
    simp only [RepL] at h
    subst h
    simp only [appC, Option.some.injEq] at he
    subst he
    exact ⟨by simpa using h2, fun o ho => .inr ho⟩
  | .cons a b, d, e, l, m, h, he, h2 => by
    simp only [RepL] at h
    obtain ⟨v, r, rfl, h1, hb⟩ := h
    simp only [appC, Option.map_eq_some_iff] at he
    obtain ⟨e', he, rfl⟩ := he
    obtain ⟨h3, h4⟩ := list_app hb he h2
    refine ⟨by simp only [RepL, List.cons_append]; exact ⟨v, r ++ m, rfl, h1, h3⟩, fun o ho => ?_⟩
    simp only [C.refs, List.mem_append] at ho ⊢
    rcases ho with ho | ho
    · exact .inl (.inl ho)
    · exact (h4 o ho).imp .inr id
  | .val .., _, _, _, _, _, h, _ => by simp [appC] at h
  | .own _, _, _, _, _, _, h, _ => by simp [appC] at h
  | .ptr .., _, _, _, _, _, h, _ => by simp [appC] at h
  | .eptr .., _, _, _, _, _, h, _ => by simp [appC] at h
  | .aptr .., _, _, _, _, _, h, _ => by simp [appC] at h
  | .adr .., _, _, _, _, _, h, _ => by simp [appC] at h
  | .may .., _, _, _, _, _, h, _ => by simp [appC] at h
  | .brow .., _, _, _, _, _, h, _ => by simp [appC] at h
  | .fptr .., _, _, _, _, _, h, _ => by simp [appC] at h
  | .fn .., _, _, _, _, _, h, _ => by simp [appC] at h
  | .tup _, _, _, _, _, _, h, _ => by simp [appC] at h
  | .nil, _, _, _, _, _, h, _ => by simp [appC] at h
  | .dead, _, _, _, _, _, h, _ => by simp [appC] at h
  | .vec .., _, _, _, _, _, h, _ => by simp [appC] at h
  | .iter .., _, _, _, _, _, h, _ => by simp [appC] at h
  | .rcd _, _, _, _, _, _, h, _ => by simp [appC] at h
end

section
variable {Γ : Ctx} {P : Program} {n : Nat} {f : Frame0} {F : Froz} {κ : Conc} {s : St} {a : Act} {w : World} {g : Nat → Option C}

theorem const_sound {v : Value} {c : C} (h : constC v = some c) : RepC F κ s c v ∧ c.refs = [] := by
  unfold constC at h
  split at h
  · cases h; exact ⟨rep_int.2 rfl, rfl⟩
  · cases h; exact ⟨rep_bool.2 rfl, rfl⟩
  · rename_i b
    cases h
    refine ⟨rep_str.2 ?_, rfl⟩
    obtain ⟨l⟩ := b
    simp
  · cases h; exact ⟨rep_nil.2 ⟨none, rfl⟩, rfl⟩
  · cases h; exact ⟨rep_err.2 rfl, rfl⟩
  · cases h; exact ⟨rep_dead, rfl⟩

theorem opnd_sound (hI : Inv n f F κ s a w) (hG : GlobOK Γ F) (hg : ∀ k c, g k = some c → s.get k = some c) {x : Operand} {c : C} (h : opnd Γ g x = some c) :
    RepC F κ s c (a.eval x) ∧ ∀ o ∈ c.refs, (s.get (okey o)).isSome = true := by
  cases x with
  | tmp t =>
    simp only [opnd] at h
    split at h
    · rename_i ht
      have := hg _ _ h
      exact ⟨hI.slots t c this ht, fun o ho => hI.closed t c this o ho⟩
    · cases h
  | const v =>
    obtain ⟨h1, h2⟩ := const_sound (F := F) (κ := κ) (s := s) h
    exact ⟨h1, by rw [h2]; simp⟩
  | global i =>
    simp only [opnd] at h
    split at h
    · rename_i t x hp
      cases h
      obtain ⟨c, T, fr, y, h1, h2, h3⟩ := hG i _ hp
      rw [h3.1 x rfl] at h2
      exact ⟨rep_fptr.2 ⟨i, 0, c, T, fr, h1, rfl, h2⟩, by simp [C.refs]⟩
    · cases h
  | func i =>
    simp only [opnd, Option.some.injEq] at h
    subst h
    exact ⟨by simp [RepL, Act.eval], by simp [C.refs]⟩

theorem opnds_sound (hI : Inv n f F κ s a w) (hG : GlobOK Γ F) (hg : ∀ k c, g k = some c → s.get k = some c) : ∀ {xs : List Operand} {c : C}, opnds Γ g xs = some c →
    RepL F κ s c (xs.map a.eval) ∧ ∀ o ∈ c.refs, (s.get (okey o)).isSome = true
  | [], c, h => by
    simp only [opnds, Option.some.injEq] at h
    subst h
    exact ⟨by simp [RepL], by simp [C.refs]⟩
  | x :: r, c, h => by
    simp only [opnds] at h
    split at h
    · rename_i c1 c2 h1 h2
      cases h
      obtain ⟨i1, i2⟩ := opnd_sound hI hG hg h1
      obtain ⟨j1, j2⟩ := opnds_sound hI hG hg h2
      refine ⟨by simp only [RepL, List.map_cons]; exact ⟨_, _, rfl, i1, j1⟩, fun o ho => ?_⟩
      simp only [C.refs, List.mem_append] at ho
      exact ho.elim (i2 o) (j2 o)
    · cases h

theorem wp_val {o : Oper} {w' : World} {v : Value} {next : Act → World → Prop} {Q : Exit → Act → World → Prop}
    (hr : (execOp a.eval o).run P w = .ok (.value v) w') (h : next (a.put o.dst v) w') : o.wp P a w next Q := by
  unfold Oper.wp
  rw [hr]
  exact h
theorem wp_skp {o : Oper} {w' : World} {next : Act → World → Prop} {Q : Exit → Act → World → Prop}
    (hr : (execOp a.eval o).run P w = .ok .skip w') (h : next (a.put o.dst undef) w') : o.wp P a w next Q := by
  unfold Oper.wp
  rw [hr]
  exact h

theorem put_inv (hI : Inv n f F κ s a w) {dst : Option Nat} (hd : ∀ d, dst = some d → d < n ∧ d < 100000) {c : C} {v : Value} (hv : RepC F κ s c v)
    (hc : ∀ o ∈ c.refs, (s.get (okey o)).isSome = true) : Inv n f F κ (s.upd (Out1 dst c)) (a.put dst v) w := by
  cases dst with
  | none => exact hI
  | some d => exact hI.put (hd d rfl).1 (hd d rfl).2 hv hc

theorem put_frame {dst : Option Nat} {v : Value} (t : Nat) (h : dst ≠ some t) : (a.put dst v).tmps.getD t undef = a.tmps.getD t undef := by
  cases dst with
  | none => rfl
  | some d =>
    have : d ≠ t := fun e => h (by rw [e])
    simp [Act.put, Array.getElem?_setIfInBounds_ne this]

theorem Res.run_bind {α : Type} {m : Option α} {g : α → St} {u : St} (h : (Res.bind m g).run = some u) : ∃ x, m = some x ∧ u = g x := by
  simp only [Res.run, Option.map_eq_some_iff] at h
  obtain ⟨x, h1, h2⟩ := h
  exact ⟨x, h1, h2.symm⟩

/-- What an operation that gives a value must show. -/
def Gives (P : Program) (F : Froz) (κ : Conc) (s : St) (w : World) (sem : Sem Value) (dst : Option Nat) (u : St) : Prop :=
  ∃ v c, u = Out1 dst c ∧ sem.run P w = .ok v w ∧ RepC F κ s c v ∧ ∀ o ∈ c.refs, (s.get (okey o)).isSome = true

theorem guard_int {op : BinOp} {T : TypeId} {x y : Operand} {k k' : IntKind} {i j : Int} : (eqGuard op T x y (.int k i) (.int k' j)).run P w = .ok () w := by
  unfold eqGuard
  cases op <;> rfl
theorem guard_str {op : BinOp} {T : TypeId} {x y : Operand} {i j : ByteArray} : (eqGuard op T x y (.string i) (.string j)).run P w = .ok () w := by
  unfold eqGuard
  cases op <;> rfl
theorem guard_bool {op : BinOp} {T : TypeId} {x y : Operand} {i j : Bool} : (eqGuard op T x y (.bool i) (.bool j)).run P w = .ok () w := by
  unfold eqGuard
  cases op <;> rfl

theorem toList_mk (l : List UInt8) : (⟨l.toArray⟩ : ByteArray).toList = l := by
  rw [ByteArray.toList_eq]

theorem less_total : ∀ a b : List UInt8, (Op.bytesLess a b || a == b) = !Op.bytesLess b a
  | [], [] => rfl
  | [], _ :: _ => rfl
  | _ :: _, [] => rfl
  | x :: a, y :: b => by
    have ih := less_total a b
    simp only [Op.bytesLess]
    by_cases h1 : x < y
    · have h2 : ¬ y < x := fun h => by have := UInt8.lt_iff_toNat_lt.1 h1; have := UInt8.lt_iff_toNat_lt.1 h; omega
      have h3 : (y == x) = false := by rw [beq_eq_false_iff_ne]; rintro rfl; exact h2 h1
      simp [h1, h2, h3]
    · by_cases h2 : y < x
      · have h3 : (x == y) = false := by rw [beq_eq_false_iff_ne]; rintro rfl; exact h1 h2
        have h4 : x :: a ≠ y :: b := fun h => by cases h; exact h1 h2
        simp [h1, h2, h3]
      · have h3 : x = y := UInt8.toNat_inj.1 (by have := mt UInt8.lt_iff_toNat_lt.2 h1; have := mt UInt8.lt_iff_toNat_lt.2 h2; omega)
        subst h3
        have : (x :: a == x :: b) = (a == b) := by simp
        simp only [this, decide_eq_false h1, beq_self_eq_true, Bool.true_and, Bool.false_or]
        exact ih

theorem beq_dec {α : Type} [DecidableEq α] [BEq α] [LawfulBEq α] (a b : α) : (a == b) = decide (a = b) := by
  rw [Bool.eq_iff_iff]; simp
theorem equal_succ (T : TypeId) (x y : Value) : Op.equal T x y = Op.equalIn (9999 + 1) T x y := rfl

theorem equalIn_bool {T : TypeId} (hT : P.underlying T = some .bool) (d : Nat) {i j : Bool} : (Op.equalIn (d + 1) T (.bool i) (.bool j)).run P w = .ok (i == j) w := by
  simp only [Op.equalIn, Sem.run_bind, underlying_run hT, Result.andThen_ok, Sem.run_pure]

theorem equalIn_err {T : TypeId} {ms} (hT : P.underlying T = some (.interface ms)) (d : Nat) {a b : Bool} {v u : Value} (hv : ErrV a v) (hu : ErrV b u) (hn : a = false ∨ b = false) :
    (Op.equalIn (d + 1) T v u).run P w = .ok (a == b) w := by
  cases a <;> cases b <;> simp only [ErrV, reduceCtorEq, or_self, or_false, false_or] at hv hu hn
  · subst hv hu; simp only [Op.equalIn, Sem.run_bind, underlying_run hT, Result.andThen_ok, Sem.run_pure]; rfl
  · obtain ⟨t', w', rfl⟩ := hu; subst hv; simp only [Op.equalIn, Sem.run_bind, underlying_run hT, Result.andThen_ok, Sem.run_pure]; rfl
  · obtain ⟨t', w', rfl⟩ := hv; subst hu; simp only [Op.equalIn, Sem.run_bind, underlying_run hT, Result.andThen_ok, Sem.run_pure]; rfl

theorem guard_err {op : BinOp} {T : TypeId} {x y : Operand} {a b : Bool} {v u : Value} (hv : ErrV a v) (hu : ErrV b u) (hn : isNilC x = true ∨ isNilC y = true) :
    (eqGuard op T x y v u).run P w = .ok () w := by
  have hx : ∀ z : Operand, isNilC z = true → z = .const .nilIface := fun z h => by
    unfold isNilC at h; split at h
    · rfl
    · cases h
  have hq : a = false → b = false → (eqGuard op T x y .nilIface .nilIface).run P w = .ok () w := fun _ _ => by
    unfold eqGuard
    rcases hn with h | h
    · rw [hx _ h]; cases op <;> rfl
    · rw [hx _ h]; cases op <;> cases x <;> rfl
  cases a <;> cases b <;> simp only [ErrV] at hv hu
  · subst hv hu; exact hq rfl rfl
  · obtain ⟨_, _, rfl⟩ := hu; subst hv; unfold eqGuard; cases op <;> rfl
  · obtain ⟨_, _, rfl⟩ := hv; subst hu; unfold eqGuard; cases op <;> rfl
  · obtain ⟨_, _, rfl⟩ := hv; obtain ⟨_, _, rfl⟩ := hu; unfold eqGuard; cases op <;> rfl

theorem errR_sound {op : BinOp} {T : TypeId} {x y : Operand} {a b : Bool} {vx vy : Value} {dst : Option Nat} {r : Res} {u : St} {ms} (hT : P.underlying T = some (.interface ms))
    (hx : RepC F κ s (.val .err a) vx) (hy : RepC F κ s (.val .err b) vy) (hn : isNilC x = true ∨ isNilC y = true) (hab : a = false ∨ b = false)
    (h : errR op a b (Out1 dst) = some r) (hu : r.run = some u) : Gives P F κ s w (do eqGuard op T x y vx vy; binOp op T vx vy) dst u := by
  have ex := rep_err.1 hx
  have ey := rep_err.1 hy
  have hg := guard_err (P := P) (w := w) (op := op) (T := T) ex ey hn
  have he := equalIn_err (P := P) (w := w) hT 9999 ex ey hab
  rw [← equal_succ] at he
  have hb : ∀ (q : Bool), (binOp .eql T vx vy).run P w = (do let r ← Op.equal T vx vy; pure (.bool r) : Sem Value).run P w ∧ (binOp .neq T vx vy).run P w = (do let r ← Op.equal T vx vy; pure (.bool (!r)) : Sem Value).run P w := fun _ => by
    cases a <;> cases b <;> simp only [ErrV] at ex ey
    · subst ex ey; exact ⟨rfl, rfl⟩
    · obtain ⟨_, _, rfl⟩ := ey; subst ex; exact ⟨rfl, rfl⟩
    · obtain ⟨_, _, rfl⟩ := ex; subst ey; exact ⟨rfl, rfl⟩
    · obtain ⟨_, _, rfl⟩ := ex; obtain ⟨_, _, rfl⟩ := ey; exact ⟨rfl, rfl⟩
  unfold errR at h
  split at h
  · cases h; cases hu
    refine ⟨.bool (a == b), _, rfl, ?_, rep_bool.2 rfl, by simp [C.refs]⟩
    rw [Sem.run_bind, hg, Result.andThen_ok, (hb true).1, Sem.run_bind, he, Result.andThen_ok, Sem.run_pure]
  · cases h; cases hu
    refine ⟨.bool (!(a == b)), _, rfl, ?_, rep_bool.2 rfl, by simp [C.refs]⟩
    rw [Sem.run_bind, hg, Result.andThen_ok, (hb true).2, Sem.run_bind, he, Result.andThen_ok, Sem.run_pure]
  · cases h

theorem rep_brow {o : Nat} {v : Value} : RepC F κ s (.brow o) v ↔ ∀ n t xs, s.get (okey o) = some (.vec n t xs) → v = sliceAt (κ o) xs.length := by
  simp [RepL]
theorem brow_own {o : Nat} {v : Value} (h : RepC F κ s (.brow o) v) : RepC F κ s (.own o) v :=
  rep_own.2 (fun n t xs hs => by rw [rep_brow.1 h n t xs hs]; exact SlAt.mk _ _)
theorem rep_may {p q : Bool} {v : Value} : RepC F κ s (.may p q) v ↔ ∃ b, v = .bool b ∧ (b = p → q = true) := by
  simp [RepL]

theorem equalIn_nil {T E : TypeId} (hT : P.underlying T = some (.slice E)) (d : Nat) {a : Option Addr} {m cap : Nat} :
    (Op.equalIn (d + 1) T (.slice a m cap) (.slice none 0 0)).run P w = .ok a.isNone w := by
  cases a <;> simp only [Op.equalIn, Sem.run_bind, underlying_run hT, Result.andThen_ok, Sem.run_pure, Option.isNone_none, Option.isNone_some]

/-- A row held against the literal nil. -/
theorem nilR_sound {op : BinOp} {T E : TypeId} {x y : Operand} {a : Option Addr} {m cap : Nat} {q : Bool} {dst : Option Nat} {r : Res} {u : St} (hT : P.underlying T = some (.slice E)) (hq : a = none → q = true)
    (h : nilR op q (Out1 dst) = some r) (hu : r.run = some u) : Gives P F κ s w (do eqGuard op T x y (.slice a m cap) (.slice none 0 0); binOp op T (.slice a m cap) (.slice none 0 0)) dst u := by
  have he := equalIn_nil (P := P) (w := w) hT 9999 (a := a) (m := m) (cap := cap)
  rw [← equal_succ] at he
  have hg : (eqGuard op T x y (.slice a m cap) (.slice none 0 0)).run P w = .ok () w := by unfold eqGuard; cases op <;> rfl
  unfold nilR at h
  split at h
  · cases h; cases hu
    refine ⟨.bool a.isNone, _, rfl, ?_, rep_may.2 ⟨_, rfl, fun hb => hq (by simpa using hb)⟩, by simp [C.refs]⟩
    have hb : (binOp .eql T (.slice a m cap) (.slice none 0 0)) = (do let r ← Op.equal T (.slice a m cap) (.slice none 0 0); pure (.bool r) : Sem Value) := rfl
    rw [Sem.run_bind, hg, Result.andThen_ok, hb, Sem.run_bind, he, Result.andThen_ok, Sem.run_pure]
  · cases h; cases hu
    refine ⟨.bool (!a.isNone), _, rfl, ?_, rep_may.2 ⟨_, rfl, fun hb => hq (by simpa using hb)⟩, by simp [C.refs]⟩
    have hb : (binOp .neq T (.slice a m cap) (.slice none 0 0)) = (do let r ← Op.equal T (.slice a m cap) (.slice none 0 0); pure (.bool (!r)) : Sem Value) := rfl
    rw [Sem.run_bind, hg, Result.andThen_ok, hb, Sem.run_bind, he, Result.andThen_ok, Sem.run_pure]
  · cases h

theorem binR_sound {tb tt : Option Ty} {op : BinOp} {T : TypeId} {x y : Operand} {cx cy : C} {vx vy : Value} {dst : Option Nat} {r : Res} {u : St}
    (htb : tb = some .bool → P.underlying T = some .bool)
    (heq : ∀ t u' (p q : (Ty.pair t u').den), (Ty.pair t u').flat = true → tt = some (.pair t u') → RepV F (.pair t u') p vx → RepV F (.pair t u') q vy →
      (eqGuard op T x y vx vy).run P w = .ok () w ∧ (Op.equal T vx vy).run P w = .ok ((Ty.pair t u').beq p q) w)
    (hx : RepC F κ s cx vx) (hy : RepC F κ s cy vy) (h : binR tb tt op cx cy (Out1 dst) = some r) (hu : r.run = some u) :
    Gives P F κ s w (do eqGuard op T x y vx vy; binOp op T vx vy) dst u := by
  unfold binR at h
  split at h
  · -- numbers
    rename_i k i k' j
    have ex := rep_int.1 hx
    have ey := rep_int.1 hy
    subst ex ey
    have fin : ∀ c v, u = Out1 dst c → (binOp op T (.int k i) (.int k' j)).run P w = .ok v w → RepC F κ s c v → c.refs = [] →
        Gives P F κ s w (do eqGuard op T x y (.int k i) (.int k' j); binOp op T (.int k i) (.int k' j)) dst u := fun c v h1 h2 h3 h4 =>
      ⟨v, c, h1, by simp only [Sem.run_bind, guard_int, Result.andThen_ok, h2], h3, by rw [h4]; simp⟩
    split at h
    · cases h
      obtain ⟨m, h1, h2⟩ := Res.run_bind hu
      unfold shc at h1
      split at h1
      · cases h1
      · rename_i hj
        cases h1
        refine fin _ _ h2 ?_ (rep_int.2 rfl) rfl
        simp [binOp, Op.shift, hj, shl]
    · cases h
      obtain ⟨m, h1, h2⟩ := Res.run_bind hu
      unfold shc at h1
      split at h1
      · cases h1
      · rename_i hj
        cases h1
        refine fin _ _ h2 ?_ (rep_int.2 rfl) rfl
        simp [binOp, Op.shift, hj, shr]
    · rename_i hn1 hn2
      split at h
      · rename_i hk
        subst hk
        split at h
        · cases h; cases hu; exact fin _ _ rfl (by simp [binOp, Op.intArith]) (rep_int.2 rfl) rfl
        · cases h; cases hu; exact fin _ _ rfl (by simp [binOp, Op.intArith]) (rep_int.2 rfl) rfl
        · cases h; cases hu; exact fin _ _ rfl (by simp [binOp, Op.intArith]) (rep_int.2 rfl) rfl
        · cases h
          obtain ⟨m, h1, h2⟩ := Res.run_bind hu
          unfold quo at h1
          split at h1
          · cases h1
          · rename_i hj
            cases h1
            exact fin _ _ h2 (by simp [binOp, Op.intDiv, hj]) (rep_int.2 rfl) rfl
        · cases h
          obtain ⟨m, h1, h2⟩ := Res.run_bind hu
          unfold rem at h1
          split at h1
          · cases h1
          · rename_i hj
            cases h1
            exact fin _ _ h2 (by simp [binOp, Op.intDiv, hj]) (rep_int.2 rfl) rfl
        · cases h; cases hu; exact fin _ _ rfl (by simp only [binOp, ne_eq, not_true_eq_false, if_false, Op.intBits, Sem.run_pure]; rfl) (rep_int.2 rfl) rfl
        · cases h; cases hu; exact fin _ _ rfl (by simp only [binOp, ne_eq, not_true_eq_false, if_false, Op.intBits, Sem.run_pure]; rfl) (rep_int.2 rfl) rfl
        · cases h; cases hu; exact fin _ _ rfl (by simp only [binOp, ne_eq, not_true_eq_false, if_false, Op.intBits, Sem.run_pure]; rfl) (rep_int.2 rfl) rfl
        · cases h; cases hu; exact fin _ _ rfl (by simp only [binOp, ne_eq, not_true_eq_false, if_false, Op.intBits, Sem.run_pure]; rfl) (rep_int.2 rfl) rfl
        · cases h; cases hu; exact fin _ (.bool (decide (i = j))) rfl (by simp only [binOp, ne_eq, not_true_eq_false, if_false, Op.intCmp]; rfl) (rep_bool.2 rfl) rfl
        · cases h; cases hu; exact fin _ (.bool (!decide (i = j))) rfl (by simp only [binOp, ne_eq, not_true_eq_false, if_false, Op.intCmp]; rfl) (rep_bool.2 rfl) rfl
        · cases h; cases hu; exact fin _ (.bool (decide (i < j))) rfl (by simp only [binOp, ne_eq, not_true_eq_false, if_false, Op.intCmp]; rfl) (rep_bool.2 rfl) rfl
        · cases h; cases hu; exact fin _ (.bool (decide (i ≤ j))) rfl (by simp only [binOp, ne_eq, not_true_eq_false, if_false, Op.intCmp]; rfl) (rep_bool.2 rfl) rfl
        · cases h; cases hu; exact fin _ (.bool (decide (j < i))) rfl (by simp only [binOp, ne_eq, not_true_eq_false, if_false, Op.intCmp]; rfl) (rep_bool.2 rfl) rfl
        · cases h; cases hu; exact fin _ (.bool (decide (j ≤ i))) rfl (by simp only [binOp, ne_eq, not_true_eq_false, if_false, Op.intCmp]; rfl) (rep_bool.2 rfl) rfl
        · cases h
      · cases h
  · -- strings
    rename_i i j
    have ex := rep_str.1 hx
    have ey := rep_str.1 hy
    subst ex ey
    have fin : ∀ c v, u = Out1 dst c → (binOp op T (.string ⟨i.toArray⟩) (.string ⟨j.toArray⟩)).run P w = .ok v w → RepC F κ s c v → c.refs = [] →
        Gives P F κ s w (do eqGuard op T x y (.string ⟨i.toArray⟩) (.string ⟨j.toArray⟩); binOp op T (.string ⟨i.toArray⟩) (.string ⟨j.toArray⟩)) dst u := fun c v h1 h2 h3 h4 =>
      ⟨v, c, h1, by simp only [Sem.run_bind, guard_str, Result.andThen_ok, h2], h3, by rw [h4]; simp⟩
    split at h
    · cases h
      obtain ⟨m, h1, h2⟩ := Res.run_bind hu
      unfold cat at h1
      split at h1
      · rename_i hl
        cases h1
        refine fin _ (.string ⟨(i ++ j).toArray⟩) h2 ?_ (rep_str.2 rfl) rfl
        have hs : ¬ (((⟨i.toArray⟩ : ByteArray).size + (⟨j.toArray⟩ : ByteArray).size : Nat) : Int) > IntKind.i64.max := by
          have e1 : (⟨i.toArray⟩ : ByteArray).size = i.length := by simp [ByteArray.size]
          have e2 : (⟨j.toArray⟩ : ByteArray).size = j.length := by simp [ByteArray.size]
          have e3 : IntKind.i64.max = 9223372036854775807 := by decide
          rw [e1, e2, e3]
          unfold lim at hl
          omega
        have ha : (⟨i.toArray⟩ : ByteArray) ++ ⟨j.toArray⟩ = ⟨(i ++ j).toArray⟩ := by
          apply ByteArray.ext
          simp
        simp only [binOp, Op.stringOp, if_neg hs, Sem.run_pure, ha]
      · cases h1
    · cases h; cases hu
      exact fin _ (.bool (i == j)) rfl (by simp only [binOp, Op.stringOp, toList_mk, Sem.run_pure]) (rep_bool.2 (by rw [beq_dec])) rfl
    · cases h; cases hu
      exact fin _ (.bool (!(i == j))) rfl (by simp only [binOp, Op.stringOp, toList_mk, Sem.run_pure]) (rep_bool.2 (by rw [beq_dec])) rfl
    · cases h; cases hu
      exact fin _ _ rfl (by simp only [binOp, Op.stringOp, toList_mk, Sem.run_pure]) (rep_bool.2 rfl) rfl
    · cases h; cases hu
      exact fin _ _ rfl (by simp only [binOp, Op.stringOp, toList_mk, Sem.run_pure]) (rep_bool.2 rfl) rfl
    · cases h; cases hu
      exact fin _ (.bool (!(Op.bytesLess i j || i == j))) rfl (by simp only [binOp, Op.stringOp, toList_mk, Sem.run_pure]) (rep_bool.2 (by rw [less_total, Bool.not_not])) rfl
    · cases h; cases hu
      exact fin _ (.bool (Op.bytesLess i j || i == j)) rfl (by simp only [binOp, Op.stringOp, toList_mk, Sem.run_pure]) (rep_bool.2 (by rw [less_total])) rfl
    · cases h
  · -- truths
    rename_i i j
    have ex := rep_bool.1 hx
    have ey := rep_bool.1 hy
    subst ex ey
    split at h
    · rename_i hb
      have hT := htb hb
      have he : (Op.equal T (.bool i) (.bool j)).run P w = .ok (i == j) w := by
        rw [equal_succ]
        exact equalIn_bool hT 9999
      split at h
      · cases h; cases hu
        refine ⟨_, _, rfl, ?_, rep_bool.2 rfl, by simp [C.refs]⟩
        simp only [Sem.run_bind, guard_bool, Result.andThen_ok, binOp, he, Sem.run_pure]
      · cases h; cases hu
        refine ⟨_, _, rfl, ?_, rep_bool.2 rfl, by simp [C.refs]⟩
        simp only [Sem.run_bind, guard_bool, Result.andThen_ok, binOp, he, Sem.run_pure]
      · cases h
    · cases h
  · -- structs
    rename_i t u1 p t' u2 q
    split at h
    · rename_i he
      cases he
      split at h
      · rename_i hfl
        obtain ⟨h1, h2⟩ := heq t u1 p q hfl.1 hfl.2 (rep_val.1 hx) (rep_val.1 hy)
        obtain ⟨csx, hcx, rfl⟩ := rep_val.1 hx
        obtain ⟨csy, hcy, rfl⟩ := rep_val.1 hy
        simp only [pack, Ty.agg, if_true] at h1 h2 ⊢
        split at h
        · cases h; cases hu
          refine ⟨_, _, rfl, ?_, rep_bool.2 rfl, by simp [C.refs]⟩
          simp only [Sem.run_bind, h1, Result.andThen_ok, binOp, h2, Sem.run_pure]
        · cases h; cases hu
          refine ⟨_, _, rfl, ?_, rep_bool.2 rfl, by simp [C.refs]⟩
          simp only [Sem.run_bind, h1, Result.andThen_ok, binOp, h2, Sem.run_pure]
        · cases h
      · cases h
    · cases h
  · cases h

end
end Go.Fe
