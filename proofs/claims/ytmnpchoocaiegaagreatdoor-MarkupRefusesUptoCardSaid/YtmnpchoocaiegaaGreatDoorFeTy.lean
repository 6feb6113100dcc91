/- The program's types, and what is read off them. -/
import Derived.Test.YtmnpchoocaiegaaGreatDoorFeInv
namespace Go.Fe
open Go

def zeroIs : Ty → List Value → Bool
  | .int k, [.int k' 0] => decide (k' = k)
  | .bool, [.bool false] => true
  | .str, [.string b] => decide (b.data.toList = [])
  | .err, [.nilIface] => true
  | .sl _, [.slice none 0 0] => true
  | .arr n e, cs => decide (cs.length = n * e.size) && (List.range n).all fun i => zeroIs e ((cs.drop (i * e.size)).take e.size)
  | .unit, [] => true
  | .pair a b, cs => zeroIs a (cs.take a.size) && zeroIs b (cs.drop a.size)
  | .mu a, cs => zeroIs a (cs.take a.size) && match cs.drop a.size with
    | [.slice none 0 0] => true
    | _ => false
  | _, _ => false

theorem zeroIs_rep (F : Froz) : ∀ (t : Ty) (cs : List Value), zeroIs t cs = true → RepT F t t.zero cs
  | .int k, cs, h => by
    unfold zeroIs at h
    split at h <;> simp_all [RepT, Ty.zero]
  | .bool, cs, h => by
    unfold zeroIs at h
    split at h <;> simp_all [RepT, Ty.zero]
  | .err, cs, h => by
    unfold zeroIs at h
    split at h <;> simp_all [RepT, Ty.zero, ErrV]
  | .str, cs, h => by
    unfold zeroIs at h
    split at h <;> simp_all
    rename_i b
    obtain ⟨l⟩ := b
    simp only at h
    subst h
    simp [RepT, Ty.zero]
  | .sl e, cs, h => by
    unfold zeroIs at h
    split at h <;> simp_all [RepT, Ty.zero]
  | .arr n e, cs, h => by
    simp only [zeroIs, Bool.and_eq_true, decide_eq_true_eq, List.all_eq_true, List.mem_range] at h
    simp only [RepT, Ty.zero, List.length_replicate, true_and]
    refine ⟨h.1, fun i hi => ?_⟩
    rw [List.getElem_replicate]
    exact zeroIs_rep F e _ (h.2 i hi)
  | .unit, cs, h => by
    unfold zeroIs at h
    split at h <;> simp_all [RepT]
  | .pair a b, cs, h => by
    simp only [zeroIs, Bool.and_eq_true] at h
    simp only [RepT, Ty.zero]
    exact ⟨_, _, (List.take_append_drop a.size cs).symm, zeroIs_rep F a _ h.1, zeroIs_rep F b _ h.2⟩
  | .mu a, cs, h => by
    simp only [zeroIs, Bool.and_eq_true] at h
    refine RepT.mu.2 ⟨_, _, (List.take_append_drop a.size cs).symm, zeroIs_rep F a _ h.1, ?_⟩
    have h2 := h.2
    split at h2
    · rename_i e
      rw [e]
      simp only [RepT, Ty.zero, Tree.kids]
      exact ⟨_, _, rfl, Nat.zero_le _, .inl trivial⟩
    · cases h2

/-- Is a value one of a type with or without parts? -/
def formIs (t : Ty) : Value → Bool
  | .agg _ => t.agg
  | .tuple _ => false
  | _ => !t.agg

theorem formIs_pack {t : Ty} {v : Value} (h : formIs t v = true) : v = pack t v.cells.toList := by
  cases v <;> simp_all [formIs, pack, Value.cells]

def infoIs (P : Program) (t : Ty) (T : TypeId) : Bool :=
  match P.info? T with
  | some i => decide (i.size = t.size) && decide (i.bytes ≤ 1024) && match i.zero with
    | some z => formIs t z && zeroIs t z.cells.toList
    | none => false
  | none => false

def tyIs (P : Program) : Ty → TypeId ⊕ (List Field × Nat) → Bool
  | .int k, .inl T => infoIs P (.int k) T && match P.underlying T with
    | some (.int k') => decide (k' = k)
    | _ => false
  | .bool, .inl T => infoIs P .bool T && match P.underlying T with
    | some .bool => true
    | _ => false
  | .err, .inl T => infoIs P .err T && match P.underlying T with
    | some (.interface _) => true
    | _ => false
  | .str, .inl T => infoIs P .str T && match P.underlying T with
    | some .string => true
    | _ => false
  | .sl e, .inl T => infoIs P (.sl e) T && match P.underlying T with
    | some (.slice E) => decide (0 < e.size) && tyIs P e (.inl E) && (decide (e ≠ .int .u8) || decide (E = 5))
    | _ => false
  | .arr n e, .inl T => infoIs P (.arr n e) T && match P.underlying T with
    | some (.array m E) => decide (m = n) && decide (0 < e.size) && tyIs P e (.inl E)
    | _ => false
  | .unit, .inl T => infoIs P .unit T && match P.underlying T with
    | some (.struct fs) => decide (fs.size = 0)
    | _ => false
  | .pair a b, .inl T => infoIs P (.pair a b) T && match P.underlying T with
    | some (.struct fs) => match fs.toList with
      | f :: r => decide (f.offset = 0) && tyIs P a (.inl f.type) && tyIs P b (.inr (r, a.size))
      | [] => false
    | _ => false
  | .mu a, .inl T => infoIs P (.mu a) T && match P.underlying T with
    | some (.struct fs) => match fs.toList.getLast? with
      | some f => decide (f.offset = a.size) && tyIs P a (.inr (fs.toList.dropLast, 0)) && infoIs P (.sl (.mu a)) f.type && match P.underlying f.type with
        | some (.slice E) => decide (E = T)
        | _ => false
      | none => false
    | _ => false
  | .unit, .inr (fs, _) => decide (fs.length = 0)
  | .pair a b, .inr (fs, off) => match fs with
    | f :: r => decide (f.offset = off) && tyIs P a (.inl f.type) && tyIs P b (.inr (r, off + a.size))
    | [] => false
  | _, .inr _ => false

structure TyInfo (P : Program) (t : Ty) (T : TypeId) (i : TypeInfo) (z : Value) : Prop where
  info : P.info? T = some i
  size : i.size = t.size
  bytes : i.bytes ≤ 1024
  zero : i.zero = some z
  form : z = pack t z.cells.toList
  rep : ∀ F, RepT F t t.zero z.cells.toList
  zer : zeroIs t z.cells.toList = true

theorem infoIs_spec {P : Program} {t : Ty} {T : TypeId} (h : infoIs P t T = true) : ∃ i z, TyInfo P t T i z := by
  unfold infoIs at h
  split at h
  · rename_i i hi
    split at h
    · rename_i z hz
      simp only [Bool.and_eq_true, decide_eq_true_eq] at h
      exact ⟨i, z, hi, h.1.1, h.1.2, hz, formIs_pack h.2.1, fun F => zeroIs_rep F t _ h.2.2, h.2.2⟩
    · simp at h
  · simp at h

theorem tyIs_info {P : Program} {t : Ty} {T : TypeId} (h : tyIs P t (.inl T) = true) : ∃ i z, TyInfo P t T i z := by
  cases t <;> simp only [tyIs, Bool.and_eq_true] at h <;> exact infoIs_spec h.1

theorem tyIs_int {P : Program} {k : IntKind} {T : TypeId} (h : tyIs P (.int k) (.inl T) = true) : P.underlying T = some (.int k) := by
  simp only [tyIs, Bool.and_eq_true] at h
  have h2 := h.2
  split at h2
  · rename_i k' e
    rw [e, of_decide_eq_true h2]
  · cases h2
theorem tyIs_bool {P : Program} {T : TypeId} (h : tyIs P .bool (.inl T) = true) : P.underlying T = some .bool := by
  simp only [tyIs, Bool.and_eq_true] at h
  have h2 := h.2
  split at h2
  · assumption
  · cases h2
theorem tyIs_err {P : Program} {T : TypeId} (h : tyIs P .err (.inl T) = true) : ∃ ms, P.underlying T = some (.interface ms) := by
  simp only [tyIs, Bool.and_eq_true] at h
  have h2 := h.2
  split at h2
  · exact ⟨_, by assumption⟩
  · cases h2
theorem tyIs_str {P : Program} {T : TypeId} (h : tyIs P .str (.inl T) = true) : P.underlying T = some .string := by
  simp only [tyIs, Bool.and_eq_true] at h
  have h2 := h.2
  split at h2
  · assumption
  · cases h2
theorem tyIs_sl {P : Program} {e : Ty} {T : TypeId} (h : tyIs P (.sl e) (.inl T) = true) : ∃ E, P.underlying T = some (.slice E) ∧ 0 < e.size ∧ tyIs P e (.inl E) = true := by
  simp only [tyIs, Bool.and_eq_true] at h
  have h2 := h.2
  split at h2
  · rename_i E hE
    simp only [Bool.and_eq_true, decide_eq_true_eq] at h2
    exact ⟨E, hE, h2.1.1, h2.1.2⟩
  · cases h2
/-- A row of bytes is one of the type number 5. -/
theorem tyIs_sl5 {P : Program} {e : Ty} {T E : TypeId} (h : tyIs P (.sl e) (.inl T) = true) (hT : P.underlying T = some (.slice E)) (he : e = .int .u8) : E = 5 := by
  simp only [tyIs, Bool.and_eq_true] at h
  have h2 := h.2
  rw [hT] at h2
  simp only [Bool.and_eq_true, Bool.or_eq_true, decide_eq_true_eq] at h2
  exact h2.2.resolve_left (fun h => h he)
theorem tyIs_arr {P : Program} {n : Nat} {e : Ty} {T : TypeId} (h : tyIs P (.arr n e) (.inl T) = true) : ∃ E, P.underlying T = some (.array n E) ∧ 0 < e.size ∧ tyIs P e (.inl E) = true := by
  simp only [tyIs, Bool.and_eq_true] at h
  have h2 := h.2
  split at h2
  · rename_i m E hE
    simp only [Bool.and_eq_true, decide_eq_true_eq] at h2
    exact ⟨E, by rw [hE, h2.1.1], h2.1.2, h2.2⟩
  · cases h2

/-- A struct's type: field by field, with where it begins. -/
def Flds (P : Program) : Ty → List Field → Nat → Prop
  | .unit, fs, _ => fs = []
  | .pair a b, fs, off => ∃ f r, fs = f :: r ∧ f.offset = off ∧ tyIs P a (.inl f.type) = true ∧ Flds P b r (off + a.size)
  | .mu a, fs, off => ∃ r f, fs = r ++ [f] ∧ Flds P a r off ∧ f.offset = off + a.size ∧ tyIs P (.sl (.mu a)) (.inl f.type) = true
  | _, _, _ => False

theorem tyIs_flds {P : Program} : ∀ {t : Ty} {fs : List Field} {off : Nat}, tyIs P t (.inr (fs, off)) = true → Flds P t fs off
  | .unit, fs, off, h => by simpa [tyIs, Flds] using h
  | .pair a b, fs, off, h => by
    cases fs with
    | nil => simp [tyIs] at h
    | cons f r =>
      simp only [tyIs, Bool.and_eq_true, decide_eq_true_eq] at h
      exact ⟨f, r, rfl, h.1.1, h.1.2, tyIs_flds h.2⟩
  | .int _, _, _, h => by simp [tyIs] at h
  | .bool, _, _, h => by simp [tyIs] at h
  | .str, _, _, h => by simp [tyIs] at h
  | .err, _, _, h => by simp [tyIs] at h
  | .sl _, _, _, h => by simp [tyIs] at h
  | .arr _ _, _, _, h => by simp [tyIs] at h
  | .mu _, _, _, h => by simp [tyIs] at h

theorem tyIs_rec {P : Program} {t : Ty} {T : TypeId} (hr : t.isRec = true) (h : tyIs P t (.inl T) = true) : ∃ fs, P.underlying T = some (.struct fs) ∧ Flds P t fs.toList 0 := by
  cases t <;> simp only [Ty.isRec, Bool.false_eq_true] at hr
  case unit =>
    simp only [tyIs, Bool.and_eq_true] at h
    have h2 := h.2
    split at h2
    · rename_i fs hf
      exact ⟨fs, hf, by simpa [Flds] using h2⟩
    · cases h2
  case pair a b =>
    simp only [tyIs, Bool.and_eq_true] at h
    have h2 := h.2
    split at h2
    · rename_i fs hf
      refine ⟨fs, hf, ?_⟩
      split at h2
      · rename_i f r hfr
        simp only [Bool.and_eq_true, decide_eq_true_eq] at h2
        rw [hfr]
        exact ⟨f, r, rfl, h2.1.1, h2.1.2, by have := tyIs_flds h2.2; simpa using this⟩
      · cases h2
    · cases h2
  case mu a =>
    have h0 := h
    simp only [tyIs, Bool.and_eq_true] at h
    have h2 := h.2
    split at h2
    · rename_i fs hf
      refine ⟨fs, hf, ?_⟩
      split at h2
      · rename_i f hfl
        simp only [Bool.and_eq_true, decide_eq_true_eq] at h2
        obtain ⟨⟨⟨h3, h4⟩, h5⟩, h6⟩ := h2
        split at h6
        · rename_i E hE
          have hET := of_decide_eq_true h6
          refine ⟨fs.toList.dropLast, f, ?_, tyIs_flds h4, by simpa using h3, ?_⟩
          · obtain ⟨ys, e⟩ := List.getLast?_eq_some_iff.1 hfl
            rw [e, List.dropLast_concat]
          · simp only [tyIs, Bool.and_eq_true]
            refine ⟨h5, ?_⟩
            rw [hE]
            simp only [Bool.and_eq_true, decide_eq_true_eq, Bool.or_eq_true]
            subst hET
            exact ⟨⟨by simp [Ty.size], by simpa only [tyIs, Bool.and_eq_true] using h0⟩, .inl (by simp)⟩
        · cases h6
      · cases h2
    · cases h2

theorem Flds.count {P : Program} : ∀ {t : Ty} {fs : List Field} {off : Nat}, Flds P t fs off → fs.length = t.nf
  | .unit, _, _, h => by simp only [Flds] at h; subst h; rfl
  | .pair a b, fs, off, h => by
    obtain ⟨f, r, rfl, h1, h2, h3⟩ := h
    exact congrArg (· + 1) (Flds.count h3)
  | .mu a, fs, off, h => by
    obtain ⟨r, f, rfl, h1, _⟩ := h
    rw [List.length_append, Flds.count h1]
    rfl
  | .int _, _, _, h => by simp [Flds] at h
  | .bool, _, _, h => by simp [Flds] at h
  | .str, _, _, h => by simp [Flds] at h
  | .err, _, _, h => by simp [Flds] at h
  | .sl _, _, _, h => by simp [Flds] at h
  | .arr _ _, _, _, h => by simp [Flds] at h

/-- Field number k of a struct's type, as the program has it. -/
theorem Flds.get {P : Program} : ∀ {t : Ty} {fs : List Field} {off k d : Nat} {u : Ty}, Flds P t fs off → t.fld k = some (d, u) →
    ∃ f, fs[k]? = some f ∧ f.offset = off + d ∧ tyIs P u (.inl f.type) = true
  | .pair a b, fs, off, 0, d, u, h, hk => by
    obtain ⟨f, r, rfl, h1, h2, h3⟩ := h
    simp only [Ty.fld, Option.some.injEq, Prod.mk.injEq] at hk
    obtain ⟨rfl, rfl⟩ := hk
    exact ⟨f, rfl, by simpa using h1, h2⟩
  | .pair a b, fs, off, k + 1, d, u, h, hk => by
    obtain ⟨f, r, rfl, h1, h2, h3⟩ := h
    simp only [Ty.fld, Option.map_eq_some_iff] at hk
    obtain ⟨⟨d', u'⟩, hk, he⟩ := hk
    simp only [Prod.mk.injEq] at he
    obtain ⟨rfl, rfl⟩ := he
    obtain ⟨g, hg, ho, ht⟩ := Flds.get h3 hk
    exact ⟨g, by simpa using hg, by omega, ht⟩
  | .mu a, fs, off, k, d, u, h, hk => by
    obtain ⟨r, f, rfl, h1, h2, h3⟩ := h
    have hc := h1.count
    simp only [Ty.fld] at hk
    split at hk
    · rename_i e
      subst e
      cases hk
      exact ⟨f, by rw [← hc]; simp, h2, h3⟩
    · obtain ⟨g, hg, ho, ht⟩ := Flds.get h1 hk
      exact ⟨g, by rw [List.getElem?_append_left (List.getElem?_eq_some_iff.1 hg).1]; exact hg, ho, ht⟩
  | .unit, _, _, _, _, _, _, hk => by simp [Ty.fld] at hk
  | .int _, _, _, _, _, _, h, _ => by simp [Flds] at h
  | .bool, _, _, _, _, _, h, _ => by simp [Flds] at h
  | .str, _, _, _, _, _, h, _ => by simp [Flds] at h
  | .err, _, _, _, _, _, h, _ => by simp [Flds] at h
  | .sl _, _, _, _, _, _, h, _ => by simp [Flds] at h
  | .arr _ _, _, _, _, _, _, h, _ => by simp [Flds] at h

structure BldInfo (P : Program) (T : TypeId) : Prop where
  zero : ∃ i, P.info? T = some i ∧ i.size = 2 ∧ i.zero = some (.agg #[.pointer none, .slice none 0 0])
  flds : ∃ f f' i i', P.underlying T = some (.struct #[f, f']) ∧ f.offset = 0 ∧ f'.offset = 1 ∧ P.info? f.type = some i ∧ 0 < i.size ∧ P.info? f'.type = some i' ∧ 0 < i'.size

/-- Is a type strings.Builder's form: an address, and a row of bytes? -/
def bldIs (P : Program) (T : TypeId) : Bool :=
  (match P.info? T with
  | some i => decide (i.size = 2) && match i.zero with
    | some (.agg cs) => match cs.toList with
      | [.pointer none, .slice none 0 0] => true
      | _ => false
    | _ => false
  | none => false) &&
  match P.underlying T with
  | some (.struct fs) => match fs.toList with
    | [f, f'] => decide (f.offset = 0 ∧ f'.offset = 1) && ((P.info? f.type).map (·.size)).any (fun k => decide (0 < k)) && ((P.info? f'.type).map (·.size)).any (fun k => decide (0 < k))
    | _ => false
  | _ => false

theorem bldIs_spec {P : Program} {T : TypeId} (h : bldIs P T = true) : BldInfo P T := by
  unfold bldIs at h
  simp only [Bool.and_eq_true] at h
  obtain ⟨h1, h2⟩ := h
  constructor
  · split at h1
    · rename_i i hi
      simp only [Bool.and_eq_true, decide_eq_true_eq] at h1
      obtain ⟨h3, h4⟩ := h1
      refine ⟨i, hi, h3, ?_⟩
      split at h4
      · rename_i cs hz
        split at h4
        · rename_i hcs
          rw [hz]
          obtain ⟨l⟩ := cs
          simp only at hcs
          subst hcs
          rfl
        · cases h4
      · cases h4
    · cases h1
  · split at h2
    · rename_i fs hfs
      split at h2
      · rename_i f f' hff
        simp only [Bool.and_eq_true, decide_eq_true_eq] at h2
        obtain ⟨⟨⟨h3, h4⟩, h5⟩, h6⟩ := h2
        cases hi : P.info? f.type with
        | none => rw [hi] at h5; simp at h5
        | some i =>
          cases hi' : P.info? f'.type with
          | none => rw [hi'] at h6; simp at h6
          | some i' =>
            rw [hi] at h5
            rw [hi'] at h6
            refine ⟨f, f', i, i', ?_, h3, h4, hi, by simpa using h5, hi', by simpa using h6⟩
            obtain ⟨l⟩ := fs
            simp only at hff
            subst hff
            exact hfs
      · cases h2
    · cases h2

/-- Is a type a struct of one strings.Builder? -/
structure BwInfo (P : Program) (T : TypeId) : Prop where
  zero : ∃ i, P.info? T = some i ∧ i.size = 2 ∧ i.zero = some (.agg #[.pointer none, .slice none 0 0])
  flds : ∃ f i, P.underlying T = some (.struct #[f]) ∧ f.offset = 0 ∧ P.info? f.type = some i ∧ 0 < i.size
def bwIs (P : Program) (T : TypeId) : Bool :=
  (match P.info? T with
  | some i => decide (i.size = 2) && match i.zero with
    | some (.agg cs) => match cs.toList with
      | [.pointer none, .slice none 0 0] => true
      | _ => false
    | _ => false
  | none => false) &&
  match P.underlying T with
  | some (.struct fs) => match fs.toList with
    | [f] => decide (f.offset = 0) && ((P.info? f.type).map (·.size)).any (fun k => decide (0 < k))
    | _ => false
  | _ => false
theorem bwIs_spec {P : Program} {T : TypeId} (h : bwIs P T = true) : BwInfo P T := by
  unfold bwIs at h
  simp only [Bool.and_eq_true] at h
  obtain ⟨h1, h2⟩ := h
  constructor
  · split at h1
    · rename_i i hi
      simp only [Bool.and_eq_true, decide_eq_true_eq] at h1
      obtain ⟨h3, h4⟩ := h1
      refine ⟨i, hi, h3, ?_⟩
      split at h4
      · rename_i cs hz
        split at h4
        · rename_i hcs
          rw [hz]
          obtain ⟨l⟩ := cs
          simp only at hcs
          subst hcs
          rfl
        · cases h4
      · cases h4
    · cases h1
  · split at h2
    · rename_i fs hfs
      split at h2
      · rename_i f hff
        simp only [Bool.and_eq_true, decide_eq_true_eq] at h2
        obtain ⟨h3, h5⟩ := h2
        cases hi : P.info? f.type with
        | none => rw [hi] at h5; simp at h5
        | some i =>
          rw [hi] at h5
          refine ⟨f, i, ?_, h3, hi, by simpa using h5⟩
          obtain ⟨l⟩ := fs
          simp only at hff
          subst hff
          exact hfs
      · cases h2
    · cases h2

theorem underlying_run {P : Program} {T : TypeId} {d : TypeDesc} (h : P.underlying T = some d) (w : World) : (underlying T).run P w = .ok d w := by
  simp [underlying, program, Sem.run, bind, Sem.bind, h, pure]
theorem typeInfo_run {P : Program} {T : TypeId} {i : TypeInfo} (h : P.info? T = some i) (w : World) : (typeInfo T).run P w = .ok i w := by
  simp [typeInfo, program, Sem.run, bind, Sem.bind, h, pure]

/-! ### Structs of parts of one cell, some of them pointers -/
structure PstInfo (P : Program) (T : TypeId) (k : Nat) : Prop where
  info : ∃ i cs, P.info? T = some i ∧ i.size = k ∧ i.zero = some (.agg cs) ∧ cs.size = k
  flds : ∃ fs, P.underlying T = some (.struct fs) ∧ fs.size = k ∧ ∀ j (h : j < fs.size), fs[j].offset = j ∧ ∃ i, P.info? fs[j].type = some i ∧ i.size = 1
def fldsOne (P : Program) : List Field → Nat → Bool
  | [], _ => true
  | f :: r, j => decide (f.offset = j) && ((P.info? f.type).any fun i => decide (i.size = 1)) && fldsOne P r (j + 1)
def pstIs (P : Program) (T : TypeId) (k : Nat) : Bool :=
  (match P.info? T with
  | some i => decide (i.size = k) && match i.zero with
    | some (.agg cs) => decide (cs.size = k)
    | _ => false
  | none => false) &&
  match P.underlying T with
  | some (.struct fs) => decide (fs.size = k) && fldsOne P fs.toList 0
  | _ => false
theorem fldsOne_spec {P : Program} : ∀ {l : List Field} {o : Nat}, fldsOne P l o = true → ∀ j (h : j < l.length), l[j].offset = o + j ∧ ∃ i, P.info? l[j].type = some i ∧ i.size = 1
  | [], _, _, j, h => by simp at h
  | f :: r, o, h, j, hj => by
    simp only [fldsOne, Bool.and_eq_true, decide_eq_true_eq] at h
    obtain ⟨⟨h1, h2⟩, h3⟩ := h
    cases j with
    | zero =>
      refine ⟨by simpa using h1, ?_⟩
      cases hi : P.info? f.type with
      | none => rw [hi] at h2; simp at h2
      | some i => rw [hi] at h2; exact ⟨i, by simpa using hi, by simpa using h2⟩
    | succ j =>
      have := fldsOne_spec h3 j (by simpa using hj)
      simp only [List.getElem_cons_succ]
      exact ⟨by omega, this.2⟩
theorem pstIs_spec {P : Program} {T : TypeId} {k : Nat} (h : pstIs P T k = true) : PstInfo P T k := by
  unfold pstIs at h
  simp only [Bool.and_eq_true] at h
  obtain ⟨h1, h2⟩ := h
  constructor
  · split at h1
    · rename_i i hi
      simp only [Bool.and_eq_true, decide_eq_true_eq] at h1
      obtain ⟨h3, h4⟩ := h1
      split at h4
      · rename_i cs hz
        exact ⟨i, cs, hi, h3, hz, by simpa using h4⟩
      · cases h4
    · cases h1
  · split at h2
    · rename_i fs hfs
      simp only [Bool.and_eq_true, decide_eq_true_eq] at h2
      refine ⟨fs, hfs, h2.1, fun j hj => ?_⟩
      have := fldsOne_spec h2.2 j (by simpa using hj)
      simpa using this
    · cases h2
def pslIs (P : Program) (T : TypeId) (k : Nat) : Bool := match P.underlying T with
  | some (.slice E) => pstIs P E k
  | _ => false
theorem pslIs_spec {P : Program} {T : TypeId} {k : Nat} (h : pslIs P T k = true) : ∃ E, P.underlying T = some (.slice E) ∧ PstInfo P E k := by
  unfold pslIs at h
  split at h
  · rename_i E hE
    exact ⟨E, hE, pstIs_spec h⟩
  · cases h
/-- An array of k values of one cell each. -/
structure FaInfo (P : Program) (T : TypeId) (k : Nat) : Prop where
  info : ∃ i cs, P.info? T = some i ∧ i.zero = some (.agg cs) ∧ cs.size = k
  elem : ∃ E j, P.underlying T = some (.array k E) ∧ P.info? E = some j ∧ j.size = 1
  one : ∀ E, P.underlying T = some (.array k E) → ∃ ps rs v, P.underlying E = some (.func ps rs v)
def faIs (P : Program) (T : TypeId) (k : Nat) : Bool :=
  (match P.info? T with
  | some i => match i.zero with
    | some (.agg cs) => decide (cs.size = k)
    | _ => false
  | none => false) &&
  match P.underlying T with
  | some (.array m E) => decide (m = k) && ((P.info? E).any fun j => decide (j.size = 1)) && match P.underlying E with
    | some (.func ..) => true
    | _ => false
  | _ => false
theorem faIs_spec {P : Program} {T : TypeId} {k : Nat} (h : faIs P T k = true) : FaInfo P T k := by
  unfold faIs at h
  simp only [Bool.and_eq_true] at h
  obtain ⟨h1, h2⟩ := h
  split at h2
  · rename_i m E hE
    simp only [Bool.and_eq_true, decide_eq_true_eq] at h2
    obtain ⟨⟨h3, h4⟩, h5⟩ := h2
    subst h3
    refine ⟨?_, ?_, fun E' hE' => ?_⟩
    · split at h1
      · rename_i i hi
        split at h1
        · rename_i cs hz
          exact ⟨i, cs, hi, hz, by simpa using h1⟩
        · cases h1
      · cases h1
    · cases hj : P.info? E with
      | none => rw [hj] at h4; simp at h4
      | some j => rw [hj] at h4; exact ⟨E, j, hE, hj, by simpa using h4⟩
    · rw [hE] at hE'
      cases hE'
      split at h5
      · exact ⟨_, _, _, by assumption⟩
      · cases h5
  · cases h2
def ppIs (P : Program) (T : TypeId) : Bool := match P.underlying T with
  | some (.pointer _) => true
  | _ => false
theorem ppIs_spec {P : Program} {T : TypeId} (h : ppIs P T = true) : ∃ E, P.underlying T = some (.pointer E) := by
  unfold ppIs at h
  split at h
  · rename_i E hE
    exact ⟨E, hE⟩
  · cases h

end Go.Fe
