/- Structs that are compared. -/
import Derived.Test.YtmnpchoocaiegaaGreatDoorFeCtx
import Derived.Laws.StructEq
namespace Go.Fe
open Go

def Ty.hgt : Ty → Nat
  | .pair a b => max (a.hgt + 1) b.hgt
  | _ => 0

def eqIs (P : Program) : Ty → TypeId ⊕ List Field → Bool
  | .int _, .inl _ | .bool, .inl _ | .str, .inl _ => true
  | .unit, .inl T => !P.stoodInHeld T
  | .pair a b, .inl T => !P.stoodInHeld T && match P.underlying T with
    | some (.struct fs) => match fs.toList with
      | f :: r => decide (f.name ≠ "_") && eqIs P a (.inl f.type) && eqIs P b (.inr r)
      | [] => false
    | _ => false
  | .unit, .inr fs => fs.isEmpty
  | .pair a b, .inr fs => match fs with
    | f :: r => decide (f.name ≠ "_") && eqIs P a (.inl f.type) && eqIs P b (.inr r)
    | [] => false
  | _, _ => false

section
variable {P : Program} {F : Froz}

theorem partAt_run {t : Ty} {T : TypeId} (h : tyIs P t (.inl T) = true) {xs : Array Value} {off : Nat} {cs : List Value} (hc : (xs.toList.drop off).take t.size = cs) (hl : cs.length = t.size) (w : World) :
    (part T xs off).run P w = .ok (pack t cs) w := by
  unfold part
  simp only [Sem.run_bind, isAgg_run h, Result.andThen_ok, Sem.run_ite]
  cases ht : t.agg with
  | true =>
    simp only [if_true, sizeOf_run h, Result.andThen_ok, Sem.run_pure, pack, ht]
    congr 2
    apply Array.toList_inj.1
    rw [← hc]
    simp
  | false =>
    have h1 := size_one ht
    rw [h1] at hl hc
    have hg : xs[off]? = cs[0]? := by
      rw [← hc, List.getElem?_take, if_pos (by omega), List.getElem?_drop]
      simp
    match cs, hl with
    | [v], _ =>
      simp only [Bool.false_eq_true, if_false, hg, List.getElem?_cons_zero, Sem.run_pure, pack, ht]
      rfl

theorem eq_rep : ∀ (t : Ty), t.flat = true →
    (∀ {T : TypeId} {d : Nat} {p q : t.den} {vx vy : Value} (w : World), tyIs P t (.inl T) = true → eqIs P t (.inl T) = true → t.hgt ≤ d → RepV F t p vx → RepV F t q vy → (Op.equalIn (d + 1) T vx vy).run P w = .ok (t.beq p q) w) ∧
    (∀ {fs : List Field} {off d : Nat} {p q : t.den} {xs ys : Array Value} (w : World), Flds P t fs off → eqIs P t (.inr fs) = true → t.hgt ≤ d → RepT F t p (xs.toList.drop off) → RepT F t q (ys.toList.drop off) → (Op.eqFields d xs ys fs).run P w = .ok (t.beq p q) w) := by
  intro t
  induction t with
  | int k =>
    intro _
    refine ⟨fun {T d p q vx vy} w h _ _ hx hy => ?_, fun _ h => by simp [Flds] at h⟩
    obtain ⟨_, rfl, rfl⟩ := hx
    obtain ⟨_, rfl, rfl⟩ := hy
    simp only [pack, Ty.agg, Bool.false_eq_true, if_false, List.headD_cons, run_equalIn_int w d T k k _ _ (tyIs_int h), Ty.beq]
    congr 1
  | bool =>
    intro _
    refine ⟨fun {T d p q vx vy} w h _ _ hx hy => ?_, fun _ h => by simp [Flds] at h⟩
    obtain ⟨_, rfl, rfl⟩ := hx
    obtain ⟨_, rfl, rfl⟩ := hy
    simp only [pack, Ty.agg, Bool.false_eq_true, if_false, List.headD_cons, run_equalIn_bool' w d T _ _ (tyIs_bool h), Ty.beq]
  | str =>
    intro _
    refine ⟨fun {T d p q vx vy} w h _ _ hx hy => ?_, fun _ h => by simp [Flds] at h⟩
    obtain ⟨_, rfl, rfl⟩ := hx
    obtain ⟨_, rfl, rfl⟩ := hy
    simp only [pack, Ty.agg, Bool.false_eq_true, if_false, List.headD_cons, run_equalIn_string w d T _ _ (tyIs_str h), Ty.beq]
    congr 1
    rw [ByteArray.toList_eq, ByteArray.toList_eq]
    rw [Bool.eq_iff_iff]
    simp
  | sl e _ => intro h; cases h
  | err => intro h; cases h
  | arr n e _ => intro h; cases h
  | mu a _ => intro h; cases h
  | unit =>
    intro _
    refine ⟨fun {T d p q vx vy} w h he _ hx hy => ?_, fun {fs off d p q xs ys} w h _ _ _ _ => ?_⟩
    · obtain ⟨fs, hfs, hfl⟩ := tyIs_rec rfl h
      obtain ⟨cx, hcx, rfl⟩ := hx
      obtain ⟨cy, hcy, rfl⟩ := hy
      simp only [eqIs, Bool.not_eq_true'] at he
      have hf : P.fieldsOf T = fs := by simp [Program.fieldsOf, hfs]
      simp only [pack, Ty.agg, if_true]
      rw [run_equalIn_struct w d T _ _ (by rw [hf]; exact hfs) he, hf]
      simp only [Flds] at hfl
      rw [hfl]
      simp [Op.eqFields, Ty.beq]
    · simp only [Flds] at h
      subst h
      simp [Op.eqFields, Ty.beq]
  | pair a b iha ihb =>
    intro hflat
    simp only [Ty.flat, Bool.and_eq_true] at hflat
    have hB : ∀ {fs : List Field} {off d : Nat} {p q : (Ty.pair a b).den} {xs ys : Array Value} (w : World), Flds P (.pair a b) fs off → (match fs with
        | f :: r => decide (f.name ≠ "_") && eqIs P a (.inl f.type) && eqIs P b (.inr r)
        | [] => false) = true → (Ty.pair a b).hgt ≤ d → RepT F (.pair a b) p (xs.toList.drop off) → RepT F (.pair a b) q (ys.toList.drop off) → (Op.eqFields d xs ys fs).run P w = .ok ((Ty.pair a b).beq p q) w := by
      intro fs off d p q xs ys w h he hd hx hy
      obtain ⟨f, r, rfl, h1, h2, h3⟩ := h
      simp only [Bool.and_eq_true, decide_eq_true_eq] at he
      simp only [Ty.hgt] at hd
      obtain ⟨d, rfl⟩ : ∃ d', d = d' + 1 := ⟨d - 1, by omega⟩
      simp only [RepT] at hx hy
      obtain ⟨c1, c2, hc, hx1, hx2⟩ := hx
      obtain ⟨e1, e2, hce, hy1, hy2⟩ := hy
      have hl1 := hx1.length
      have hl2 := hy1.length
      have px := partAt_run (xs := xs) (off := f.offset) h2 (cs := c1) (by rw [h1, hc, ← hl1]; simp) hl1 w
      have py := partAt_run (xs := ys) (off := f.offset) h2 (cs := e1) (by rw [h1, hce, ← hl2]; simp) hl2 w
      have he1 := (iha hflat.1).1 (d := d) w h2 he.1.2 (by omega) ⟨_, hx1, rfl⟩ ⟨_, hy1, rfl⟩
      have he2 := (ihb hflat.2).2 (d := d + 1) (xs := xs) (ys := ys) w h3 he.2 (by omega) (by rw [← List.drop_drop, hc, ← hl1]; simpa using hx2) (by rw [← List.drop_drop, hce, ← hl2]; simpa using hy2)
      simp only [Op.eqFields, he.1.1, ne_eq, not_false_eq_true, if_true, Sem.run_bind, px, py, Result.andThen_ok, he1, Sem.run_ite, he2, Sem.run_pure, Ty.beq]
      cases a.beq p.1 q.1 <;> simp
    refine ⟨fun {T d p q vx vy} w h he hd hx hy => ?_, fun {fs off d p q xs ys} w h he hd hx hy => hB w h he hd hx hy⟩
    obtain ⟨fs, hfs, hfl⟩ := tyIs_rec rfl h
    obtain ⟨cx, hcx, rfl⟩ := hx
    obtain ⟨cy, hcy, rfl⟩ := hy
    simp only [eqIs, hfs, Bool.and_eq_true, Bool.not_eq_true'] at he
    have hf : P.fieldsOf T = fs := by simp [Program.fieldsOf, hfs]
    simp only [pack, Ty.agg, if_true]
    rw [run_equalIn_struct w d T _ _ (by rw [hf]; exact hfs) he.1, hf]
    exact hB w hfl he.2 hd (by simpa using hcx) (by simpa using hcy)

end

/-- A context in which structs are compared. -/
def Ctx.eqs (Γ : Ctx) (l : List (TypeId × Ty)) : Ctx := { Γ with eqt := fun T => List.lookup T l }

theorem eqs_ok {Γ : Ctx} {P : Program} {l : List (TypeId × Ty)} (hΓ : CtxOK Γ P)
    (h : (l.all fun p => p.2.flat && tyIs P p.2 (.inl p.1) && eqIs P p.2 (.inl p.1) && decide (p.2.hgt ≤ 9999) && !P.eqGuardType P.depth p.1) = true) : CtxOK (Γ.eqs l) P where
  tab := hΓ.tab
  pst := hΓ.pst
  fa := hΓ.fa
  psl := hΓ.psl
  pp := hΓ.pp
  bld := hΓ.bld
  bw := hΓ.bw
  eqs := fun T t ht hrec F p q vx vy hx hy w op x y => by
    have := lookup_all h ht
    simp only [Bool.and_eq_true, decide_eq_true_eq, Bool.not_eq_true'] at this
    obtain ⟨⟨⟨⟨h1, h2⟩, h3⟩, h4⟩, h5⟩ := this
    refine ⟨?_, (eq_rep t h1).1 (d := 9999) w h2 h3 h4 hx hy⟩
    obtain ⟨cx, _, rfl⟩ := hx
    obtain ⟨cy, _, rfl⟩ := hy
    have : t.agg = true := by cases t <;> simp_all [Ty.isRec, Ty.agg]
    simp only [pack, this, if_true]
    exact run_eqGuard_agg w op T x y _ _ h5
  fns := hΓ.fns

end Go.Fe
