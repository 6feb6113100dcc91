/- Slices, lengths, conversions, loads. -/
import Derived.Test.YtmnpchoocaiegaaGreatDoorFeOpB
namespace Go.Fe
open Go

section
variable {Γ : Ctx} {P : Program} {n : Nat} {f : Frame0} {F : Froz} {κ : Conc} {s : St} {a : Act} {w : World} {g : Nat → Option C}

theorem ends_sound (hI : Inv n f F κ s a w) (hG : GlobOK Γ F) (hg : ∀ k c, g k = some c → s.get k = some c) {lo hi : Option Operand} {m : Nat} {i j : Int} (h : ends Γ g lo hi m = some (i, j)) :
    (∃ k, lo.map a.eval = some (.int k i) ∨ (lo.map a.eval = none ∧ i = 0)) ∧ (∃ k, hi.map a.eval = some (.int k j) ∨ (hi.map a.eval = none ∧ j = m)) := by
  have one : ∀ {x : Operand} {i : Int}, (opnd Γ g x).bind asInt64 = some i → ∃ k, a.eval x = .int k i := fun {x i} h => by
    simp only [Option.bind_eq_some_iff] at h
    obtain ⟨c, hc, hi⟩ := h
    exact asInt64_sound (opnd_sound hI hG hg hc).1 hi
  unfold ends at h
  split at h
  · cases h; exact ⟨⟨.i64, .inr ⟨rfl, rfl⟩⟩, ⟨.i64, .inr ⟨rfl, rfl⟩⟩⟩
  · rename_i l
    simp only [Option.map_eq_some_iff] at h
    obtain ⟨x, hx, he⟩ := h
    cases he
    obtain ⟨k, hk⟩ := one hx
    exact ⟨⟨k, .inl (by simp [hk])⟩, ⟨.i64, .inr ⟨rfl, rfl⟩⟩⟩
  · rename_i l
    simp only [Option.map_eq_some_iff] at h
    obtain ⟨x, hx, he⟩ := h
    cases he
    obtain ⟨k, hk⟩ := one hx
    exact ⟨⟨.i64, .inr ⟨rfl, rfl⟩⟩, ⟨k, .inl (by simp [hk])⟩⟩
  · split at h
    · rename_i x y hx hy
      cases h
      obtain ⟨k, hk⟩ := one hx
      obtain ⟨k', hk'⟩ := one hy
      exact ⟨⟨k, .inl (by simp [hk])⟩, ⟨k', .inl (by simp [hk'])⟩⟩
    · cases h

/-- The bounds of a slice expression, as the machine asks them. -/
theorem bounds_run {isSlice : Bool} {len cap : Nat} (hc : len ≤ cap) (_hs : isSlice = false → cap = len) {lo hi : Option Value} {i j : Int}
    (hlo : ∃ k, lo = some (.int k i) ∨ (lo = none ∧ i = 0)) (hhi : ∃ k, hi = some (.int k j) ∨ (hi = none ∧ j = len)) (h : 0 ≤ i ∧ i ≤ j ∧ j ≤ len) :
    (Instr.sliceBounds isSlice len cap lo hi none).run P w = .ok (i.toNat, j.toNat, cap) w := by
  obtain ⟨k, hlo⟩ := hlo
  obtain ⟨k', hhi⟩ := hhi
  have e1 : 0 ≤ j := by omega
  have e2 : j ≤ (cap : Int) := by omega
  have e3 : i ≤ (j.toNat : Int) := by omega
  rcases hlo with rfl | ⟨rfl, rfl⟩ <;> rcases hhi with rfl | ⟨rfl, rfl⟩
  · simp only [Instr.sliceBounds, Instr.sliceBound, asIntOf, Sem.run_bind, Sem.run_pure, Result.andThen_ok, e1, e2, and_self, if_true, h.1, e3]
  · have e4 : i ≤ (len : Int) := by omega
    simp only [Instr.sliceBounds, Instr.sliceBound, asIntOf, Sem.run_bind, Sem.run_pure, Result.andThen_ok, and_self, if_true, h.1, e4, Int.toNat_natCast]
  · simp only [Instr.sliceBounds, Instr.sliceBound, asIntOf, Sem.run_bind, Sem.run_pure, Result.andThen_ok, e1, e2, and_self, if_true, Int.toNat_zero]
  · simp only [Instr.sliceBounds, Sem.run_bind, Sem.run_pure, Result.andThen_ok, Int.toNat_natCast, Int.toNat_zero]

theorem cut_some {α : Type} {xs : List α} {i j : Int} {ys : List α} (h : cut xs i j = some ys) : (0 ≤ i ∧ i ≤ j ∧ j ≤ xs.length) ∧ ys = (xs.take j.toNat).drop i.toNat := by
  unfold cut at h
  split at h
  · cases h; exact ⟨by assumption, rfl⟩
  · cases h

theorem extract_mk (l : List UInt8) (i j : Nat) : (⟨l.toArray⟩ : ByteArray).extract i j = ⟨((l.take j).drop i).toArray⟩ := by
  apply ByteArray.ext
  rw [ByteArray.data_extract]
  apply Array.ext'
  simp [List.extract_eq_take_drop, List.drop_take]

theorem lenR_sound (hΓ : CtxT Γ P) (_hI : Inv n f F κ s a w) (hg : ∀ k c, g k = some c → s.get k = some c) {T ty : TypeId} {ts : Array TypeId} (hts : ts[0]? = some T) {cx : C} {vx : Value} {dst : Option Nat} {r : Res} {u : St}
    (hx : RepC F κ s cx vx) (h : lenR Γ T cx g dst = some r) (hu : r.run = some u) : Gives P F κ s w (Builtin.len_ ts ty #[vx]) dst u := by
  unfold lenR at h
  simp only at h
  have fin : ∀ m : Nat, r = .ok (Out1 dst (.val (.int .i64) (m : Int))) → (Builtin.len_ ts ty #[vx]).run P w = .ok (.int .i64 m) w → Gives P F κ s w (Builtin.len_ ts ty #[vx]) dst u := fun m h1 h2 => by
    subst h1
    cases hu
    exact ⟨_, _, rfl, h2, rep_int.2 rfl, by simp [C.refs]⟩
  split at h
  · rename_i l ht
    cases h
    rw [rep_str] at hx; subst hx
    refine fin _ rfl ?_
    have e1 : (⟨l.toArray⟩ : ByteArray).size = l.length := by simp [ByteArray.size]
    simp only [Builtin.len_, hts, List.getElem?_toArray, List.getElem?_cons_zero, Sem.run_bind, underlying_run (tyIs_str (hΓ.tab _ _ ht)), Result.andThen_ok, Sem.run_pure, goInt, e1]
  · rename_i e e' xs ht
    cases h
    obtain ⟨ad, cap, rfl, _⟩ := rep_sl.1 hx
    obtain ⟨E, hT, _, _⟩ := tyIs_sl (hΓ.tab _ _ ht)
    exact fin _ rfl (by simp only [Builtin.len_, hts, List.getElem?_toArray, List.getElem?_cons_zero, Sem.run_bind, underlying_run hT, Result.andThen_ok, Sem.run_pure, goInt])
  · rename_i e ht
    cases h
    rw [rep_nil] at hx; obtain ⟨ad, rfl⟩ := hx
    obtain ⟨E, hT, _, _⟩ := tyIs_sl (hΓ.tab _ _ ht)
    exact fin 0 rfl (by simp only [Builtin.len_, hts, List.getElem?_toArray, List.getElem?_cons_zero, Sem.run_bind, underlying_run hT, Result.andThen_ok, Sem.run_pure, goInt])
  · rename_i e ob ht
    split at h
    · rename_i n0 e' xs hgo
      cases h
      obtain ⟨ad, cap, rfl⟩ := SlAt.form (rep_own.1 hx _ _ _ (hg _ _ hgo))
      obtain ⟨E, hT, _, _⟩ := tyIs_sl (hΓ.tab _ _ ht)
      exact fin _ rfl (by simp only [Builtin.len_, hts, List.getElem?_toArray, List.getElem?_cons_zero, Sem.run_bind, underlying_run hT, Result.andThen_ok, Sem.run_pure, goInt])
    · cases h
  · rename_i e ob ht
    split at h
    · rename_i n0 e' xs hgo
      cases h
      obtain ⟨ad, cap, rfl⟩ := SlAt.form (rep_own.1 (brow_own hx) _ _ _ (hg _ _ hgo))
      obtain ⟨E, hT, _, _⟩ := tyIs_sl (hΓ.tab _ _ ht)
      exact fin _ rfl (by simp only [Builtin.len_, hts, List.getElem?_toArray, List.getElem?_cons_zero, Sem.run_bind, underlying_run hT, Result.andThen_ok, Sem.run_pure, goInt])
    · cases h
  · rename_i m e c ht
    cases h
    obtain ⟨E, hT, _, _⟩ := tyIs_arr (hΓ.tab _ _ ht)
    exact fin _ rfl (by simp only [Builtin.len_, hts, List.getElem?_toArray, List.getElem?_cons_zero, Sem.run_bind, underlying_run hT, Result.andThen_ok, Sem.run_pure, goInt])
  · cases h

theorem at_nil (t : Ty) : t.at [] = some (0, t) := by cases t <;> rfl

theorem part_leaf {t : Ty} {a : C} {cs : List Value} {x : t.den} (h : RepX F κ s a cs) (hg : asVal t a = some x) : RepT F t x cs := by
  unfold asVal at hg
  split at hg
  · split at hg
    · rename_i e'; subst e'; cases hg
      simpa only [RepX] using h
    · cases hg
  · split at hg
    · cases hg
      simp only [RepX, RepL] at h
      obtain ⟨⟨a, rfl⟩, _⟩ := h
      simp only [RepT]
      exact ⟨a, 0, rfl, Nat.le_refl _, .inl (by trivial)⟩
    · cases hg
  · cases hg

theorem gather_leaf {t : Ty} {c : C} {cs : List Value} {x : t.den} {c' : C} (h : RepX F κ s c cs)
    (hg : (match c with | .cons a b => (asVal t a).map fun x => (x, b) | _ => none) = some (x, c')) : RepT F t x (cs.take t.size) ∧ RepX F κ s c' (cs.drop t.size) := by
  cases c <;> simp only [reduceCtorEq, Option.map_eq_some_iff] at hg
  obtain ⟨y, hy, he⟩ := hg
  cases he
  simp only [RepX] at h
  obtain ⟨c1, c2, rfl, h1, h2⟩ := h
  have hr := part_leaf h1 hy
  have hl := hr.length
  rw [← hl]
  exact ⟨by simpa using hr, by simpa using h2⟩

theorem gather_sound : ∀ (t : Ty) (c : C) {cs : List Value} {x : t.den} {c' : C}, RepX F κ s c cs → gather t c = some (x, c') → RepT F t x (cs.take t.size) ∧ RepX F κ s c' (cs.drop t.size)
  | .unit, c, cs, x, c', h, hg => by
    simp only [gather, Option.some.injEq, Prod.mk.injEq] at hg
    obtain ⟨_, rfl⟩ := hg
    exact ⟨by simp [RepT, Ty.size], by simpa [Ty.size] using h⟩
  | .pair a b, c, cs, x, c', h, hg => by
    simp only [gather] at hg
    split at hg
    · rename_i y c1 h1
      split at hg
      · rename_i z c2 h2
        cases hg
        obtain ⟨i1, i2⟩ := gather_sound a c h h1
        obtain ⟨j1, j2⟩ := gather_sound b c1 i2 h2
        constructor
        · simp only [RepT, Ty.size]
          exact ⟨_, _, by rw [List.take_add], i1, j1⟩
        · rw [List.drop_drop] at j2
          exact j2
      · cases hg
    · cases hg
  | .mu a, c, cs, x, c', h, hg => by
    simp only [gather] at hg
    split at hg
    · rename_i y k d h1
      simp only [Option.map_eq_some_iff] at hg
      obtain ⟨z, hz, he⟩ := hg
      cases he
      obtain ⟨i1, i2⟩ := gather_sound a c h h1
      simp only [RepX] at i2
      obtain ⟨c1, c2, e, j1, j2⟩ := i2
      have hr := part_leaf j1 hz
      have hl := hr.length
      constructor
      · refine RepT.mu.2 ⟨cs.take a.size, c1, ?_, i1, hr⟩
        simp only [Ty.size] at hl ⊢
        rw [List.take_add, e]
        congr 1
        rw [List.take_append_of_le_length (by omega), List.take_of_length_le (by omega)]
      · simp only [Ty.size] at hl ⊢
        rw [← List.drop_drop, e, ← hl, List.drop_left]
        exact j2
    · cases hg
  | .int k, c, cs, x, c', h, hg => gather_leaf h (by revert hg; cases c <;> simp [gather])
  | .bool, c, cs, x, c', h, hg => gather_leaf h (by revert hg; cases c <;> simp [gather])
  | .str, c, cs, x, c', h, hg => gather_leaf h (by revert hg; cases c <;> simp [gather])
  | .err, c, cs, x, c', h, hg => gather_leaf h (by revert hg; cases c <;> simp [gather])
  | .sl e, c, cs, x, c', h, hg => gather_leaf h (by revert hg; cases c <;> simp [gather])
  | .arr m e, c, cs, x, c', h, hg => gather_leaf h (by revert hg; cases c <;> simp [gather])

theorem cells_len {c : C} {cs : List Value} (hc : c.lone = true) (h : RepX F κ s c cs) : cs.length = c.cells := by
  cases c <;> simp only [C.lone, Bool.false_eq_true] at hc <;> simp only [RepX, C.cells] at h ⊢ <;> first | exact h.2 | exact h.length

/-- What stands behind the first cells. -/
theorem dropX_sound : ∀ (c : C) (m : Nat) {cs : List Value} {r : C}, RepX F κ s c cs → dropX c m = some r → RepX F κ s r (cs.drop m) ∧ (∀ o ∈ r.refs, o ∈ c.refs)
  | c, 0, cs, r, h, hd => by
    have : dropX c 0 = some c := by cases c <;> rfl
    rw [this] at hd
    cases hd
    exact ⟨by simpa using h, fun o ho => ho⟩
  | .cons a b, m + 1, cs, r, h, hd => by
    simp only [dropX] at hd
    split at hd
    · rename_i hm
      simp only [RepX] at h
      obtain ⟨c1, c2, rfl, h1, h2⟩ := h
      have hl : c1.length = a.cells := cells_len hm.1 h1
      obtain ⟨i1, i2⟩ := dropX_sound b (m + 1 - a.cells) h2 hd
      refine ⟨?_, fun o ho => by simp only [C.refs, List.mem_append]; exact .inr (i2 o ho)⟩
      rw [List.drop_append, List.drop_eq_nil_of_le (by omega), List.nil_append, hl]
      exact i1
    · cases hd
  | .val .., _ + 1, _, _, _, hd => by simp [dropX] at hd
  | .own _, _ + 1, _, _, _, hd => by simp [dropX] at hd
  | .ptr .., _ + 1, _, _, _, hd => by simp [dropX] at hd
  | .eptr .., _ + 1, _, _, _, hd => by simp [dropX] at hd
  | .aptr .., _ + 1, _, _, _, hd => by simp [dropX] at hd
  | .adr .., _ + 1, _, _, _, hd => by simp [dropX] at hd
  | .may .., _ + 1, _, _, _, hd => by simp [dropX] at hd
  | .brow .., _ + 1, _, _, _, hd => by simp [dropX] at hd
  | .fptr .., _ + 1, _, _, _, hd => by simp [dropX] at hd
  | .fn .., _ + 1, _, _, _, hd => by simp [dropX] at hd
  | .tup _, _ + 1, _, _, _, hd => by simp [dropX] at hd
  | .unit, _ + 1, _, _, _, hd => by simp [dropX] at hd
  | .nil, _ + 1, _, _, _, hd => by simp [dropX] at hd
  | .dead, _ + 1, _, _, _, hd => by simp [dropX] at hd
  | .vec .., _ + 1, _, _, _, hd => by simp [dropX] at hd
  | .iter .., _ + 1, _, _, _, hd => by simp [dropX] at hd
  | .rcd _, _ + 1, _, _, _, hd => by simp [dropX] at hd


theorem loadR_sound (hΓ : CtxT Γ P) (hI : Inv n f F κ s a w) (hg : ∀ k c, g k = some c → s.get k = some c) {T : TypeId} {cx : C} {vx : Value} {dst : Option Nat} {r : Res} {u : St}
    (hx : RepC F κ s cx vx) (h : loadR Γ T cx g dst = some r) (hu : r.run = some u) : Gives P F κ s w (Instr.loadAt T vx) dst u := by
  unfold loadR at h
  split at h
  · rename_i ob off t ht
    have hty := hΓ.tab _ _ ht
    split at h
    · rename_i m e xs hgo
      split at h
      · rename_i he
        obtain ⟨rfl, rfl⟩ := he
        cases h; cases hu
        have hso := hg _ _ hgo
        obtain ⟨b, p, q, hκ, rfl⟩ := rep_ptr.1 hx _ hso (by simp)
        have ho := hI.objs ob _ hso
        simp only [RepO, hκ] at ho
        obtain ⟨h1, c, T', fr, hb, _, hq, hroom, hel⟩ := ho
        obtain ⟨hm, _⟩ := h1 m rfl
        obtain ⟨E, hT, hpos, hE⟩ := tyIs_arr hty
        have hroom' : p + m * e.size ≤ c.size := by
          have : m * e.size ≤ q * e.size := Nat.mul_le_mul_right _ (by omega)
          omega
        have hr : RepT F (.arr m e) xs ((c.toList.drop (p + 0)).take (Ty.arr m e).size) := by
          simp only [RepT, Ty.size, Nat.add_zero]
          refine ⟨hm, by simp; omega, fun i hi => ?_⟩
          have := hel i hi
          have hle : i * e.size + e.size ≤ m * e.size := by rw [← Nat.succ_mul]; exact Nat.mul_le_mul_right _ (by omega)
          rw [List.drop_take, List.drop_drop, List.take_take, Nat.min_eq_left (by omega)]
          exact this
        exact ⟨_, _, rfl, load_run hty hb rfl hr.length, rep_val.2 ⟨_, hr, rfl⟩, by simp [C.refs]⟩
      · cases h
    · rename_i x hgo
      have hso := hg _ _ hgo
      obtain ⟨b, p, q, hκ, rfl⟩ := rep_ptr.1 hx _ hso (by simp)
      have ho := hI.objs ob _ hso
      simp only [RepO] at ho
      obtain ⟨b', c, T', fr, hκ', hb, _, hX, _⟩ := ho
      rw [hκ] at hκ'
      cases hκ'
      split at h
      · rename_i rest hdrop
        obtain ⟨hR, href⟩ := dropX_sound x off hX hdrop
        split at h
        · rename_i hagg
          simp only [Option.map_eq_some_iff] at h
          obtain ⟨⟨y, c'⟩, hgat, rfl⟩ := h
          cases hu
          obtain ⟨hr, _⟩ := gather_sound t rest hR hgat
          rw [← Nat.zero_add off] at hr
          exact ⟨_, _, rfl, load_run hty hb rfl hr.length, rep_val.2 ⟨_, hr, rfl⟩, by simp [C.refs]⟩
        · rename_i hagg
          have hagg' : t.agg = false := by simpa using hagg
          split at h
          · rename_i p1 p2
            split at h
            · rename_i hc1
              cases h; cases hu
              simp only [RepX] at hR
              obtain ⟨c1, c2, hc, h1, h2⟩ := hR
              have hlen : c1.length = 1 := by
                rw [← hc1.2.1]
                exact cells_len hc1.1 h1
              match c1, hlen with
              | [v], _ =>
                have hrun : (c.toList.drop (0 + off)).take t.size = [v] := by
                  rw [Nat.zero_add, hc, size_one hagg']; rfl
                have hl := load_run (P := P) hty hb hrun (by rw [size_one hagg']; rfl)
                simp only [pack, hagg', Bool.false_eq_true, if_false, List.headD_cons] at hl
                refine ⟨v, p1, rfl, hl, ?_, fun o ho => ?_⟩
                · have hp := hc1.1
                  cases p1 <;> simp only [C.lone, Bool.false_eq_true] at hp <;> simp only [RepX] at h1 <;> first | exact h1.1 | skip
                  rename_i t' y
                  refine rep_val.2 ⟨[v], h1, ?_⟩
                  have hna : t'.agg = false := hc1.2.2
                  simp [pack, hna]
                · exact hI.closed _ _ hso o (by simp only [C.refs]; exact href o (by simp only [C.refs, List.mem_append]; exact .inl ho))
            · cases h
          · cases h
      · cases h
    · cases h
  · rename_i ob e i path t ht
    have hty := hΓ.tab _ _ ht
    split at h
    · rename_i n0 e' xs hgo
      split at h
      · rename_i he
        subst he
        split at h
        · rename_i t' y hy
          split at h
          · rename_i he
            subst he
            cases h; cases hu
            have hso := hg _ _ hgo
            obtain ⟨h0, hl, b, p, q, d, u', hκ, hat, rfl⟩ := rep_eptr.1 hx _ _ hso
            have ho := hI.objs ob _ hso
            simp only [RepO, hκ] at ho
            obtain ⟨_, c, T', fr, hb, _, hq, hroom, hel⟩ := ho
            have hi : i.toNat < xs.length := by omega
            have hr := hel i.toNat hi
            have hget : xs.getD i.toNat e'.zero = xs[i.toNat] := by simp [List.getD, List.getElem?_eq_getElem hi]
            rw [hget] at hy
            obtain ⟨d', u2, y', he, hat', hry⟩ := getP_sound _ _ hr hy
            cases he
            rw [hat] at hat'
            cases hat'
            have hle := at_size _ _ hat
            rw [List.drop_take, List.drop_drop, List.take_take, Nat.min_eq_left (by omega)] at hry
            rw [Nat.add_zero]
            exact ⟨_, _, rfl, load_run hty hb rfl hry.length, rep_val.2 ⟨_, hry, rfl⟩, by simp [C.refs]⟩
          · cases h
        · cases h
      · cases h
    · cases h
  · rename_i ob off m e i path t ht
    have hty := hΓ.tab _ _ ht
    split at h
    · rename_i x hgo
      split at h
      · rename_i n' e' xs rest hdr
        split at h
        · rename_i he
          subst he
          split at h
          · rename_i hnn
            subst hnn
            split at h
            · rename_i t' y hy
              split at h
              · rename_i he
                subst he
                cases h; cases hu
                have hso := hg _ _ hgo
                obtain ⟨h0, hl, hp⟩ := rep_aptr.1 hx
                obtain ⟨b, p, q, d, u', hκ, hat, rfl⟩ := hp _ hso (by simp)
                have ho := hI.objs ob _ hso
                simp only [RepO] at ho
                obtain ⟨b', c, T', fr, hκ', hb, _, hX, _⟩ := ho
                rw [hκ] at hκ'
                cases hκ'
                obtain ⟨hR, _⟩ := dropX_sound x off hX hdr
                simp only [RepX] at hR
                obtain ⟨c1, c2, hc, h1, _⟩ := hR
                simp only [RepT] at h1
                obtain ⟨hm, hcl, hel⟩ := h1
                have hi : i.toNat < List.length xs := by omega
                have hr := hel i.toNat hi
                have hget : List.getD xs i.toNat e'.zero = xs[i.toNat] := by simp [List.getD, List.getElem?_eq_getElem hi]
                simp only at hy
                rw [hget] at hy
                obtain ⟨d', u2, y', he, hat', hry⟩ := getP_sound _ _ hr hy
                cases he
                rw [hat] at hat'
                cases hat'
                have hle := at_size _ _ hat
                have hie : i.toNat * e'.size + e'.size ≤ n' * e'.size := by rw [← Nat.succ_mul]; exact Nat.mul_le_mul_right _ (by omega)
                have hcc : (c.toList.drop (0 + off + i.toNat * e'.size + d)).take (Ty.size t') = (((c1.drop (i.toNat * e'.size)).take e'.size).drop d).take (Ty.size t') := by
                  rw [List.drop_take, List.drop_drop, List.take_take, Nat.min_eq_left (by omega), Nat.zero_add, Nat.add_assoc, ← List.drop_drop, hc]
                  rw [List.drop_append_of_le_length (by omega), List.take_append_of_le_length (by rw [List.length_drop]; omega)]
                rw [← hcc] at hry
                exact ⟨_, _, rfl, load_run hty hb rfl hry.length, rep_val.2 ⟨_, hry, rfl⟩, by simp [C.refs]⟩
              · cases h
            · cases h
          · cases h
        · cases h
      · cases h
    · cases h
  · rename_i t' x t ht
    split at h
    · rename_i he
      subst he
      cases h; cases hu
      obtain ⟨b, off, c, T', fr, hb, rfl, hr⟩ := rep_fptr.1 hx
      exact ⟨_, _, rfl, load_run (hΓ.tab _ _ ht) (hI.frozen _ _ hb) rfl hr.length, rep_val.2 ⟨_, hr, rfl⟩, by simp [C.refs]⟩
    · cases h
  · cases h

end
end Go.Fe
