/- More operations that give a value and leave memory as it is. -/
import Derived.Test.YtmnpchoocaiegaaGreatDoorFeOpA
namespace Go.Fe
open Go

section
variable {Γ : Ctx} {P : Program} {n : Nat} {f : Frame0} {F : Froz} {κ : Conc} {s : St} {a : Act} {w : World} {g : Nat → Option C}

theorem asVal_sound {t : Ty} {c : C} {x : t.den} {v : Value} (hv : RepC F κ s c v) (h : asVal t c = some x) : RepV F t x v := by
  unfold asVal at h
  split at h
  · rename_i t' y
    split at h
    · rename_i e
      subst e
      cases h
      exact rep_val.1 hv
    · cases h
  · split at h
    · cases h
      rw [rep_nil] at hv
      obtain ⟨a, rfl⟩ := hv
      exact rep_val.1 (rep_sl (κ := κ) (s := s) |>.2 ⟨a, 0, rfl, Nat.le_refl _, .inl rfl⟩)
    · cases h
  · cases h

theorem unR_sound {op : UnOp} {cx : C} {vx : Value} {dst : Option Nat} {r : Res} {u : St}
    (hx : RepC F κ s cx vx) (h : unR op cx (Out1 dst) = some r) (hu : r.run = some u) : Gives P F κ s w (Op.unary op vx) dst u := by
  unfold unR at h
  split at h
  · cases h; cases hu
    rw [rep_int] at hx; subst hx
    exact ⟨_, _, rfl, rfl, rep_int.2 rfl, by simp [C.refs]⟩
  · cases h; cases hu
    rw [rep_int] at hx; subst hx
    exact ⟨_, _, rfl, rfl, rep_int.2 rfl, by simp [C.refs]⟩
  · cases h; cases hu
    rw [rep_bool] at hx; subst hx
    exact ⟨_, _, rfl, rfl, rep_bool.2 rfl, by simp [C.refs]⟩
  · cases h

/-! ### Parts of values -/
theorem at_fld : ∀ (t : Ty) (k : Nat), t.at [k] = t.fld k
  | .pair a b, 0 => by simp [Ty.at, Ty.fld]
  | .pair a b, k + 1 => by simp [Ty.at, Ty.fld, at_fld b k]
  | .int _, _ => by simp [Ty.at, Ty.fld]
  | .bool, _ => by simp [Ty.at, Ty.fld]
  | .str, _ => by simp [Ty.at, Ty.fld]
  | .err, _ => by simp [Ty.at, Ty.fld]
  | .sl _, _ => by simp [Ty.at, Ty.fld]
  | .arr _ _, _ => by simp [Ty.at, Ty.fld]
  | .unit, _ => by simp [Ty.at, Ty.fld]
  | .mu a, k => by
    simp only [Ty.at, Ty.fld, at_fld a k]
    split <;> rfl

theorem at_size : ∀ (t : Ty) (p : List Nat) {d : Nat} {u : Ty}, t.at p = some (d, u) → d + u.size ≤ t.size
  | t, [], d, u, h => by
    have : t.at [] = some (0, t) := by cases t <;> rfl
    rw [this] at h
    cases h
    omega
  | .pair a b, 0 :: p, d, u, h => by
    simp only [Ty.at] at h
    have := at_size a p h
    simp only [Ty.size]
    omega
  | .pair a b, (k + 1) :: p, d, u, h => by
    simp only [Ty.at, Option.map_eq_some_iff] at h
    obtain ⟨⟨d', u'⟩, h, he⟩ := h
    cases he
    have := at_size b (k :: p) h
    simp only [Ty.size]
    omega
  | .mu a, k :: p, d, u, h => by
    simp only [Ty.at] at h
    simp only [Ty.size]
    split at h
    · split at h
      · cases h
        simp [Ty.size]
      · cases h
    · have := at_size a (k :: p) h
      omega
  | .int _, _ :: _, _, _, h => by simp [Ty.at] at h
  | .bool, _ :: _, _, _, h => by simp [Ty.at] at h
  | .str, _ :: _, _, _, h => by simp [Ty.at] at h
  | .err, _ :: _, _, _, h => by simp [Ty.at] at h
  | .sl _, _ :: _, _, _, h => by simp [Ty.at] at h
  | .arr _ _, _ :: _, _, _, h => by simp [Ty.at] at h
  | .unit, _ :: _, _, _, h => by simp [Ty.at] at h

theorem take_left_drop {α : Type} {x y : List α} {d m : Nat} (h : d + m ≤ x.length) : ((x ++ y).drop d).take m = (x.drop d).take m := by
  rw [List.drop_append_of_le_length (by omega), List.take_append_of_le_length (by rw [List.length_drop]; omega)]
theorem take_right_drop {α : Type} {x y : List α} {d m k : Nat} (h : x.length = k) : ((x ++ y).drop (k + d)).take m = (y.drop d).take m := by
  rw [List.drop_append, List.drop_eq_nil_of_le (by omega), List.nil_append]
  congr 2
  omega

theorem getP_sound : ∀ (t : Ty) (p : List Nat) {x : t.den} {cs : List Value} {c : C}, RepT F t x cs → getP t p x = some c →
    ∃ d u y, c = .val u y ∧ t.at p = some (d, u) ∧ RepT F u y ((cs.drop d).take u.size)
  | t, [], x, cs, c, h, hg => by
    have h1 : getP t [] x = some (.val t x) := by cases t <;> rfl
    have h2 : t.at [] = some (0, t) := by cases t <;> rfl
    rw [h1] at hg
    cases hg
    refine ⟨0, t, x, rfl, h2, ?_⟩
    rw [List.drop_zero, List.take_of_length_le (by rw [h.length]; omega)]
    exact h
  | .pair a b, 0 :: p, x, cs, c, h, hg => by
    simp only [RepT] at h
    obtain ⟨c1, c2, rfl, h1, h2⟩ := h
    simp only [getP] at hg
    obtain ⟨d, u, y, rfl, h3, h4⟩ := getP_sound a p h1 hg
    refine ⟨d, u, y, rfl, by simpa [Ty.at] using h3, ?_⟩
    have := at_size a p h3
    rw [take_left_drop (by rw [h1.length]; exact this)]
    exact h4
  | .pair a b, (k + 1) :: p, x, cs, c, h, hg => by
    simp only [RepT] at h
    obtain ⟨c1, c2, rfl, h1, h2⟩ := h
    simp only [getP] at hg
    obtain ⟨d, u, y, rfl, h3, h4⟩ := getP_sound b (k :: p) h2 hg
    refine ⟨a.size + d, u, y, rfl, by simp [Ty.at, h3], ?_⟩
    rw [take_right_drop h1.length]
    exact h4
  | .mu a, k :: p, x, cs, c, h, hg => by
    rw [RepT.mu] at h
    obtain ⟨c1, c2, rfl, h1, h2⟩ := h
    simp only [getP] at hg
    split at hg
    · rename_i hk
      split at hg
      · rename_i hp
        cases hg
        refine ⟨a.size, .sl (.mu a), x.kids, rfl, by simp [Ty.at, hk, hp], ?_⟩
        rw [← h1.length, List.drop_left, List.take_of_length_le (by rw [h2.length]; exact Nat.le_refl _)]
        exact h2
      · cases hg
    · rename_i hk
      obtain ⟨d, u, y, rfl, h3, h4⟩ := getP_sound a (k :: p) h1 hg
      refine ⟨d, u, y, rfl, by simp only [Ty.at]; rw [if_neg hk]; exact h3, ?_⟩
      have := at_size a (k :: p) h3
      rw [take_left_drop (by rw [h1.length]; exact this)]
      exact h4
  | .int _, _ :: _, _, _, _, _, h => by simp [getP] at h
  | .bool, _ :: _, _, _, _, _, h => by simp [getP] at h
  | .str, _ :: _, _, _, _, _, h => by simp [getP] at h
  | .err, _ :: _, _, _, _, _, h => by simp [getP] at h
  | .sl _, _ :: _, _, _, _, _, h => by simp [getP] at h
  | .arr _ _, _ :: _, _, _, _, _, h => by simp [getP] at h
  | .unit, _ :: _, _, _, _, _, h => by simp [getP] at h

theorem rec_of_fld {t : Ty} {k d : Nat} {u : Ty} (h : t.fld k = some (d, u)) : t.isRec = true := by
  cases t <;> simp_all [Ty.fld, Ty.isRec]

theorem rec_agg {t : Ty} (h : t.isRec = true) : t.agg = true := by
  cases t <;> simp_all [Ty.agg, Ty.isRec]

/-- Part of an aggregate's cells. -/
theorem part_run {u : Ty} {U : TypeId} (h : tyIs P u (.inl U) = true) {y : u.den} {cs : List Value} {d : Nat} (hr : RepT F u y ((cs.drop d).take u.size)) :
    (part U cs.toArray d).run P w = .ok (pack u ((cs.drop d).take u.size)) w := by
  have hl := hr.length
  simp only [part, Sem.run_bind, isAgg_run h, Result.andThen_ok]
  cases hu : u.agg with
  | true =>
    simp only [if_true, Sem.run_bind, sizeOf_run h, Result.andThen_ok, Sem.run_pure, pack, hu]
    congr 2
    apply Array.ext'
    simp [List.extract_eq_take_drop]
    
  | false =>
    have h1 := size_one hu
    rw [h1] at hl ⊢
    have hd : d < cs.length := by
      rw [List.length_take, List.length_drop] at hl; omega
    simp only [Bool.false_eq_true, if_false, pack, hu]
    have he : (cs.drop d).take 1 = [cs[d]] := by
      rw [List.drop_eq_getElem_cons hd]; rfl
    rw [he]
    simp [hd]

theorem fieldR_sound (hΓ : CtxT Γ P) {T : TypeId} {cx : C} {vx : Value} {k : Nat} {dst : Option Nat} {r : Res} {u : St}
    (hx : RepC F κ s cx vx) (h : fieldR Γ T cx k dst = some r) (hu : r.run = some u) : Gives P F κ s w (Instr.field T vx k) dst u := by
  unfold fieldR at h
  split at h
  · rename_i t t' y ht
    split at h
    · rename_i e
      subst e
      split at h
      · rename_i U z hz
        cases h; cases hu
        obtain ⟨cs, hr, rfl⟩ := rep_val.1 hx
        obtain ⟨d, U', z', he, hat, hrz⟩ := getP_sound _ _ hr hz
        cases he
        rw [at_fld] at hat
        have hrec := rec_of_fld hat
        obtain ⟨fs, hfs, hfl⟩ := tyIs_rec hrec (hΓ.tab _ _ ht)
        obtain ⟨fd, hf, hoff, htf⟩ := hfl.get hat
        have hf' : fs[k]? = some fd := by simpa using hf
        refine ⟨_, _, rfl, ?_, rep_val.2 ⟨_, hrz, rfl⟩, by simp [C.refs]⟩
        have := part_run (P := P) (w := w) htf hrz
        simp only [Instr.field, Sem.run_bind, underlying_run hfs, Result.andThen_ok, hf', pack, rec_agg hrec, if_true, asAgg, Sem.run_pure, hoff, Nat.zero_add]
        exact this
      · cases h
    · cases h
  · cases h

theorem idx_some {α : Type} {xs : List α} {i : Int} {x : α} (h : idx xs i = some x) : 0 ≤ i ∧ ∃ hl : i.toNat < xs.length, xs[i.toNat] = x := by
  unfold idx at h
  split at h
  · rename_i h0
    obtain ⟨hl, h⟩ := List.getElem?_eq_some_iff.1 h
    exact ⟨h0, hl, h⟩
  · cases h

theorem asInt64_sound {c : C} {v : Value} {i : Int} (hv : RepC F κ s c v) (h : asInt64 c = some i) : ∃ k, v = .int k i := by
  unfold asInt64 at h
  split at h
  · cases h; exact ⟨_, rep_int.1 hv⟩
  · cases h

theorem inb_spec {i : Int} {m : Nat} (h : chk (inb i m) = some ()) : 0 ≤ i ∧ i < m := by
  unfold chk at h
  split at h
  · rename_i hb
    simpa [inb] using hb
  · cases h

/-- An index in range at a slice or at an array's address. -/
theorem indexAt_slice {T E : TypeId} {e : Ty} (hT : P.underlying T = some (.slice E)) (hE : tyIs P e (.inl E) = true) {b off m cap : Nat} {k : IntKind} {i : Int} (h0 : 0 ≤ i) (h1 : i < m) :
    (Instr.indexAt T (.slice (some ⟨b, off, none⟩) m cap) (.int k i)).run P w = .ok (.pointer (some ⟨b, off + i.toNat * e.size, none⟩)) w := by
  simp only [Instr.indexAt, asIntOf, Sem.run_bind, Sem.run_pure, Result.andThen_ok, underlying_run hT, sizeOf_run hE, add_lit, h0, h1, and_self, if_true]
theorem indexAt_array {T E : TypeId} {e : Ty} {m : Nat} (hT : P.underlying T = some (.array m E)) (hE : tyIs P e (.inl E) = true) {b off : Nat} {k : IntKind} {i : Int} (h0 : 0 ≤ i) (h1 : i < m) :
    (Instr.indexAt T (.pointer (some ⟨b, off, none⟩)) (.int k i)).run P w = .ok (.pointer (some ⟨b, off + i.toNat * e.size, none⟩)) w := by
  simp only [Instr.indexAt, asIntOf, Instr.sureAddr, Sem.run_bind, Sem.run_pure, Result.andThen_ok, underlying_run hT, sizeOf_run hE, add_lit, h0, h1, and_self, if_true]


theorem indexR_sound (hΓ : CtxT Γ P) {T : TypeId} {cx ci : C} {vx vi : Value} {dst : Option Nat} {r : Res} {u : St}
    (hx : RepC F κ s cx vx) (hi : RepC F κ s ci vi) (h : indexR Γ T cx ci dst = some r) (hu : r.run = some u) : Gives P F κ s w (Instr.index T vx vi) dst u := by
  unfold indexR at h
  split at h
  · rename_i l j ht hj
    cases h
    obtain ⟨k, rfl⟩ := asInt64_sound hi hj
    obtain ⟨c, h1, rfl⟩ := Res.run_bind hu
    obtain ⟨h0, hl, rfl⟩ := idx_some h1
    rw [rep_str] at hx
    subst hx
    refine ⟨_, _, rfl, ?_, rep_int.2 rfl, by simp [C.refs]⟩
    have hb : (⟨l.toArray⟩ : ByteArray)[j.toNat]? = some l[j.toNat] := by
      rw [getElem?_pos _ _ (by show j.toNat < (⟨l.toArray⟩ : ByteArray).size; simpa [ByteArray.size] using hl)]
      rfl
    simp only [Instr.index, asIntOf, Sem.run_bind, Sem.run_pure, Result.andThen_ok, underlying_run (tyIs_str (hΓ.tab _ _ ht)), h0, if_true, hb]
    rfl
  · rename_i n e n' e' l j ht hj
    split at h
    · rename_i he
      obtain ⟨rfl, rfl⟩ := he
      cases h
      obtain ⟨k, rfl⟩ := asInt64_sound hi hj
      obtain ⟨y, h1, rfl⟩ := Res.run_bind hu
      obtain ⟨h0, hl, rfl⟩ := idx_some h1
      obtain ⟨cs, hr, rfl⟩ := rep_val.1 hx
      obtain ⟨E, hT, hpos, hE⟩ := tyIs_arr (hΓ.tab _ _ ht)
      simp only [RepT] at hr
      have hy := hr.2.2 j.toNat hl
      refine ⟨_, _, rfl, ?_, rep_val.2 ⟨_, hy, rfl⟩, by simp [C.refs]⟩
      have hlt : j < (n' : Int) := by have := hr.1; omega
      have := part_run (P := P) (w := w) hE hy
      simp only [Instr.index, asIntOf, Sem.run_bind, Sem.run_pure, Result.andThen_ok, underlying_run hT, pack, Ty.agg, if_true, h0, hlt, and_self, sizeOf_run hE]
      exact this
    · cases h
  · cases h

/-- What an indexAddr, a fieldAddr or the like must show. -/
theorem indexAddrR_sound (hΓ : CtxT Γ P) (hI : Inv n f F κ s a w) (hg : ∀ k c, g k = some c → s.get k = some c) {T : TypeId} {cx ci : C} {vx vi : Value} {dst : Option Nat} {r : Res} {u : St}
    (hx : RepC F κ s cx vx) (hxr : ∀ o ∈ cx.refs, (s.get (okey o)).isSome = true) (hi : RepC F κ s ci vi) (h : indexAddrR Γ T cx ci g dst = some r) (hu : r.run = some u) : Gives P F κ s w (Instr.indexAt T vx vi) dst u := by
  unfold indexAddrR at h
  split at h
  · -- data
    rename_i e e' xs j ht hj
    split at h
    · rename_i he
      subst he
      cases h
      obtain ⟨k, rfl⟩ := asInt64_sound hi hj
      obtain ⟨y, h1, rfl⟩ := Res.run_bind hu
      obtain ⟨h0, hl, rfl⟩ := idx_some h1
      obtain ⟨ad, cap, rfl, hcap, hd⟩ := rep_sl.1 hx
      obtain ⟨E, hT, hpos, hE⟩ := tyIs_sl (hΓ.tab _ _ ht)
      rcases hd with hd | ⟨b, off, c, T', fr, rfl, hb, hel⟩
      · rw [hd] at hl; simp at hl
      · refine ⟨_, _, rfl, indexAt_slice hT hE h0 (by omega), rep_fptr.2 ⟨b, _, c, T', fr, hb, rfl, hel _ hl⟩, by simp [C.refs]⟩
    · cases h
  · -- an own row
    rename_i e ob j ht hj
    split at h
    · rename_i n0 e' xs hgo
      split at h
      · rename_i he
        subst he
        cases h
        obtain ⟨k, rfl⟩ := asInt64_sound hi hj
        obtain ⟨y, h1, rfl⟩ := Res.run_bind hu
        obtain ⟨h0, hl⟩ := inb_spec h1
        obtain ⟨E, hT, hpos, hE⟩ := tyIs_sl (hΓ.tab _ _ ht)
        have hso := hg _ _ hgo
        have hv := rep_own.1 hx _ _ _ hso
        have ho := hI.objs ob _ hso
        simp only [RepO] at ho
        cases hκ : κ ob with
        | none =>
          rw [hκ] at ho
          have := ho.2
          subst this
          simp only [List.length_nil] at hl
          omega
        | some q =>
          obtain ⟨b, p, q⟩ := q
          rw [hκ] at hv
          simp only [SlAt] at hv
          subst hv
          refine ⟨_, _, rfl, indexAt_slice hT hE h0 hl, rep_eptr.2 ?_, by simpa [C.refs] using hxr⟩
          intro n1 ys hys
          rw [hso] at hys
          cases hys
          have : e'.at [] = some (0, e') := by cases e' <;> rfl
          exact ⟨h0, hl, b, p, q, 0, e', hκ, this, rfl⟩
      · cases h
    · cases h
  · -- an array
    rename_i m e ob off j ht hj
    split at h
    · rename_i n0 e' xs hgo
      split at h
      · rename_i he
        obtain ⟨rfl, rfl, rfl⟩ := he
        cases h
        obtain ⟨k, rfl⟩ := asInt64_sound hi hj
        obtain ⟨y, h1, rfl⟩ := Res.run_bind hu
        obtain ⟨h0, hl⟩ := inb_spec h1
        obtain ⟨E, hT, hpos, hE⟩ := tyIs_arr (hΓ.tab _ _ ht)
        have hso := hg _ _ hgo
        obtain ⟨b, p, q, hκ, rfl⟩ := rep_ptr.1 hx _ hso (by simp)
        have ho := hI.objs ob _ hso
        simp only [RepO] at ho
        have hlen := (ho.1 _ rfl).1
        refine ⟨_, _, rfl, indexAt_array hT hE h0 hl, rep_eptr.2 ?_, by simpa [C.refs] using hxr⟩
        intro n1 ys hys
        rw [hso] at hys
        cases hys
        have : e'.at [] = some (0, e') := by cases e' <;> rfl
        exact ⟨h0, by rw [hlen]; exact hl, b, p, q, 0, e', hκ, this, rfl⟩
      · cases h
    · rename_i x hgo
      split at h
      · rename_i m' e' xs rest hdr
        split at h
        · rename_i he
          obtain ⟨rfl, rfl⟩ := he
          cases h
          obtain ⟨k, rfl⟩ := asInt64_sound hi hj
          obtain ⟨y, h1, rfl⟩ := Res.run_bind hu
          obtain ⟨h0, hl⟩ := inb_spec h1
          obtain ⟨E, hT, hpos, hE⟩ := tyIs_arr (hΓ.tab _ _ ht)
          have hso := hg _ _ hgo
          obtain ⟨b, p, q, hκ, rfl⟩ := rep_ptr.1 hx _ hso (by simp)
          refine ⟨_, _, rfl, indexAt_array hT hE h0 hl, rep_aptr.2 ⟨h0, hl, fun c hc _ => ?_⟩, by simpa [C.refs] using hxr⟩
          have : e'.at [] = some (0, e') := by cases e' <;> rfl
          exact ⟨b, p, q, 0, e', hκ, this, rfl⟩
        · cases h
      · cases h
    · cases h
  · -- an array that is data
    rename_i m e m' e' xs j ht hj
    split at h
    · rename_i he
      obtain ⟨rfl, rfl⟩ := he
      cases h
      obtain ⟨k, rfl⟩ := asInt64_sound hi hj
      obtain ⟨y, h1, rfl⟩ := Res.run_bind hu
      obtain ⟨h0, hl, rfl⟩ := idx_some h1
      obtain ⟨b, off, c, T', fr, hb, rfl, hr⟩ := rep_fptr.1 hx
      obtain ⟨E, hT, hpos, hE⟩ := tyIs_arr (hΓ.tab _ _ ht)
      simp only [RepT, Ty.size] at hr
      have hy := hr.2.2 j.toNat hl
      refine ⟨_, _, rfl, indexAt_array hT hE h0 (by have := hr.1; omega), rep_fptr.2 ⟨b, _, c, T', fr, hb, rfl, ?_⟩, by simp [C.refs]⟩
      have hb2 : j.toNat * e'.size + e'.size ≤ m' * e'.size := by
        rw [← Nat.succ_mul]; exact Nat.mul_le_mul_right _ (by have := hr.1; omega)
      rw [List.drop_take, List.drop_drop, List.take_take] at hy
      rw [Nat.min_eq_left (by omega)] at hy
      exact hy
    · cases h
  · cases h

theorem fieldAt_run {t : Ty} {T : TypeId} (h : tyIs P t (.inl T) = true) {k d : Nat} {u : Ty} (hf : t.fld k = some (d, u)) (hs : 0 < u.size) {b off : Nat} :
    (Instr.fieldAt T (.pointer (some ⟨b, off, none⟩)) k).run P w = .ok (.pointer (some ⟨b, off + d, none⟩)) w := by
  have hrec := rec_of_fld hf
  obtain ⟨fs, hfs, hfl⟩ := tyIs_rec hrec h
  obtain ⟨fd, hfd, hoff, htf⟩ := hfl.get hf
  have hf' : fs[k]? = some fd := by simpa using hfd
  have hne : u.size ≠ 0 := by omega
  simp only [Instr.fieldAt, Sem.run_bind, underlying_run hfs, Result.andThen_ok, hf', Instr.sureAddr, Sem.run_pure, fieldPlace, sizeOf_run htf, hne, if_false, add_lit, hoff, Nat.zero_add]

theorem bldAddrR_sound (hΓ : CtxT Γ P) (hg : ∀ k c, g k = some c → s.get k = some c) {T : TypeId} (hT : Γ.bld T = true) {cx : C} {vx : Value} {k : Nat} {dst : Option Nat} {r : Res} {u : St}
    (hx : RepC F κ s cx vx) (hxr : ∀ o ∈ cx.refs, (s.get (okey o)).isSome = true) (h : bldAddrR cx k g dst = some r) (hu : r.run = some u) : Gives P F κ s w (Instr.fieldAt T vx k) dst u := by
  unfold bldAddrR at h
  split at h
  · rename_i ob off
    split at h
    · rename_i x hc
      split at h
      · rename_i hk
        cases h; cases hu
        obtain ⟨b, p, q, hκ, rfl⟩ := rep_ptr.1 hx _ (hg _ _ hc) (by simp)
        obtain ⟨f, f', i, i', hfs, ho, ho', hi, hpos, hi', hpos'⟩ := (bldIs_spec (hΓ.bld T hT)).flds
        refine ⟨.pointer (some ⟨b, p + (off + k), none⟩), _, rfl, ?_, rep_ptr.2 ?_, by simpa [C.refs] using hxr⟩
        · have hs : (Go.sizeOf f.type).run P w = .ok i.size w := by simp [Go.sizeOf, typeInfo_run hi]
          have hs' : (Go.sizeOf f'.type).run P w = .ok i'.size w := by simp [Go.sizeOf, typeInfo_run hi']
          have hne : i.size ≠ 0 := by omega
          have hne' : i'.size ≠ 0 := by omega
          match k, hk with
          | 0, _ => simp only [Instr.fieldAt, Sem.run_bind, underlying_run hfs, Result.andThen_ok, List.getElem?_toArray, List.getElem?_cons_zero, Instr.sureAddr, Sem.run_pure, fieldPlace, hs, hne, if_false, add_lit, ho, Nat.add_zero]
          | 1, _ => simp only [Instr.fieldAt, Sem.run_bind, underlying_run hfs, Result.andThen_ok, List.getElem?_toArray, List.getElem?_cons_zero, List.getElem?_cons_succ, Instr.sureAddr, Sem.run_pure, fieldPlace, hs', hne', if_false, add_lit, ho', Nat.add_assoc]
        · intro c' _ _
          exact ⟨b, p, q, hκ, rfl⟩
      · cases h
    · cases h
  · cases h

theorem at_snoc : ∀ (t : Ty) (p : List Nat) (k : Nat) {d : Nat} {u : Ty}, t.at p = some (d, u) → t.at (p ++ [k]) = (u.fld k).map fun q => (d + q.1, q.2)
  | t, [], k, d, u, h => by
    have h2 : t.at [] = some (0, t) := by cases t <;> rfl
    rw [h2] at h
    cases h
    rw [List.nil_append, at_fld]
    simp
  | .pair a b, 0 :: p, k, d, u, h => by
    simp only [Ty.at] at h
    simp only [List.cons_append, Ty.at]
    exact at_snoc a p k h
  | .pair a b, (j + 1) :: p, k, d, u, h => by
    simp only [Ty.at, Option.map_eq_some_iff] at h
    obtain ⟨⟨d', u'⟩, h, he⟩ := h
    cases he
    simp only [List.cons_append, Ty.at]
    have := at_snoc b (j :: p) k h
    rw [List.cons_append] at this
    rw [this]
    cases u'.fld k <;> simp [Nat.add_assoc]
  | .mu a, j :: p, k, d, u, h => by
    simp only [Ty.at] at h
    simp only [List.cons_append, Ty.at]
    split at h
    · rename_i hj
      split at h
      · cases h
        rw [if_pos hj, if_neg (by simp)]
        simp [Ty.fld]
      · cases h
    · rename_i hj
      rw [if_neg hj]
      exact at_snoc a (j :: p) k h
  | .int _, _ :: _, _, _, _, h => by simp [Ty.at] at h
  | .bool, _ :: _, _, _, _, h => by simp [Ty.at] at h
  | .str, _ :: _, _, _, _, h => by simp [Ty.at] at h
  | .err, _ :: _, _, _, _, h => by simp [Ty.at] at h
  | .sl _, _ :: _, _, _, _, h => by simp [Ty.at] at h
  | .arr _ _, _ :: _, _, _, _, h => by simp [Ty.at] at h
  | .unit, _ :: _, _, _, _, h => by simp [Ty.at] at h

theorem fieldAddrR_sound (hΓ : CtxT Γ P) (hg : ∀ k c, g k = some c → s.get k = some c) {T : TypeId} {cx : C} {vx : Value} {k : Nat} {dst : Option Nat} {r : Res} {u : St}
    (hx : RepC F κ s cx vx) (hxr : ∀ o ∈ cx.refs, (s.get (okey o)).isSome = true) (h : fieldAddrR Γ T cx k g dst = some r) (hu : r.run = some u) : Gives P F κ s w (Instr.fieldAt T vx k) dst u := by
  unfold fieldAddrR at h
  split at h
  · rename_i t d U ob off ht
    simp only [Option.bind_eq_some_iff, Option.map_eq_some_iff] at ht
    obtain ⟨t', ht, p, hp, he⟩ := ht
    cases he
    split at h
    · rename_i x hc
      split at h
      · rename_i hs
        cases h; cases hu
        obtain ⟨b, p, q, hκ, rfl⟩ := rep_ptr.1 hx _ (hg _ _ hc) (by simp)
        refine ⟨_, _, rfl, fieldAt_run (hΓ.tab _ _ ht) hp hs, rep_ptr.2 ?_, by simpa [C.refs] using hxr⟩
        intro c' hc' _
        exact ⟨b, p, q, hκ, by rw [Nat.add_assoc]⟩
      · cases h
    · cases h
  · rename_i t d U ob off e i path ht
    simp only [Option.bind_eq_some_iff, Option.map_eq_some_iff] at ht
    obtain ⟨t0, ht, p, hp, he⟩ := ht
    cases he
    split at h
    · rename_i n1 e' xs d1 t' d2 u' hxs hat hat2
      split at h
      · rename_i he
        obtain ⟨rfl, rfl, rfl, hs⟩ := he
        cases h; cases hu
        obtain ⟨h0, hl, b, p', q, d', u'', hκ, hat', rfl⟩ := rep_eptr.1 hx _ _ (hg _ _ hxs)
        rw [hat] at hat'
        cases hat'
        rw [at_snoc e' path k hat, hp] at hat2
        cases hat2
        refine ⟨_, _, rfl, fieldAt_run (hΓ.tab _ _ ht) hp hs, rep_eptr.2 ?_, by simpa [C.refs] using hxr⟩
        intro m' ys hys
        rw [hg _ _ hxs] at hys
        cases hys
        exact ⟨h0, hl, b, p', q, d1 + d, u', hκ, by rw [at_snoc e' path k hat, hp]; rfl, by rw [Nat.add_assoc]⟩
      · cases h
    · cases h
  · rename_i t d U ob off m e i path ht
    simp only [Option.bind_eq_some_iff, Option.map_eq_some_iff] at ht
    obtain ⟨t0, ht, p, hp, he⟩ := ht
    cases he
    split at h
    · rename_i x1 d1 t' d2 u' hxs hat hat2
      split at h
      · rename_i he
        obtain ⟨rfl, rfl, hs⟩ := he
        cases h; cases hu
        obtain ⟨h0, hl, hp'⟩ := rep_aptr.1 hx
        obtain ⟨b, p', q, d', u'', hκ, hat', rfl⟩ := hp' _ (hg _ _ hxs) (by simp)
        rw [hat] at hat'
        cases hat'
        rw [at_snoc e path k hat, hp] at hat2
        cases hat2
        refine ⟨_, _, rfl, fieldAt_run (hΓ.tab _ _ ht) hp hs, rep_aptr.2 ⟨h0, hl, fun c hc hcd => ?_⟩, by simpa [C.refs] using hxr⟩
        exact ⟨b, p', q, d1 + d, u', hκ, by rw [at_snoc e path k hat, hp]; rfl, by rw [Nat.add_assoc]⟩
      · cases h
    · cases h
  · rename_i t d U t' y ht
    simp only [Option.bind_eq_some_iff, Option.map_eq_some_iff] at ht
    obtain ⟨t0, ht, p, hp, he⟩ := ht
    cases he
    split at h
    · rename_i he
      obtain ⟨rfl, hs⟩ := he
      split at h
      · rename_i u' z hz
        split at h
        · rename_i he
          subst he
          cases h; cases hu
          obtain ⟨b, off, c, T', fr, hb, rfl, hr⟩ := rep_fptr.1 hx
          obtain ⟨d', u2, z', he, hat, hrz⟩ := getP_sound _ _ hr hz
          cases he
          rw [at_fld, hp] at hat
          cases hat
          refine ⟨_, _, rfl, fieldAt_run (hΓ.tab _ _ ht) hp hs, rep_fptr.2 ⟨b, _, c, T', fr, hb, rfl, ?_⟩, by simp [C.refs]⟩
          have hle := at_size t' [k] (by rw [at_fld]; exact hp)
          rw [List.drop_take, List.drop_drop, List.take_take, Nat.min_eq_left (by omega)] at hrz
          exact hrz
        · cases h
      · cases h
    · cases h
  · cases h

end
end Go.Fe
