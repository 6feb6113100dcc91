/- strings.Builder: its look at its own address, and its text. -/
import Derived.Test.YtmnpchoocaiegaaGreatDoorFeShelf
import Derived.Lib.UnsafeStr
namespace Go.Fe
open Go

/-- The address is looked at (and laid, the first time). -/
def bldCopy (T : TypeId) (args : C) (objs : List C) : Option CRes := match args, objs with
  | .cons (.ptr 0 0) .unit, [.rcd (.cons (.adr 0 T') (.cons (.brow 1) .unit)), .vec none (.int .u8) xs] =>
    if T' = T then some (.mk 0 (some ()) fun _ => ⟨.tup .unit, [.rcd (.cons (.adr 0 T') (.cons (.brow 1) .unit)), .vec none (.int .u8) xs], []⟩) else none
  | _, _ => none

/-- The text: the row is data from then on. -/
def bldStr (args : C) (objs : List C) : Option CRes := match args, objs with
  | .cons (.ptr 0 0) .unit, [.rcd (.cons (.adr 0 T') (.cons (.brow 1) .unit)), .vec none (.int .u8) xs] =>
    some (.mk 0 (chk (decide (xs.length ≤ lim))) fun _ => ⟨.val .str (bytesStr xs), [.rcd (.cons (.adr 0 T') (.cons (.val (.sl (.int .u8)) xs) .unit)), .dead], []⟩)
  | _, _ => none

theorem repX_bld {F : Froz} {κ : Conc} {s : St} {T : TypeId} {cs : List Value} (h : RepX F κ s (.cons (.adr 0 T) (.cons (.brow 1) .unit)) cs) : ∃ v0 v1, cs = [v0, v1] ∧ RepC F κ s (.adr 0 T) v0 ∧ RepC F κ s (.brow 1) v1 := by
  simp only [RepX] at h
  obtain ⟨c1, c2, rfl, ⟨h1, l1⟩, c3, c4, rfl, ⟨h2, l2⟩, rfl⟩ := h
  match c1, l1, c3, l2 with
  | [v0], _, [v1], _ => exact ⟨v0, v1, rfl, h1, h2⟩

/-- The world turns at a block that nobody has. -/
theorem Inv.chg {n : Nat} {f : Frame0} {F : Froz} {κ : Conc} {s : St} {a : Act} {w w' : World} (hI : Inv n f F κ s a w) {b : Nat} (hw : Chg b w w') (hF : F b = none) (hmay : f.w.heap.size ≤ b ∨ f.may b)
    (hno : ∀ o c p q, s.get (okey o) = some c → c.isObj = true → κ o ≠ some (b, p, q)) : Inv n f F κ s a w' := by
  have hheap : ∀ b' ob, b' ≠ b → w.heap[b']? = some ob → w'.heap[b']? = some ob := fun b' ob hb h => by rw [hw.same b' hb (lt_of_some h), h]
  constructor
  · exact hI.tmps
  · exact hI.defers
  · intro b' o h; exact hheap b' o (by rintro rfl; rw [hF] at h; cases h) (hI.frozen b' o h)
  · exact hI.slots
  · intro o c ho
    by_cases hobj : c.isObj = true
    · refine RepO.mono (Froz.le_refl F) rfl (fun o _ => .of_eq rfl rfl) (fun b' p q hk => ?_) (hI.objs o c ho)
      have hlt := RepO.lt hI ho hobj hk
      have hsome : w.heap[b']? = some w.heap[b'] := Array.getElem?_eq_getElem hlt
      rw [hsome]
      exact hheap b' _ (by rintro rfl; exact hno o c p q ho hobj hk) hsome
    · cases c <;> first | trivial | exact absurd rfl hobj
  · exact hI.free
  · exact hI.apart
  · exact hI.closed
  · exact hI.kept.chg hw hmay
  · exact hI.grown

section
variable {P : Program} {glob : Glob} {i : Nat}

theorem bld_copy {T : TypeId} (hused : ∀ (b : Nat) (w : World), w.cell? ⟨b, 0, none⟩ = some (.pointer (some ⟨b, 0, none⟩)) → Calls P i #[.pointer (some ⟨b, 0, none⟩)] w fun e w' => e = .returned (.tuple #[]) ∧ w' = w)
    (hfresh : ∀ (b : Nat) (w : World), w.cell? ⟨b, 0, none⟩ = some (.pointer none) → w.shape? b = some (T, 2) → w.frozen? ⟨b, 0, none⟩ = false →
      Calls P i #[.pointer (some ⟨b, 0, none⟩)] w fun e w' => e = .returned (.tuple #[]) ∧ w' = w.setCell ⟨b, 0, none⟩ (.pointer (some ⟨b, 0, none⟩))) : FnOK P glob i (bldCopy T) := by
  refine FnOK.of (fun args objs α k m r x hs hm F κ w vals hG hI hargs hrefs => ?_) (fun args objs q hq => ?_)
  rotate_left
  · unfold bldCopy at hq
    split at hq
    · split at hq
      · cases hq; rfl
      · cases hq
    · cases hq
  unfold bldCopy at hs
  split at hs
  · rename_i T' xs
    split at hs
    · rename_i hT
      subst hT
      cases hs
      obtain ⟨v, q, rfl, hv, hq⟩ := rep_cons hargs
      have := rep_unit hq
      subst this
      generalize hobj : ([C.rcd (.cons (.adr 0 T') (.cons (.brow 1) .unit)), .vec none (.int .u8) xs] : List C) = objs at *
      have h0 : (ost 0 objs).get (okey 0) = some (.rcd (.cons (.adr 0 T') (.cons (.brow 1) .unit))) := by rw [ost_get0, ← hobj]; rfl
      obtain ⟨b, p, q, hκ, rfl⟩ := rep_ptr.1 hv _ h0 (by simp)
      have ho := hI.objs 0 _ h0
      simp only [RepO] at ho
      obtain ⟨b', c, T0, fr, hκ', hb, hfr, hX, hB⟩ := ho
      rw [hκ] at hκ'
      cases hκ'
      have hT0 := hB T' rfl
      subst hT0
      obtain ⟨v0, v1, hc, hv0, hv1⟩ := repX_bld hX
      have hcell : w.cell? ⟨b, 0, none⟩ = some v0 := by rw [cell_at hb, ← Array.getElem?_toList, hc]; rfl
      have fin : ∀ w', Inv 0 ⟨w, mayOf objs κ, F, []⟩ F κ (ost 0 objs) act0 w' → ∃ v F' κ', Ending.returned (.tuple #[]) = .returned v ∧ F.le F' ∧ Inv 0 ⟨w, mayOf objs κ, F, []⟩ F' κ' (ost 0 (objs ++ [])) act0 w' ∧
          RepC F' κ' (ost 0 (objs ++ [])) (.tup .unit) v ∧ (∀ o ∈ (C.tup .unit).refs, o < (objs ++ []).length) ∧ objs.length = objs.length ∧ ([] : List C).length = 0 ∧ ∀ i, i < objs.length → ObjLe κ (ost 0 objs) κ' (ost 0 (objs ++ [])) i := fun w' h => by
        rw [List.append_nil]
        exact ⟨_, F, κ, rfl, Froz.le_refl F, h, by simp [RepL], by simp [C.refs], rfl, rfl, fun i _ => .of_eq rfl rfl⟩
      rcases rep_adr.1 hv0 _ h0 (by simp) with rfl | ⟨b2, p2, q2, hκ2, rfl⟩
      · have hsz : c.size = 2 := by rw [← Array.length_toList, hc]; rfl
        have hfz : w.frozen? ⟨b, 0, none⟩ = false := by
          simp only [World.frozen?, hb]
          rcases hfr with h | h
          · simp; omega
          · simp; omega
        refine (hfresh b w hcell (by simp [World.shape?, hb, hsz]) hfz).mono fun e w' ⟨he, hw⟩ => ?_
        subst he hw
        refine fin _ ?_
        rw [setCell_row hb]
        have hc' : (c.setIfInBounds 0 (.pointer (some ⟨b, 0, none⟩))).toList = [.pointer (some ⟨b, 0, none⟩), v1] := by
          rw [Array.toList_setIfInBounds, hc]; rfl
        have := hI.write (o := 0) (c' := .rcd (.cons (.adr 0 T0) (.cons (.brow 1) .unit))) (w' := World.row w b (c.setIfInBounds 0 (.pointer (some ⟨b, 0, none⟩))) T0 fr) h0 rfl rfl hκ (fun _ _ _ h => by cases h) (fun o' ho' => hI.closed _ _ h0 o' ho') row_chg (fun s' hle' => by
          simp only [RepO]
          refine ⟨b, _, _, _, hκ, row_get hb, by simpa using hfr, ?_, hB⟩
          rw [hc']
          simp only [RepX]
          refine ⟨[_], [v1], rfl, ⟨rep_adr.2 (fun c hc hd => .inr ⟨b, 0, 0, hκ, rfl⟩), rfl⟩, [v1], [], rfl, ⟨RepL.mono (Froz.le_refl F) _ _ (fun o _ => hle' o) hv1, rfl⟩, rfl⟩)
        exact this.congr (fun k => by
          rw [St.get_set]
          split
          · rename_i e; subst e; rw [h0]
          · rfl)
      · rw [hκ] at hκ2
        cases hκ2
        refine (hused b w hcell).mono fun e w' ⟨he, hw⟩ => ?_
        subst he hw
        exact fin _ hI
    · cases hs
  · cases hs

/-- Bytes that are read out. -/
theorem loadBytes_run {w : World} : ∀ (xs : List Int) (a : Addr) (acc : ByteArray), (∀ (j : Nat) (x : Int), xs[j]? = some x → w.cell? (a.add j) = some (.int .u8 x)) →
    (loadBytes a acc xs.length).run P w = .ok ⟨acc.data ++ (bytesStr xs).toArray⟩ w
  | [], a, acc, _ => by simp [loadBytes, bytesStr]
  | x :: r, a, acc, h => by
    have h0 := h 0 x rfl
    have ih := loadBytes_run r (a.add 1) (acc.push x.toNat.toUInt8) (fun j y hj => by
      have := h (j + 1) y (by simpa using hj)
      rw [← this]
      congr 1
      unfold Addr.add
      by_cases hj0 : j = 0
      · subst hj0; simp
      · simp [hj0, Nat.add_assoc, Nat.add_comm 1 j])
    have ha : a.add 0 = a := by simp [Addr.add]
    rw [ha] at h0
    simp only [List.length_cons, loadBytes, Sem.run_bind, run_load, h0, Result.andThen_ok, ih]
    congr 2
    simp [bytesStr, byteOfInt, ByteArray.push]

theorem liesAt_row {e : TypeId} (hc : P.cellsOf e = 1) (count off n : Nat) (hn : off + n ≤ count) : liesAt P P.depth e count off e n = true := by
  have hd : P.depth = (2 * (P.types.size + Made.depth) + 1) + 1 := rfl
  rw [hd]
  simp only [liesAt, Bool.or_eq_true]
  left
  rw [hd]
  simp [rowAt, hc, hn, sameLayout, Nat.mod_one]

theorem unsafeString_run {w : World} (pt it ty : TypeId) (hp : P.underlying pt = some (.pointer 5)) (hc : P.cellsOf 5 = 1) {g p : Nat} {c : Array Value} {fr : Nat × Nat} (hg : w.heap[g]? = some (.cells c 5 fr)) (xs : List Int) (h0 : xs ≠ [])
    (hn : p + xs.length ≤ c.size) (h63 : xs.length ≤ 9223372036854775807) (hcell : ∀ (j : Nat) (x : Int), xs[j]? = some x → c[p + j]? = some (.int .u8 x)) :
    (Builtin.unsafeString_ #[pt, it] ty #[.pointer (some ⟨g, p, none⟩), .int .i64 xs.length]).run P w = .ok (.string ⟨(bytesStr xs).toArray⟩) (w.freeze ⟨g, p, none⟩ xs.length) := by
  have hl : xs.length ≠ 0 := by simpa using h0
  have hlb := loadBytes_run (P := P) (w := w) xs ⟨g, p, none⟩ .empty (fun j x hj => by rw [add_lit, cell_at hg]; exact hcell j x hj)
  have hlies := liesAt_row (P := P) hc c.size p xs.length hn
  have h63' : ¬ (9223372036854775807 : Int) < (xs.length : Int) := by omega
  have hdef : Builtin.unsafeString_ #[pt, it] ty #[.pointer (some ⟨g, p, none⟩), .int .i64 xs.length] =
      (do
        let n ← asInt (.int .i64 xs.length)
        if n < 0 then runtimePanic (.error "unsafe.String: len out of range")
        if n > IntKind.i64.max then unsupported (.unsafePointer "String: a length above the largest int")
        if n = 0 then pure (.string .empty)
        else if ← variablesAt ⟨g, p, none⟩ (← elemOf pt) n.toNat then do
          let s ← loadBytes ⟨g, p, none⟩ .empty n.toNat
          freeze ⟨g, p, none⟩ n.toNat
          pure (.string s)
        else unsupported (.unsafePointer "String: not so many bytes at ptr")) := rfl
  rw [hdef]
  have hmax : IntKind.i64.max = 9223372036854775807 := rfl
  have hneg : ¬ (xs.length : Int) < 0 := by omega
  have hsh : w.shape? g = some (5, c.size) := by simp [World.shape?, hg]
  simp [asInt, asIntOf, hmax, h63', hneg, hl, variablesAt, hsh, elemOf, underlying_run hp, hlies, hc, hlb]

theorem freeze_row {w : World} {b p m : Nat} {c : Array Value} {T : TypeId} {fr : Nat × Nat} (h : w.heap[b]? = some (.cells c T fr)) : ∃ fr', (World.freeze w ⟨b, p, none⟩ m).heap[b]? = some (.cells c T fr') := by
  unfold World.freeze
  split
  · exact ⟨fr, h⟩
  · refine ⟨if fr.1 == fr.2 then (p, p + m) else (min fr.1 p, max fr.2 (p + m)), ?_⟩
    simp [Array.getElem?_modify, h]
theorem freeze_chg2 {w : World} {b p m : Nat} : Chg b w (World.freeze w ⟨b, p, none⟩ m) := by
  unfold World.freeze
  split
  · exact ⟨Nat.le_refl _, fun _ _ _ => rfl, rfl, rfl⟩
  · constructor
    · simp
    · intro b' h1 _
      simp [Array.getElem?_modify, Ne.symm h1]
    · exact ⟨rfl, rfl⟩

theorem bld_str {Ts Tp Ti Tz : TypeId} (hp : P.underlying Tp = some (.pointer 5)) (hc5 : P.cellsOf 5 = 1)
    (hwalk : ∀ (b : Nat) (v pv : Value) (a : Option Addr) (n cap : Nat) (s : ByteArray) (w w2 : World), v = .slice a n cap → w.cell? ⟨b, 1, none⟩ = some v →
      (Builtin.unsafeSliceData_ #[Ts] Tp #[v]).run P w.drew = .ok pv w.drew → (Builtin.unsafeString_ #[Tp, Ti] Tz #[pv, .int .i64 n]).run P w.drew = .ok (.string s) w2 →
      Calls P i #[.pointer (some ⟨b, 0, none⟩)] w fun e w' => e = .returned (.string s) ∧ w' = w2) : FnOK P glob i bldStr := by
  refine FnOK.of (fun args objs α k m r x hs hm F κ w vals hG hI hargs hrefs => ?_) (fun args objs q hq => ?_)
  rotate_left
  · unfold bldStr at hq
    split at hq
    · cases hq; rfl
    · cases hq
  unfold bldStr at hs
  split at hs
  · rename_i T' xs
    cases hs
    obtain ⟨v, q, rfl, hv, hq⟩ := rep_cons hargs
    have := rep_unit hq
    subst this
    generalize hobj : ([C.rcd (.cons (.adr 0 T') (.cons (.brow 1) .unit)), .vec none (.int .u8) xs] : List C) = objs at *
    have h0 : (ost 0 objs).get (okey 0) = some (.rcd (.cons (.adr 0 T') (.cons (.brow 1) .unit))) := by rw [ost_get0, ← hobj]; rfl
    have h1 : (ost 0 objs).get (okey 1) = some (.vec none (.int .u8) xs) := by rw [ost_get0, ← hobj]; rfl
    obtain ⟨b, p, q, hκ, rfl⟩ := rep_ptr.1 hv _ h0 (by simp)
    have ho := hI.objs 0 _ h0
    simp only [RepO] at ho
    obtain ⟨b', c, T0, fr, hκ', hb, hfr, hX, hB⟩ := ho
    rw [hκ] at hκ'
    cases hκ'
    have hT0 := hB T' rfl
    subst hT0
    obtain ⟨v0, v1, hc, hv0, hv1⟩ := repX_bld hX
    have hcell : w.cell? ⟨b, 1, none⟩ = some v1 := by rw [cell_at hb, ← Array.getElem?_toList, hc]; rfl
    have hv1' := rep_brow.1 hv1 _ _ _ h1
    have ho1 := hI.objs 1 _ h1
    simp only [RepO] at ho1
    -- the world behind it, and the row as data
    have fin : ∀ (w' : World) (F' : Froz), F.le F' → Inv 0 ⟨w, mayOf objs κ, F, []⟩ F' κ ((ost 0 objs).set (okey 1) .dead) act0 w' → RepV F' (.sl (.int .u8)) xs v1 → w'.heap[b]? = some (.cells c T0 fr) →
        ∃ v F' κ', Ending.returned (.string ⟨(bytesStr xs).toArray⟩) = .returned v ∧ F.le F' ∧ Inv 0 ⟨w, mayOf objs κ, F, []⟩ F' κ' (ost 0 ([.rcd (.cons (.adr 0 T0) (.cons (.val (.sl (.int .u8)) xs) .unit)), .dead] ++ [])) act0 w' ∧
          RepC F' κ' (ost 0 ([.rcd (.cons (.adr 0 T0) (.cons (.val (.sl (.int .u8)) xs) .unit)), .dead] ++ [])) (.val .str (bytesStr xs)) v ∧ (∀ o ∈ (C.val .str (bytesStr xs)).refs, o < ([.rcd (.cons (.adr 0 T0) (.cons (.val (.sl (.int .u8)) xs) .unit)), .dead] ++ [] : List C).length) ∧
          ([.rcd (.cons (.adr 0 T0) (.cons (.val (.sl (.int .u8)) xs) .unit)), .dead] : List C).length = objs.length ∧ ([] : List C).length = 0 ∧
          ∀ i, i < objs.length → ObjLe κ (ost 0 objs) κ' (ost 0 ([.rcd (.cons (.adr 0 T0) (.cons (.val (.sl (.int .u8)) xs) .unit)), .dead] ++ [])) i := fun w' F' hF hI' hval hb' => by
      have g0 : ((ost 0 objs).set (okey 1) .dead).get (okey 0) = some (.rcd (.cons (.adr 0 T0) (.cons (.brow 1) .unit))) := by rw [St.get_set, if_neg (by decide)]; exact h0
      have hI2 := hI'.write (o := 0) (c' := .rcd (.cons (.adr 0 T0) (.cons (.val (.sl (.int .u8)) xs) .unit))) (w' := w') g0 rfl rfl hκ (fun _ _ _ h => by cases h) (fun o' ho' => by
          simp only [C.refs, List.append_nil, List.mem_singleton] at ho'
          subst ho'
          rw [g0]; rfl) ⟨Nat.le_refl _, fun _ _ _ => rfl, rfl, rfl⟩ (fun s' hle' => by
          simp only [RepO]
          refine ⟨b, _, _, _, hκ, hb', hfr, ?_, fun T h => hB T h⟩
          rw [hc]
          simp only [RepX]
          obtain ⟨cs, hcs, hpk⟩ := hval
          have hcs1 : cs = [v1] := by
            have hl := hcs.length
            match cs, hl with
            | [u], _ => simp only [pack, Ty.agg, Bool.false_eq_true, if_false, List.headD_cons] at hpk; rw [hpk]
          subst hcs1
          refine ⟨[v0], [v1], rfl, ⟨?_, rfl⟩, [v1], [], rfl, hcs, rfl⟩
          refine rep_adr.2 (fun c hc hd => ?_)
          obtain ⟨c2, hc2, hd2, _⟩ := (hle' 0).any c hc hd
          rw [g0] at hc2
          cases hc2
          exact rep_adr.1 hv0 _ h0 (by simp))
      have hst : ∀ k, (ost 0 ([.rcd (.cons (.adr 0 T0) (.cons (.val (.sl (.int .u8)) xs) .unit)), .dead] ++ [])).get k = (((ost 0 objs).set (okey 1) .dead).set (okey 0) (.rcd (.cons (.adr 0 T0) (.cons (.val (.sl (.int .u8)) xs) .unit)))).get k := fun k => by
        rw [← hobj]
        simp only [List.append_nil, ost, St.get, St.get_set]
        by_cases e0 : okey 0 = k
        · simp [e0]
        · by_cases e1 : okey (0 + 1) = k
          · have e1' : okey 1 = k := e1
            simp [e0, e1]
          · have e1' : ¬ okey 1 = k := e1
            simp [e0, e1]
      refine ⟨_, F', κ, rfl, hF, hI2.congr hst, rep_str.2 rfl, by simp [C.refs], by rw [← hobj]; rfl, rfl, fun i hi => ?_⟩
      rw [← hobj] at hi
      match i, hi with
      | 0, _ =>
        constructor
        · intro n t ys h; rw [ost_get0] at h; cases h
        · intro c _ _; exact ⟨_, h0, by simp, rfl⟩
      | 1, _ =>
        constructor
        · intro n t ys h; rw [ost_get0] at h; cases h
        · intro c h hd; rw [ost_get0] at h; cases h; exact absurd rfl hd
    have hk := hI.kill 1
    cases hκ1 : κ 1 with
    | none =>
      rw [hκ1] at ho1 hv1'
      have hx0 := ho1.2
      subst hx0
      have hv : v1 = .slice none 0 0 := hv1'
      subst hv
      refine (hwalk b _ (.pointer none) none 0 0 .empty w w.drew rfl hcell rfl (Lib.run_unsafeString_none w.drew _ _ _ none)).mono fun e w' ⟨he, hw⟩ => ?_
      subst he hw
      exact fin _ F (Froz.le_refl F) (hk.world rfl ⟨rfl, rfl⟩) ⟨[.slice none 0 0], by simp only [RepT]; exact ⟨none, 0, rfl, Nat.le_refl _, .inl trivial⟩, rfl⟩ hb
    | some q =>
      obtain ⟨g, p, q⟩ := q
      rw [hκ1] at ho1 hv1'
      obtain ⟨_, cg, Tg, frg, hg, hfg, hq, hroom, hel⟩ := ho1
      have hpos := (hq.2 trivial).1
      have hT5 := (hq.2 trivial).2 trivial
      subst hT5
      have hv : v1 = .slice (some ⟨g, p, none⟩) xs.length q := hv1'
      subst hv
      have hSD : (Builtin.unsafeSliceData_ #[Ts] Tp #[.slice (some ⟨g, p, none⟩) xs.length q]).run P w.drew = .ok (.pointer (some ⟨g, p, none⟩)) w.drew := Lib.run_unsafeSliceData_row _ _ _ _ _ _ (by omega)
      obtain ⟨hfree, hmay⟩ := hI.free 1 _ g p q h1 rfl hκ1
      have hnob : ∀ o' c' p' q', ((ost 0 objs).set (okey 1) .dead).get (okey o') = some c' → c'.isObj = true → κ o' ≠ some (g, p', q') := by
        intro o' c' p' q' ho' hobj' hκ'
        by_cases e : o' = 1
        · subst e
          rw [St.get_set, if_pos rfl] at ho'
          cases ho'
          simp [C.isObj] at hobj'
        · rw [St.get_set, if_neg (fun h => e (okey_inj h).symm)] at ho'
          exact e (hI.apart o' c' g p' q' 1 _ p q ho' hobj' hκ' h1 rfl hκ1)
      have hbg : b ≠ g := fun e => by
        subst e
        exact hnob 0 _ 0 0 (by rw [St.get_set, if_neg (by decide)]; exact h0) rfl hκ
      by_cases hx0 : xs = []
      · subst hx0
        have hUS := Lib.run_unsafeString_none (P := P) w.drew Tp Ti Tz (some ⟨g, p, none⟩)
        refine (hwalk b _ _ _ _ _ .empty w w.drew rfl hcell hSD hUS).mono fun e w' ⟨he, hw⟩ => ?_
        subst he hw
        exact fin _ F (Froz.le_refl F) (hk.world rfl ⟨rfl, rfl⟩) ⟨[_], by simp only [RepT]; exact ⟨some ⟨g, p, none⟩, q, rfl, Nat.zero_le _, .inl trivial⟩, rfl⟩ hb
      · have hcells : ∀ (j : Nat) (x : Int), xs[j]? = some x → cg[p + j]? = some (.int .u8 x) := fun j x hj => by
          obtain ⟨hlt, rfl⟩ := List.getElem?_eq_some_iff.1 hj
          have := hel j hlt
          simp only [RepT, Ty.size, Nat.mul_one] at this
          have h2 := congrArg (fun l => l[0]?) this
          simp only [List.getElem?_take, List.getElem?_drop] at h2
          simpa using h2
        have hlim : xs.length ≤ 9223372036854775807 := by
          have := of_decide_eq_true (chk_true hm)
          unfold lim at this
          omega
        have hUS := unsafeString_run (P := P) (w := w.drew) Tp Ti Tz hp hc5 (g := g) (p := p) (c := cg) (fr := frg) hg xs hx0 (by simp only [Ty.size, Nat.mul_one] at hroom; omega) hlim hcells
        refine (hwalk b _ _ _ _ _ _ w _ rfl hcell hSD hUS).mono fun e w' ⟨he, hw⟩ => ?_
        subst he hw
        have hI1 := (hk.world (w' := w.drew) rfl ⟨rfl, rfl⟩).chg (freeze_chg2 (b := g) (p := p) (m := xs.length)) hfree hmay hnob
        obtain ⟨fr', hfr'⟩ := freeze_row (w := w.drew) (p := p) (m := xs.length) hg
        obtain ⟨hF, hI2⟩ := hI1.extend hfr' hmay hnob
        refine fin _ _ hF hI2 ⟨[.slice (some ⟨g, p, none⟩) xs.length q], ?_, rfl⟩ ?_
        · simp only [RepT]
          exact ⟨_, _, rfl, hq.1, .inr ⟨g, p, cg, 5, fr', rfl, by simp, fun i hi => by
            have := hel i hi
            simp only [RepT] at this
            exact this⟩⟩
        · rw [(freeze_chg2 (w := w.drew)).same b hbg (lt_of_some hb)]
          exact hb
  · cases hs
end
end Go.Fe
