/- Appends, copies, literals of slices. -/
import Derived.Test.YtmnpchoocaiegaaGreatDoorFeOpE
import Derived.Laws.Append
namespace Go.Fe
open Go

section
variable {Γ : Ctx} {P : Program} {n : Nat} {f : Frame0} {F : Froz} {κ : Conc} {s : St} {a : Act} {w : World} {g : Nat → Option C}

/-- The cells of elements side by side. -/
structure Els (F : Froz) (e : Ty) (xs : List e.den) (cs : List Value) : Prop where
  len : cs.length = xs.length * e.size
  el : ∀ i (h : i < xs.length), RepT F e xs[i] ((cs.drop (i * e.size)).take e.size)

theorem Els.one {e : Ty} {xs : List e.den} {cs : List Value} (h : Els F e xs cs) : ∀ v ∈ cs, v.oneCell' = true := by
  have : RepT F (.arr xs.length e) xs cs := by simp only [RepT]; exact ⟨by trivial, h.len, h.el⟩
  exact this.one

theorem Els.of_row {e : Ty} {xs : List e.den} {c : Array Value} {p : Nat} (hpos : 0 < e.size) (hel : ∀ i (h : i < xs.length), RepT F e xs[i] ((c.toList.drop (p + i * e.size)).take e.size)) :
    Els F e xs ((c.toList.drop p).take (xs.length * e.size)) ∧ (xs ≠ [] → p + xs.length * e.size ≤ c.size) := by
  have hfit : xs ≠ [] → p + xs.length * e.size ≤ c.size := by
    intro hne
    have hl : 0 < xs.length := List.length_pos_iff.2 hne
    have := (hel (xs.length - 1) (by omega)).length
    rw [List.length_take, List.length_drop, Array.length_toList] at this
    have e1 : (xs.length - 1) * e.size + e.size = xs.length * e.size := by rw [← Nat.succ_mul]; congr 1; omega
    omega
  refine ⟨⟨?_, fun i hi => ?_⟩, hfit⟩
  · by_cases hne : xs = []
    · subst hne; simp
    · have := hfit hne
      simp
      omega
  · have e1 : i * e.size + e.size ≤ xs.length * e.size := by rw [← Nat.succ_mul]; exact Nat.mul_le_mul_right _ (by omega)
    rw [List.drop_take, List.drop_drop, List.take_take, Nat.min_eq_left (by omega)]
    exact hel i hi

theorem Els.append {e : Ty} {xs ys : List e.den} {cs ds : List Value} (h1 : Els F e xs cs) (h2 : Els F e ys ds) : Els F e (xs ++ ys) (cs ++ ds) := by
  refine ⟨by simp [h1.len, h2.len, Nat.add_mul], fun i hi => ?_⟩
  by_cases hx : i < xs.length
  · rw [List.getElem_append_left hx]
    have e1 : i * e.size + e.size ≤ xs.length * e.size := by rw [← Nat.succ_mul]; exact Nat.mul_le_mul_right _ (by omega)
    rw [take_left_drop (by rw [h1.len]; exact e1)]
    exact h1.el i hx
  · rw [List.getElem_append_right (by omega)]
    have hi' : i - xs.length < ys.length := by simp at hi; omega
    have e2 : i * e.size = xs.length * e.size + (i - xs.length) * e.size := by rw [← Nat.add_mul]; congr 1; omega
    rw [e2, take_right_drop h1.len]
    exact h2.el _ hi'

theorem loadRow_run {b off : Nat} {c : Array Value} {T : TypeId} {fr : Nat × Nat} {m : Nat} (hb : w.heap[b]? = some (.cells c T fr)) {cs : List Value}
    (hcs : (c.toList.drop off).take m = cs) (hl : cs.length = m) : (loadCells ⟨b, off, none⟩ m).run P w = .ok cs.toArray w := by
  have := run_loadCells_list (P := P) w ⟨b, off, none⟩ cs (fun j v hj => by
    rw [add_lit, cell_at hb]
    rw [← hcs, List.getElem?_take] at hj
    split at hj
    · rw [List.getElem?_drop] at hj; simpa using hj
    · cases hj)
  rw [hl] at this
  exact this

theorem src_sound (hI : Inv n f F κ s a w) (hg : ∀ k c, g k = some c → s.get k = some c) {e : Ty} (hpos : 0 < e.size) {cy : C} {vy : Value} {ys : List e.den}
    (hy : RepC F κ s cy vy) (h : srcE e cy g = some ys) : (Builtin.lenOf vy).run P w = .ok ys.length w ∧
      ∀ k, k ≤ ys.length → ∃ cs : List Value, (Builtin.firstCells e.size k vy).run P w = .ok cs.toArray w ∧ Els F e (ys.take k) cs := by
  have nilcase : ∀ (ad : Option Addr) (cap : Nat), (Builtin.lenOf (.slice ad 0 cap)).run P w = .ok ([] : List e.den).length w ∧
      ∀ k, k ≤ ([] : List e.den).length → ∃ cs : List Value, (Builtin.firstCells e.size k (.slice ad 0 cap)).run P w = .ok cs.toArray w ∧ Els F e (([] : List e.den).take k) cs := by
    intro ad cap
    refine ⟨rfl, fun k hk => ⟨[], ?_, ⟨by simp, fun i hi => by simp at hi⟩⟩⟩
    have : k = 0 := by simpa using hk
    subst this
    cases ad with
    | none => rfl
    | some ad => simp [Builtin.firstCells, loadCells, loadCellsFrom]
  have row : ∀ {b off cap : Nat} {c : Array Value} {T : TypeId} {fr : Nat × Nat} {ys : List e.den}, w.heap[b]? = some (.cells c T fr) →
      (∀ i (h : i < ys.length), RepT F e ys[i] ((c.toList.drop (off + i * e.size)).take e.size)) →
      (Builtin.lenOf (.slice (some ⟨b, off, none⟩) ys.length cap)).run P w = .ok ys.length w ∧
      ∀ k, k ≤ ys.length → ∃ cs : List Value, (Builtin.firstCells e.size k (.slice (some ⟨b, off, none⟩) ys.length cap)).run P w = .ok cs.toArray w ∧ Els F e (ys.take k) cs := by
    intro b off cap c T fr ys hb hel
    refine ⟨rfl, fun k hk => ?_⟩
    have hl : (ys.take k).length = k := by simp; omega
    obtain ⟨h1, _⟩ := Els.of_row (F := F) (xs := ys.take k) (c := c) (p := off) hpos (fun i hi => by
      rw [List.getElem_take]
      exact hel i (by omega))
    rw [hl] at h1
    refine ⟨_, ?_, h1⟩
    exact loadRow_run hb rfl (by rw [h1.len, hl])
  unfold srcE at h
  split at h
  · rename_i e' zs
    split at h
    · rename_i he
      subst he
      cases h
      obtain ⟨ad, cap, rfl, hcap, hd⟩ := rep_sl.1 hy
      rcases hd with rfl | ⟨b, off, c, T', fr, rfl, hb, hel⟩
      · exact nilcase ad cap
      · exact row (hI.frozen _ _ hb) hel
    · cases h
  · rename_i l
    split at h
    · cases h
      rw [rep_str] at hy; subst hy
      have e1 : (⟨l.toArray⟩ : ByteArray).size = l.length := by simp [ByteArray.size]
      refine ⟨by simp [Builtin.lenOf, e1, strBytes], fun k hk => ?_⟩
      have hk' : k ≤ l.length := by simpa [strBytes] using hk
      refine ⟨((strBytes l).take k).map (Value.int .u8), ?_, ⟨by simp [Ty.size], fun i hi => ?_⟩⟩
      · simp only [Builtin.firstCells, Sem.run_pure, extract_mk]
        congr 1
        apply Array.ext'
        simp only [strBytes, List.map_map, Array.toList_map, List.map_take, Function.comp_def, List.drop_zero]
      · simp only [RepT, Ty.size, Nat.mul_one]
        apply List.ext_getElem?
        intro j
        rw [List.getElem?_take]
        match j with
        | 0 => simp at hi; simp [hi]
        | j + 1 => simp
    · cases h
  · cases h
    rw [rep_nil] at hy; obtain ⟨ad, rfl⟩ := hy
    exact nilcase _ _
  · rename_i ob
    split at h
    · rename_i m e' zs hgo
      split at h
      · rename_i he
        subst he
        cases h
        have hso := hg _ _ hgo
        have hv := rep_own.1 hy _ _ _ hso
        have ho := hI.objs ob _ hso
        simp only [RepO] at ho
        cases hκ : κ ob with
        | none =>
          rw [hκ] at ho hv
          have := ho.2
          subst this
          obtain ⟨ad, rfl⟩ := hv
          exact nilcase _ _
        | some q =>
          obtain ⟨b, p, q⟩ := q
          rw [hκ] at ho hv
          simp only [SlAt] at hv
          subst hv
          obtain ⟨_, c, T', fr, hb, _, _, _, hel⟩ := ho
          exact row hb hel
      · cases h
    · cases h
  · cases h

theorem cat_some {α : Type} {xs ys zs : List α} (h : cat xs ys = some zs) : xs.length + ys.length ≤ lim ∧ zs = xs ++ ys := by
  unfold cat at h
  split at h
  · cases h; exact ⟨by assumption, rfl⟩
  · cases h

theorem zeroCells_size (z : Array Value) (m : Nat) : (Builtin.zeroCells z m).size = m * z.size := by simp [Builtin.zeroCells]

/-- What an append comes to, with room and without. -/
theorem append_room {T U ty E : TypeId} {ts : Array TypeId} (hts : ts[0]? = some T) (hts2 : ts[1]? = some U) {e : Ty} (hT : P.underlying T = some (.slice E)) (hE : tyIs P e (.inl E) = true) {d : TypeDesc} (hU : P.underlying U = some d) (hd : (∃ V, d = .slice V) ∨ d = .string)
    {base : Option Addr} {l cap m : Nat} {vy : Value} {cs : List Value} (hlen : (Builtin.lenOf vy).run P w = .ok m w) (hcs : (Builtin.firstCells e.size m vy).run P w = .ok cs.toArray w)
    (hroom : l + m ≤ cap) {w' : World} (hst : ∀ ad, base = some ad → (storeCells (ad.add (l * e.size)) cs).run P w = .ok () w') (hno : base = none → w' = w) :
    (Builtin.append_ ts ty #[.slice base l cap, vy]).run P w = .ok (.slice base (l + m) cap) w' := by
  rcases hd with ⟨V, rfl⟩ | rfl <;>
      (simp only [Builtin.append_, hts, hts2, List.getElem?_toArray, List.getElem?_cons_zero, List.getElem?_cons_succ, Sem.run_bind, underlying_run hT, underlying_run hU, Result.andThen_ok, sizeOf_run hE, Sem.run_pure,
        Bool.false_eq_true, if_false, hlen, hroom, if_true, Bool.not_false, hcs]
       cases base with
       | none => simp only [Sem.run_pure, hno rfl]
       | some ad => simp only [Sem.run_bind, hst ad rfl, Result.andThen_ok, Sem.run_pure])

theorem first0 (m : Nat) (ad : Option Addr) (w : World) : (Builtin.firstCells m 0 (.slice ad 0 0)).run P w = .ok ([] : List Value).toArray w := by
  cases ad with
  | none => rfl
  | some ad => simp [Builtin.firstCells, loadCells, loadCellsFrom]

theorem append_grow {T U ty E : TypeId} {ts : Array TypeId} (hts : ts[0]? = some T) (hts2 : ts[1]? = some U) {e : Ty} (hT : P.underlying T = some (.slice E)) (hE : tyIs P e (.inl E) = true) {d : TypeDesc} (hU : P.underlying U = some d) (hd : (∃ V, d = .slice V) ∨ d = .string)
    {i : TypeInfo} {z : Value} (hi : TyInfo P e E i z)
    {base : Option Addr} {l cap m : Nat} {vy : Value} {cs os : List Value} (hlen : (Builtin.lenOf vy).run P w = .ok m w)
    (hcs : (Builtin.firstCells e.size m vy).run P { w with drawn := w.drawn + 1 } = .ok cs.toArray { w with drawn := w.drawn + 1 })
    (hos : (Builtin.firstCells e.size l (.slice base l cap)).run P { w with drawn := w.drawn + 1 } = .ok os.toArray { w with drawn := w.drawn + 1 })
    (hroom : ¬ l + m ≤ cap) (hlim : l + m ≤ lim) : ∃ newCap, l + m ≤ newCap ∧
    (Builtin.append_ ts ty #[.slice base l cap, vy]).run P w = .ok (.slice (some ⟨w.heap.size, 0, none⟩) (l + m) newCap)
      { w with drawn := w.drawn + 1, heap := w.heap.push (.cells (os.toArray ++ cs.toArray ++ Builtin.zeroCells z.cells (newCap - (l + m))) E) } := by
  refine ⟨(Question.appendCap (l + m) cap E).cut (w.tape w.drawn (.appendCap (l + m) cap E)), by simp [Question.cut], ?_⟩
  have h1 : ¬ ((l + m : Nat) : Int) > IntKind.i64.max := by
    have e3 : IntKind.i64.max = 9223372036854775807 := by decide
    rw [e3]
    unfold lim at hlim
    omega
  have h2 : ¬ Builtin.nextslicecap (l + m) cap * i.bytes > 2 ^ 48 := by
    have hb := hi.bytes
    have := growslice_fits (need := l + m) (old := cap) (bytes := i.bytes) (by omega) (by
      have : (l + m) * i.bytes ≤ lim * 1024 := Nat.mul_le_mul hlim hb
      unfold lim at this
      omega)
    omega
  have hfo : (Question.appendCap (l + m) cap E).forced = false := rfl
  rcases hd with ⟨V, rfl⟩ | rfl <;>
      simp only [Builtin.append_, hts, hts2, List.getElem?_toArray, List.getElem?_cons_zero, List.getElem?_cons_succ, Sem.run_bind, underlying_run hT, underlying_run hU, Result.andThen_ok, sizeOf_run hE, Sem.run_pure,
        Bool.false_eq_true, if_false, hlen, hroom, Bool.not_false, if_true, typeInfo_run hi.info, h1, false_and, h2, Sem.run_ite, run_choose, hfo, run_askRoom, hos, hcs, zero_run hi, newRow, run_newObj]


theorem take_all {α : Type} (ys : List α) : ys.take ys.length = ys := List.take_of_length_le (Nat.le_refl _)

/-- An append that needs a new block. -/
theorem append_fresh0 (hI : Inv n f F κ s a w) (hg : ∀ k c, g k = some c → s.get k = some c) {T U ty E : TypeId} {ts : Array TypeId} (hts : ts[0]? = some T) (hts2 : ts[1]? = some U) {e : Ty} (hT : P.underlying T = some (.slice E)) (hpos : 0 < e.size)
    (hE : tyIs P e (.inl E) = true) (hT5 : e = .int .u8 → E = 5) {d : TypeDesc} (hU : P.underlying U = some d) (hd : (∃ V, d = .slice V) ∨ d = .string)
    {base : Option Addr} {cap : Nat} {xs ys : List e.den} {cy : C} {vy : Value} (hy : RepC F κ s cy vy) (hsrc : srcE e cy g = some ys) {os : List Value} (hos : Els F e xs os)
    (hosr : (Builtin.firstCells e.size xs.length (.slice base xs.length cap)).run P { w with drawn := w.drawn + 1 } = .ok os.toArray { w with drawn := w.drawn + 1 })
    (hroom : ¬ xs.length + ys.length ≤ cap) (hlim : xs.length + ys.length ≤ lim) {o : Nat} (hno : s.get (okey o) = none) :
    ∃ κ' q w', (Builtin.append_ ts ty #[.slice base xs.length cap, vy]).run P w = .ok (.slice (some ⟨w.heap.size, 0, none⟩) (xs ++ ys).length q) w' ∧
      Inv n f F κ' (s.set (okey o) (.vec none e (xs ++ ys))) a w' ∧ SlAt (κ' o) (xs ++ ys).length (.slice (some ⟨w.heap.size, 0, none⟩) (xs ++ ys).length q) := by
  obtain ⟨i, z, hi⟩ := tyIs_info hE
  have hI' : Inv n f F κ s a { w with drawn := w.drawn + 1 } := hI.world rfl ⟨rfl, rfl⟩
  obtain ⟨hlen, _⟩ := src_sound hI hg hpos hy hsrc
  obtain ⟨_, hcs⟩ := src_sound (P := P) hI' hg hpos hy hsrc
  obtain ⟨cs, hcsr, hels⟩ := hcs ys.length (Nat.le_refl _)
  rw [take_all] at hels
  obtain ⟨newCap, hge, hrun⟩ := append_grow hts hts2 (ty := ty) hT hE hU hd hi hlen hcsr hosr hroom hlim
  have hzs : z.cells.size = e.size := by
    have := (hi.rep F).length
    simpa using this
  have hall := hos.append hels
  have hcl : (os ++ cs).length = (xs.length + ys.length) * e.size := by rw [hall.len, List.length_append]
  rw [show xs.length + ys.length = (xs ++ ys).length by simp] at hrun
  have hsize : newCap * e.size ≤ (os.toArray ++ cs.toArray ++ Builtin.zeroCells z.cells (newCap - (xs ++ ys).length)).size := by
    have e1 : (os.toArray ++ cs.toArray ++ Builtin.zeroCells z.cells (newCap - (xs ++ ys).length)).size = (os ++ cs).length + (newCap - (xs.length + ys.length)) * e.size := by
      simp [zeroCells_size, hzs]
    rw [e1, hcl, ← Nat.add_mul]
    exact Nat.mul_le_mul_right _ (by omega)
  refine (row_fresh0 hI hno push_chg push_get (.inr (Nat.le_refl _)) (by simpa using hge) hsize hT5 (fun j hj => ?_)).elim fun κ' h => ⟨κ', _, _, hrun, h.1, h.2⟩
  have hw : (os.toArray ++ cs.toArray ++ Builtin.zeroCells z.cells (newCap - (xs ++ ys).length)).toList = (os ++ cs) ++ (Builtin.zeroCells z.cells (newCap - (xs ++ ys).length)).toList := by simp
  rw [hw]
  have e1 : j * e.size + e.size ≤ (xs ++ ys).length * e.size := by rw [← Nat.succ_mul]; exact Nat.mul_le_mul_right _ (by omega)
  rw [take_left_drop (by rw [hall.len]; exact e1)]
  exact hall.el j hj

theorem set_comm {s : St} {k k' : Nat} {c c' : C} (h : k ≠ k') (j : Nat) : ((s.set k c).set k' c').get j = ((s.set k' c').set k c).get j := by
  simp only [St.get_set]
  by_cases h1 : k' = j
  · subst h1; simp [h]
  · simp [h1]

/-- An append to a row of its own. -/
theorem append_own (hI : Inv n f F κ s a w) (hg : ∀ k c, g k = some c → s.get k = some c) {T U ty E : TypeId} {ts : Array TypeId} (hts : ts[0]? = some T) (hts2 : ts[1]? = some U) {e' : Ty} (hT : P.underlying T = some (.slice E)) (hpos : 0 < e'.size)
    (hE : tyIs P e' (.inl E) = true) (hT5 : e' = .int .u8 → E = 5) {d : TypeDesc} (hU : P.underlying U = some d) (hd : (∃ V, d = .slice V) ∨ d = .string)
    {ob o : Nat} {xs ys : List e'.den} {cy : C} {vx vy : Value} (hso : s.get (okey ob) = some (.vec none e' xs)) (hno : s.get (okey o) = none) (hv : SlAt (κ ob) xs.length vx)
    (hy : RepC F κ s cy vy) (hys : srcE e' cy g = some ys) (hlim : xs.length + ys.length ≤ lim) :
    ∃ κ' v' w', (Builtin.append_ ts ty #[vx, vy]).run P w = .ok v' w' ∧ Inv n f F κ' ((s.set (okey ob) .dead).set (okey o) (.vec none e' (xs ++ ys))) a w' ∧ SlAt (κ' o) (xs ++ ys).length v' ∧ (κ' o = none → v' = vx) := by
  have hne : ob ≠ o := by rintro rfl; rw [hso] at hno; cases hno
  have hk := hI.kill ob
  have hno' : (s.set (okey ob) .dead).get (okey o) = none := by rw [St.get_set, if_neg (fun e => hne (okey_inj e))]; exact hno
  have ho := hI.objs ob _ hso
  simp only [RepO] at ho
  have grow : ∀ {base cap} {os : List Value}, vx = .slice base xs.length cap → Els F e' xs os →
      (Builtin.firstCells e'.size xs.length (.slice base xs.length cap)).run P { w with drawn := w.drawn + 1 } = .ok os.toArray { w with drawn := w.drawn + 1 } → ¬ xs.length + ys.length ≤ cap →
      ∃ κ' v' w', (Builtin.append_ ts ty #[vx, vy]).run P w = .ok v' w' ∧ Inv n f F κ' ((s.set (okey ob) .dead).set (okey o) (.vec none e' (xs ++ ys))) a w' ∧ SlAt (κ' o) (xs ++ ys).length v' ∧ (κ' o = none → v' = vx) := by
    intro base cap os hvx hos hosr hrm
    subst hvx
    obtain ⟨κ', q', w', hrun, hI2, hκ'⟩ := append_fresh0 (P := P) hI hg hts hts2 hT hpos hE hT5 hU hd (ty := ty) hy hys hos hosr hrm hlim hno
    have hI3 := (hI2.kill ob).congr (s' := (s.set (okey ob) .dead).set (okey o) (.vec none e' (xs ++ ys))) (fun k => set_comm (fun e => hne (okey_inj e)) k)
    refine ⟨κ', _, w', hrun, hI3, hκ', fun h => ?_⟩
    have := hI2.objs o _ (by rw [St.get_set, if_pos rfl])
    simp only [RepO, h] at this
    have hl : (xs ++ ys).length = 0 := by rw [this.2]; rfl
    rw [List.length_append] at hl
    omega
  cases hκ : κ ob with
  | none =>
    rw [hκ] at ho hv
    have hxs := ho.2
    subst hxs
    obtain ⟨ad, hv⟩ := hv
    by_cases hrm : ys.length = 0
    · have hy0 : ys = [] := List.eq_nil_of_length_eq_zero hrm
      subst hy0
      obtain ⟨hlen, hcs⟩ := src_sound (P := P) hI hg hpos hy hys
      obtain ⟨cs, hcsr, hels⟩ := hcs 0 (Nat.le_refl _)
      have hcs0 : cs = [] := List.eq_nil_of_length_eq_zero (by have := hels.len; simpa using this)
      subst hcs0
      have hrun := append_room (P := P) (w := w) (ty := ty) hts hts2 hT hE hU hd (base := ad) (l := 0) (cap := 0) hlen hcsr (Nat.le_refl _) (w' := w) (fun ad h => by simp [storeCells]) (fun _ => rfl)
      have hI2 := hk.obj (o := o) (c := .vec none e' []) (pl := none) (w' := w) hno' (by simp [C.refs]) rfl (by
        intro κ' s' _ hκ' _
        simp only [RepO, hκ']
        exact ⟨by simp, trivial⟩)
      refine ⟨_, vx, w, by rw [hv]; exact hrun, hI2, ?_, fun _ => rfl⟩
      simp only [if_true, SlAt]
      exact ⟨ad, hv⟩
    · exact grow (base := ad) (cap := 0) (os := []) hv ⟨by simp, fun i hi => by simp at hi⟩ (first0 _ _ _) (by show ¬ 0 + ys.length ≤ 0; omega)
  | some q =>
    obtain ⟨b, p, q⟩ := q
    rw [hκ] at ho hv
    obtain ⟨_, c, T', fr, hb, hfr, hq, hroom, hel⟩ := ho
    simp only [SlAt] at hv
    subst hv
    obtain ⟨hfree, hmay⟩ := hI.free ob _ b p q hso rfl hκ
    by_cases hrm : xs.length + ys.length ≤ q
    · obtain ⟨hlen, hcs⟩ := src_sound (P := P) hI hg hpos hy hys
      obtain ⟨cs, hcsr, hels⟩ := hcs ys.length (Nat.le_refl _)
      rw [take_all] at hels
      have hfit : p + xs.length * e'.size + 0 + cs.length ≤ c.size := by
        rw [hels.len]
        have : xs.length * e'.size + ys.length * e'.size ≤ q * e'.size := by rw [← Nat.add_mul]; exact Nat.mul_le_mul_right _ hrm
        omega
      have hst := storeCells_run (P := P) (off := p + xs.length * e'.size) cs 0 c w hb hfr hfit hels.one
      have hrun := append_room (P := P) (w := w) (ty := ty) hts hts2 hT hE hU hd (base := some ⟨b, p, none⟩) hlen hcsr hrm (w' := _) (fun ad h => by cases h; rw [add_lit]; exact hst) (fun h => by cases h)
      rw [Nat.add_zero] at hrun
      have hI2 := hk.obj (o := o) (c := .vec none e' (xs ++ ys)) (pl := some (b, p, q)) (w' := World.row w b (splice c (p + xs.length * e'.size) cs) T' fr) hno' (by simp [C.refs])
        ⟨row_chg, hfree, hmay, by
          intro o' c' p' q' ho' hobj' hκ'
          by_cases e : o' = ob
          · subst e
            rw [St.get_set, if_pos rfl] at ho'
            cases ho'
            simp [C.isObj] at hobj'
          · rw [St.get_set, if_neg (fun h => e (okey_inj h).symm)] at ho'
            exact e (hI.apart o' c' b p' q' ob _ p q ho' hobj' hκ' hso rfl hκ)⟩ (by
        intro κ' s' _ hκ' _
        simp only [RepO, hκ']
        refine ⟨by simp, _, _, _, row_get hb, by simpa [splice_size] using hfr, ⟨by simpa using hrm, hq.2⟩, by rw [splice_size]; exact hroom, fun k hk => ?_⟩
        have hfit' : p + xs.length * e'.size + cs.length ≤ c.size := by omega
        by_cases hkx : k < xs.length
        · rw [List.getElem_append_left hkx]
          have : k * e'.size + e'.size ≤ xs.length * e'.size := by rw [← Nat.succ_mul]; exact Nat.mul_le_mul_right _ (by omega)
          rw [splice_before hfit' (by omega)]
          exact hel k hkx
        · rw [List.getElem_append_right (by omega)]
          have hk' : k - xs.length < ys.length := by simp at hk; omega
          have e1 : p + k * e'.size = p + xs.length * e'.size + (k - xs.length) * e'.size := by
            rw [Nat.add_assoc, ← Nat.add_mul]; congr 2; omega
          have e2 : (k - xs.length) * e'.size + e'.size ≤ ys.length * e'.size := by rw [← Nat.succ_mul]; exact Nat.mul_le_mul_right _ (by omega)
          have hw := splice_at (c := c) (vs := cs) hfit'
          have : ((splice c (p + xs.length * e'.size) cs).toList.drop (p + k * e'.size)).take e'.size = (cs.drop ((k - xs.length) * e'.size)).take e'.size := by
            conv => rhs; rw [← hw]
            rw [List.drop_take, List.drop_drop, ← e1, List.take_take, Nat.min_eq_left (by rw [hels.len]; omega)]
          rw [this]
          exact hels.el _ hk')
      refine ⟨_, _, _, hrun, hI2, ?_, fun h => by simp at h⟩
      simp [SlAt]
    · obtain ⟨hos, hfit⟩ := Els.of_row (F := F) hpos hel
      refine grow (base := some ⟨b, p, none⟩) (cap := q) rfl hos ?_ hrm
      exact loadRow_run (w := { w with drawn := w.drawn + 1 }) hb rfl hos.len

theorem appendR_sound (hΓ : CtxT Γ P) (hI : Inv n f F κ s a w) (hg : ∀ k c, g k = some c → s.get k = some c) {h : OH} {T U ty : TypeId} {ts : Array TypeId} (hts : ts[0]? = some T) (hts2 : ts[1]? = some U) {d : TypeDesc} (hU : P.underlying U = some d) (hd : (∃ V, d = .slice V) ∨ d = .string)
    {cx cy : C} {vx vy : Value} {dst : Option Nat} {r : Res} {u : St}
    (hnew : ∀ m ∈ h.new, s.get (okey m) = none)
    (hx : RepC F κ s cx vx) (hy : RepC F κ s cy vy) (hr : appendR Γ h T cx cy g dst = some r) (hu : r.run = some u) : Does P n f F κ s a w (Builtin.append_ ts ty #[vx, vy]) dst u := by
  unfold appendR at hr
  split at hr
  · rename_i e ob o ht hho
    split at hr
    · rename_i e' xs hgo
      split at hr
      · rename_i hee
        obtain ⟨rfl, hwr⟩ := hee
        simp only [Option.map_eq_some_iff] at hr
        obtain ⟨ys, hys, rfl⟩ := hr
        obtain ⟨zs, hz, rfl⟩ := Res.run_bind hu
        obtain ⟨hlim, rfl⟩ := cat_some hz
        obtain ⟨E, hT, hpos, hE⟩ := tyIs_sl (hΓ.tab _ _ ht)
        have hso := hg _ _ hgo
        have hno : s.get (okey o) = none := hnew o (by rw [hho]; simp)
        obtain ⟨κ', v', w', hrun, hI2, hsl, _⟩ := append_own (P := P) hI hg hts hts2 hT hpos hE (tyIs_sl5 (hΓ.tab _ _ ht) hT) hU hd (ty := ty) hso hno (rep_own.1 hx _ _ _ hso) hy hys hlim
        refine ⟨v', .own o, F, κ', w', [(okey ob, .dead), (okey o, .vec none e' (xs ++ ys))], by simp, hrun, Froz.le_refl F, hI2, own_repS (m := none) (by simp [St.upd, St.get_set]) hsl, by simp [C.refs, St.upd, St.get_set]⟩
      · cases hr
    · cases hr
  · rename_i e ob o ht hho
    split at hr
    · rename_i e' xs hgo
      split at hr
      · rename_i hee
        obtain ⟨rfl, hwr⟩ := hee
        simp only [Option.map_eq_some_iff] at hr
        obtain ⟨ys, hys, rfl⟩ := hr
        obtain ⟨zs, hz, rfl⟩ := Res.run_bind hu
        obtain ⟨hlim, rfl⟩ := cat_some hz
        obtain ⟨E, hT, hpos, hE⟩ := tyIs_sl (hΓ.tab _ _ ht)
        have hso := hg _ _ hgo
        have hno : s.get (okey o) = none := hnew o (by rw [hho]; simp)
        obtain ⟨κ', v', w', hrun, hI2, hsl, hnil⟩ := append_own (P := P) hI hg hts hts2 hT hpos hE (tyIs_sl5 (hΓ.tab _ _ ht) hT) hU hd (ty := ty) hso hno (rep_own.1 (brow_own hx) _ _ _ hso) hy hys hlim
        refine ⟨v', .brow o, F, κ', w', [(okey ob, .dead), (okey o, .vec none e' (xs ++ ys))], by simp, hrun, Froz.le_refl F, hI2, rep_brow.2 (fun n' t' zs hzs => ?_), by simp [C.refs, St.upd, St.get_set]⟩
        simp only [St.upd, St.get_set, if_true, Option.some.injEq] at hzs
        cases hzs
        cases hκ' : κ' o with
        | some q => rw [hκ'] at hsl; simp only [SlAt] at hsl; rw [hsl]; rfl
        | none =>
          -- nothing was there, and nothing came
          have hI2o := hI2.objs o _ (by rw [St.get_set, if_pos rfl])
          simp only [RepO, hκ'] at hI2o
          have hl0 : (xs ++ ys).length = 0 := by rw [hI2o.2]; rfl
          have hv0 := rep_brow.1 hx _ _ _ hso
          have hx0 : xs = [] := List.eq_nil_of_length_eq_zero (by rw [List.length_append] at hl0; omega)
          rw [hnil hκ', hv0, hl0, hx0]
          rw [hnil hκ', hv0, hκ'] at hsl
          obtain ⟨ad, hsl⟩ := hsl
          cases hκ : κ ob with
          | none => rfl
          | some q =>
            have ho := hI.objs ob _ hso
            simp only [RepO, hκ] at ho
            obtain ⟨_, _, _, _, _, _, hq, _⟩ := ho
            have := (hq.2 trivial).1
            rw [hκ] at hsl
            simp only [sliceAt, Option.map_some, Option.getD_some, Value.slice.injEq] at hsl
            exact absurd hsl.2.2 (Nat.ne_of_gt this)
      · cases hr
    · cases hr
  · rename_i e o ht hho
    simp only [Option.map_eq_some_iff] at hr
    obtain ⟨ys, hys, rfl⟩ := hr
    obtain ⟨zs, hz, rfl⟩ := Res.run_bind hu
    obtain ⟨hlim, hzs⟩ := cat_some hz
    rw [hzs]
    clear hzs hz hu
    obtain ⟨E, hT, hpos, hE⟩ := tyIs_sl (hΓ.tab _ _ ht)
    have hno : s.get (okey o) = none := hnew o (by rw [hho]; simp)
    rw [rep_nil] at hx
    obtain ⟨ad, rfl⟩ := hx
    by_cases hrm : ys.length = 0
    · have hy0 : ys = [] := List.eq_nil_of_length_eq_zero hrm
      subst hy0
      obtain ⟨hlen, hcs⟩ := src_sound (P := P) hI hg hpos hy hys
      obtain ⟨cs, hcsr, hels⟩ := hcs 0 (Nat.le_refl _)
      have hcs0 : cs = [] := List.eq_nil_of_length_eq_zero (by have := hels.len; simpa using this)
      subst hcs0
      have hrun := append_room (P := P) (w := w) (ty := ty) hts hts2 hT hE hU hd (base := ad) (l := 0) (cap := 0) hlen hcsr (Nat.le_refl _) (w' := w) (fun ad h => by simp [storeCells]) (fun _ => rfl)
      have hI2 := hI.obj (o := o) (c := .vec none e []) (pl := none) (w' := w) hno (by simp [C.refs]) rfl (by
        intro κ' s' _ hκ' _
        simp only [RepO, hκ']
        exact ⟨by simp, trivial⟩)
      refine ⟨_, .own o, F, _, w, [(okey o, .vec none e [])], rfl, hrun, Froz.le_refl F, hI2, rep_own.2 ?_, by simp [C.refs, St.upd, St.get_set]⟩
      intro n' t' zs hzs
      simp only [St.upd, St.get_set, if_true, Option.some.injEq] at hzs
      cases hzs
      simp [SlAt]
    · obtain ⟨κ', q', w', hrun, hI2, hκ'⟩ := append_fresh0 (P := P) hI hg hts hts2 hT hpos hE (tyIs_sl5 (hΓ.tab _ _ ht) hT) hU hd (ty := ty) (base := ad) (cap := 0) (xs := []) hy hys (os := []) ⟨by simp, fun i hi => by simp at hi⟩ (first0 _ _ _) (by show ¬ 0 + ys.length ≤ 0; omega) hlim hno
      refine ⟨_, .own o, F, _, w', [(okey o, .vec none e ([] ++ ys))], rfl, hrun, Froz.le_refl F, hI2, ?_, by simp [C.refs, St.upd, St.get_set]⟩
      exact own_repS (m := none) (by simp [St.upd, St.get_set]) hκ'
  · cases hr

end
end Go.Fe
