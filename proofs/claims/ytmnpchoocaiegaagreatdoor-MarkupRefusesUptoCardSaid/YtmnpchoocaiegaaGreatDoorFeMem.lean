/- Loads and stores over rows of cells. -/
import Derived.Test.YtmnpchoocaiegaaGreatDoorFeTy
import Derived.Laws.Sem
import Derived.Laws.Cells
namespace Go.Fe
open Go

section
variable {P : Program} {w : World} {F : Froz}

theorem cell_at {b : Nat} {c : Array Value} {T : TypeId} {fr : Nat × Nat} (h : w.heap[b]? = some (.cells c T fr)) (i : Nat) : w.cell? ⟨b, i, none⟩ = c[i]? := by
  simp [World.cell?, h]

theorem add_lit (b off i : Nat) : (⟨b, off, none⟩ : Addr).add i = ⟨b, off + i, none⟩ := by
  unfold Addr.add
  split
  · rename_i h; subst h; rfl
  · rfl

theorem isAgg_run {t : Ty} {T : TypeId} (h : tyIs P t (.inl T) = true) (w : World) : (isAgg T).run P w = .ok t.agg w := by
  cases t with
  | int k => simp [isAgg, underlying_run (tyIs_int h), Ty.agg]
  | bool => simp [isAgg, underlying_run (tyIs_bool h), Ty.agg]
  | str => simp [isAgg, underlying_run (tyIs_str h), Ty.agg]
  | err => obtain ⟨ms, hE⟩ := tyIs_err h; simp [isAgg, underlying_run hE, Ty.agg]
  | sl e => obtain ⟨E, hE, _⟩ := tyIs_sl h; simp [isAgg, underlying_run hE, Ty.agg]
  | arr n e => obtain ⟨E, hE, _⟩ := tyIs_arr h; simp [isAgg, underlying_run hE, Ty.agg]
  | unit => obtain ⟨fs, hE, _⟩ := tyIs_rec rfl h; simp [isAgg, underlying_run hE, Ty.agg]
  | pair a b => obtain ⟨fs, hE, _⟩ := tyIs_rec rfl h; simp [isAgg, underlying_run hE, Ty.agg]
  | mu a => obtain ⟨fs, hE, _⟩ := tyIs_rec rfl h; simp [isAgg, underlying_run hE, Ty.agg]

theorem sizeOf_run {t : Ty} {T : TypeId} (h : tyIs P t (.inl T) = true) (w : World) : (Go.sizeOf T).run P w = .ok t.size w := by
  obtain ⟨i, z, hi⟩ := tyIs_info h
  simp [Go.sizeOf, typeInfo_run hi.info, hi.size]

theorem zero_run {t : Ty} {T : TypeId} {i : TypeInfo} {z : Value} (h : TyInfo P t T i z) (w : World) : (zeroValue T).run P w = .ok z w := by
  simp [zeroValue, typeInfo_run h.info, h.zero]

theorem size_one {t : Ty} (h : t.agg = false) : t.size = 1 := by cases t <;> simp_all [Ty.agg, Ty.size]

/-- A load reads what a row of cells tells. -/
theorem load_run {t : Ty} {T : TypeId} (h : tyIs P t (.inl T) = true) {b off : Nat} {c : Array Value} {E : TypeId} {fr : Nat × Nat}
    (hb : w.heap[b]? = some (.cells c E fr)) {cs : List Value} (hcs : (c.toList.drop off).take t.size = cs) (hl : cs.length = t.size) :
    (Instr.loadAt T (.pointer (some ⟨b, off, none⟩))).run P w = .ok (pack t cs) w := by
  have hcell : ∀ j v, cs[j]? = some v → w.cell? ((⟨b, off, none⟩ : Addr).add j) = some v := by
    intro j v hj
    rw [add_lit, cell_at hb]
    rw [← hcs, List.getElem?_take] at hj
    split at hj
    · rw [List.getElem?_drop] at hj; simpa using hj
    · cases hj
  simp only [Instr.loadAt, Instr.sureAddr, loadVar, Sem.run_bind, Sem.run_pure, Result.andThen_ok, isAgg_run h, Sem.run_ite]
  cases ht : t.agg with
  | true =>
    have := run_loadCells_list (P := P) w ⟨b, off, none⟩ cs hcell
    rw [hl] at this
    simp [sizeOf_run h, this, pack, ht]
  | false =>
    have h1 := size_one ht
    rw [h1] at hl
    match cs, hl with
    | [v], _ =>
      have := hcell 0 v rfl
      rw [add_lit] at this
      simp only [Nat.add_zero] at this
      simp [this, pack, ht]

theorem RepT.one {t : Ty} {x : t.den} {cs : List Value} (h : RepT F t x cs) : ∀ v ∈ cs, v.oneCell' = true := by
  induction t generalizing cs with
  | int k => simp only [RepT] at h; subst h; simp [Value.oneCell']
  | bool => simp only [RepT] at h; subst h; simp [Value.oneCell']
  | str => simp only [RepT] at h; subst h; simp [Value.oneCell']
  | err =>
    simp only [RepT] at h
    obtain ⟨v, rfl, hv⟩ := h
    intro u hu
    rw [List.mem_singleton] at hu
    subst hu
    cases x with
    | false => simp only [ErrV] at hv; subst hv; simp [Value.oneCell']
    | true => obtain ⟨t, w, rfl⟩ := hv; simp [Value.oneCell']
  | sl e _ => simp only [RepT] at h; obtain ⟨a, cap, rfl, _⟩ := h; simp [Value.oneCell']
  | unit => simp only [RepT] at h; subst h; simp
  | pair a b iha ihb =>
    simp only [RepT] at h
    obtain ⟨c1, c2, rfl, h1, h2⟩ := h
    intro v hv
    rcases List.mem_append.1 hv with hv | hv
    · exact iha h1 v hv
    · exact ihb h2 v hv
  | mu a ih =>
    rw [RepT.mu] at h
    obtain ⟨c1, c2, rfl, h1, h2⟩ := h
    simp only [RepT] at h2
    obtain ⟨b, cap, rfl, _⟩ := h2
    intro v hv
    rcases List.mem_append.1 hv with hv | hv
    · exact ih h1 v hv
    · rw [List.mem_singleton] at hv
      subst hv
      simp [Value.oneCell']
  | arr n e ih =>
    simp only [RepT] at h
    obtain ⟨h0, h1, h2⟩ := h
    intro v hv
    obtain ⟨j, hj, rfl⟩ := List.mem_iff_getElem.1 hv
    have hs : 0 < e.size := by
      rcases Nat.eq_zero_or_pos e.size with hz | hz
      · rw [hz, Nat.mul_zero] at h1; omega
      · exact hz
    have hi : j / e.size < x.length := by rw [h0]; exact Nat.div_lt_of_lt_mul (by rw [Nat.mul_comm]; omega)
    refine ih (h2 (j / e.size) hi) _ ?_
    have hm := Nat.div_add_mod j e.size
    have hlt := Nat.mod_lt j hs
    rw [Nat.mul_comm] at hm
    refine List.mem_iff_getElem?.2 ⟨j % e.size, ?_⟩
    rw [List.getElem?_take, if_pos hlt, List.getElem?_drop, hm, List.getElem?_eq_getElem hj]

theorem SlAt.one {p : Option (Nat × Nat × Nat)} {n : Nat} {v : Value} (h : SlAt p n v) : v.oneCell' = true := by
  cases p with
  | none => obtain ⟨a, rfl⟩ := h; rfl
  | some q => simp only [SlAt] at h; subst h; rfl

theorem SlAt.form {p : Option (Nat × Nat × Nat)} {n : Nat} {v : Value} (h : SlAt p n v) : ∃ a cap, v = .slice a n cap := by
  cases p with
  | none => obtain ⟨a, rfl⟩ := h; exact ⟨_, _, rfl⟩
  | some q => simp only [SlAt] at h; subst h; exact ⟨_, _, rfl⟩

/-- Values written over a row. -/
def splice (c : Array Value) (p : Nat) : List Value → Array Value
  | [] => c
  | v :: r => splice (c.setIfInBounds p v) (p + 1) r

theorem splice_list : ∀ (vs : List Value) (c : Array Value) (p : Nat), p + vs.length ≤ c.size →
    (splice c p vs).toList = c.toList.take p ++ vs ++ c.toList.drop (p + vs.length)
  | [], c, p, _ => by simp [splice]
  | v :: r, c, p, h => by
    simp only [List.length_cons] at h
    have hp : p < c.toList.length := by simp; omega
    rw [splice, splice_list r _ _ (by simp; omega)]
    simp only [Array.toList_setIfInBounds, List.length_cons]
    have h1 : (c.toList.set p v).take (p + 1) = c.toList.take p ++ [v] := by
      rw [List.take_add_one, List.take_set_of_le (Nat.le_refl p), List.getElem?_set_self hp]; rfl
    have h2 : (c.toList.set p v).drop (p + 1 + r.length) = c.toList.drop (p + (r.length + 1)) := by
      rw [List.drop_set_of_lt (by omega)]; congr 1; omega
    rw [h1, h2]
    simp

theorem splice_size : ∀ (vs : List Value) (c : Array Value) (p : Nat), (splice c p vs).size = c.size
  | [], _, _ => rfl
  | v :: r, c, p => by rw [splice, splice_size r]; simp

/-- What lies outside of what is written stays. -/
theorem splice_before {vs : List Value} {c : Array Value} {p i n : Nat} (h : p + vs.length ≤ c.size) (hi : i + n ≤ p) :
    ((splice c p vs).toList.drop i).take n = (c.toList.drop i).take n := by
  rw [splice_list vs c p h, List.append_assoc]
  rw [List.drop_append_of_le_length (by simp; omega), List.take_append_of_le_length (by simp; omega)]
  rw [List.drop_take, List.take_take]
  congr 1
  omega
theorem splice_behind {vs : List Value} {c : Array Value} {p i n : Nat} (h : p + vs.length ≤ c.size) (hi : p + vs.length ≤ i) :
    ((splice c p vs).toList.drop i).take n = (c.toList.drop i).take n := by
  rw [splice_list vs c p h]
  have : (c.toList.take p ++ vs).length = p + vs.length := by simp; omega
  rw [List.drop_append, List.drop_eq_nil_of_le (by omega), List.nil_append, this, List.drop_drop]
  congr 2
  omega
theorem splice_at {vs : List Value} {c : Array Value} {p : Nat} (h : p + vs.length ≤ c.size) :
    ((splice c p vs).toList.drop p).take vs.length = vs := by
  rw [splice_list vs c p h, List.append_assoc]
  have : (c.toList.take p).length = p := by simp; omega
  rw [List.drop_append, this, List.drop_eq_nil_of_le (by omega)]
  simp

def World.row (w : World) (b : Nat) (c : Array Value) (T : TypeId) (fr : Nat × Nat) : World := { w with heap := w.heap.setIfInBounds b (.cells c T fr) }

theorem row_self {b : Nat} {c : Array Value} {T : TypeId} {fr : Nat × Nat} (h : w.heap[b]? = some (.cells c T fr)) : World.row w b c T fr = w := by
  unfold World.row
  have : w.heap.setIfInBounds b (.cells c T fr) = w.heap := by
    apply Array.ext_getElem?
    intro i
    rw [Array.getElem?_setIfInBounds]
    split
    · rename_i e; subst e
      rw [if_pos (lt_of_some h), h]
    · rfl
  rw [this]

theorem row_get {b : Nat} {c' : Array Value} {T : TypeId} {fr : Nat × Nat} {o : Obj} (h : w.heap[b]? = some o) : (World.row w b c' T fr).heap[b]? = some (.cells c' T fr) := by
  unfold World.row
  simp [lt_of_some h]

theorem row_row {b : Nat} {c c' : Array Value} {T T' : TypeId} {fr fr' : Nat × Nat} : World.row (World.row w b c T fr) b c' T' fr' = World.row w b c' T' fr' := by
  unfold World.row
  simp

theorem row_chg {b : Nat} {c : Array Value} {T : TypeId} {fr : Nat × Nat} : Chg b w (World.row w b c T fr) := by
  constructor
  · simp [World.row]
  · intro b' h _
    unfold World.row
    exact Array.getElem?_setIfInBounds_ne (Ne.symm h)
  · exact ⟨rfl, rfl⟩

theorem setCell_row {b i : Nat} {c : Array Value} {T : TypeId} {fr : Nat × Nat} (h : w.heap[b]? = some (.cells c T fr)) (v : Value) :
    w.setCell ⟨b, i, none⟩ v = World.row w b (c.setIfInBounds i v) T fr := by
  unfold World.setCell World.row
  congr 1
  apply Array.ext_getElem?
  intro j
  rw [Array.getElem?_modify, Array.getElem?_setIfInBounds]
  split
  · rename_i e; subst e
    simp only [lt_of_some h, if_true, h, Option.map_some]
    rfl
  · rfl

theorem storeCells_run {b off : Nat} {T : TypeId} {fr : Nat × Nat} : ∀ (vs : List Value) (i : Nat) (c : Array Value) (w : World), w.heap[b]? = some (.cells c T fr) →
    (c.size ≤ fr.1 ∨ fr.2 ≤ fr.1) → off + i + vs.length ≤ c.size → (∀ v ∈ vs, v.oneCell' = true) →
    (storeCells ⟨b, off, none⟩ vs i).run P w = .ok () (World.row w b (splice c (off + i) vs) T fr)
  | [], i, c, w, h, _, _, _ => by
    simp only [storeCells, Sem.run_pure, splice, row_self h]
  | v :: r, i, c, w, h, hf, hs, h1 => by
    simp only [List.length_cons] at hs
    have hcell : w.cell? ⟨b, off + i, none⟩ = some c[off + i] := by rw [cell_at h, Array.getElem?_eq_getElem (by omega)]
    have hfz : w.frozen? ⟨b, off + i, none⟩ = false := by
      simp only [World.frozen?, h]
      rcases hf with hf | hf
      · simp; omega
      · simp; omega
    have hrow : (World.row w b (c.setIfInBounds (off + i) v) T fr).heap[b]? = some (.cells (c.setIfInBounds (off + i) v) T fr) := row_get h
    have ih := storeCells_run (off := off) r (i + 1) (c.setIfInBounds (off + i) v) _ hrow (by simpa using hf) (by simp; omega) (fun v hv => h1 v (List.mem_cons_of_mem _ hv))
    simp only [storeCells, Sem.run_bind, add_lit, run_store P w _ v _ (h1 v (List.mem_cons_self ..)), hcell, hfz, Bool.false_eq_true, if_false, Result.andThen_ok]
    rw [setCell_row h, ih, row_row]
    rfl

/-- A store of a value of a type. -/
theorem store_run {t : Ty} {T : TypeId} (h : tyIs P t (.inl T) = true) {b off : Nat} {c : Array Value} {E : TypeId} {fr : Nat × Nat}
    (hb : w.heap[b]? = some (.cells c E fr)) (hf : c.size ≤ fr.1 ∨ fr.2 ≤ fr.1) {v : Value} (hl : v.cells.toList.length = t.size) (hs : off + t.size ≤ c.size)
    (h1 : ∀ u ∈ v.cells.toList, u.oneCell' = true) :
    (Instr.storeAt T (.pointer (some ⟨b, off, none⟩)) v).run P w = .ok () (World.row w b (splice c off v.cells.toList) E fr) := by
  have hsz : v.cells.size = t.size := by simpa using hl
  have := storeCells_run (P := P) (off := off) v.cells.toList 0 c w hb hf (by simpa [hsz] using hs) h1
  simp only [Instr.storeAt, Instr.sureAddr, storeVar, Sem.run_bind, Sem.run_pure, Result.andThen_ok, sizeOf_run h, hsz, ne_eq, not_true_eq_false, if_false, Nat.add_zero] at this ⊢
  exact this

theorem pack_cells {t : Ty} {x : t.den} {cs : List Value} (h : RepT F t x cs) : (pack t cs).cells.toList = cs := by
  unfold pack
  split
  · simp [Value.cells]
  · rename_i ht
    have hl := h.length
    rw [size_one (by simpa using ht)] at hl
    match cs, hl with
    | [v], _ =>
      have := h.one v (by simp)
      cases v <;> simp_all [Value.cells, Value.oneCell']

end
end Go.Fe
