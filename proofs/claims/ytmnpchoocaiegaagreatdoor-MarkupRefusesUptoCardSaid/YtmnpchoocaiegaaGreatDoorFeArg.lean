/- What a law is given, as data. -/
import Derived.Test.YtmnpchoocaiegaaGreatDoorFeFnMain
import Derived.ProofKit
import Derived.OpenShut
namespace Go.Fe
open Go Go.ChangeShapes Go.WideShapes Go.RowKit

/-- What holds of a value and of all behind it. -/
inductive HasM {α : Type} (R : α → Prop) : Tree α → Prop
  | mk {x : α} {ks : List (Tree α)} : R x → ks.length ≤ 9223372036854775807 → (∀ k ∈ ks, HasM R k) → HasM R (.node x ks)

/-- In range, as the law is given it. -/
def Ty.has : (t : Ty) → t.den → Prop
  | .int k, n => k.min ≤ n ∧ n ≤ k.max
  | .bool, _ => True
  | .str, s => s.length ≤ 9223372036854775807
  | .err, _ => True
  | .sl e, xs => xs.length ≤ 9223372036854775807 ∧ ∀ x ∈ xs, e.has x
  | .arr _ e, xs => ∀ x ∈ xs, e.has x
  | .unit, _ => True
  | .pair a b, x => a.has x.1 ∧ b.has x.2
  | .mu a, x => HasM (fun y => a.has y) x

/-- A value with values of its own kind behind it, out of its fields. -/
def ofM {H α : Type} (f : List (DataW H) → Option α) : Nat → List (DataW H) → Option (Tree α)
  | 0, _ => none
  | n + 1, ds => match ds.getLast? with
    | some d => (f ds.dropLast).bind fun x => (match d with
      | .nil => some []
      | .slice es _ => es.mapM fun (e : DataW H) => match e with
        | .agg r => ofM f n r
        | _ => none
      | _ => none).map (Tree.node x)
    | none => none

/-- The data that a reading tells. -/
noncomputable def ofData {H : Type} : (t : Ty) → DataW H ⊕ List (DataW H) → Option t.den
  | .int _, .inl (.lit (.int _ n)) => some n
  | .bool, .inl (.lit (.bool b)) => some b
  | .str, .inl (.lit (.string s)) => some s
  | .err, .inl d => match d with
    | .nil => some false
    | .held _ => some true
    | .iface _ _ => some true
    | _ => none
  | .sl e, .inl d => match d with
    | .nil => some []
    | .slice ds _ => ds.mapM fun d => ofData e (.inl d)
    | _ => none
  | .arr _ e, .inl (.agg ds) => ds.mapM fun d => ofData e (.inl d)
  | .unit, .inl (.agg []) => some ()
  | .pair a b, .inl (.agg (d :: r)) => match ofData a (.inl d), ofData b (.inr r) with
    | some x, some y => some (x, y)
    | _, _ => none
  | .mu a, .inl (.agg ds) => ofM (fun l => ofData a (.inr l)) (SizeOf.sizeOf ds) ds
  | .mu a, .inr ds => ofM (fun l => ofData a (.inr l)) (SizeOf.sizeOf ds) ds
  | .unit, .inr [] => some ()
  | .pair a b, .inr (d :: r) => match ofData a (.inl d), ofData b (.inr r) with
    | some x, some y => some (x, y)
    | _, _ => none
  | _, _ => none

theorem mapM_of_each {α β : Type} {f : α → Option β} : ∀ (l : List α) (m : List β), m.length = l.length → (∀ (i : Nat) (h : i < l.length) (h' : i < m.length), f l[i] = some m[i]) → l.mapM f = some m
  | [], [], _, _ => rfl
  | [], _ :: _, h, _ => by simp at h
  | _ :: _, [], h, _ => by simp at h
  | a :: l, b :: m, h, hf => by
    have h0 := hf 0 (by simp) (by simp)
    have h1 := mapM_of_each l m (by simpa using h) (fun i hi hi' => hf (i + 1) (Nat.succ_lt_succ hi) (Nat.succ_lt_succ hi'))
    simp only [List.getElem_cons_zero] at h0
    simp [List.mapM_cons, h0, h1]

theorem mapM_imp {α β : Type} {f g : α → Option β} : ∀ (l : List α) (m : List β), (∀ a ∈ l, ∀ b, f a = some b → g a = some b) → l.mapM f = some m → l.mapM g = some m
  | [], m, _, h => h
  | a :: l, m, hi, h => by
    simp only [List.mapM_cons, Option.bind_eq_bind, Option.bind_eq_some_iff] at h ⊢
    obtain ⟨x, hx, ys, hy, e⟩ := h
    exact ⟨x, hi a (by simp) x hx, ys, mapM_imp l ys (fun b hb => hi b (by simp [hb])) hy, e⟩

theorem ofM_mono {H α : Type} {f : List (DataW H) → Option α} : ∀ {n m : Nat} {ds : List (DataW H)} {y : Tree α}, n ≤ m → ofM f n ds = some y → ofM f m ds = some y
  | 0, _, _, _, _, h => by simp [ofM] at h
  | n + 1, 0, _, _, hn, _ => by omega
  | n + 1, m + 1, ds, y, hn, h => by
    simp only [ofM] at h ⊢
    cases hd : ds.getLast? with
    | none => rw [hd] at h; cases h
    | some d =>
      rw [hd] at h
      simp only [Option.bind_eq_some_iff, Option.map_eq_some_iff] at h ⊢
      obtain ⟨x, hx, ks, hk, rfl⟩ := h
      refine ⟨x, hx, ks, ?_, rfl⟩
      cases d with
      | slice es sp =>
        refine mapM_imp _ _ (fun e _ b he => ?_) hk
        cases e with
        | agg r => exact ofM_mono (by omega) he
        | _ => cases he
      | nil => exact hk
      | _ => cases hk

theorem getLast_snoc {α : Type} (l : List α) (d : α) : (l ++ [d]).getLast? = some d := by simp
theorem dropLast_snoc {α : Type} (l : List α) (d : α) : (l ++ [d]).dropLast = l := by simp
/-- .. with a row behind it, whose values are read. -/
theorem ofM_slice {H α : Type} {f : List (DataW H) → Option α} {ds es sp : List (DataW H)} {x : α} {ks : List (Tree α)} (hx : f ds = some x) (hl : ks.length = es.length)
    (hk : ∀ (i : Nat) (h : i < es.length) (h' : i < ks.length), ∃ r, es[i] = .agg r ∧ ofM f (SizeOf.sizeOf r) r = some ks[i]) : ofM f (SizeOf.sizeOf (ds ++ [.slice es sp])) (ds ++ [.slice es sp]) = some (.node x ks) := by
  have hs : ∀ ds : List (DataW H), SizeOf.sizeOf es < SizeOf.sizeOf (ds ++ [.slice es sp]) - 1 := by
    intro ds
    induction ds with
    | nil => simp; omega
    | cons a l ih => simp only [List.cons_append, List.cons.sizeOf_spec] at ih ⊢; omega
  have h0 := hs ds
  generalize hN : SizeOf.sizeOf (ds ++ [.slice es sp]) = N at h0
  cases N with
  | zero => omega
  | succ n =>
    simp only [ofM, getLast_snoc, dropLast_snoc, hx, Option.bind_some]
    rw [mapM_of_each es ks hl (fun i hi hi' => by
      obtain ⟨r, e, h⟩ := hk i hi hi'
      have := List.sizeOf_lt_of_mem (List.getElem_mem hi)
      rw [e] at this ⊢
      simp only [DataW.agg.sizeOf_spec] at this
      exact ofM_mono (by omega) h)]
    rfl
theorem ofM_nil {H α : Type} {f : List (DataW H) → Option α} {ds : List (DataW H)} {x : α} (hx : f ds = some x) : ofM f (SizeOf.sizeOf (ds ++ [.nil])) (ds ++ [.nil]) = some (.node x []) := by
  have hs : ∀ ds : List (DataW H), 0 < SizeOf.sizeOf (ds ++ [.nil]) := by
    intro ds
    cases ds <;> simp <;> omega
  have h0 := hs ds
  generalize hN : SizeOf.sizeOf (ds ++ [.nil]) = N at h0
  cases N with
  | zero => omega
  | succ n =>
    simp only [ofM, getLast_snoc, dropLast_snoc, hx, Option.bind_some]
    rfl

/-- A struct's fields lie in its cells. -/
theorem Flds.fit {P : Program} : ∀ {t : Ty} {fs : List Field} {off : Nat}, Flds P t fs off → ∀ f ∈ fs, off ≤ f.offset ∧ f.offset + P.cellsOf f.type ≤ off + t.size
  | .unit, _, _, h, f, hf => by simp only [Flds] at h; subst h; cases hf
  | .pair a b, fs, off, h, f, hf => by
    obtain ⟨g, r, rfl, h1, h2, h3⟩ := h
    simp only [Ty.size]
    rcases List.mem_cons.1 hf with rfl | hf
    · obtain ⟨i, z, hi⟩ := tyIs_info h2
      have : P.cellsOf f.type = a.size := by simp [Program.cellsOf, hi.info, hi.size]
      omega
    · have := Flds.fit h3 f hf
      omega
  | .mu a, fs, off, h, f, hf => by
    obtain ⟨r, g, rfl, h1, h2, h3⟩ := h
    simp only [Ty.size]
    rcases List.mem_append.1 hf with hf | hf
    · have := Flds.fit h1 f hf
      omega
    · rw [List.mem_singleton] at hf
      subst hf
      obtain ⟨i, z, hi⟩ := tyIs_info h3
      have : P.cellsOf f.type = 1 := by simp [Program.cellsOf, hi.info, hi.size, Ty.size]
      omega
  | .int _, _, _, h, _, _ => by simp [Flds] at h
  | .bool, _, _, h, _, _ => by simp [Flds] at h
  | .str, _, _, h, _, _ => by simp [Flds] at h
  | .err, _, _, h, _, _ => by simp [Flds] at h
  | .sl _, _, _, h, _, _ => by simp [Flds] at h
  | .arr _ _, _, _, h, _, _ => by simp [Flds] at h

def heapF (w : World) : Froz := fun b => w.heap[b]?

theorem tyIs_cells {P : Program} {t : Ty} {T : TypeId} (h : tyIs P t (.inl T) = true) : P.cellsOf T = t.size := by
  obtain ⟨i, z, hi⟩ := tyIs_info h
  simp [Program.cellsOf, hi.info, hi.size]

theorem choose_list {α : Type} {p : Nat → α → Prop} : ∀ (n : Nat), (∀ i, i < n → ∃ x, p i x) → ∃ xs : List α, xs.length = n ∧ ∀ i (h : i < xs.length), p i xs[i]
  | 0, _ => ⟨[], rfl, fun i h => by simp at h⟩
  | n + 1, h => by
    obtain ⟨xs, hl, hx⟩ := choose_list n (fun i hi => h i (by omega))
    obtain ⟨y, hy⟩ := h n (by omega)
    refine ⟨xs ++ [y], by simp [hl], fun i hi => ?_⟩
    by_cases e : i < xs.length
    · rw [List.getElem_append_left e]; exact hx i e
    · rw [List.getElem_append_right (by omega)]
      have : i = n := by simp at hi; omega
      subst this
      simpa using hy

theorem cells_row {w : World} {base : Nat} {a : Addr} {n : Nat} {cs : List Value} (h : w.cells? base a n = some cs) (hn : 0 < n) :
    ∃ c T fr, w.heap[a.block]? = some (.cells c T fr) ∧ a.spot = none ∧ (c.toList.drop a.off).take n = cs := by
  unfold World.cells? at h
  split at h
  · have hl := mapM_some_length h
    have hg : ∀ i, i < n → w.cell? (a.add i) = cs[i]? := fun i hi => mapM_some_get h i i (by simp [hi])
    have h0 := hg 0 hn
    simp only [Addr.add, if_true] at h0
    have hsome : ∃ v, w.cell? a = some v := by
      rw [h0]
      exact ⟨cs[0]'(by simp at hl; omega), List.getElem?_eq_getElem _⟩
    obtain ⟨v, hv⟩ := hsome
    unfold World.cell? at hv
    split at hv
    · rename_i c T fr hb
      split at hv
      · cases hv
      · rename_i hs
        have hs' : a.spot = none := by simpa using hs
        refine ⟨c, T, fr, hb, hs', ?_⟩
        apply List.ext_getElem?
        intro i
        rw [List.getElem?_take]
        by_cases hi : i < n
        · rw [if_pos hi, ← hg i hi, List.getElem?_drop]
          have : w.cell? (a.add i) = c[a.off + i]? := by
            unfold Addr.add World.cell?
            by_cases e : i = 0
            · subst e; simp [hb, hs']
            · simp [e, hb]
          rw [this]; simp
        · rw [if_neg hi]
          simp at hl
          rw [List.getElem?_eq_none (by omega)]
    · cases hv
  · cases h

section
variable {H : Type} {enc : TypeId × Value → H} {P : Program} {w : World} {base : Nat} {sp : Nat → Bool} {held : Bool}

theorem trod_rep0 : ∀ (t : Ty),
    (∀ {T : TypeId} {fuel : Nat} {cs : List Value} {x : DataW H × List MemPlace}, tyIs P t (.inl T) = true → DataW.trod enc P w base sp held fuel T cs = some x → ∃ y : t.den, RepT (heapF w) t y cs ∧ t.has y ∧ ofData t (.inl x.1) = some y) ∧
    (∀ {fs : List Field} {off fuel : Nat} {cs : List Value}, Flds P t fs off → cs.length = off + t.size → ∀ (xs : List (DataW H × List MemPlace)), xs.length = fs.length → (∀ (i : Nat) (f : Field), fs[i]? = some f → DataW.trod enc P w base sp held fuel f.type ((cs.drop f.offset).take (P.cellsOf f.type)) = xs[i]?) →
      ∃ y : t.den, RepT (heapF w) t y (cs.drop off) ∧ t.has y ∧ ofData t (.inr (xs.map (·.1))) = some y) := by
  intro t
  induction t with
  | int k =>
    refine ⟨fun {T fuel cs x} h ht => ?_, fun h => by simp [Flds] at h⟩
    obtain ⟨n, rfl, rfl, hw⟩ := DataW.trod_int (tyIs_int h) ht
    refine ⟨n, by simp [RepT], ?_, rfl⟩
    simp only [Lit.wf, Bool.and_eq_true, decide_eq_true_eq] at hw
    exact hw
  | bool =>
    refine ⟨fun {T fuel cs x} h ht => ?_, fun h => by simp [Flds] at h⟩
    obtain ⟨b, rfl, rfl⟩ := DataW.trod_bool (tyIs_bool h) ht
    exact ⟨b, by simp [RepT], trivial, rfl⟩
  | str =>
    refine ⟨fun {T fuel cs x} h ht => ?_, fun h => by simp [Flds] at h⟩
    obtain ⟨s, rfl, rfl, hs⟩ := DataW.trod_string (tyIs_str h) ht
    exact ⟨s.data.toList, by simp [RepT], by simpa [Ty.has, maxLen] using hs, rfl⟩
  | err =>
    refine ⟨fun {T fuel cs x} h ht => ?_, fun h => by simp [Flds] at h⟩
    obtain ⟨ms, hE⟩ := tyIs_err h
    cases fuel with
    | zero => simp [DataW.trod] at ht
    | succ n =>
      unfold DataW.trod at ht
      rw [hE] at ht
      split at ht <;> simp_all
      · left; exact ⟨by simp [RepT, ErrV], trivial, by rw [← ht]; rfl⟩
      · right; refine ⟨?_, trivial, ?_⟩
        · simp only [RepT]; exact ⟨_, rfl, _, _, rfl⟩
        · split at ht
          · cases ht; rfl
          · simp only [Option.map_eq_some_iff] at ht
            obtain ⟨a, _, rfl⟩ := ht
            rfl
          · cases ht
  | sl e ih =>
    refine ⟨fun {T fuel cs x} h ht => ?_, fun h => by simp [Flds] at h⟩
    obtain ⟨E, hE, hpos, he⟩ := tyIs_sl h
    rcases DataW.trod_slice hE ht with ⟨rfl, rfl⟩ | ⟨a, len, cap, elems, rest, n, _, rfl, rfl, _, hlc, hcm, hl, hel, _⟩
    · exact ⟨[], by simp only [RepT]; exact ⟨none, 0, rfl, Nat.le_refl _, .inl trivial⟩, by simp [Ty.has], rfl⟩
    · have hc := tyIs_cells he
      have each : ∀ i, i < len → ∃ y : e.den, (∃ cs', w.cells? base (a.add (i * e.size)) e.size = some cs' ∧ RepT (heapF w) e y cs') ∧ e.has y ∧ ((elems[i]?).bind fun x => ofData e (.inl x.1)) = some y := fun i hi => by
        have := hel i hi
        rw [List.getElem?_eq_getElem (by omega), hc, Option.bind_eq_some_iff] at this
        obtain ⟨cs', h1, h2⟩ := this
        obtain ⟨y, h3, h4, h5⟩ := ih.1 he h2
        exact ⟨y, ⟨cs', h1, h3⟩, h4, by rw [List.getElem?_eq_getElem (by omega)]; exact h5⟩
      obtain ⟨xs, hxl, hxs⟩ := choose_list len each
      refine ⟨xs, ?_, by
        have : maxLen = 9223372036854775807 := by decide
        simp only [Ty.has]
        refine ⟨by omega, fun x hx => ?_⟩
        obtain ⟨i, hi, rfl⟩ := List.mem_iff_getElem.1 hx
        exact (hxs i hi).2.1, by
        simp only [ofData]
        refine mapM_of_each _ _ (by simp; omega) (fun i hi hi' => ?_)
        have := (hxs i hi').2.2
        rw [List.getElem?_eq_getElem (by simpa using hi)] at this
        simpa using this⟩
      simp only [RepT]
      refine ⟨some a, cap, by rw [hxl], by omega, ?_⟩
      by_cases h0 : len = 0
      · left; exact List.eq_nil_of_length_eq_zero (by omega)
      · right
        obtain ⟨⟨cs0, hc0, _⟩, _⟩ := hxs 0 (by omega)
        rw [Nat.zero_mul] at hc0
        obtain ⟨c, T', fr, hb, hs, _⟩ := cells_row hc0 hpos
        simp only [Addr.add, if_true] at hb hs
        refine ⟨a.block, a.off, c, T', fr, ?_, hb, fun i hi => ?_⟩
        · obtain ⟨b, o, s⟩ := a
          simp only at hs
          subst hs
          rfl
        · obtain ⟨⟨csi, hci, hri⟩, _⟩ := hxs i hi
          obtain ⟨c2, T2, fr2, hb2, _, hd2⟩ := cells_row hci hpos
          have e1 : (a.add (i * e.size)).block = a.block := by unfold Addr.add; split <;> rfl
          have e2 : (a.add (i * e.size)).off = a.off + i * e.size := by
            unfold Addr.add
            split
            · rename_i h; simp [h]
            · rfl
          rw [e1, hb] at hb2
          cases hb2
          rw [e2] at hd2
          rw [hd2]
          exact hri
  | arr n e ih =>
    refine ⟨fun {T fuel cs x} h ht => ?_, fun h => by simp [Flds] at h⟩
    obtain ⟨E, hE, hpos, he⟩ := tyIs_arr h
    obtain ⟨xs, m, _, rfl, hl, hxl, hx⟩ := DataW.trod_array hE ht
    have hc := tyIs_cells he
    have hT := tyIs_cells h
    have each : ∀ i, i < n → ∃ y : e.den, RepT (heapF w) e y ((cs.drop (i * e.size)).take e.size) ∧ e.has y ∧ ((xs[i]?).bind fun x => ofData e (.inl x.1)) = some y := fun i hi => by
      have := hx i hi
      rw [List.getElem?_eq_getElem (by omega), hc] at this
      obtain ⟨y, h3, h4, h5⟩ := ih.1 he this
      exact ⟨y, h3, h4, by rw [List.getElem?_eq_getElem (by omega)]; exact h5⟩
    obtain ⟨ys, hyl, hys⟩ := choose_list n each
    refine ⟨ys, ?_, fun y hy => ?_, ?_⟩
    · simp only [RepT]
      exact ⟨hyl, by rw [hl, hT]; rfl, fun i hi => (hys i hi).1⟩
    · obtain ⟨i, hi, rfl⟩ := List.mem_iff_getElem.1 hy
      exact (hys i hi).2.1
    · simp only [ofData]
      refine mapM_of_each _ _ (by simp; omega) (fun i hi hi' => ?_)
      have := (hys i hi').2.2
      rw [List.getElem?_eq_getElem (by simpa using hi)] at this
      simpa using this
  | unit =>
    refine ⟨fun {T fuel cs x} h ht => ?_, fun {fs off fuel cs} h hl xs hxl _ => ?_⟩
    · obtain ⟨fs, hfs, hfl⟩ := tyIs_rec rfl h
      obtain ⟨xs, m, _, rfl, hl, hxl, _⟩ := DataW.trod_struct hfs ht
      rw [tyIs_cells h] at hl
      have : xs = [] := by
        simp only [Flds] at hfl
        have : fs.size = 0 := by rw [← Array.length_toList, hfl]; rfl
        exact List.eq_nil_of_length_eq_zero (by omega)
      subst this
      exact ⟨(), by simpa [RepT, Ty.size] using hl, trivial, rfl⟩
    · refine ⟨(), ?_, trivial, ?_⟩
      · simp only [RepT, List.drop_eq_nil_iff]
        simp only [Ty.size] at hl
        omega
      · simp only [Flds] at h
        subst h
        have : xs = [] := List.eq_nil_of_length_eq_zero (by simpa using hxl)
        subst this
        rfl
  | pair a b iha ihb =>
    have hB : ∀ {fs : List Field} {off fuel : Nat} {cs : List Value}, Flds P (.pair a b) fs off → cs.length = off + (Ty.pair a b).size → ∀ (xs : List (DataW H × List MemPlace)), xs.length = fs.length → (∀ (i : Nat) (f : Field), fs[i]? = some f → DataW.trod enc P w base sp held fuel f.type ((cs.drop f.offset).take (P.cellsOf f.type)) = xs[i]?) →
      ∃ y : (Ty.pair a b).den, RepT (heapF w) (.pair a b) y (cs.drop off) ∧ (Ty.pair a b).has y ∧ ofData (.pair a b) (.inr (xs.map (·.1))) = some y := by
      intro fs off fuel cs h hl xs hxl hx
      obtain ⟨f, r, rfl, h1, h2, h3⟩ := h
      simp only [Ty.size] at hl
      cases xs with
      | nil => simp at hxl
      | cons x0 xs =>
        have hx0 := hx 0 f rfl
        rw [h1, tyIs_cells h2] at hx0
        obtain ⟨y1, g1, g2, g5⟩ := iha.1 h2 hx0
        obtain ⟨y2, g3, g4, g6⟩ := ihb.2 (cs := cs) h3 (by omega) xs (by simpa using hxl) (fun i g hg => by simpa using hx (i + 1) g (by simpa using hg))
        refine ⟨(y1, y2), ?_, ⟨g2, g4⟩, ?_⟩
        · simp only [RepT]
          refine ⟨_, _, ?_, g1, g3⟩
          rw [← List.drop_drop, List.take_append_drop]
        · simp only [List.map_cons, ofData, g5, g6]
    refine ⟨fun {T fuel cs x} h ht => ?_, hB⟩
    obtain ⟨fs, hfs, hfl⟩ := tyIs_rec rfl h
    obtain ⟨xs, m, _, rfl, hl, hxl, hx⟩ := DataW.trod_struct hfs ht
    rw [tyIs_cells h] at hl
    obtain ⟨y, g1, g2, g3⟩ := hB (cs := cs) (fuel := m) hfl (by omega) xs (by simpa using hxl) (fun i f hf => hx i f (by simpa using hf))
    refine ⟨y, by simpa using g1, g2, ?_⟩
    cases xs with
    | nil =>
      obtain ⟨f, r, hfr, _⟩ := hfl
      have : fs.size = 0 := by simpa using hxl.symm
      rw [← Array.length_toList, hfr] at this
      simp at this
    | cons x0 xs => simpa only [List.map_cons, ofData] using g3
  | mu a ih =>
    have key : ∀ (fuel : Nat) {fs : List Field} {off : Nat} {cs : List Value}, Flds P (.mu a) fs off → cs.length = off + (Ty.mu a).size → ∀ (xs : List (DataW H × List MemPlace)), xs.length = fs.length →
        (∀ (i : Nat) (f : Field), fs[i]? = some f → DataW.trod enc P w base sp held fuel f.type ((cs.drop f.offset).take (P.cellsOf f.type)) = xs[i]?) →
        ∃ y : Tree a.den, RepT (heapF w) (.mu a) y (cs.drop off) ∧ HasM (fun z => a.has z) y ∧ ofM (fun l => ofData a (.inr l)) (SizeOf.sizeOf (xs.map (·.1))) (xs.map (·.1)) = some y := by
      intro fuel
      induction fuel using Nat.strongRecOn with
      | ind fuel IH =>
        intro fs off cs h hl xs hxl hx
        obtain ⟨r, f, rfl, h1, h2, h3⟩ := h
        simp only [Ty.size] at hl
        obtain ⟨ys, z, rfl⟩ : ∃ ys z, xs = ys ++ [z] := by
          rcases List.eq_nil_or_concat xs with e | ⟨ys, z, e⟩
          · rw [e] at hxl; simp at hxl
          · exact ⟨ys, z, by simpa using e⟩
        have hyl : ys.length = r.length := by simpa using hxl
        obtain ⟨y1, g1, g2, g3⟩ := ih.2 (cs := cs.take (off + a.size)) (fuel := fuel) h1 (by rw [List.length_take]; omega) ys hyl (fun i g hg => by
          have hi := (List.getElem?_eq_some_iff.1 hg).1
          have hm : g ∈ r := List.mem_of_getElem? hg
          have hfit := h1.fit g hm
          have := hx i g (by rw [List.getElem?_append_left hi]; exact hg)
          rw [List.getElem?_append_left (by omega)] at this
          rw [← this]
          congr 1
          rw [List.drop_take, List.take_take, Nat.min_eq_left (by omega)])
        have hz := hx r.length f (by simp)
        rw [← hyl, List.getElem?_concat_length] at hz
        have h1c := tyIs_cells h3
        simp only [Ty.size] at h1c
        rw [h2, h1c] at hz
        have hsplit : cs.drop off = (cs.take (off + a.size)).drop off ++ (cs.drop (off + a.size)).take 1 := by
          rw [List.take_of_length_le (l := cs.drop (off + a.size)) (by rw [List.length_drop]; omega), List.drop_take, show off + a.size - off = a.size by omega, ← List.drop_drop, List.take_append_drop]
        rw [List.map_append, List.map_cons, List.map_nil]
        obtain ⟨E, hE, hpos, he⟩ := tyIs_sl h3
        rcases DataW.trod_slice hE hz with ⟨hc, rfl⟩ | ⟨ad, len, cap, elems, rest, n, hn, hc, rfl, _, hlc, hcm, hel, helem, _⟩
        · refine ⟨.node y1 [], RepT.mu.2 ⟨_, _, hsplit, g1, ?_⟩, .mk g2 (by simp) (by simp), ofM_nil g3⟩
          rw [hc]
          simp only [RepT, Tree.kids]
          exact ⟨none, 0, rfl, Nat.le_refl _, .inl trivial⟩
        · have hcE := tyIs_cells he
          obtain ⟨gs, hgs, hgl⟩ := tyIs_rec rfl he
          have each : ∀ i, i < len → ∃ y : Tree a.den, (∃ cs', w.cells? base (ad.add (i * (Ty.mu a).size)) (Ty.mu a).size = some cs' ∧ RepT (heapF w) (.mu a) y cs') ∧ HasM (fun z => a.has z) y ∧
              ∃ q, elems[i]? = some q ∧ ∃ rr, q.1 = .agg rr ∧ ofM (fun l => ofData a (.inr l)) (SizeOf.sizeOf rr) rr = some y := fun i hi => by
            have := helem i hi
            rw [List.getElem?_eq_getElem (by omega), hcE, Option.bind_eq_some_iff] at this
            obtain ⟨cs', k1, k2⟩ := this
            obtain ⟨zs, m, hm, k3, k4, k5, k6⟩ := DataW.trod_struct hgs k2
            rw [hcE] at k4
            obtain ⟨y, j1, j2, j3⟩ := IH m (by omega) (cs := cs') hgl (by omega) zs (by simpa using k5) (fun i g hg => k6 i g (by simpa using hg))
            exact ⟨y, ⟨cs', k1, by simpa using j1⟩, j2, _, List.getElem?_eq_getElem (by omega), _, by rw [k3], j3⟩
          obtain ⟨ks, hkl, hks⟩ := choose_list len each
          refine ⟨.node y1 ks, RepT.mu.2 ⟨_, _, hsplit, g1, ?_⟩, .mk g2 (by
            have : maxLen = 9223372036854775807 := by decide
            omega) (fun k hk => by
            obtain ⟨i, hi, rfl⟩ := List.mem_iff_getElem.1 hk
            exact (hks i hi).2.1), ofM_slice g3 (by simp; omega) (fun i hi hi' => by
            obtain ⟨q, hq, rr, e, hr⟩ := (hks i hi').2.2
            have : elems[i]'(by simpa using hi) = q := by
              rw [List.getElem?_eq_getElem (by simpa using hi)] at hq
              exact Option.some.inj hq
            exact ⟨rr, by rw [List.getElem_map, this, e], hr⟩)⟩
          rw [hc]
          simp only [RepT, Tree.kids]
          refine ⟨some ad, cap, by rw [hkl], by omega, ?_⟩
          by_cases h0 : len = 0
          · left; exact List.eq_nil_of_length_eq_zero (by omega)
          · right
            obtain ⟨⟨cs0, hc0, _⟩, _⟩ := hks 0 (by omega)
            rw [Nat.zero_mul] at hc0
            obtain ⟨c, T', fr, hb, hs, _⟩ := cells_row hc0 hpos
            simp only [Addr.add, if_true] at hb hs
            refine ⟨ad.block, ad.off, c, T', fr, ?_, hb, fun i hi => ?_⟩
            · obtain ⟨b, o, s⟩ := ad
              simp only at hs
              subst hs
              rfl
            · obtain ⟨⟨csi, hci, hri⟩, _⟩ := hks i hi
              obtain ⟨c2, T2, fr2, hb2, _, hd2⟩ := cells_row hci hpos
              have e1 : (ad.add (i * (Ty.mu a).size)).block = ad.block := by unfold Addr.add; split <;> rfl
              have e2 : (ad.add (i * (Ty.mu a).size)).off = ad.off + i * (Ty.mu a).size := by
                unfold Addr.add
                split
                · rename_i h; simp [h]
                · rfl
              rw [e1, hb] at hb2
              cases hb2
              rw [e2] at hd2
              rw [hd2]
              simpa only [RepT] using hri
    refine ⟨fun {T fuel cs x} h ht => ?_, fun {fs off fuel cs} h hl xs hxl hx => ?_⟩
    · obtain ⟨fs, hfs, hfl⟩ := tyIs_rec rfl h
      obtain ⟨xs, m, _, rfl, hl, hxl, hx⟩ := DataW.trod_struct hfs ht
      rw [tyIs_cells h] at hl
      obtain ⟨y, g1, g2, g3⟩ := key m (cs := cs) hfl (by omega) xs (by simpa using hxl) (fun i f hf => hx i f (by simpa using hf))
      exact ⟨y, by simpa using g1, g2, g3⟩
    · obtain ⟨y, g1, g2, g3⟩ := key fuel (cs := cs) h hl xs hxl hx
      exact ⟨y, g1, g2, g3⟩

theorem okWide_form {t : Ty} {T : TypeId} {v : Value} {r : Reach} {b0 : Nat} (h : tyIs P t (.inl T) = true) (hv : Value.okWide P w r b0 T v) : v = pack t v.cells.toList := by
  unfold Value.okWide at hv
  cases t with
  | int k =>
    rw [tyIs_int h] at hv
    simp only [Cell.okWide, tyIs_int h, Cell.ok] at hv
    cases v <;> simp_all [pack, Ty.agg, Value.cells]
  | bool =>
    rw [tyIs_bool h] at hv
    simp only [Cell.okWide, tyIs_bool h, Cell.ok] at hv
    cases v <;> simp_all [pack, Ty.agg, Value.cells]
  | err =>
    obtain ⟨ms, hE⟩ := tyIs_err h
    rw [hE] at hv
    simp only [Cell.okWide, hE, Cell.ok] at hv
    cases v <;> simp_all [pack, Ty.agg, Value.cells]
  | str =>
    rw [tyIs_str h] at hv
    simp only [Cell.okWide, tyIs_str h, Cell.ok] at hv
    cases v <;> simp_all [pack, Ty.agg, Value.cells]
  | sl e =>
    obtain ⟨E, hE, _⟩ := tyIs_sl h
    rw [hE] at hv
    simp only [Cell.okWide, hE, Cell.ok] at hv
    cases v <;> simp_all [pack, Ty.agg, Value.cells]
  | arr n e =>
    obtain ⟨E, hE, _⟩ := tyIs_arr h
    rw [hE] at hv
    obtain ⟨cs, rfl, _⟩ := hv
    simp [pack, Ty.agg, Value.cells]
  | unit =>
    obtain ⟨fs, hE, _⟩ := tyIs_rec rfl h
    rw [hE] at hv
    obtain ⟨cs, rfl, _⟩ := hv
    simp [pack, Ty.agg, Value.cells]
  | pair a b =>
    obtain ⟨fs, hE, _⟩ := tyIs_rec rfl h
    rw [hE] at hv
    obtain ⟨cs, rfl, _⟩ := hv
    simp [pack, Ty.agg, Value.cells]
  | mu a =>
    obtain ⟨fs, hE, _⟩ := tyIs_rec rfl h
    rw [hE] at hv
    obtain ⟨cs, rfl, _⟩ := hv
    simp [pack, Ty.agg, Value.cells]

/-- AN ARGUMENT IS DATA. -/
theorem open_ty {t : Ty} {T : TypeId} {v : Value} {r : Reach} {b0 : Nat} {d : DataW H} {ps : List MemPlace} (h : tyIs P t (.inl T) = true) (hv : Value.okWide P w r b0 T v)
    (hd : DataW.Trod enc P w base sp held T v d ps) : ∃ x : t.den, RepV (heapF w) t x v ∧ t.has x ∧ ofData t (.inl d) = some x := by
  obtain ⟨fuel, hf⟩ := hd
  obtain ⟨x, h1, h2, h3⟩ := (trod_rep0 t).1 h hf
  exact ⟨x, ⟨_, h1, okWide_form h hv⟩, h2, h3⟩

end
end Go.Fe
