/- From a contract to a law's row. -/
import Derived.Test.YtmnegopgidckoaaFeArg
import Derived.WideKeyArgs
namespace Go.Fe
open Go Go.ChangeShapes Go.WideShapes Go.RowKit Go.WideMaps Go.WideElems

/-- What was there is as it was. -/
structure SameOld (W W' : World) : Prop where
  size : W.heap.size ≤ W'.heap.size
  same : ∀ b, b < W.heap.size → W'.heap[b]? = W.heap[b]?
  rest : W'.os = W.os ∧ W'.output = W.output

theorem SameOld.sameAt {W W' : World} (h : SameOld W W') {p : MemPlace} (hp : p.block < W.heap.size) : W.sameAt W' p := by
  cases p with
  | cell b off => simp only [World.sameAt, World.cell?, h.same b hp]
  | map b => exact h.same b hp

theorem SameOld.keptBut {W W' : World} (h : SameOld W W') (may : MemPlace → Prop) : W.keptBut W' may := by
  refine ⟨h.rest.1, h.rest.2, fun i hi => ?_⟩
  rw [h.same i hi]
  cases W.heap[i]? with
  | none => rfl
  | some o =>
    cases o with
    | cells c t fr => exact ⟨rfl, rfl, rfl, fun _ _ => rfl⟩
    | map es clock => exact .inr ⟨rfl, rfl⟩
    | _ => rfl

/-- The types of what a law is given. -/
@[reducible] def Tys.den : List Ty → Type
  | [] => Unit
  | t :: r => t.den × Tys.den r
def Tys.c : (l : List Ty) → Tys.den l → C
  | [], _ => .unit
  | t :: r, x => .cons (.val t x.1) (Tys.c r x.2)
def Tys.has : (l : List Ty) → Tys.den l → Prop
  | [], _ => True
  | t :: r, x => t.has x.1 ∧ Tys.has r x.2

theorem Tys.refs : ∀ (l : List Ty) (x : Tys.den l), (Tys.c l x).refs = []
  | [], _ => rfl
  | t :: r, x => by
    show [] ++ (Tys.c r x.2).refs = []
    rw [Tys.refs r]; rfl

section
variable {H : Type} {enc : TypeId × Value → H} {P : Program} {W W' : World}

theorem open_all {base : Nat} : ∀ {ts : List (Ty × TypeId)} {vs : List Value} {ds : List (DataW H)} {ps : List MemPlace}, (∀ p ∈ ts, tyIs P p.1 (.inl p.2) = true) →
    (∀ (j : Nat) t v, (ts.map (·.2))[j]? = some t → vs[j]? = some v → Value.okWide P W .any base t v) → DataW.TrodAll enc P W 0 (fun _ => true) true (ts.map (·.2)) vs ds ps →
    ∃ x : Tys.den (ts.map (·.1)), RepL (heapF W) (fun _ => none) [] (Tys.c _ x) vs ∧ Tys.has _ x
  | [], [], [], _, _, _, _ => ⟨(), rfl, trivial⟩
  | [], _ :: _, _, _, _, _, h => by simp [DataW.TrodAll] at h
  | [], [], _ :: _, _, _, _, h => by simp [DataW.TrodAll] at h
  | _ :: _, [], _, _, _, _, h => by simp [DataW.TrodAll] at h
  | _ :: _, _ :: _, [], _, _, _, h => by simp [DataW.TrodAll] at h
  | p :: ts, v :: vs, d :: ds, ps, ht, hv, h => by
    simp only [List.map_cons, DataW.TrodAll] at h
    obtain ⟨q, r, h1, h2, _⟩ := h
    obtain ⟨x, g1, g2, _⟩ := open_ty (ht p (List.mem_cons_self ..)) (hv 0 p.2 v rfl rfl) h1
    obtain ⟨y, g3, g4⟩ := open_all (fun q hq => ht q (List.mem_cons_of_mem _ hq)) (fun j t u hj hu => hv (j + 1) t u (by simpa using hj) (by simpa using hu)) h2
    refine ⟨(x, y), ?_, g2, g4⟩
    exact ⟨v, vs, rfl, ⟨v, rfl, g1⟩, g3⟩

theorem trodAll_stay (hl : laidOutB P = true) (hs : SameOld W W') : ∀ {ts : List TypeId} {vs : List Value} {ds : List (DataW H)} {ps : List MemPlace}, (∀ t ∈ ts, P.readableRec t = true ∧ t < P.types.size) → (∀ p ∈ ps, p.block < W.heap.size) →
    DataW.TrodAll enc P W 0 (fun _ => true) true ts vs ds ps → DataW.TrodAll enc P W' 0 (fun b => decide (b < W.heap.size)) true ts vs ds ps
  | [], [], [], _, _, _, h => h
  | [], _ :: _, _, _, _, _, h => by simp [DataW.TrodAll] at h
  | [], [], _ :: _, _, _, _, h => by simp [DataW.TrodAll] at h
  | _ :: _, [], _, _, _, _, h => by simp [DataW.TrodAll] at h
  | _ :: _, _ :: _, [], _, _, _, h => by simp [DataW.TrodAll] at h
  | t :: ts, v :: vs, d :: ds, ps, ht, hp, h => by
    simp only [DataW.TrodAll] at h ⊢
    obtain ⟨p, q, h1, h2, rfl⟩ := h
    obtain ⟨g1, g2⟩ := ht t (List.mem_cons_self ..)
    refine ⟨p, q, Trod_stays hl g1 g2 h1 (fun x hx => hs.sameAt (hp x (List.mem_append_left _ hx))) (fun x hx => by simpa using hp x (List.mem_append_left _ hx)),
      trodAll_stay hl hs (fun u hu => ht u (List.mem_cons_of_mem _ hu)) (fun x hx => hp x (List.mem_append_right _ hx)) h2, rfl⟩

/-- A LAW RETURNS TRUE AND LEAVES ALL AS IT WAS. -/
theorem law_calls {glob : Nat → Option ((t : Ty) × t.den)} {i : FuncId} {fn : Func} {s : ChangeSpec} {sem : C → List C → Option CRes} (hsv : s.vars = []) (hok : FnOK P glob i sem)
    (ts : List (Ty × TypeId)) (hts : fn.params.toList = ts.map (·.2)) (hty : ts.all (fun p => tyIs P p.1 (.inl p.2) && P.readableRec p.2 && decide (p.2 < P.types.size)) = true)
    (hlaid : laidOutB P = true) {B : TypeId} (hres : fn.resultTypes = #[B]) (hB : P.underlying B = some .bool) (hspec : ∀ ds : List (DataW H), ds.length = ts.length → s.fn H ds = { results := [.lit (.bool true)], args := ds })
    (hglob : ∀ j p, glob j = some p → ∃ c T fr, W.heap[j]? = some (.cells c T fr) ∧ RepT (heapF W) p.1 p.2 ((c.toList.drop 0).take p.1.size))
    (hrun : ∀ x : Tys.den (ts.map (·.1)), Tys.has _ x → ∃ (α : Type) (k : Nat) (m : Option α) (r : α → Out) (y : α), sem (Tys.c _ x) [] = some (.mk k m r) ∧ m = some y ∧ (r y).res = .val .bool true)
    {base : Nat} {args : Array Value} {ds gs : List (DataW H)} {before : List MemPlace} {fresh handsOn : Bool}
    (hval : ∀ (j : Nat) t v, fn.params[j]? = some t → args[j]? = some v → Value.okWide P W .any base t v) (hW : DataW.Whole enc P fn.params.toList s.vars false W args.toList ds gs before) :
    Calls P i args W fun e W' => ∃ v, e = .returned v ∧ s.post enc P fn false fresh handsOn false W args v W' := by
  have hty' : ∀ p ∈ ts, tyIs P p.1 (.inl p.2) = true ∧ P.readableRec p.2 = true ∧ p.2 < P.types.size := fun p hp => by
    have := List.all_eq_true.1 hty p hp
    simp only [Bool.and_eq_true, decide_eq_true_eq] at this
    exact ⟨this.1.1, this.1.2, this.2⟩
  have hW0 := hW
  obtain ⟨p, q, hA, hV, rfl, hfz, hnd⟩ := hW
  rw [hsv] at hV
  obtain ⟨rfl, rfl⟩ := trodVars_none hV
  rw [hts] at hA
  obtain ⟨x, hx, hhas⟩ := open_all (fun p hp => (hty' p hp).1) (fun j t v hj hv => hval j t v (by rw [← Array.getElem?_toList, hts]; exact hj) (by rw [← Array.getElem?_toList]; exact hv)) hA
  obtain ⟨α, k, m, r, y, hsem, hm, hry⟩ := hrun x hhas
  have hI : Inv 0 ⟨W, mayOf [] (fun _ => none), heapF W⟩ (heapF W) (fun _ => none) (ost 0 []) act0 W := by
    constructor
    · rfl
    · rfl
    · intro b o h; exact h
    · intro k c h; simp [ost, St.get] at h
    · intro o c h; simp [ost, St.get] at h
    · intro o c b p q h; simp [ost, St.get] at h
    · intro o c b p q o' c' p' q' h; simp [ost, St.get] at h
    · intro k c h; simp [ost, St.get] at h
    · exact ⟨Nat.le_refl _, fun _ _ _ => rfl, rfl, rfl⟩
    · intro b o h; exact .inl h
  have hc := hok _ [] α k m r y hsem hm (heapF W) (fun _ => none) W args.toList hglob hI hx (by rw [Tys.refs]; simp)
  refine hc.mono fun e W' ⟨v, F', κ', he, _, hI', hv, _⟩ => ⟨v, he, ?_⟩
  rw [hry] at hv
  have hvb := rep_bool.1 hv
  subst hvb
  have hs : SameOld W W' := ⟨hI'.kept.size, fun b hb => hI'.kept.same b hb (by rintro ⟨i, c, p, q, h, _⟩; simp at h), hI'.kept.rest⟩
  have hlt := hW0.lt
  have hdl : ds.length = ts.length := by
    have : ∀ (ts : List TypeId) (vs : List Value) (ds : List (DataW H)) (ps : List MemPlace), DataW.TrodAll enc P W 0 (fun _ => true) true ts vs ds ps → ds.length = ts.length := by
      intro ts
      induction ts with
      | nil => intro vs ds ps h; cases vs <;> cases ds <;> simp_all [DataW.TrodAll]
      | cons t ts ih =>
        intro vs ds ps h
        cases vs with
        | nil => simp [DataW.TrodAll] at h
        | cons v vs =>
          cases ds with
          | nil => simp [DataW.TrodAll] at h
          | cons d ds =>
            simp only [DataW.TrodAll] at h
            obtain ⟨_, _, _, h2, _⟩ := h
            simp [ih _ _ _ h2]
    simpa using this _ _ _ _ hA
  have hfn : s.fn H (ds ++ []) = { results := [.lit (.bool true)], args := ds } := by rw [List.append_nil]; exact hspec ds hdl
  refine ⟨ds, [], p ++ [], [], p, [], hW0, ?_, ?_, ?_, hs.keptBut _, fun h => by cases h⟩
  · rw [hfn, hres]
    simp only [Value.resultList]
    exact trodAll_mk1 ⟨1, by simp [DataW.trod, Value.cells, hB]⟩
  · rw [hfn, hts]
    refine trodAll_stay hlaid hs (fun t ht => ?_) (fun x hx => hlt x (List.mem_append_left _ hx)) hA
    obtain ⟨p, hp, rfl⟩ := List.mem_map.1 ht
    exact (hty' p hp).2
  · rw [hfn, hsv]
    rfl

/-- A variable whose value is told. -/
structure Told1 where
  name : String
  g : Nat
  t : Ty
  T : TypeId
  x : t.den

theorem laid_vars : ∀ {laid : List (String × DataW Unit)} {ps : List MemPlace}, DataW.LaidVars P W laid ps → ∀ n d, (n, d) ∈ laid → ∀ (g : Nat) (t : Ty) (T : TypeId) (x : t.den), P.globalNamed n = some g → (P.globals[g]?).map (·.type) = some T → tyIs P t (.inl T) = true → ofData t (.inl d) = some x →
    ∃ c E fr, W.heap[g]? = some (.cells c E fr) ∧ RepT (heapF W) t x ((c.toList.drop 0).take t.size)
  | [], _, _, n, d, h, _, _, _, _, _, _, _, _ => by simp at h
  | (n', d') :: r, ps, h, n, d, hm, g, t, T, x, hg, hT, ht, hx => by
    simp only [DataW.LaidVars] at h
    obtain ⟨g', t', cs, fuel, p, q, h1, h2, h3, h4, h5, _⟩ := h
    rcases List.mem_cons.1 hm with e | hm
    · cases e
      rw [hg] at h1
      cases h1
      rw [hT] at h2
      cases h2
      obtain ⟨y, g1, _, g3⟩ := (trod_rep0 t).1 ht h4
      simp only at g3
      rw [hx] at g3
      cases g3
      simp only [World.var?, hg, Option.bind_some] at h3
      split at h3
      · rename_i c E fr hb
        cases h3
        refine ⟨_, E, fr, hb, ?_⟩
        have := g1.length
        rw [List.drop_zero, List.take_of_length_le (by omega)]
        exact g1
      · cases h3
    · exact laid_vars h5 n d hm g t T x hg hT ht hx

end
end Go.Fe
