/- From a contract to a law's row. -/
import Derived.Test.YtmnpchoocaiegaaGreatDoorFeArg
import Derived.WideKeyArgs
import Derived.MakeChecks
import GoSem.ClaimJoined
namespace Go.Fe
open Go Go.ChangeShapes Go.WideShapes Go.RowKit Go.WideMaps Go.WideElems

/-- What was there is as it was. -/
structure SameOld (W W' : World) : Prop where
  size : W.heap.size ≤ W'.heap.size
  same : ∀ b, b < W.heap.size → W'.heap[b]? = W.heap[b]?
  rest : W'.os = W.os ∧ W'.output = W.output

theorem SameOld.sameAt {W W' : World} (h : SameOld W W') {p : MemPlace} (hp : p.block < W.heap.size) : W.sameAt W' p := by
  cases p with
  | cell b off => simp only [World.sameAt, World.cell?, h.same b hp]
  | map b => exact h.same b hp

theorem SameOld.keptBut {W W' : World} (h : SameOld W W') (may : MemPlace → Prop) : W.keptBut W' may := by
  refine ⟨h.rest.1, h.rest.2, fun i hi => ?_⟩
  rw [h.same i hi]
  cases W.heap[i]? with
  | none => rfl
  | some o =>
    cases o with
    | cells c t fr => exact ⟨rfl, rfl, rfl, fun _ _ => rfl⟩
    | map es clock => exact .inr ⟨rfl, rfl⟩
    | _ => rfl

/-- The types of what a law is given. -/
@[reducible] def Tys.den : List Ty → Type
  | [] => Unit
  | t :: r => t.den × Tys.den r
def Tys.c : (l : List Ty) → Tys.den l → C
  | [], _ => .unit
  | t :: r, x => .cons (.val t x.1) (Tys.c r x.2)
def Tys.has : (l : List Ty) → Tys.den l → Prop
  | [], _ => True
  | t :: r, x => t.has x.1 ∧ Tys.has r x.2

/-- What a reading tells of them. -/
def Tys.told {H : Type} : (l : List Ty) → List (DataW H) → Tys.den l → Prop
  | [], _, _ => True
  | t :: r, d :: ds, x => ofData t (.inl d) = some x.1 ∧ Tys.told r ds x.2
  | _ :: _, [], _ => False

theorem Tys.refs : ∀ (l : List Ty) (x : Tys.den l), (Tys.c l x).refs = []
  | [], _ => rfl
  | t :: r, x => by
    show [] ++ (Tys.c r x.2).refs = []
    rw [Tys.refs r]; rfl

section
variable {H : Type} {enc : TypeId × Value → H} {P : Program} {W W' : World}

theorem open_all {base : Nat} : ∀ {ts : List (Ty × TypeId)} {vs : List Value} {ds : List (DataW H)} {ps : List MemPlace}, (∀ p ∈ ts, tyIs P p.1 (.inl p.2) = true) →
    (∀ (j : Nat) t v, (ts.map (·.2))[j]? = some t → vs[j]? = some v → Value.okWide P W .any base t v) → DataW.TrodAll enc P W 0 (fun _ => true) true (ts.map (·.2)) vs ds ps →
    ∃ x : Tys.den (ts.map (·.1)), RepL (heapF W) (fun _ => none) [] (Tys.c _ x) vs ∧ Tys.has _ x ∧ Tys.told (ts.map (·.1)) ds x
  | [], [], [], _, _, _, _ => ⟨(), rfl, trivial, trivial⟩
  | [], _ :: _, _, _, _, _, h => by simp [DataW.TrodAll] at h
  | [], [], _ :: _, _, _, _, h => by simp [DataW.TrodAll] at h
  | _ :: _, [], _, _, _, _, h => by simp [DataW.TrodAll] at h
  | _ :: _, _ :: _, [], _, _, _, h => by simp [DataW.TrodAll] at h
  | p :: ts, v :: vs, d :: ds, ps, ht, hv, h => by
    simp only [List.map_cons, DataW.TrodAll] at h
    obtain ⟨q, r, h1, h2, _⟩ := h
    obtain ⟨x, g1, g2, g5⟩ := open_ty (ht p (List.mem_cons_self ..)) (hv 0 p.2 v rfl rfl) h1
    obtain ⟨y, g3, g4, g6⟩ := open_all (fun q hq => ht q (List.mem_cons_of_mem _ hq)) (fun j t u hj hu => hv (j + 1) t u (by simpa using hj) (by simpa using hu)) h2
    refine ⟨(x, y), ?_, ⟨g2, g4⟩, g5, g6⟩
    exact ⟨v, vs, rfl, ⟨v, rfl, g1⟩, g3⟩

theorem trodAll_stay (hl : laidOutB P = true) (hs : SameOld W W') : ∀ {ts : List TypeId} {vs : List Value} {ds : List (DataW H)} {ps : List MemPlace}, (∀ t ∈ ts, P.readableRec t = true ∧ t < P.types.size) → (∀ p ∈ ps, p.block < W.heap.size) →
    DataW.TrodAll enc P W 0 (fun _ => true) true ts vs ds ps → DataW.TrodAll enc P W' 0 (fun b => decide (b < W.heap.size)) true ts vs ds ps
  | [], [], [], _, _, _, h => h
  | [], _ :: _, _, _, _, _, h => by simp [DataW.TrodAll] at h
  | [], [], _ :: _, _, _, _, h => by simp [DataW.TrodAll] at h
  | _ :: _, [], _, _, _, _, h => by simp [DataW.TrodAll] at h
  | _ :: _, _ :: _, [], _, _, _, h => by simp [DataW.TrodAll] at h
  | t :: ts, v :: vs, d :: ds, ps, ht, hp, h => by
    simp only [DataW.TrodAll] at h ⊢
    obtain ⟨p, q, h1, h2, rfl⟩ := h
    obtain ⟨g1, g2⟩ := ht t (List.mem_cons_self ..)
    refine ⟨p, q, Trod_stays hl g1 g2 h1 (fun x hx => hs.sameAt (hp x (List.mem_append_left _ hx))) (fun x hx => by simpa using hp x (List.mem_append_left _ hx)),
      trodAll_stay hl hs (fun u hu => ht u (List.mem_cons_of_mem _ hu)) (fun x hx => hp x (List.mem_append_right _ hx)) h2, rfl⟩

/-- A LAW RETURNS TRUE AND LEAVES ALL AS IT WAS. -/
theorem law_calls {glob : Glob} {i : FuncId} {fn : Func} {s : ChangeSpec} {sem : C → List C → Option CRes} (hsv : s.vars = []) (hok : FnOK P glob i sem)
    (ts : List (Ty × TypeId)) (hts : fn.params.toList = ts.map (·.2)) (hty : ts.all (fun p => tyIs P p.1 (.inl p.2) && P.readableRec p.2 && decide (p.2 < P.types.size)) = true)
    (hlaid : laidOutB P = true) {B : TypeId} (hres : fn.resultTypes = #[B]) (hB : P.underlying B = some .bool) (hspec : ∀ ds : List (DataW H), ds.length = ts.length → s.fn H ds = { results := [.lit (.bool true)], args := ds })
    (hglob : GlobF glob (heapF W))
    {args : Array Value} {ds gs : List (DataW H)} {before : List MemPlace}
    (hrun : ∀ x : Tys.den (ts.map (·.1)), Tys.has _ x → Tys.told _ ds x → ∃ (α : Type) (k : Nat) (m : Option α) (r : α → Out) (y : α), sem (Tys.c _ x) [] = some (.mk k m r) ∧ m = some y ∧ (r y).res = .val .bool true)
    {base : Nat} {fresh handsOn : Bool}
    (hval : ∀ (j : Nat) t v, fn.params[j]? = some t → args[j]? = some v → Value.okWide P W .any base t v) (hW : DataW.Whole enc P fn.params.toList s.vars false W args.toList ds gs before) :
    Calls P i args W fun e W' => ∃ v, e = .returned v ∧ s.post enc P fn false fresh handsOn false W args v W' := by
  have hty' : ∀ p ∈ ts, tyIs P p.1 (.inl p.2) = true ∧ P.readableRec p.2 = true ∧ p.2 < P.types.size := fun p hp => by
    have := List.all_eq_true.1 hty p hp
    simp only [Bool.and_eq_true, decide_eq_true_eq] at this
    exact ⟨this.1.1, this.1.2, this.2⟩
  have hW0 := hW
  obtain ⟨p, q, hA, hV, rfl, hfz, hnd⟩ := hW
  rw [hsv] at hV
  obtain ⟨rfl, rfl⟩ := trodVars_none hV
  rw [hts] at hA
  obtain ⟨x, hx, hhas, htold⟩ := open_all (fun p hp => (hty' p hp).1) (fun j t v hj hv => hval j t v (by rw [← Array.getElem?_toList, hts]; exact hj) (by rw [← Array.getElem?_toList]; exact hv)) hA
  obtain ⟨α, k, m, r, y, hsem, hm, hry⟩ := hrun x hhas htold
  have hI : Inv 0 ⟨W, mayOf [] (fun _ => none), heapF W, []⟩ (heapF W) (fun _ => none) (ost 0 []) act0 W := by
    constructor
    · rfl
    · rfl
    · intro b o h; exact h
    · intro k c h; simp [ost, St.get] at h
    · intro o c h; simp [ost, St.get] at h
    · intro o c b p q h; simp [ost, St.get] at h
    · intro o c b p q o' c' p' q' h; simp [ost, St.get] at h
    · intro k c h; simp [ost, St.get] at h
    · exact ⟨Nat.le_refl _, fun _ _ _ => rfl, rfl, rfl⟩
    · intro b o h; exact .inl h
  have hc := hok.one _ [] α k m r y hsem hm (heapF W) (fun _ => none) W args.toList hglob hI hx (by rw [Tys.refs]; simp)
  refine hc.mono fun e W' ⟨v, F', κ', he, _, hI', hv, _⟩ => ⟨v, he, ?_⟩
  rw [hry] at hv
  have hvb := rep_bool.1 hv
  subst hvb
  have hs : SameOld W W' := ⟨hI'.kept.size, fun b hb => hI'.kept.same b hb (by rintro ⟨i, c, p, q, h, _⟩; simp at h), hI'.kept.rest⟩
  have hlt := hW0.lt
  have hdl : ds.length = ts.length := by
    have : ∀ (ts : List TypeId) (vs : List Value) (ds : List (DataW H)) (ps : List MemPlace), DataW.TrodAll enc P W 0 (fun _ => true) true ts vs ds ps → ds.length = ts.length := by
      intro ts
      induction ts with
      | nil => intro vs ds ps h; cases vs <;> cases ds <;> simp_all [DataW.TrodAll]
      | cons t ts ih =>
        intro vs ds ps h
        cases vs with
        | nil => simp [DataW.TrodAll] at h
        | cons v vs =>
          cases ds with
          | nil => simp [DataW.TrodAll] at h
          | cons d ds =>
            simp only [DataW.TrodAll] at h
            obtain ⟨_, _, _, h2, _⟩ := h
            simp [ih _ _ _ h2]
    simpa using this _ _ _ _ hA
  have hfn : s.fn H (ds ++ []) = { results := [.lit (.bool true)], args := ds } := by rw [List.append_nil]; exact hspec ds hdl
  refine ⟨ds, [], p ++ [], [], p, [], hW0, ?_, ?_, ?_, hs.keptBut _, fun h => by cases h⟩
  · rw [hfn, hres]
    simp only [Value.resultList]
    exact trodAll_mk1 ⟨1, by simp [DataW.trod, Value.cells, hB]⟩
  · rw [hfn, hts]
    refine trodAll_stay hlaid hs (fun t ht => ?_) (fun x hx => hlt x (List.mem_append_left _ hx)) hA
    obtain ⟨p, hp, rfl⟩ := List.mem_map.1 ht
    exact (hty' p hp).2
  · rw [hfn, hsv]
    rfl

theorem laid_vars : ∀ {laid : List (String × DataW Unit)} {ps : List MemPlace}, DataW.LaidVars P W laid ps → ∀ n d, (n, d) ∈ laid → ∀ (g : Nat) (t : Ty) (T : TypeId) (x : t.den), P.globalNamed n = some g → (P.globals[g]?).map (·.type) = some T → tyIs P t (.inl T) = true → ofData t (.inl d) = some x →
    ∃ c E fr, W.heap[g]? = some (.cells c E fr) ∧ RepT (heapF W) t x ((c.toList.drop 0).take t.size) ∧ c.size = t.size
  | [], _, _, n, d, h, _, _, _, _, _, _, _, _ => by simp at h
  | (n', d') :: r, ps, h, n, d, hm, g, t, T, x, hg, hT, ht, hx => by
    simp only [DataW.LaidVars] at h
    obtain ⟨g', t', cs, fuel, p, q, h1, h2, h3, h4, h5, _⟩ := h
    rcases List.mem_cons.1 hm with e | hm
    · cases e
      rw [hg] at h1
      cases h1
      rw [hT] at h2
      cases h2
      obtain ⟨y, g1, _, g3⟩ := (trod_rep0 t).1 ht h4
      simp only at g3
      rw [hx] at g3
      cases g3
      simp only [World.var?, hg, Option.bind_some] at h3
      split at h3
      · rename_i c E fr hb
        cases h3
        refine ⟨_, E, fr, hb, ?_⟩
        have := g1.length
        rw [List.drop_zero, List.take_of_length_le (by omega)]
        exact ⟨g1, by simpa using this⟩
      · cases h3
    · exact laid_vars h5 n d hm g t T x hg hT ht hx


/-- What is known of one variable. -/
def GlobE (F : Froz) (i : Nat) (p : (t : Ty) × Option t.den) : Prop := ∃ c T fr x, F i = some (.cells c T fr) ∧ RepT F p.1 x ((c.toList.drop 0).take p.1.size) ∧ (∀ y, p.2 = some y → x = y) ∧ c.size = p.1.size
def GlobAll (F : Froz) : List (Nat × ((t : Ty) × Option t.den)) → Prop
  | [] => True
  | p :: r => GlobE F p.1 p.2 ∧ GlobAll F r
theorem globOf_ok {F : Froz} : ∀ {l : List (Nat × ((t : Ty) × Option t.den))}, GlobAll F l → GlobF (globOf l) F
  | [], _, _, _, h => by simp [globOf] at h
  | (j, q) :: r, h, i, p, hp => by
    simp only [globOf] at hp
    split at hp
    · rename_i e
      subst e
      cases hp
      exact h.1
    · exact globOf_ok h.2 i p hp

theorem lookup_inS {α : Type} : ∀ {l : List (String × α)} {k : String} {q : α}, l.lookup k = some q → (k, q) ∈ l
  | [], _, _, h => by cases h
  | (j, p) :: r, k, q, h => by
    rw [List.lookup_cons] at h
    split at h
    · rename_i e
      have := eq_of_beq e
      subst this
      cases h
      exact List.mem_cons_self ..
    · exact List.mem_cons_of_mem _ (lookup_inS h)

/-- A variable that the row lists. -/
theorem glob_laid {laid : List (String × DataW Unit)} (hpl : (laid.all fun x => x.2.handleName?.isNone) = true) (hL : laidMetH P laid W) (n : String) (d : DataW Unit) (hm : laid.lookup n = some d) {g : Nat} {t : Ty} {T : TypeId} (y : t.den)
    (hg : P.globalNamed n = some g) (hT : (P.globals[g]?).map (·.type) = some T) (ht : tyIs P t (.inl T) = true) (hx : ofData t (.inl d) = some y) : GlobE (heapF W) g ⟨t, some y⟩ := by
  rw [MakeChecks.laidMetH_plain _ _ _ hpl] at hL
  obtain ⟨ps, hv, _⟩ := hL
  obtain ⟨c, E, fr, h1, h2, h3⟩ := laid_vars hv n d (lookup_inS hm) g t T y hg hT ht hx
  exact ⟨c, E, fr, y, h1, h2, fun z hz => Option.some.inj hz, h3⟩

/-- An integer that nobody lists. -/
theorem glob_int (h : W.ShapedOpen P) {g : Nat} {t : TypeId} {zero : Array Value} {k : IntKind} (hg : g < P.globals.size)
    (h0 : ((begin P (fun _ _ => 0) default).world.heap[g]?).bind Obj.row? = some (zero, t)) (hz : zero.size = 1)
    (hb : P.buildable t = true) (hc : P.cellTypes P.depth t = some [t]) (hu : P.underlying t = some (.int k)) : GlobE (heapF W) g ⟨.int k, none⟩ := by
  obtain ⟨cs, hh, hs, hr⟩ := h.1 g zero t hg h0
  obtain ⟨ts, hts, _, hall⟩ := hr hb
  rw [hc] at hts
  cases hts
  have h1 : 0 < cs.size := by omega
  obtain ⟨u, hu', hok⟩ := hall 0 cs[0] (by simp [h1])
  have : u = t := by simpa using hu'.symm
  subst this
  unfold Cell.ok at hok
  rw [hu] at hok
  have hl : cs.toList = [cs[0]] := by
    obtain ⟨l⟩ := cs
    match l, hs with
    | [v], _ => rfl
    | [], hs => simp at hs; omega
    | _ :: _ :: _, hs => simp at hs; omega
  cases hv : cs[0] <;> rw [hv] at hok <;> simp at hok
  case int k' n =>
    have h2 : cs.toList = [.int k n] := by rw [hl, hv, hok.1]
    have h3 : RepT (heapF W) (.int k) n ((cs.toList.drop 0).take (Ty.int k).size) := by rw [h2]; simp [RepT, Ty.size]
    exact ⟨cs, _, _, n, hh, h3, (fun y hy => by cases hy), by simpa [Ty.size] using hs.trans hz⟩

/-! ### Sizes -/
mutual
/-- What is in a value and in all behind it, counted. -/
def Tree.bulk {α : Type} (g : α → Nat) : Tree α → Nat
  | .node x ks => g x + (Tree.bulks g ks + 1)
def Tree.bulks {α : Type} (g : α → Nat) : List (Tree α) → Nat
  | [] => 0
  | k :: r => Tree.bulk g k + Tree.bulks g r
end
theorem Tree.bulks_eq {α : Type} (g : α → Nat) : ∀ ks : List (Tree α), Tree.bulks g ks = (ks.map (Tree.bulk g)).sum
  | [] => rfl
  | k :: r => by
    rw [Tree.bulks, Tree.bulks_eq g r]
    rfl

/-- What is in a value, counted. -/
def Ty.bulk : (t : Ty) → t.den → Nat
  | .int _, _ => 1
  | .bool, _ => 1
  | .str, s => s.length + 1
  | .err, _ => 1
  | .sl e, xs => (xs.map e.bulk).sum + 1
  | .arr _ e, xs => (xs.map e.bulk).sum
  | .unit, _ => 0
  | .pair a b, x => a.bulk x.1 + b.bulk x.2
  | .mu a, x => Tree.bulk (fun y => a.bulk y) x

/-- A count of what a reading holds. -/
structure Bulk (b : DataW H → Nat) (ball : List (DataW H) → Nat) : Prop where
  str : ∀ s, b (.lit (.string s)) = s.length + 1
  pos : ∀ d, 1 ≤ b d
  sl : ∀ x y, b (.slice x y) = ball x + ball y + 1
  agg : ∀ x, b (.agg x) = ball x + 1
  nil : ball [] = 0
  cons : ∀ d r, ball (d :: r) = b d + ball r

theorem bulk_mapM {α : Type} {b : DataW H → Nat} {ball : List (DataW H) → Nat} (hb : Bulk b ball) {f : DataW H → Option α} {g : α → Nat} (h : ∀ d x, f d = some x → g x ≤ b d) : ∀ (ds : List (DataW H)) (xs : List α), ds.mapM f = some xs → (xs.map g).sum ≤ ball ds
  | [], xs, e => by
    simp at e
    subst e
    simp
  | d :: ds, xs, e => by
    simp only [List.mapM_cons, Option.bind_eq_bind, Option.bind_eq_some_iff] at e
    obtain ⟨x, hx, ys, hy, e⟩ := e
    cases e
    have := bulk_mapM hb h ds ys hy
    have := h d x hx
    rw [hb.cons]
    simp only [List.map_cons, List.sum_cons]
    omega

theorem ball_append {b : DataW H → Nat} {ball : List (DataW H) → Nat} (hb : Bulk b ball) : ∀ (x y : List (DataW H)), ball (x ++ y) = ball x + ball y
  | [], y => by rw [hb.nil, Nat.zero_add]; rfl
  | d :: x, y => by
    rw [List.cons_append, hb.cons, hb.cons, ball_append hb x y]
    omega
theorem ofM_bulk {α : Type} {b : DataW H → Nat} {ball : List (DataW H) → Nat} (hb : Bulk b ball) {f : List (DataW H) → Option α} {g : α → Nat} (h : ∀ ds x, f ds = some x → g x ≤ ball ds) :
    ∀ (n : Nat) (ds : List (DataW H)) (y : Tree α), ofM f n ds = some y → Tree.bulk g y ≤ ball ds
  | 0, _, _, e => by simp [ofM] at e
  | n + 1, ds, y, e => by
    simp only [ofM] at e
    cases hd : ds.getLast? with
    | none => rw [hd] at e; cases e
    | some d =>
      rw [hd] at e
      obtain ⟨l, rfl⟩ := List.getLast?_eq_some_iff.1 hd
      simp only [dropLast_snoc, Option.bind_eq_some_iff, Option.map_eq_some_iff] at e
      obtain ⟨x, hx, ks, hk, rfl⟩ := e
      have h1 := h _ _ hx
      rw [ball_append hb, hb.cons, hb.nil, Tree.bulk]
      cases d with
      | slice es sp =>
        have := bulk_mapM hb (g := Tree.bulk g) (fun d x e => by
          cases d with
          | agg r =>
            have := ofM_bulk hb h n _ _ e
            rw [hb.agg]
            omega
          | _ => cases e) _ _ hk
        rw [Tree.bulks_eq, hb.sl]
        omega
      | nil =>
        cases hk
        have := hb.pos (.nil : DataW H)
        rw [Tree.bulks]
        omega
      | _ => cases hk

theorem ofData_bulk {b : DataW H → Nat} {ball : List (DataW H) → Nat} (hb : Bulk b ball) : ∀ (t : Ty), (∀ d x, ofData t (.inl d) = some x → t.bulk x ≤ b d) ∧ (∀ ds x, ofData t (.inr ds) = some x → t.bulk x ≤ ball ds)
  | .int k => ⟨fun d x h => by simpa [Ty.bulk] using hb.pos d, fun ds x h => by simp [ofData] at h⟩
  | .bool => ⟨fun d x h => by simpa [Ty.bulk] using hb.pos d, fun ds x h => by simp [ofData] at h⟩
  | .err => ⟨fun d x h => by simpa [Ty.bulk] using hb.pos d, fun ds x h => by simp [ofData] at h⟩
  | .str => ⟨fun d x h => by
      cases d with
      | lit l =>
        cases l with
        | string s =>
          simp only [ofData, Option.some.injEq] at h
          subst h
          rw [hb.str]
          exact Nat.le_refl _
        | _ => simp [ofData] at h
      | _ => simp [ofData] at h, fun ds x h => by simp [ofData] at h⟩
  | .sl e => ⟨fun d x h => by
      cases d <;> simp only [ofData] at h <;> try cases h
      · have := hb.pos (.nil : DataW H)
        simpa [Ty.bulk] using this
      · rename_i xs ys
        have := bulk_mapM hb (fun d x h => (ofData_bulk hb e).1 d x h) _ _ h
        rw [hb.sl]
        simp only [Ty.bulk]
        omega, fun ds x h => by simp [ofData] at h⟩
  | .arr n e => ⟨fun d x h => by
      cases d <;> simp only [ofData] at h <;> try cases h
      have := bulk_mapM hb (fun d x h => (ofData_bulk hb e).1 d x h) _ _ h
      rw [hb.agg]
      simp only [Ty.bulk]
      omega, fun ds x h => by simp [ofData] at h⟩
  | .unit => ⟨fun d x h => Nat.zero_le _, fun ds x h => Nat.zero_le _⟩
  | .mu a => by
    have key : ∀ ds x, ofData (.mu a) (.inr ds) = some x → (Ty.mu a).bulk x ≤ ball ds := fun ds x h => by
      simp only [ofData] at h
      exact ofM_bulk hb (fun ds x h => (ofData_bulk hb a).2 ds x h) _ _ _ h
    refine ⟨fun d x h => ?_, key⟩
    cases d with
    | agg ds =>
      have := key ds x (by simpa only [ofData] using h)
      rw [hb.agg]
      omega
    | _ => simp [ofData] at h
  | .pair a c => by
    have key : ∀ ds x, ofData (.pair a c) (.inr ds) = some x → (Ty.pair a c).bulk x ≤ ball ds := by
      intro ds x h
      cases ds with
      | nil => simp [ofData] at h
      | cons d r =>
        simp only [ofData] at h
        split at h
        · rename_i u v hu hv
          cases h
          have := (ofData_bulk hb a).1 _ _ hu
          have := (ofData_bulk hb c).2 _ _ hv
          rw [hb.cons]
          simp only [Ty.bulk]
          omega
        · cases h
    refine ⟨fun d x h => ?_, key⟩
    cases d with
    | agg ds =>
      cases ds with
      | nil => simp [ofData] at h
      | cons d r =>
        have := key (d :: r) x (by simpa only [ofData] using h)
        rw [hb.agg]
        omega
    | _ => simp [ofData] at h

/-- .. and of all. -/
def Tys.bulk : (l : List Ty) → Tys.den l → Nat
  | [], _ => 0
  | t :: r, x => t.bulk x.1 + Tys.bulk r x.2
theorem told_bulk {b : DataW H → Nat} {ball : List (DataW H) → Nat} (hb : Bulk b ball) : ∀ (l : List Ty) (ds : List (DataW H)) (x : Tys.den l), Tys.told l ds x → Tys.bulk l x ≤ ball ds
  | [], _, _, _ => Nat.zero_le _
  | _ :: _, [], _, h => by cases h
  | t :: r, d :: ds, x, h => by
    have := (ofData_bulk hb t).1 _ _ h.1
    have := told_bulk hb r ds x.2 h.2
    rw [hb.cons]
    simp only [Tys.bulk]
    omega

theorem bulk_front {b : DataW H → Nat} {ball : List (DataW H) → Nat} (hb : Bulk b ball) : ∀ (x y : List (DataW H)), ball x ≤ ball (x ++ y)
  | [], y => by rw [hb.nil]; exact Nat.zero_le _
  | d :: x, y => by
    have := bulk_front hb x y
    rw [List.cons_append, hb.cons, hb.cons]
    omega

end
end Go.Fe
