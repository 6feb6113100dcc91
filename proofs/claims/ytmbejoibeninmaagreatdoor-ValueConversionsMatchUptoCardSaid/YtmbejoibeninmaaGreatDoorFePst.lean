/- Structs of parts of one cell, some of them pointers, and slices of such. -/
import Derived.Test.YtmbejoibeninmaaGreatDoorFeOpH
namespace Go.Fe
open Go
section
variable {Γ : Ctx} {P : Program} {n : Nat} {f : Frame0} {F : Froz} {κ : Conc} {s : St} {a : Act} {w : World} {g : Nat -> Option C}
theorem part_fn {k : Nat} {c : C} (h : (C.fn k c).part = true) : c = .unit := by
 cases c <;> simp [C.part] at h
 rfl
theorem part_lone {c : C} (h : c.part = true) : c.lone = true /\ c.cells = 1 /\ c.aggV = false := by
 cases c with
 | fn k c => exact ⟨rfl, rfl, rfl⟩
 | _ => ?_
 all_goals simp only [C.part, Bool.false_eq_true] at h
 all_goals simp only [C.lone, C.cells, C.aggV, true_and, and_self]
 rename_i t x
 have : t.agg = false := by simpa using h
 exact ⟨size_one this, this⟩
theorem partXG {c : C} (h : c.part = true) {vs : List Value} : RepX F κ s c vs ↔ RepG F κ s c vs := by
 cases c with
 | fn k c =>
  obtain rfl := part_fn h
  simp only [RepX, RepG, RepL, true_and]
  constructor
  ·rintro ⟨⟨us, rfl, rfl⟩, _⟩; rfl
  ·rintro rfl; exact ⟨⟨[], rfl, rfl⟩, rfl⟩
 | _ => ?_
 all_goals simp only [C.part, Bool.false_eq_true] at h <;> simp only [RepX, RepG, RepL]
 ·constructor
  ·rintro ⟨h, _⟩; exact h
  ·rintro ⟨v, rfl, h⟩; exact ⟨⟨v, rfl, h⟩, rfl⟩
 ·constructor
  ·rintro ⟨h, _⟩; exact h
  ·rintro ⟨v, rfl⟩; exact ⟨⟨v, rfl⟩, rfl⟩
theorem part_repC {c : C} {v : Value} (h : c.part = true) (hr : RepG F κ s c [v]) : RepC F κ s c v := by
 have hx := (partXG h).2 hr
 cases c with
 | fn k c => exact ((by simpa only [RepX] using hx : RepL F κ s (.fn k c) [v] /\ [v].length = 1)).1
 | val t x =>
  simp only [RepX] at hx
  have hna : t.agg = false := by simpa [C.part] using h
  exact rep_val.2 ⟨[v], hx, by simp [pack, hna]⟩
 | ptr o off => simp only [RepX] at hx; exact hx.1
 | dead => simp only [RepX] at hx; exact hx.1
 | _ => simp [C.part] at h
theorem part_len {c : C} (h : c.part = true) {vs : List Value} (hr : RepG F κ s c vs) : vs.length = 1 := by
 have := cells_len (part_lone h).1 ((partXG h).2 hr)
 rw [this, (part_lone h).2.1]
theorem flat_len : ∀ {c : C} {vs : List Value}, c.flatP = true -> RepG F κ s c vs -> vs.length = c.count := by
 intro c
 induction c with
 | cons a b _ ihb =>
  intro vs h hr
  simp only [C.flatP, Bool.and_eq_true] at h
  simp only [RepG] at hr
  obtain ⟨c1, c2, rfl, h1, h2⟩ := hr
  have e1 := part_len h.1 h1
  have e2 := ihb h.2 h2
  simp only [List.length_append, C.count]
  omega
 | unit => intro vs _ hr; simp only [RepG] at hr; subst hr; rfl
 | _ => intro vs h; simp [C.flatP] at h
theorem seqP_fill {place : Nat -> Option (Nat × Nat)} (hg : ∀ k c, g k = some c -> s.get k = some c) : ∀ {ps : List (Nat × Value)} {qs : List (Nat × C)} {i : Nat} {c : C} {cells : Array Value} {pre rest : List Value}, Two F κ s ps qs ->
  seqP i qs = some c -> liveP g c = true -> cells.toList = pre ++ rest -> pre.length = i -> rest.length = c.count -> (∀ j, j < i + c.count -> place j = some (j, 1)) ->
  ∃ cells' us, Instr.fill place cells ps = some cells' /\ cells'.toList = pre ++ us /\ RepG F κ s c us /\ c.flatP = true
 | _, _, i, c, cells, pre, rest, .nil, hs, _, hc, hp, hr, _ => by
  simp only [seqP, Option.some.injEq] at hs
  subst hs
  have : rest = [] := List.length_eq_zero_iff.1 hr
  subst this
  exact ⟨cells, [], rfl, hc, by simp [RepG], rfl⟩
 | _, _, i, c, cells, pre, rest, .cons (i := j) (v := v) (c := d) (ps := r) (qs := q) hv h2, hs, hl, hc, hp, hr, hpl => by
  simp only [seqP] at hs
  split at hs
  ·rename_i hj
   obtain ⟨rfl, hpart⟩ := hj
   simp only [Option.map_eq_some_iff] at hs
   obtain ⟨c', hc', rfl⟩ := hs
   simp only [liveP, Bool.and_eq_true] at hl
   simp only [C.count] at hr hpl
   obtain ⟨p1, p2, p3⟩ := part_lone hpart
   obtain ⟨l1, l2⟩ := live_one hg p1 p2 p3 hl.1 hv
   have hcells : v.cells = #[v] := by cases v <;> simp_all [Value.cells, Value.oneCell']
   match rest, hr with
   | z :: rest', hr =>
    have hsz : cells.size = pre.length + (rest'.length + 1) := by
     have := congrArg List.length hc
     simpa using this
    have hsp : (splice cells j v.cells.toList).toList = (pre ++ [v]) ++ rest' := by
     rw [splice_list _ _ _ (by rw [hcells]; simp; omega), hcells, hc]
     subst hp
     simp
    obtain ⟨cells', us, h3, h4, h5, h6⟩ := seqP_fill hg h2 hc' hl.2 hsp (by simp; omega) (by simpa using hr) (fun k hk => hpl k (by omega))
    refine ⟨cells', v :: us, ?_, by rw [h4]; simp, ?_, by simp only [C.flatP, hpart, h6, Bool.and_self]⟩
    ·rw [fill_step (hpl j (by omega)) (by rw [hcells]; rfl) (by omega)]
     exact h3
    ·simp only [RepG]
     refine ⟨[v], us, rfl, (partXG hpart).1 ?_, h5⟩
     simp only [RepX] at l2
     obtain ⟨c1, c2, e, h7, h8⟩ := l2
     subst h8
     rw [List.append_nil] at e
     rw [<- e] at h7
     exact h7
  ·cases hs
theorem faBuildR_sound (hΓ : CtxT Γ P) (hI : Inv n f F κ s a w) (hG : GlobOK Γ F) (hg : ∀ k c, g k = some c -> s.get k = some c) {T : TypeId} {ps : Array (Nat × Operand)} {qs : List (Nat × C)} (hqs : partsC Γ g ps.toList = some qs)
  (hqr : ∀ c, seqP 0 qs = some c -> ∀ o ∈ c.refs, (s.get (okey o)).isSome = true) {dst : Option Nat} {r : Res} {u : St} (h : faBuildR Γ T qs g dst = some r) (hu : r.run = some u) :
  Gives P F κ s w (Instr.build T (ps.map fun (i, x) => (i, a.eval x))) dst u := by
 unfold faBuildR at h
 split at h
 ·rename_i k c hk hc
  split at h
  ·rename_i hcl
   cases h; cases hu
   obtain ⟨rfl, hl⟩ := hcl
   have hT := faIs_spec (hΓ.fa _ _ hk)
   obtain ⟨i, cs, hi, hz, hcs⟩ := hT.info
   obtain ⟨E, j, hE, hj, hjs⟩ := hT.elem
   have htwo := parts_sound (a := a) hI hG hg hqs
   have hs : (Go.sizeOf E).run P w = .ok 1 w := by simp [Go.sizeOf, typeInfo_run hj, hjs]
   obtain ⟨cells', us, h1, h2, h3, h4⟩ := seqP_fill (place := fun i => some (i * 1, 1)) (cells := cs) (pre := []) (rest := cs.toList) hg htwo hc hl (by simp) rfl (by simpa using hcs) (fun j _ => by simp)
   have hps : (ps.map fun (i, x) => (i, a.eval x)).toList = ps.toList.map fun p => (p.1, a.eval p.2) := by simp
   refine ⟨.agg cells', .agg c, rfl, ?_, ?_, by simpa [C.refs] using hqr c hc⟩
   ·simp only [Instr.build, zeroValue, Sem.run_bind, typeInfo_run hi, hz, underlying_run hE, Result.andThen_ok, hs, Value.cells, hps, h1, Sem.run_pure]
   ·simp only [RepL]
    rw [List.nil_append] at h2
    exact ⟨us, by rw [<- h2], h3⟩
  ·cases h
 ·cases h
theorem flat_nth : ∀ {c d : C} {us : List Value} {j : Nat}, c.flatP = true -> RepG F κ s c us -> nthC c j = some d -> ∃ v, us[j]? = some v /\ d.part = true /\ RepG F κ s d [v] /\ ∀ o ∈ d.refs, o ∈ c.refs
 | .cons a b, d, us, 0, h, hr, hn => by
  simp only [C.flatP, Bool.and_eq_true] at h
  simp only [nthC, Option.some.injEq] at hn
  subst hn
  simp only [RepG] at hr
  obtain ⟨c1, c2, rfl, h1, h2⟩ := hr
  match c1, part_len h.1 h1 with
  | [v], _ => exact ⟨v, rfl, h.1, h1, fun o ho => by simp [C.refs, ho]⟩
 | .cons a b, d, us, j + 1, h, hr, hn => by
  simp only [C.flatP, Bool.and_eq_true] at h
  simp only [nthC] at hn
  simp only [RepG] at hr
  obtain ⟨c1, c2, rfl, h1, h2⟩ := hr
  obtain ⟨v, g1, g2, g3, g4⟩ := flat_nth h.2 h2 hn
  match c1, part_len h.1 h1 with
  | [v1], _ => exact ⟨v, by simpa using g1, g2, g3, fun o ho => by simp [C.refs, g4 o ho]⟩
 | .unit, _, _, _, _, _, hn => by simp [nthC] at hn
 | .val .., _, _, _, h, _, _ => by simp [C.flatP] at h
 | .own _, _, _, _, h, _, _ => by simp [C.flatP] at h
 | .ptr .., _, _, _, h, _, _ => by simp [C.flatP] at h
 | .eptr .., _, _, _, h, _, _ => by simp [C.flatP] at h
 | .aptr .., _, _, _, h, _, _ => by simp [C.flatP] at h
 | .adr .., _, _, _, h, _, _ => by simp [C.flatP] at h
 | .brow _, _, _, _, h, _, _ => by simp [C.flatP] at h
 | .may .., _, _, _, h, _, _ => by simp [C.flatP] at h
 | .fptr .., _, _, _, h, _, _ => by simp [C.flatP] at h
 | .fn .., _, _, _, h, _, _ => by simp [C.flatP] at h
 | .tup _, _, _, _, h, _, _ => by simp [C.flatP] at h
 | .agg _, _, _, _, h, _, _ => by simp [C.flatP] at h
 | .rsl .., _, _, _, h, _, _ => by simp [C.flatP] at h
 | .nil, _, _, _, h, _, _ => by simp [C.flatP] at h
 | .dead, _, _, _, h, _, _ => by simp [C.flatP] at h
 | .vec .., _, _, _, h, _, _ => by simp [C.flatP] at h
 | .rcd _, _, _, _, h, _, _ => by simp [C.flatP] at h
theorem faIndexR_sound (hΓ : CtxT Γ P) {T : TypeId} {cx ci : C} {vx vi : Value} {dst : Option Nat} {r : Res} {u : St} (hx : RepC F κ s cx vx) (hxr : ∀ o ∈ cx.refs, (s.get (okey o)).isSome = true)
  (hi : RepC F κ s ci vi) (h : faIndexR Γ T cx ci dst = some r) (hu : r.run = some u) : Gives P F κ s w (Instr.index T vx vi) dst u := by
 unfold faIndexR at h
 split at h
 ·rename_i c j k hj hk
  split at h
  ·rename_i hc
   obtain ⟨h0, hf, rfl⟩ := hc
   simp only [Option.map_eq_some_iff] at h
   obtain ⟨d, hd, rfl⟩ := h
   cases hu
   obtain ⟨ik, rfl⟩ := asInt64_sound hi hj
   have hT := faIs_spec (hΓ.fa _ _ hk)
   obtain ⟨E, i, hE, hei, hes⟩ := hT.elem
   obtain ⟨ps, rs, vv, hfn⟩ := hT.one E hE
   simp only [RepL] at hx
   obtain ⟨us, hus, hr⟩ := hx
   cases hus
   have hlen := flat_len hf hr
   obtain ⟨v, g1, g2, g3, g4⟩ := flat_nth hf hr hd
   have hlt := (List.getElem?_eq_some_iff.1 g1).1
   have hs : (Go.sizeOf E).run P w = .ok 1 w := by simp [Go.sizeOf, typeInfo_run hei, hes]
   have ha : (isAgg E).run P w = .ok false w := by simp [isAgg, underlying_run hfn]
   refine ⟨v, d, rfl, ?_, part_repC g2 g3, fun o ho => hxr o (by simpa only [C.refs] using g4 o ho)⟩
   have hlt' : j < (c.count : Int) := by omega
   have g1' : us.toArray[j.toNat]? = some v := by simpa using g1
   simp only [Instr.index, asIntOf, Sem.run_bind, Sem.run_pure, Result.andThen_ok, underlying_run hE, h0, hlt', and_self, if_true, hs, Nat.mul_one, part, ha, Bool.false_eq_true, if_false, g1']
  ·cases h
 ·cases h
theorem seqP_refs (hI : Inv n f F κ s a w) (hG : GlobOK Γ F) (hg : ∀ k c, g k = some c -> s.get k = some c) : ∀ {ps : List (Nat × Operand)} {qs : List (Nat × C)} {i : Nat} {c : C}, partsC Γ g ps = some qs -> seqP i qs = some c -> ∀ o ∈ c.refs, (s.get (okey o)).isSome = true
 | [], qs, i, c, h, hs => by
  simp only [partsC, Option.some.injEq] at h
  subst h
  simp only [seqP, Option.some.injEq] at hs
  subst hs
  intro o ho
  simp [C.refs] at ho
 | (j, x) :: r, qs, i, c, h, hs => by
  simp only [partsC] at h
  split at h
  ·rename_i c0 d h1 h2
   cases h
   simp only [seqP] at hs
   split at hs
   ·simp only [Option.map_eq_some_iff] at hs
    obtain ⟨c', hc', rfl⟩ := hs
    intro o ho
    simp only [C.refs, List.mem_append] at ho
    rcases ho with ho | ho
    ·exact (opnd_sound hI hG hg h1).2 o ho
    ·exact seqP_refs hI hG hg h2 hc' o ho
   ·cases hs
  ·cases h
theorem pstOp_sound (hΓ : CtxOK Γ P) (hI : Inv n f F κ s a w) (hG : GlobOK Γ F) (hg : ∀ k c, g k = some c -> s.get k = some c) {h : OH} {o : Oper} (_hnew : ∀ m ∈ h.new, s.get (okey m) = none)
  (hdst : ∀ d, o.dst = some d -> d < n /\ d < 100000) {r : Res} {u : St} (hr : pstOp Γ h o g = some r) (hu : r.run = some u) {next : Act -> World -> Prop} {Q : Exit -> Act -> World -> Prop}
  (hn : Then n f F s a o.dst u next) : o.wp P a w next Q := by
 have opn : ∀ {x c}, opnd Γ g x = some c -> _ := fun {x c} hx => opnd_sound hI hG hg hx
 have fin : ∀ {sem : Sem Value}, Does P n f F κ s a w sem o.dst u -> execOp a.eval o = (do pure (.value (<- sem))) -> o.wp P a w next Q := fun h1 h2 => does_wp h1 h2 hdst hn
 unfold pstOp at hr
 split at hr
 ·rename_i T ps he
  simp only [Option.bind_eq_some_iff] at hr
  obtain ⟨qs, hqs, hr⟩ := hr
  split at hr
  ·exact fin (Gives.does hI (faBuildR_sound (a := a) hΓ.toCtxT hI hG hg hqs (fun c hc => seqP_refs hI hG hg hqs hc) hr hu)) (by simp only [execOp, he])
  ·cases hr
 ·rename_i T x i he
  split at hr
  ·rename_i c d hc hd
   exact fin (Gives.does hI (faIndexR_sound hΓ.toCtxT (opn hc).1 (opn hc).2 (opn hd).1 hr hu)) (by simp only [execOp, he])
  ·cases hr
 ·cases hr
theorem evOp1_sound (hΓ : CtxOK Γ P) (hI : Inv n f F κ s a w) (hG : GlobOK Γ F) (hg : ∀ k c, g k = some c -> s.get k = some c) {h : OH} {o : Oper} (hnew : ∀ m ∈ h.new, s.get (okey m) = none) (hnd : h.new.Nodup)
  (hdst : ∀ d, o.dst = some d -> d < n /\ d < 100000) {r : Res} {u : St} (hr : evOp1 Γ h o g = some r) (hu : r.run = some u) {next : Act -> World -> Prop} {Q : Exit -> Act -> World -> Prop}
  (hn : Then n f F s a o.dst u next) : o.wp P a w next Q := by
 unfold evOp1 at hr
 split at hr
 ·rename_i r' h0
  cases hr
  exact evOp0_sound hΓ hI hG hg hnew hnd hdst h0 hu hn
 ·exact pstOp_sound hΓ hI hG hg hnew hdst hr hu hn
end
end Go.Fe
