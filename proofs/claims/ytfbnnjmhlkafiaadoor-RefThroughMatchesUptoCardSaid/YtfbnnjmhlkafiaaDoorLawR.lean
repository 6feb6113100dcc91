import Derived.Test.YtfbnnjmhlkafiaaDoorLawQ
namespace Go.Proofs.YtfbnnjmhlkafiaaDoor
open Go Go.Fe

/-! ### The reference's first and last row -/
/-- The ends of the steps, and the last end. -/
def plc : Steps → Int → List Int
  | [], at0 => [at0]
  | v :: r, at0 => if v.1 = 1 then plc r at0 else at0 :: (at0 + v.2.1 - 1) :: plc r (at0 + v.2.1)
theorem plc_len : ∀ (r : Steps) (x : Int), (plc r x).length ≤ 2 * r.length + 1
  | [], _ => by simp [plc]
  | v :: r, x => by
    have h1 := plc_len r x
    have h2 := plc_len r (x + v.2.1)
    simp only [plc]
    split <;> simp only [List.length_cons] <;> omega

/-- Behind a row that is there: where its stretch begins and ends. -/
theorem plc_cand : ∀ (r : Steps) (x p q : Int), Fine r → 0 ≤ p → wh r p = some q →
    ∃ o, 0 ≤ o ∧ o ≤ p ∧ x + o ∈ plc r x ∧ (∀ p', o ≤ p' → p' ≤ p → wh r p' = some (q - (p - p'))) ∧
      ((∀ p', p ≤ p' → wh r p' = some (q + (p' - p))) ∨ ∃ e, p ≤ e ∧ x + e ∈ plc r x ∧ ∀ p', p ≤ p' → p' ≤ e → wh r p' = some (q + (p' - p)))
  | [], x, p, q, hf, hp, h => by
    simp only [wh, Option.some.injEq] at h
    subst h
    exact ⟨0, by omega, hp, by simp [plc], fun p' h1 h2 => by simp only [wh]; congr 1; omega, .inl fun p' h1 => by simp only [wh]; congr 1; omega⟩
  | v :: r, x, p, q, hf, hp, h => by
    have h0 := hf v (List.mem_cons_self ..)
    by_cases k1 : v.1 = 1
    · have e : ∀ p', wh (v :: r) p' = (wh r p').map (· + v.2.1) := fun p' => by simp only [wh, if_pos k1]
      rw [e] at h
      obtain ⟨q', h1, rfl⟩ := Option.map_eq_some_iff.1 h
      obtain ⟨o, o1, o2, o3, o4, o5⟩ := plc_cand r x p q' hf.tail hp h1
      refine ⟨o, o1, o2, by simp only [plc, if_pos k1]; exact o3, fun p' h1 h2 => by rw [e, o4 p' h1 h2]; simp only [Option.map_some]; congr 1; omega, ?_⟩
      rcases o5 with o5 | ⟨e', e1, e2, e3⟩
      · exact .inl fun p' h1 => by rw [e, o5 p' h1]; simp only [Option.map_some]; congr 1; omega
      · exact .inr ⟨e', e1, by simp only [plc, if_pos k1]; exact e2, fun p' h1 h2 => by rw [e, e3 p' h1 h2]; simp only [Option.map_some]; congr 1; omega⟩
    · have hmem : ∀ y, y ∈ plc r (x + v.2.1) → y ∈ plc (v :: r) x := fun y hy => by simp only [plc, if_neg k1]; exact List.mem_cons_of_mem _ (List.mem_cons_of_mem _ hy)
      by_cases k0 : v.1 = 0
      · by_cases hlt : p < v.2.1
        · have e : ∀ p', p' < v.2.1 → wh (v :: r) p' = some p' := fun p' hp' => by simp only [wh, if_neg k1, if_pos k0, if_pos hp']
          rw [e p hlt] at h
          cases h
          refine ⟨0, by omega, hp, by simp [plc, k1], fun p' h1 h2 => by rw [e p' (by omega)]; congr 1; omega, .inr ⟨v.2.1 - 1, by omega, ?_, fun p' h1 h2 => by rw [e p' (by omega)]; congr 1; omega⟩⟩
          simp only [plc, if_neg k1]
          rw [show x + (v.2.1 - 1) = x + v.2.1 - 1 by omega]
          exact List.mem_cons_of_mem _ (List.mem_cons_self ..)
        · have e : ∀ p', ¬ p' < v.2.1 → wh (v :: r) p' = (wh r (p' - v.2.1)).map (· + v.2.1) := fun p' hp' => by simp only [wh, if_neg k1, if_pos k0, if_neg hp']
          rw [e p hlt] at h
          obtain ⟨q', h1, rfl⟩ := Option.map_eq_some_iff.1 h
          obtain ⟨o, o1, o2, o3, o4, o5⟩ := plc_cand r (x + v.2.1) (p - v.2.1) q' hf.tail (by omega) h1
          refine ⟨v.2.1 + o, by omega, by omega, hmem _ (by rw [show x + (v.2.1 + o) = x + v.2.1 + o by omega]; exact o3), fun p' h1 h2 => by rw [e p' (by omega), o4 (p' - v.2.1) (by omega) (by omega)]; simp only [Option.map_some]; congr 1; omega, ?_⟩
          rcases o5 with o5 | ⟨e', e1, e2, e3⟩
          · exact .inl fun p' h1 => by rw [e p' (by omega), o5 (p' - v.2.1) (by omega)]; simp only [Option.map_some]; congr 1; omega
          · exact .inr ⟨v.2.1 + e', by omega, hmem _ (by rw [show x + (v.2.1 + e') = x + v.2.1 + e' by omega]; exact e2), fun p' h1 h2 => by rw [e p' (by omega), e3 (p' - v.2.1) (by omega) (by omega)]; simp only [Option.map_some]; congr 1; omega⟩
      · by_cases hlt : p < v.2.1
        · have e : wh (v :: r) p = none := by simp only [wh, if_neg k1, if_neg k0, if_pos hlt]
          rw [e] at h; cases h
        · have e : ∀ p', ¬ p' < v.2.1 → wh (v :: r) p' = wh r (p' - v.2.1) := fun p' hp' => by simp only [wh, if_neg k1, if_neg k0, if_neg hp']
          rw [e p hlt] at h
          obtain ⟨o, o1, o2, o3, o4, o5⟩ := plc_cand r (x + v.2.1) (p - v.2.1) q hf.tail (by omega) h
          refine ⟨v.2.1 + o, by omega, by omega, hmem _ (by rw [show x + (v.2.1 + o) = x + v.2.1 + o by omega]; exact o3), fun p' h1 h2 => by rw [e p' (by omega), o4 (p' - v.2.1) (by omega) (by omega)]; congr 1; omega, ?_⟩
          rcases o5 with o5 | ⟨e', e1, e2, e3⟩
          · exact .inl fun p' h1 => by rw [e p' (by omega), o5 (p' - v.2.1) (by omega)]; congr 1; omega
          · exact .inr ⟨v.2.1 + e', by omega, hmem _ (by rw [show x + (v.2.1 + e') = x + v.2.1 + e' by omega]; exact e2), fun p' h1 h2 => by rw [e p' (by omega), e3 (p' - v.2.1) (by omega) (by omega)]; congr 1; omega⟩

/-- One place more. -/
def rfs (W : Int → Option Int) (low high : Int) (h : HullS) (x : Int) : HullS :=
  if x < low ∨ high < x then h else match W x with
    | none => h
    | some q => (cond (!h.2.2 || decide (q < h.1)) q h.1, cond (!h.2.2 || decide (h.2.1 < q)) q h.2.1, true)
/-- The same for places. -/
def IsP (W : Int → Option Int) (low high : Int) (L : List Int) (h : HullS) : Prop :=
  (h = (0, 0, false) ∧ ∀ p ∈ L, low ≤ p → p ≤ high → W p = none) ∨
  (h.2.2 = true ∧ (∃ p ∈ L, low ≤ p ∧ p ≤ high ∧ W p = some h.1) ∧ (∃ p ∈ L, low ≤ p ∧ p ≤ high ∧ W p = some h.2.1) ∧ ∀ p ∈ L, ∀ q, low ≤ p → p ≤ high → W p = some q → h.1 ≤ q ∧ q ≤ h.2.1)
theorem rfs_is {W : Int → Option Int} {low high : Int} {L : List Int} {h : HullS} (hh : IsP W low high L h) (x : Int) : IsP W low high (L ++ [x]) (rfs W low high h x) := by
  have hm : ∀ p, p ∈ L ++ [x] ↔ p ∈ L ∨ p = x := fun p => by simp
  unfold rfs
  by_cases hr : x < low ∨ high < x
  · rw [if_pos hr]
    rcases hh with ⟨e, he⟩ | ⟨e, ⟨p, p0, p1⟩, ⟨p', p0', p1'⟩, hb⟩
    · refine .inl ⟨e, fun p hp h1 h2 => ?_⟩
      rcases (hm p).1 hp with hp | hp
      · exact he p hp h1 h2
      · omega
    · refine .inr ⟨e, ⟨p, (hm p).2 (.inl p0), p1⟩, ⟨p', (hm p').2 (.inl p0'), p1'⟩, fun p hp q h1 h2 h3 => ?_⟩
      rcases (hm p).1 hp with hp | hp
      · exact hb p hp q h1 h2 h3
      · omega
  · rw [if_neg hr]
    cases hw : W x with
    | none =>
      simp only
      rcases hh with ⟨e, he⟩ | ⟨e, ⟨p, p0, p1⟩, ⟨p', p0', p1'⟩, hb⟩
      · refine .inl ⟨e, fun p hp h1 h2 => ?_⟩
        rcases (hm p).1 hp with hp | hp
        · exact he p hp h1 h2
        · rw [hp]; exact hw
      · refine .inr ⟨e, ⟨p, (hm p).2 (.inl p0), p1⟩, ⟨p', (hm p').2 (.inl p0'), p1'⟩, fun p hp q h1 h2 h3 => ?_⟩
        rcases (hm p).1 hp with hp | hp
        · exact hb p hp q h1 h2 h3
        · rw [hp, hw] at h3; cases h3
    | some q =>
      simp only
      right
      rcases hh with ⟨e, he⟩ | ⟨e, ⟨p, p0, p1, p2, p3⟩, ⟨p', p0', p1', p2', p3'⟩, hb⟩
      · rw [e]
        simp only [Bool.not_false, Bool.true_or, cond_true]
        refine ⟨trivial, ⟨x, (hm x).2 (.inr rfl), by omega, by omega, hw⟩, ⟨x, (hm x).2 (.inr rfl), by omega, by omega, hw⟩, fun p hp q' h1 h2 h3 => ?_⟩
        rcases (hm p).1 hp with hp | hp
        · rw [he p hp h1 h2] at h3; cases h3
        · rw [hp, hw] at h3
          cases h3
          omega
      · rw [e]
        simp only [Bool.not_true, Bool.false_or]
        refine ⟨trivial, ?_, ?_, fun p hp q' h1 h2 h3 => ?_⟩
        · by_cases g : q < h.1
          · simp only [g, decide_true, cond_true]
            exact ⟨x, (hm x).2 (.inr rfl), by omega, by omega, hw⟩
          · simp only [g, decide_false, cond_false]
            exact ⟨p, (hm p).2 (.inl p0), p1, p2, p3⟩
        · by_cases g : h.2.1 < q
          · simp only [g, decide_true, cond_true]
            exact ⟨x, (hm x).2 (.inr rfl), by omega, by omega, hw⟩
          · simp only [g, decide_false, cond_false]
            exact ⟨p', (hm p').2 (.inl p0'), p1', p2', p3'⟩
        · have key : h.1 ≤ q' ∧ q' ≤ h.2.1 ∨ q' = q := by
            rcases (hm p).1 hp with hp | hp
            · exact .inl (hb p hp q' h1 h2 h3)
            · rw [hp, hw] at h3
              cases h3
              exact .inr rfl
          by_cases g : q < h.1 <;> by_cases g' : h.2.1 < q <;> simp only [g, g', decide_true, decide_false, cond_true, cond_false] <;> omega

theorem isP_isH {a : Steps} (hf : Fine a) {low high : Int} (hlow : 0 ≤ low) {h : HullS} (hp : IsP (wh a) low high (low :: high :: plc a 0) h) : IsH (wh a) low high h := by
  have cand : ∀ p q, low ≤ p → p ≤ high → wh a p = some q → (∃ c q', c ∈ low :: high :: plc a 0 ∧ low ≤ c ∧ c ≤ high ∧ wh a c = some q' ∧ q' ≤ q) ∧ ∃ c q', c ∈ low :: high :: plc a 0 ∧ low ≤ c ∧ c ≤ high ∧ wh a c = some q' ∧ q ≤ q' := by
    intro p q h1 h2 h3
    obtain ⟨o, o1, o2, o3, o4, o5⟩ := plc_cand a 0 p q hf (by omega) h3
    rw [Int.zero_add] at o3
    constructor
    · by_cases g : o ≤ low
      · exact ⟨low, _, List.mem_cons_self .., by omega, by omega, o4 low g h1, by omega⟩
      · exact ⟨o, _, List.mem_cons_of_mem _ (List.mem_cons_of_mem _ o3), by omega, by omega, o4 o (by omega) o2, by omega⟩
    · rcases o5 with o5 | ⟨e, e1, e2, e3⟩
      · exact ⟨high, _, List.mem_cons_of_mem _ (List.mem_cons_self ..), by omega, by omega, o5 high h2, by omega⟩
      · rw [Int.zero_add] at e2
        by_cases g : high ≤ e
        · exact ⟨high, _, List.mem_cons_of_mem _ (List.mem_cons_self ..), by omega, by omega, e3 high h2 g, by omega⟩
        · exact ⟨e, _, List.mem_cons_of_mem _ (List.mem_cons_of_mem _ e2), by omega, by omega, e3 e e1 (by omega), by omega⟩
  rcases hp with ⟨e, he⟩ | ⟨e, ⟨p, p0, p1⟩, ⟨p', p0', p1'⟩, hb⟩
  · refine .inl ⟨e, fun p h1 h2 => ?_⟩
    cases hw : wh a p with
    | none => rfl
    | some q =>
      obtain ⟨⟨c, q', c1, c2, c3, c4, _⟩, _⟩ := cand p q h1 h2 hw
      rw [he c c1 c2 c3] at c4
      cases c4
  · refine .inr ⟨e, ⟨p, p1⟩, ⟨p', p1'⟩, fun p q h1 h2 h3 => ?_⟩
    obtain ⟨⟨c, q', c1, c2, c3, c4, c5⟩, ⟨d, q'', d1, d2, d3, d4, d5⟩⟩ := cand p q h1 h2 h3
    have := hb c c1 q' c2 c3 c4
    have := hb d d1 q'' d2 d3 d4
    omega

theorem fold_is {W : Int → Option Int} {low high : Int} : ∀ (L M : List Int) (h : HullS), IsP W low high M h → IsP W low high (M ++ L) (L.foldl (rfs W low high) h)
  | [], M, h, hh => by simpa using hh
  | x :: L, M, h, hh => by
    have := fold_is L (M ++ [x]) _ (rfs_is hh x)
    simpa using this

theorem places_loop {a : Steps} (hl : a.length < 100000000) : ∀ (r : Steps) (i : Nat) (x : Int) (acc : List Int), a.drop i = r → i ≤ a.length → Fine r → 0 ≤ x → x + bsum r ≤ 2147483647 → acc.length + 2 * r.length ≤ 1000000000 →
    ∃ (y : Int) (L : List Int), Halts (chanceryref2_rest_l1891 a) r.length ((), x, (i : Int), acc, ()) ((), y, acc ++ L, ()) ∧ L ++ [y] = plc r x
  | [], i, x, acc, hd, hi, hf, hx, hb, hacc => by
    have hle : a.length ≤ i := by
      have := congrArg List.length hd
      simp at this
      omega
    have hg : ¬ ((i : Int) < (a.length : Int)) := by omega
    exact ⟨x, [], .done (by simp only [chanceryref2_rest_l1891, hg, decide_false, cond_false, List.append_nil]), rfl⟩
  | v :: r, i, x, acc, hd, hi, hf, hx, hb, hacc => by
    obtain ⟨hl', hv, hr⟩ := dropS hd
    have h0 := hf v (List.mem_cons_self ..)
    have hsr := hf.tail.sums
    have hg : ((i : Int) < (a.length : Int)) := by omega
    have hix : idx a (i : Int) = some v := by rw [idx_nat, hv]
    have w1 := wrap_succ (i := i) (by omega)
    simp only [bsum] at hb
    simp only [List.length_cons] at hacc
    by_cases k1 : v.1 = 1
    · rw [if_pos k1] at hb
      obtain ⟨y, L, h1, h2⟩ := places_loop hl r (i + 1) x acc hr (by omega) hf.tail hx (by omega) (by omega)
      refine ⟨y, L, .step ?_ h1, by simp only [plc, if_pos k1]; exact h2⟩
      simp only [chanceryref2_rest_l1891, hg, decide_true, cond_true, hix, Option.bind_some, k1, Bool.not_true, cond_false, w1]
    · rw [if_neg k1] at hb
      obtain ⟨y, L, h1, h2⟩ := places_loop hl r (i + 1) (x + v.2.1) (acc ++ [x, x + v.2.1 - 1]) hr (by omega) hf.tail (by omega) (by omega) (by simp; omega)
      refine ⟨y, x :: (x + v.2.1 - 1) :: L, ?_, by simp only [plc, if_neg k1, ← h2]; rfl⟩
      have e : acc ++ x :: (x + v.2.1 - 1) :: L = acc ++ [x, x + v.2.1 - 1] ++ L := by simp
      rw [e]
      refine .step ?_ h1
      have w2 := wrap_i64 (n := x + v.2.1) (by omega) (by omega)
      have w3 := wrap_i64 (n := x + v.2.1 - 1) (by omega) (by omega)
      have hc : cat acc [x, x + v.2.1 - 1] = some (acc ++ [x, x + v.2.1 - 1]) := cat_ok (by simp only [List.length_cons, List.length_nil]; omega)
      simp only [chanceryref2_rest_l1891, hg, decide_true, cond_true, hix, Option.bind_some, k1, Bool.not_false, decide_false, w1, w2, w3, hc]

theorem rest_step {a : Steps} {low high : Int} (hl : a.length < 100000000) (hv : Valid a) (hlow : 0 ≤ low) (hhigh : high < 1073741824) {L : List Int} (hL : L.length ≤ 1000000000) {j : Nat} (hj : j < L.length) (h : HullS) :
    chanceryref2_rest_l1933 L low high a (h.1, h.2.1, h.2.2, (), (j : Int), L, ()) = some (.inl ((rfs (wh a) low high h L[j]).1, (rfs (wh a) low high h L[j]).2.1, (rfs (wh a) low high h L[j]).2.2, (), ((j + 1 : Nat) : Int), L, ())) := by
  have hg : ((j : Int) < (L.length : Int)) := by omega
  have hd : L.getD j 0 = L[j] := by simp [List.getD, List.getElem?_eq_getElem hj]
  have w1 := wrap_succ (i := j) (by omega)
  simp only [chanceryref2_rest_l1933, hg, decide_true, cond_true, inb_nat hj, chk_t, Option.bind_some, Int.toNat_natCast, hd, w1, rfs]
  generalize L[j] = x
  by_cases g1 : x < low
  · simp [g1]
  · by_cases g2 : high < x
    · simp [g1, g2]
    · have hw := Where_eq (a := a) (by omega) hv (p := x) (by omega) (by omega)
      simp only [g1, g2, decide_false, cond_false, Option.bind_some, hw, or_self, if_false]
      cases hq : wh a x with
      | none => simp
      | some q =>
        have := (wh_nonneg hv.fine (by omega) hq).1
        simp only [this, decide_true, cond_true]
        cases h.2.2 <;> by_cases g3 : q < h.1 <;> by_cases g4 : h.2.1 < q <;> simp [g3, g4]

theorem rest_eq {a : Steps} {low high : Int} (hl : a.length < 100000000) (hv : Valid a) (h4 : 0 ≤ low ∧ low < 1073741824) (h5 : 0 ≤ high ∧ high < 1073741824) : chanceryref2_rest a low high = some ((hull a low high).1, (hull a low high).2.1, (hull a low high).2.2, ()) := by
  obtain ⟨y, L, h1, h2⟩ := places_loop hl a 0 0 [low, high] rfl (by omega) hv.fine (by omega) (by have := hv.2.1; omega) (by simp; omega)
  have h1' := h1.loop (by omega)
  rw [show ((0 : Nat) : Int) = 0 from rfl] at h1'
  have hpl := plc_len a 0
  have hlen : L.length + 1 ≤ 2 * a.length + 1 := by rw [← h2] at hpl; simpa using hpl
  have hc : cat ([low, high] ++ L) [y] = some ([low, high] ++ L ++ [y]) := cat_ok (by simp; omega)
  have hall : [low, high] ++ L ++ [y] = low :: high :: plc a 0 := by rw [← h2]; rfl
  rw [hall] at hc
  have hPl : (low :: high :: plc a 0).length ≤ 1000000000 := by simp only [List.length_cons]; omega
  obtain ⟨P, hP⟩ : ∃ P, low :: high :: plc a 0 = P := ⟨_, rfl⟩
  rw [hP] at hc hPl
  have hst : ∀ (j : Nat) (hj : j < P.length), (P.take (j + 1)).foldl (rfs (wh a) low high) (0, 0, false) = rfs (wh a) low high ((P.take j).foldl (rfs (wh a) low high) (0, 0, false)) P[j] := fun j hj => by
    rw [List.take_succ_eq_append_getElem hj, List.foldl_append]
    rfl
  have hloop := (Halts.along (n := 0) (f := chanceryref2_rest_l1933 P low high a)
    (fun j : Nat => (((P.take j).foldl (rfs (wh a) low high) (0, 0, false)).1, ((P.take j).foldl (rfs (wh a) low high) (0, 0, false)).2.1, ((P.take j).foldl (rfs (wh a) low high) (0, 0, false)).2.2, (), (j : Int), P, ()))
    (r := ((P.foldl (rfs (wh a) low high) (0, 0, false)).1, (P.foldl (rfs (wh a) low high) (0, 0, false)).2.1, (P.foldl (rfs (wh a) low high) (0, 0, false)).2.2, ())) P.length
    (fun j hj => by rw [rest_step hl hv h4.1 h5.2 hPl hj, ← hst j hj]) (.done (by simp [chanceryref2_rest_l1933]))).loop (by omega)
  have hloop' : loop (chanceryref2_rest_l1933 P low high a) (0, 0, false, (), 0, P, ()) = _ := hloop
  have hH := isP_isH hv.fine h4.1 (h := P.foldl (rfs (wh a) low high) (0, 0, false)) (by rw [hP]; exact fold_is P [] (0, 0, false) (.inl ⟨rfl, fun p hp => by cases hp⟩))
  have hU := hH.unique (hull_is hv.fine h4.1 h5.2)
  rw [hU] at hloop'
  simp only [chanceryref2_rest, h1', Option.bind_some, hc, hloop']
end Go.Proofs.YtfbnnjmhlkafiaaDoor
