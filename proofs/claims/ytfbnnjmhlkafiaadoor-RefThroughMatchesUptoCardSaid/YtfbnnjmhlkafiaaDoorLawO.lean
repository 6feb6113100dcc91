import Derived.Test.YtfbnnjmhlkafiaaDoorLawN
namespace Go.Proofs.YtfbnnjmhlkafiaaDoor
open Go Go.Fe

/-! ### Where a row goes -/
def wh : Steps → Int → Option Int
  | [], p => some p
  | v :: r, p => if v.1 = 1 then (wh r p).map (· + v.2.1) else if v.1 = 0 then (if p < v.2.1 then some p else (wh r (p - v.2.1)).map (· + v.2.1)) else (if p < v.2.1 then none else wh r (p - v.2.1))
/-- Steps that are fine, one by one. -/
def Fine (a : Steps) : Prop := ∀ v ∈ a, 0 ≤ v.1 ∧ v.1 ≤ 2 ∧ 1 ≤ v.2.1 ∧ v.2.1 ≤ 2147483647
theorem Valid.fine {a : Steps} (h : Valid a) : Fine a := fun v hv => by
  obtain ⟨i, hi, rfl⟩ := List.mem_iff_getElem.1 hv
  exact bad_fine hi (h.1 i hi)
theorem Fine.tail {v : Step} {r : Steps} (h : Fine (v :: r)) : Fine r := fun u hu => h u (List.mem_cons_of_mem _ hu)
theorem Fine.sums {a : Steps} (h : Fine a) : 0 ≤ bsum a ∧ 0 ≤ asum a := by
  induction a with
  | nil => simp [bsum, asum]
  | cons v r ih =>
    have := h v (List.mem_cons_self ..)
    have := ih h.tail
    simp only [bsum, asum]
    constructor <;> split <;> omega
theorem wh_nonneg : ∀ {a : Steps} {p q : Int}, Fine a → 0 ≤ p → wh a p = some q → 0 ≤ q ∧ q ≤ p + asum a
  | [], p, q, _, hp, h => by simp only [wh, Option.some.injEq] at h; simp only [asum]; omega
  | v :: r, p, q, hf, hp, h => by
    have h0 := hf v (List.mem_cons_self ..)
    have hs := hf.tail.sums
    simp only [wh] at h
    simp only [asum]
    split at h
    · rename_i k
      obtain ⟨q', h1, rfl⟩ := Option.map_eq_some_iff.1 h
      have := wh_nonneg hf.tail hp h1
      rw [if_neg (by omega)]
      omega
    · split at h
      · rw [if_neg (by omega)]
        split at h
        · simp only [Option.some.injEq] at h; omega
        · obtain ⟨q', h1, rfl⟩ := Option.map_eq_some_iff.1 h
          have := wh_nonneg hf.tail (by omega) h1
          omega
      · split at h
        · cases h
        · have := wh_nonneg hf.tail (by omega) h
          rw [if_pos (by omega)]
          omega

theorem dropS {a : Steps} {i : Nat} {v : Step} {r : Steps} (h : a.drop i = v :: r) : i < a.length ∧ a[i]? = some v ∧ a.drop (i + 1) = r := by
  have hl : i < a.length := by
    rcases Nat.lt_or_ge i a.length with h' | h'
    · exact h'
    · rw [List.drop_eq_nil_of_le h'] at h; cases h
  rw [List.drop_eq_getElem_cons hl] at h
  cases h
  exact ⟨hl, List.getElem?_eq_getElem hl, rfl⟩

/-- What the loop of Where ends with. -/
def whEnd (x : (Int × (Int × Unit)) ⊕ (Int × Unit)) (o : Option Int) (out : Int) : Prop := match x with
  | .inl z => o = some (z.2.1 + z.1 - out) ∧ 0 ≤ z.1 ∧ z.1 ≤ 8589934592 ∧ 0 ≤ z.2.1 ∧ z.2.1 ≤ 8589934592
  | .inr z => z.1 = -1 ∧ o = none ∨ 0 ≤ z.1 ∧ o = some (z.1 - out)

theorem where_loop {a : Steps} (hl : a.length < 1000000000) : ∀ (r : Steps) (i : Nat) (p out : Int), a.drop i = r → i ≤ a.length → Fine r → 0 ≤ p → p ≤ 8589934592 → 0 ≤ out → out + asum r ≤ 2147483647 →
    ∃ x, Halts (chanceryref2_Where_l2188 a) r.length (p, out, (i : Int), ()) x ∧ whEnd x (wh r p) out
  | [], i, p, out, hd, hi, hf, hp, hp', ho, hs => by
    have hle : a.length ≤ i := by
      have := congrArg List.length hd
      simp at this
      omega
    have hg : ¬ ((i : Int) < (a.length : Int)) := by omega
    simp only [asum] at hs
    refine ⟨.inl (p, out, ()), .done (by simp only [chanceryref2_Where_l2188, hg, decide_false, cond_false]), ?_⟩
    simp only [whEnd, wh]
    refine ⟨by congr 1; omega, hp, hp', ho, by omega⟩
  | v :: r, i, p, out, hd, hi, hf, hp, hp', ho, hs => by
    obtain ⟨hl', hv, hr⟩ := dropS hd
    have h0 := hf v (List.mem_cons_self ..)
    have hsr := hf.tail.sums
    have hg : ((i : Int) < (a.length : Int)) := by omega
    have hix : idx a (i : Int) = some v := by rw [idx_nat, hv]
    have w1 := wrap_succ (i := i) (by omega)
    simp only [asum] at hs
    by_cases k1 : v.1 = 1
    · have hs' : out + v.2.1 + asum r ≤ 2147483647 := by rw [if_neg (by omega)] at hs; omega
      obtain ⟨x, h1, h2⟩ := where_loop hl r (i + 1) p (out + v.2.1) hr (by omega) hf.tail hp hp' (by omega) hs'
      have w2 := wrap_i64 (n := out + v.2.1) (by omega) (by omega)
      refine ⟨x, .step ?_ h1, ?_⟩
      · simp only [chanceryref2_Where_l2188, hg, decide_true, cond_true, hix, Option.bind_some, k1, w1, w2]
      · simp only [wh, k1, if_true]
        cases x with
        | inl z =>
          simp only [whEnd] at h2 ⊢
          refine ⟨by rw [h2.1]; simp only [Option.map_some]; congr 1; omega, h2.2⟩
        | inr z =>
          simp only [whEnd] at h2 ⊢
          rcases h2 with ⟨h2, h3⟩ | ⟨h2, h3⟩
          · exact .inl ⟨h2, by rw [h3]; rfl⟩
          · exact .inr ⟨h2, by rw [h3]; simp only [Option.map_some]; congr 1; omega⟩
    · by_cases k0 : v.1 = 0
      · by_cases hlt : p < v.2.1
        · have w2 := wrap_i64 (n := out + p) (by omega) (by omega)
          refine ⟨.inr (out + p, ()), .done ?_, ?_⟩
          · simp only [chanceryref2_Where_l2188, hg, decide_true, cond_true, hix, Option.bind_some, k1, k0, hlt, decide_false, cond_false, w2]
            rfl
          · simp only [wh, k1, k0, hlt, if_true, if_false, whEnd]
            exact .inr ⟨by omega, by simp only [show ((0 : Int) = 1) = False by simp, if_false]; congr 1; omega⟩
        · have hs' : out + v.2.1 + asum r ≤ 2147483647 := by rw [if_neg (by omega)] at hs; omega
          obtain ⟨x, h1, h2⟩ := where_loop hl r (i + 1) (p - v.2.1) (out + v.2.1) hr (by omega) hf.tail (by omega) (by omega) (by omega) hs'
          have w2 := wrap_i64 (n := out + v.2.1) (by omega) (by omega)
          have w3 := wrap_i64 (n := p - v.2.1) (by omega) (by omega)
          refine ⟨x, .step ?_ h1, ?_⟩
          · simp only [chanceryref2_Where_l2188, hg, decide_true, cond_true, hix, Option.bind_some, k1, k0, hlt, decide_false, cond_false, w1, w2, w3]
            rfl
          · have e : wh (v :: r) p = (wh r (p - v.2.1)).map (· + v.2.1) := by simp only [wh]; rw [if_neg k1, if_pos k0, if_neg hlt]
            rw [e]
            cases x with
            | inl z =>
              simp only [whEnd] at h2 ⊢
              refine ⟨by rw [h2.1]; simp only [Option.map_some]; congr 1; omega, h2.2⟩
            | inr z =>
              simp only [whEnd] at h2 ⊢
              rcases h2 with ⟨h2, h3⟩ | ⟨h2, h3⟩
              · exact .inl ⟨h2, by rw [h3]; rfl⟩
              · exact .inr ⟨h2, by rw [h3]; simp only [Option.map_some]; congr 1; omega⟩
      · by_cases hlt : p < v.2.1
        · refine ⟨.inr (-1, ()), .done ?_, ?_⟩
          · simp only [chanceryref2_Where_l2188, hg, decide_true, cond_true, hix, Option.bind_some, k1, k0, hlt, decide_false, cond_false]
          · have e : wh (v :: r) p = none := by simp only [wh]; rw [if_neg k1, if_neg k0, if_pos hlt]
            rw [e]
            exact .inl ⟨rfl, rfl⟩
        · have hs' : out + asum r ≤ 2147483647 := by rw [if_pos (by omega)] at hs; omega
          obtain ⟨x, h1, h2⟩ := where_loop hl r (i + 1) (p - v.2.1) out hr (by omega) hf.tail (by omega) (by omega) ho hs'
          have w3 := wrap_i64 (n := p - v.2.1) (by omega) (by omega)
          refine ⟨x, .step ?_ h1, ?_⟩
          · simp only [chanceryref2_Where_l2188, hg, decide_true, cond_true, hix, Option.bind_some, k1, k0, hlt, decide_false, cond_false, w1, w3]
          · have e : wh (v :: r) p = wh r (p - v.2.1) := by simp only [wh]; rw [if_neg k1, if_neg k0, if_neg hlt]
            rw [e]
            exact h2

theorem Where_eq {a : Steps} (hl : a.length < 1000000000) (hv : Valid a) {p : Int} (hp : 0 ≤ p) (hp' : p ≤ 8589934592) : chanceryref2_Where a p = some (match wh a p with
    | some q => q
    | none => -1, ()) := by
  obtain ⟨x, h1, h2⟩ := where_loop hl a 0 p 0 rfl (by omega) hv.fine hp hp' (by omega) (by have := hv.2.2; omega)
  have h3 := h1.loop (by omega)
  rw [show ((0 : Nat) : Int) = 0 from rfl] at h3
  simp only [chanceryref2_Where, h3, Option.bind_some]
  cases x with
  | inl z =>
    simp only [whEnd] at h2
    rw [h2.1]
    simp only
    rw [wrap_i64 (by omega) (by omega)]
    congr 2
    omega
  | inr z =>
    simp only [whEnd] at h2
    rcases h2 with ⟨h2, h4⟩ | ⟨h2, h4⟩
    · rw [h4]
      simp only
      rw [← h2]
    · obtain ⟨z, ⟨⟩⟩ := z
      rw [h4]
      simp
end Go.Proofs.YtfbnnjmhlkafiaaDoor
