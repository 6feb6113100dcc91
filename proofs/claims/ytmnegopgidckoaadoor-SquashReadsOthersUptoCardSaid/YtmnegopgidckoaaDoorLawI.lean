import Derived.Test.YtmnegopgidckoaaDoorLawH
namespace Go.Proofs.YtmnegopgidckoaaDoor
open Go Go.Fe

/-! ### Which symbols are in use -/
def upd (g : Nat → Nat) (s : Nat) : Nat → Nat := fun k => if k = s then 1 else g k
theorem lens_upd (g : Nat → Nat) (s : Nat) : (lens g 272).set s 1 = lens (upd g s) 272 := by
  apply List.ext_getElem
  · simp [lens]
  · intro i h1 h2
    rw [List.getElem_set]
    simp only [lens, List.getElem_map, List.getElem_range, upd]
    by_cases e : s = i
    · subst e; simp
    · rw [if_neg e, if_neg (fun h => e h.symm)]
theorem rk_upd (g : Nat → Nat) (s : Nat) (h : g s = 0) : ∀ N, rk (upd g s) 1 N = rk g 1 N + if s < N then 1 else 0
  | 0 => by simp [rk, kth]
  | N + 1 => by
    rw [rk_succ, rk_succ, rk_upd g s h N]
    by_cases e : N = s
    · subst e
      simp [upd, h]
    · have : upd g s N = g N := if_neg e
      rw [this]
      by_cases q : s < N
      · rw [if_pos q, if_pos (show s < N + 1 by omega), Nat.add_right_comm]
      · rw [if_neg q, if_neg (show ¬ s < N + 1 by omega), Nat.add_zero, Nat.add_zero]
theorem exp_sym {l : List Tok} {o : Str} (h : Exp l o) : ∀ t ∈ l, t.1 < 272 := by
  induction h with
  | nil => intro t h; cases h
  | byte c _ hc ih =>
    intro t h
    rcases List.mem_append.1 h with h | h
    · exact ih t h
    · simp only [List.mem_singleton] at h
      subst h
      show c < 272
      omega
  | copy k a b _ h1 h2 _ _ _ ih =>
    intro t h
    rcases List.mem_append.1 h with h | h
    · exact ih t h
    · simp only [List.mem_singleton] at h
      subst h
      exact h2

theorem toks_get {L : List Tok} {i : Nat} (h : i < L.length) (d) : (toks L).getD i d = tokI L[i] := by
  simp [toks, List.getD, h]
theorem lens_get (g : Nat → Nat) {i : Nat} (h : i < 272) : (lens g 272).getD i 0 = (g i : Int) := by
  simp [lens, List.getD, h]

theorem used_loop {L : List Tok} (hs : ∀ t ∈ L, t.1 < 272) (hL : L.length ≤ 60) (r28 : Unit × (Str × ((List (Int × (Int × (Int × (Int × Unit))))) × Unit))) (hr : r28.2.2.1 = toks L) :
    ∃ g : Nat → Nat, (∀ k, g k ≤ 1) ∧ (∀ k, 272 ≤ k → g k = 0) ∧ (∀ t ∈ L, g t.1 = 1) ∧ rk g 1 272 ≤ 60 ∧
      loop (chancerylaw2_SquashReadsOthers_l131 r28) ((), (), 0, (), 0, toks L, List.replicate 272 0, ()) = some ((), (), ((rk g 1 272 : Nat) : Int), toks L, lens g 272, ()) := by
  have key : ∀ (k i : Nat) (g : Nat → Nat), i + k = L.length → (∀ k, g k ≤ 1) → (∀ k, 272 ≤ k → g k = 0) → (∀ j (h : j < L.length), j < i → g L[j].1 = 1) → rk g 1 272 ≤ i →
      ∃ g' : Nat → Nat, (∀ k, g' k ≤ 1) ∧ (∀ k, 272 ≤ k → g' k = 0) ∧ (∀ j (h : j < L.length), g' L[j].1 = 1) ∧ rk g' 1 272 ≤ L.length ∧
      Halts (chancerylaw2_SquashReadsOthers_l131 r28) k ((), (), ((rk g 1 272 : Nat) : Int), (), (i : Int), toks L, lens g 272, ()) ((), (), ((rk g' 1 272 : Nat) : Int), toks L, lens g' 272, ()) := by
    intro k
    induction k with
    | zero =>
      intro i g hi h1 h2 h3 h4
      have : i = L.length := by omega
      subst this
      exact ⟨g, h1, h2, fun j h => h3 j h h, h4, .done (by simp [chancerylaw2_SquashReadsOthers_l131, hr, toks_len])⟩
    | succ k ih =>
      intro i g hi h1 h2 h3 h4
      have hlt : i < L.length := by omega
      have c : ((i : Int) < ((toks L).length : Int)) := by rw [toks_len]; omega
      have hsym := hs L[i] (List.getElem_mem hlt)
      have hin : inb (i : Int) (toks L).length = true := inb_nat (by rw [toks_len]; exact hlt)
      have hin2 : inb ((L[i].1 : Nat) : Int) (lens g 272).length = true := inb_nat (by rw [lens_len]; exact hsym)
      have e1 : (tokI L[i]).1 = ((L[i].1 : Nat) : Int) := rfl
      by_cases g0 : g L[i].1 = 0
      · obtain ⟨g', q1, q2, q3, q4, q5⟩ := ih (i + 1) (upd g L[i].1) (by omega) (fun k => by unfold upd; split <;> simp_all) (fun k hk => by unfold upd; rw [if_neg (by omega)]; exact h2 k hk) (fun j h hj => by
          unfold upd
          split
          · rfl
          · rename_i hne
            refine h3 j h ?_
            have : j ≠ i := fun e => hne (by subst e; rfl)
            omega) (by rw [rk_upd g _ g0]; split <;> omega)
        refine ⟨g', q1, q2, q3, q4, .step ?_ q5⟩
        have d0 : decide (((g L[i].1 : Nat) : Int) = 0) = true := by simp [g0]
        simp only [chancerylaw2_SquashReadsOthers_l131, hr, c, decide_true, cond_true, hin, chk_t, Option.bind_some, Int.toNat_natCast, toks_get hlt, e1, hin2, lens_get g hsym, d0, lens_upd, wrap_succ (show i < 9223372036854775807 by omega), wrap_succ (show rk g 1 272 < 9223372036854775807 by omega)]
        rw [rk_upd g _ g0, if_pos hsym]
      · have g1 : g L[i].1 = 1 := by have := h1 L[i].1; omega
        obtain ⟨g', q1, q2, q3, q4, q5⟩ := ih (i + 1) g (by omega) h1 h2 (fun j h hj => by
          by_cases e : j = i
          · subst e; exact g1
          · exact h3 j h (by omega)) (by omega)
        refine ⟨g', q1, q2, q3, q4, .step ?_ q5⟩
        have d0 : decide (((g L[i].1 : Nat) : Int) = 0) = false := by simp [g1]
        simp only [chancerylaw2_SquashReadsOthers_l131, hr, c, decide_true, cond_true, hin, chk_t, Option.bind_some, Int.toNat_natCast, toks_get hlt, e1, hin2, lens_get g hsym, d0, cond_false, wrap_succ (show i < 9223372036854775807 by omega)]
  have z : lens (fun _ => 0) 272 = List.replicate 272 0 := by
    apply List.ext_getElem
    · rw [lens_len, List.length_replicate]
    · intro i h1 h2
      rw [List.getElem_replicate]
      simp [lens]
  have z2 : rk (fun _ => 0) 1 272 = 0 := by
    have : ∀ N, rk (fun _ => 0) 1 N = 0 := by
      intro N
      induction N with
      | zero => rfl
      | succ N ih => rw [rk_succ, ih]; rfl
    exact this 272
  obtain ⟨g', q1, q2, q3, q4, q5⟩ := key L.length 0 (fun _ => 0) (by omega) (fun _ => by omega) (fun _ _ => rfl) (fun j h hj => by omega) (by omega)
  rw [z2, z] at q5
  refine ⟨g', q1, q2, fun t ht => ?_, by omega, q5.loop (by omega)⟩
  obtain ⟨j, hj, rfl⟩ := List.getElem_of_mem ht
  exact q3 j hj

theorem bits_loop {U : Nat} (hU : U ≤ 60) (T : List (Int × (Int × (Int × (Int × Unit))))) (G : List Int) (r33 : Unit × (Unit × (Int × ((List (Int × (Int × (Int × (Int × Unit))))) × ((List Int) × Unit))))) (hr : r33.2.2.1 = (U : Int)) :
    ∃ n : Nat, 1 ≤ n ∧ n ≤ 6 ∧ U ≤ 2 ^ n ∧ loop (chancerylaw2_SquashReadsOthers_l143 r33) ((), (), 1, T, G, ()) = some ((), (), (n : Int), T, G, ()) := by
  have key : ∀ (k i : Nat), i + k = 6 → 1 ≤ i → ∃ n : Nat, 1 ≤ n ∧ n ≤ 6 ∧ U ≤ 2 ^ n ∧ Halts (chancerylaw2_SquashReadsOthers_l143 r33) k ((), (), (i : Int), T, G, ()) ((), (), (n : Int), T, G, ()) := by
    intro k
    induction k with
    | zero =>
      intro i hi h1
      have : i = 6 := by omega
      subst this
      have q : (2 : Nat) ^ 6 = 64 := rfl
      refine ⟨6, by omega, by omega, by omega, .done ?_⟩
      have c : ¬(((2 ^ 6 : Nat) : Int) < (U : Int)) := by rw [q]; omega
      simp only [chancerylaw2_SquashReadsOthers_l143, shc_nat, Option.bind_some, shl_one (show 6 ≤ 40 by omega), hr, c, decide_false, cond_false]
    | succ k ih =>
      intro i hi h1
      by_cases h : 2 ^ i < U
      · obtain ⟨n, a1, a2, a3, a4⟩ := ih (i + 1) (by omega) (by omega)
        refine ⟨n, a1, a2, a3, .step ?_ a4⟩
        have c : (((2 ^ i : Nat) : Int) < (U : Int)) := by exact_mod_cast h
        simp only [chancerylaw2_SquashReadsOthers_l143, shc_nat, Option.bind_some, shl_one (show i ≤ 40 by omega), hr, c, decide_true, cond_true, wrap_succ (show i < 9223372036854775807 by omega)]
      · refine ⟨i, h1, by omega, by omega, .done ?_⟩
        have c : ¬(((2 ^ i : Nat) : Int) < (U : Int)) := by exact_mod_cast h
        simp only [chancerylaw2_SquashReadsOthers_l143, shc_nat, Option.bind_some, shl_one (show i ≤ 40 by omega), hr, c, decide_false, cond_false]
  obtain ⟨n, a1, a2, a3, a4⟩ := key 5 1 (by omega) (by omega)
  exact ⟨n, a1, a2, a3, a4.loop (by omega)⟩

/-! ### Bits as text -/
theorem bs_get : ∀ (n v j : Nat), j < n → (bs n v)[j]? = some (UInt8.ofNat (48 + v / 2 ^ (n - 1 - j) % 2))
  | 0, v, j, h => by omega
  | n + 1, v, j, h => by
    rw [bs]
    by_cases e : j < n
    · rw [List.getElem?_append_left (by rw [bs_len]; exact e), bs_get n (v / 2) j e, Nat.div_div_eq_div_mul, ← Nat.pow_succ', show (n - 1 - j).succ = n + 1 - 1 - j by omega]
    · have : j = n := by omega
      subst this
      rw [List.getElem?_append_right (by rw [bs_len]; omega), bs_len]
      simp
theorem bs_take {n v j : Nat} (h : j < n) : (bs n v).take (j + 1) = (bs n v).take j ++ [UInt8.ofNat (48 + v / 2 ^ (n - 1 - j) % 2)] := by
  rw [List.take_add_one, bs_get n v j h]
  rfl

theorem put_eq {k n : Nat} (hn : n ≤ 60) (hk : k < 4611686018427387904) {o : Str} (ho : o.length ≤ 1000000) : chancerylaw2_SquashReadsOthers_1 (k : Int) (n : Int) o = some ((), (o ++ bs n k, ()), ()) := by
  have := Halts.along (f := chancerylaw2_SquashReadsOthers_1_l638 (k : Int)) (n := 0) (r := ((), (o ++ bs n k, ()), ()))
    (fun j => ((), (n : Int) - 1 - (j : Int), (o ++ (bs n k).take j, ()), ())) n ?_ ?_
  · have h := this.loop (by omega)
    have e : IntKind.i64.wrap ((n : Int) - 1) = (n : Int) - 1 - ((0 : Nat) : Int) := by rw [wrap_i64 (by omega) (by omega)]; omega
    simp only [chancerylaw2_SquashReadsOthers_1, e]
    rw [List.take_zero, List.append_nil] at h
    rw [h]
    rfl
  · intro j hj
    have e : (n : Int) - 1 - (j : Int) = ((n - 1 - j : Nat) : Int) := by omega
    have c : (0 : Int) ≤ ((n - 1 - j : Nat) : Int) := by omega
    have e2 : IntKind.i64.wrap (((n - 1 - j : Nat) : Int) - 1) = (n : Int) - 1 - ((j + 1 : Nat) : Int) := by rw [wrap_i64 (by omega) (by omega)]; omega
    have e3 : min (n - 1 - j) (IntKind.bits .i64) = n - 1 - j := by simp only [IntKind.bits]; omega
    have hd := Nat.div_le_self k (2 ^ (n - 1 - j))
    have hb : k / 2 ^ (n - 1 - j) % 2 < 2 := Nat.mod_lt _ (by omega)
    simp only [chancerylaw2_SquashReadsOthers_1_l638, e, c, decide_true, cond_true, shc_nat, Option.bind_some, shr_nat, e3]
    rw [band_i64_one (by omega)]
    rw [decimal_bit hb]
    simp only [Option.bind_some]
    rw [cat_ok (by simp [bs_len]; omega), List.append_assoc, ← bs_take hj]
    simp only [Option.bind_some, e2]
  · refine .done ?_
    have c : ¬((0 : Int) ≤ (n : Int) - 1 - (n : Int)) := by omega
    simp only [chancerylaw2_SquashReadsOthers_1_l638, c, decide_false, cond_false]
    rw [List.take_of_length_le (by rw [bs_len]; omega)]
end Go.Proofs.YtmnegopgidckoaaDoor
