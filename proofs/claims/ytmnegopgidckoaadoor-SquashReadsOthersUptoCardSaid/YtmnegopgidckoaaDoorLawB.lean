import Derived.Test.YtmnegopgidckoaaDoorLawA
namespace Go.Proofs.YtmnegopgidckoaaDoor
open Go Go.Fe

/-! ### What a test lets through -/
/-- The places below N where f is n. -/
def kth (f : Nat → Nat) (n N : Nat) : List Nat := (List.range N).filter fun k => f k == n
def rk (f : Nat → Nat) (n N : Nat) : Nat := (kth f n N).length
theorem kth_succ (f : Nat → Nat) (n N : Nat) : kth f n (N + 1) = kth f n N ++ if f N = n then [N] else [] := by
  by_cases h : f N = n <;> simp [kth, List.range_succ, List.filter_append, h]
theorem rk_succ (f : Nat → Nat) (n N : Nat) : rk f n (N + 1) = rk f n N + if f N = n then 1 else 0 := by
  unfold rk
  rw [kth_succ]
  by_cases h : f N = n <;> simp [h]
theorem rk_le (f : Nat → Nat) (n : Nat) : ∀ N, rk f n N ≤ N
  | 0 => by simp [rk, kth]
  | N + 1 => by
    have := rk_le f n N
    rw [rk_succ]
    split <;> omega
theorem rk_mono (f : Nat → Nat) (n : Nat) {N M : Nat} (h : N ≤ M) : rk f n N ≤ rk f n M := by
  induction h with
  | refl => exact Nat.le_refl _
  | step _ ih => rw [rk_succ]; omega
theorem kth_get (f : Nat → Nat) (n : Nat) : ∀ (N i k : Nat), (kth f n N)[i]? = some k ↔ k < N ∧ f k = n ∧ rk f n k = i
  | 0, i, k => by simp [kth]
  | N + 1, i, k => by
    have ih := kth_get f n N i k
    have hl : (kth f n N).length = rk f n N := rfl
    rw [kth_succ, List.getElem?_append, hl]
    by_cases hi : i < rk f n N
    · rw [if_pos hi, ih]
      constructor
      · rintro ⟨h1, h2, h3⟩
        exact ⟨by omega, h2, h3⟩
      · rintro ⟨h1, h2, h3⟩
        refine ⟨?_, h2, h3⟩
        by_cases e : k = N
        · subst e; omega
        · omega
    · rw [if_neg hi]
      by_cases hf : f N = n
      · rw [if_pos hf, List.getElem?_singleton]
        by_cases e : i - rk f n N = 0
        · rw [if_pos e]
          constructor
          · intro h
            have := Option.some.inj h
            subst this
            exact ⟨by omega, hf, by omega⟩
          · rintro ⟨h1, h2, h3⟩
            have : ¬ k < N := fun hk => by
              have := ih.2 ⟨hk, h2, h3⟩
              have := (List.getElem?_eq_some_iff.1 this).1
              omega
            congr 1
            omega
        · rw [if_neg e]
          constructor
          · intro h; cases h
          · rintro ⟨h1, h2, h3⟩
            have := rk_mono f n (show k ≤ N by omega)
            omega
      · rw [if_neg hf]
        constructor
        · intro h; simp at h
        · rintro ⟨h1, h2, h3⟩
          have hk : k < N := by
            by_cases e : k = N
            · subst e; exact absurd h2 hf
            · omega
          have := (List.getElem?_eq_some_iff.1 (ih.2 ⟨hk, h2, h3⟩)).1
          omega

section
variable (f : Nat → Nat) (N : Nat)
/-- How many codes have length n. -/
def cn (n : Nat) : Nat := if n = 0 then 0 else rk f n N
/-- The first code of a length. -/
def st : Nat → Nat
  | 0 => 0
  | n + 1 => 2 * (st n + cn f N n)
/-- How many codes are shorter. -/
def off : Nat → Nat
  | 0 => 0
  | n + 1 => off n + cn f N n
/-- The symbols with codes of up to n bits. -/
def lst : Nat → List Nat
  | 0 => []
  | n + 1 => lst n ++ kth f (n + 1) N
/-- The space that the codes of up to n bits take. -/
def sp : Nat → Nat
  | 0 => 0
  | n + 1 => sp n + cn f N (n + 1) * 2 ^ (15 - (n + 1))

theorem cn_le (n : Nat) : cn f N n ≤ N := by
  unfold cn
  split
  · omega
  · exact rk_le f n N
theorem cn_pos {n : Nat} (h : n ≠ 0) : cn f N n = rk f n N := if_neg h
theorem st_le (n : Nat) : st f N n + 2 * N ≤ 2 * N * 2 ^ n := by
  induction n with
  | zero => simp [st]
  | succ n ih =>
    have := cn_le f N n
    rw [st, Nat.pow_succ, ← Nat.mul_assoc]
    omega
theorem lst_len : ∀ n, (lst f N n).length = off f N (n + 1)
  | 0 => by simp [lst, off, cn]
  | n + 1 => by
    rw [lst, List.length_append, lst_len n]
    show _ = off f N (n + 1) + cn f N (n + 1)
    rw [cn_pos f N (by omega)]
    rfl
theorem off_le (n : Nat) : off f N n ≤ n * N := by
  induction n with
  | zero => simp [off]
  | succ n ih =>
    have := cn_le f N n
    rw [off, Nat.succ_mul]
    omega
theorem sp_eq : ∀ n, n ≤ 15 → sp f N n = (st f N n + cn f N n) * 2 ^ (15 - n)
  | 0, _ => by simp [sp, st, cn]
  | n + 1, h => by
    have ih := sp_eq n (by omega)
    have e : 15 - n = 15 - (n + 1) + 1 := by omega
    rw [sp, ih, st, e, Nat.pow_succ, Nat.add_mul _ (cn f N (n + 1))]
    congr 1
    rw [Nat.mul_comm (2 ^ _) 2, ← Nat.mul_assoc, Nat.mul_comm _ 2]
theorem sp_mono {n m : Nat} (h : n ≤ m) : sp f N n ≤ sp f N m := by
  induction h with
  | refl => exact Nat.le_refl _
  | step _ ih => rw [sp]; omega
theorem kraft (h : sp f N 15 ≤ 32768) {n : Nat} (hn : n ≤ 15) : st f N n + cn f N n ≤ 2 ^ n := by
  have h1 := sp_eq f N n hn
  have h2 := sp_mono f N hn
  have h3 : (32768 : Nat) = 2 ^ n * 2 ^ (15 - n) := by rw [← Nat.pow_add, show n + (15 - n) = 15 by omega]
  have hp : 0 < 2 ^ (15 - n) := Nat.two_pow_pos _
  refine Nat.le_of_mul_le_mul_right (c := 2 ^ (15 - n)) ?_ hp
  omega
/-- The lengths as the program has them. -/
def lens : List Int := (List.range N).map fun i => (f i : Int)
theorem lens_len : (lens f N).length = N := by simp [lens]
theorem lens_idx {i : Nat} (h : i < N) : idx (lens f N) (i : Int) = some (f i : Int) := by
  rw [idx_lt (by rw [lens_len]; exact h)]
  simp [lens]
end

theorem shl_one {k : Nat} (h : k ≤ 40) : shl .i64 1 k = ((2 ^ k : Nat) : Int) := by
  have := two_pow_le h
  have : (2 : Nat) ^ 40 = 1099511627776 := rfl
  have e : min k (IntKind.bits .i64) = k := by simp only [IntKind.bits]; omega
  unfold shl
  rw [e, Int.one_mul, show (2 : Int) ^ k = ((2 ^ k : Nat) : Int) by rw [Int.natCast_pow]; rfl]
  generalize 2 ^ k = q at *
  rw [wrap_i64 (by omega) (by omega)]

theorem wrap_nat {n : Nat} (h : n < 9223372036854775808) : IntKind.i64.wrap (n : Int) = (n : Int) := wrap_i64 (by omega) (by omega)
theorem wrap_add {a b : Nat} (h : a + b < 9223372036854775808) : IntKind.i64.wrap ((a : Int) + (b : Int)) = ((a + b : Nat) : Int) := by rw [wrap_i64 (by omega) (by omega)]; omega
theorem wrap_sub {a b : Nat} (h : b ≤ a) (h' : a < 9223372036854775808) : IntKind.i64.wrap ((a : Int) - (b : Int)) = ((a - b : Nat) : Int) := by rw [wrap_i64 (by omega) (by omega)]; omega
theorem wrap_mul2 {a : Nat} (h : a < 4611686018427387000) : IntKind.i64.wrap ((a : Int) * 2) = ((2 * a : Nat) : Int) := by rw [wrap_i64 (by omega) (by omega)]; omega

/-! ### The program's codes: permitted or not -/
theorem codes_inner (f : Nat → Nat) {n : Nat} (hn : 1 ≤ n) (hn' : n ≤ 15) (p : Unit × (Int × (Int × (Int × ((List Int) × Unit))))) (hp : p.2.2.2.1 = (n : Int)) (c0 s0 : Nat) (hc : c0 ≤ 100000000) (hs : s0 ≤ 200000000) :
    ∀ (k i : Nat) (out : List Int), i + k = 272 → out.length = 272 → ∃ out' : List Int, out'.length = 272 ∧
      Halts (squash_codes_l945 (lens f 272) p) k ((), ((c0 + rk f n i : Nat) : Int), ((s0 + rk f n i * 2 ^ (15 - n) : Nat) : Int), (i : Int), out, ())
        ((), ((c0 + rk f n 272 : Nat) : Int), ((s0 + rk f n 272 * 2 ^ (15 - n) : Nat) : Int), out', ())
  | 0, i, out, hi, ho => by
    have : i = 272 := by omega
    subst this
    exact ⟨out, ho, .done (by simp [squash_codes_l945, lens_len])⟩
  | k + 1, i, out, hi, ho => by
    have hlt : i < 272 := by omega
    have c : ((i : Int) < ((lens f 272).length : Int)) := by rw [lens_len]; omega
    have hr := rk_le f n i
    have hp2 := two_pow_le (show 15 - n ≤ 14 by omega)
    have hm : rk f n i * 2 ^ (15 - n) ≤ 272 * 2 ^ 14 := Nat.mul_le_mul (by omega) hp2
    have hq : (2 : Nat) ^ 14 = 16384 := rfl
    have e15 : IntKind.i64.wrap (15 - (n : Int)) = ((15 - n : Nat) : Int) := by rw [wrap_i64 (by omega) (by omega)]; omega
    by_cases e : f i = n
    · have hk := codes_inner f hn hn' p hp c0 s0 hc hs k (i + 1) (out.set i ((c0 + rk f n i : Nat) : Int)) (by omega) (by simpa using ho)
      obtain ⟨out', h1, h2⟩ := hk
      refine ⟨out', h1, .step ?_ h2⟩
      have e' : decide ((f i : Int) = (n : Int)) = true := by simp [e]
      simp only [squash_codes_l945, c, decide_true, cond_true, lens_idx f 272 hlt, Option.bind_some, hp, e', ho, inb_nat hlt, chk_t, e15, shc_nat, shl_one (show 15 - n ≤ 40 by omega), wrap_succ (show c0 + rk f n i < 9223372036854775807 by omega), wrap_succ (show i < 9223372036854775807 by omega), Int.toNat_natCast]
      rw [wrap_add (by omega), rk_succ, if_pos e, Nat.add_mul, Nat.one_mul, Nat.add_assoc, Nat.add_assoc]
    · have hk := codes_inner f hn hn' p hp c0 s0 hc hs k (i + 1) out (by omega) ho
      obtain ⟨out', h1, h2⟩ := hk
      refine ⟨out', h1, .step ?_ h2⟩
      have e' : decide ((f i : Int) = (n : Int)) = false := by simp; omega
      simp only [squash_codes_l945, c, decide_true, cond_true, lens_idx f 272 hlt, Option.bind_some, hp, e', cond_false, wrap_succ (show i < 9223372036854775807 by omega)]
      simp only [rk_succ, if_neg e, Nat.add_zero]

theorem sp_le (f : Nat → Nat) (n : Nat) : sp f 272 n ≤ n * (272 * 2 ^ 15) := by
  induction n with
  | zero => simp [sp]
  | succ n ih =>
    have := cn_le f 272 (n + 1)
    have := two_pow_le (show 15 - (n + 1) ≤ 15 by omega)
    have : cn f 272 (n + 1) * 2 ^ (15 - (n + 1)) ≤ 272 * 2 ^ 15 := Nat.mul_le_mul (by omega) (by omega)
    rw [sp, Nat.succ_mul]
    omega
theorem st_small (f : Nat → Nat) {n : Nat} (h : n ≤ 16) : st f 272 n ≤ 40000000 := by
  have h1 := st_le f 272 n
  have h2 := two_pow_le h
  have h3 : (2 : Nat) ^ 16 = 65536 := rfl
  have h4 : 2 * 272 * 2 ^ n ≤ 2 * 272 * 2 ^ 16 := Nat.mul_le_mul_left _ h2
  omega

theorem codes_outer (f : Nat → Nat) : ∀ (k n : Nat) (out : List Int), n + k = 16 → 1 ≤ n → out.length = 272 → ∃ (out' : List Int), out'.length = 272 ∧
      Halts (squash_codes_l953 (lens f 272)) k ((), ((st f 272 (n - 1) + cn f 272 (n - 1) : Nat) : Int), ((sp f 272 (n - 1) : Nat) : Int), (n : Int), out, ()) ((), ((sp f 272 15 : Nat) : Int), out', ())
  | 0, n, out, hn, h1, ho => by
    have : n = 16 := by omega
    subst this
    exact ⟨out, ho, .done (by simp [squash_codes_l953])⟩
  | k + 1, n, out, hn, h1, ho => by
    have s1 := st_small f (show n - 1 ≤ 16 by omega)
    have s2 := cn_le f 272 (n - 1)
    have s3 := sp_le f (n - 1)
    have s4 : (n - 1) * (272 * 2 ^ 15) ≤ 15 * (272 * 2 ^ 15) := Nat.mul_le_mul_right _ (by omega)
    have s5 := st_small f (show n ≤ 16 by omega)
    obtain ⟨o1, g1, g2⟩ := codes_inner f h1 (show n ≤ 15 by omega) ((), ((st f 272 (n - 1) + cn f 272 (n - 1) : Nat) : Int), ((sp f 272 (n - 1) : Nat) : Int), (n : Int), out, ()) rfl (st f 272 n) (sp f 272 (n - 1)) (by omega) (by omega) 272 0 out (by omega) ho
    obtain ⟨o2, g3, g4⟩ := codes_outer f k (n + 1) o1 (by omega) (by omega) g1
    refine ⟨o2, g3, .step ?_ g4⟩
    have c : ((n : Int) ≤ 15) := by omega
    have e0 : rk f n 0 = 0 := rfl
    have e1 : st f 272 n = 2 * (st f 272 (n - 1) + cn f 272 (n - 1)) := by
      conv => lhs; rw [show n = n - 1 + 1 by omega, st]
    have e2 : sp f 272 n = sp f 272 (n - 1) + rk f n 272 * 2 ^ (15 - n) := by
      conv => lhs; rw [show n = n - 1 + 1 by omega, sp]
      rw [show n - 1 + 1 = n by omega, cn_pos f 272 (by omega)]
    have e3 : cn f 272 n = rk f n 272 := cn_pos f 272 (by omega)
    have := g2.loop (by omega)
    simp only [e0, Nat.add_zero, Nat.zero_mul] at this
    simp only [squash_codes_l953, c, decide_true, cond_true, wrap_mul2 (show st f 272 (n - 1) + cn f 272 (n - 1) < 4611686018427387000 by omega), ← e1]
    rw [show (0 : Int) = ((0 : Nat) : Int) from rfl, this]
    simp only [Option.bind_some, wrap_succ (show n < 9223372036854775807 by omega), Nat.add_sub_cancel, e2, e3]

theorem codes_eq (f : Nat → Nat) : ∃ out : List Int, squash_codes (lens f 272) = some (out, decide (sp f 272 15 ≤ 32768), ()) := by
  obtain ⟨out', _, h⟩ := codes_outer f 15 1 (List.replicate 272 0) (by omega) (by omega) List.length_replicate
  have := h.loop (by omega)
  have e : ((st f 272 (1 - 1) + cn f 272 (1 - 1) : Nat) : Int) = 0 := rfl
  have e' : ((sp f 272 (1 - 1) : Nat) : Int) = 0 := rfl
  rw [e, e'] at this
  refine ⟨out', ?_⟩
  simp only [squash_codes]
  rw [show (272 : Int) = ((272 : Nat) : Int) from rfl, mk_nat (by omega)]
  simp only [Option.bind_some]
  rw [show (1 : Int) = ((1 : Nat) : Int) from rfl, this]
  have d : decide (((sp f 272 15 : Nat) : Int) ≤ 32768) = decide (sp f 272 15 ≤ 32768) := by
    rw [decide_eq_decide]
    omega
  simp only [Option.bind_some, d]

/-! ### The decoder -/
def ints (l : List Nat) : List Int := l.map fun k : Nat => (k : Int)
theorem ints_len (l : List Nat) : (ints l).length = l.length := by simp [ints]
/-- An array of 16, up to n. -/
def arr (g : Nat → Nat) (n : Nat) : List Int := (List.range 16).map fun m => if m < n then (g m : Int) else 0
theorem arr_set (g : Nat → Nat) {n : Nat} (h : n < 16) : (arr g n).set n (g n : Int) = arr g (n + 1) := by
  apply List.ext_getElem
  · simp [arr]
  · intro i h1 h2
    rw [List.getElem_set]
    simp only [arr, List.getElem_map, List.getElem_range]
    by_cases e : n = i
    · subst e; simp
    · rw [if_neg e]
      by_cases g : i < n
      · rw [if_pos g, if_pos (by omega)]
      · rw [if_neg g, if_neg (by omega)]
theorem arr_get (g : Nat → Nat) {i n : Nat} (h : i < n) (h' : i < 16) : (arr g n).getD i 0 = (g i : Int) := by
  simp [arr, List.getD, h, h']

theorem dec_inner (f : Nat → Nat) {n : Nat} (A B : List Int) (l0 : List Nat) (hl : l0.length ≤ 100000) (c0 : Nat) (hc : c0 ≤ 100000000) (p : (Unit × (Int × (Int × (((List Int) × ((List Int) × (Unit × Unit))) × ((List Int) × Unit)))))) (hp : p.2.2.1 = (n : Int)) :
    loop (squash_newDecoder_l1099 (lens f 272) p) ((), (c0 : Int), 0, (A, (B, ((), ()))), ints l0, ()) = some ((), ((c0 + rk f n 272 : Nat) : Int), (A, (B, ((), ()))), ints (l0 ++ kth f n 272), ()) := by
  have := Halts.along (f := squash_newDecoder_l1099 (lens f 272) p) (n := 0) (r := ((), ((c0 + rk f n 272 : Nat) : Int), (A, (B, ((), ()))), ints (l0 ++ kth f n 272), ()))
    (fun i => ((), ((c0 + rk f n i : Nat) : Int), (i : Int), (A, (B, ((), ()))), ints (l0 ++ kth f n i), ())) 272 ?_ ?_
  · simpa [kth, rk] using this.loop (by omega)
  · intro i hi
    have c : ((i : Int) < ((lens f 272).length : Int)) := by rw [lens_len]; omega
    have hr := rk_le f n i
    by_cases e : f i = n
    · have e' : decide ((f i : Int) = (n : Int)) = true := by simp [e]
      simp only [squash_newDecoder_l1099, c, decide_true, cond_true, lens_idx f 272 hi, Option.bind_some, hp, e']
      have hk : (kth f n i).length = rk f n i := rfl
      rw [cat_ok (by simp [ints]; omega)]
      simp only [Option.bind_some, wrap_succ (show c0 + rk f n i < 9223372036854775807 by omega), wrap_succ (show i < 9223372036854775807 by omega)]
      rw [rk_succ, kth_succ, if_pos e, if_pos e]
      simp [ints, Nat.add_assoc]
    · have e' : decide ((f i : Int) = (n : Int)) = false := by simp; omega
      simp only [squash_newDecoder_l1099, c, decide_true, cond_true, lens_idx f 272 hi, Option.bind_some, hp, e', cond_false, wrap_succ (show i < 9223372036854775807 by omega)]
      rw [rk_succ, kth_succ, if_neg e, if_neg e]
      simp
  · exact .done (by simp [squash_newDecoder_l1099, lens_len])

theorem newDecoder_eq (f : Nat → Nat) : squash_newDecoder (lens f 272) = some ((), (arr (st f 272) 16, (arr (off f 272) 16, ((), ()))), ints (lst f 272 15), ()) := by
  have := Halts.along (f := squash_newDecoder_l1108 (lens f 272)) (n := 0) (r := ((), (arr (st f 272) 16, (arr (off f 272) 16, ((), ()))), ints (lst f 272 15), ()))
    (fun i => ((), ((st f 272 i + cn f 272 i : Nat) : Int), ((i + 1 : Nat) : Int), (arr (st f 272) (i + 1), (arr (off f 272) (i + 1), ((), ()))), ints (lst f 272 i), ())) 15 ?_ ?_
  · simp only [squash_newDecoder]
    have := this.loop (by omega)
    have e1 : arr (st f 272) (0 + 1) = List.replicate 16 0 := rfl
    have e2 : arr (off f 272) (0 + 1) = List.replicate 16 0 := rfl
    have e3 : ((st f 272 0 + cn f 272 0 : Nat) : Int) = 0 := rfl
    have e4 : ((0 + 1 : Nat) : Int) = 1 := rfl
    have e5 : ints (lst f 272 0) = [] := rfl
    simp only [e1, e2, e3, e4, e5] at this
    rw [this]
    rfl
  · intro i hi
    have c : (((i + 1 : Nat) : Int) ≤ 15) := by omega
    have s1 := st_small f (show i ≤ 16 by omega)
    have s2 := cn_le f 272 i
    have s3 := lst_len f 272 i
    have s4 := off_le f 272 (i + 1)
    have s5 := st_small f (show i + 1 ≤ 16 by omega)
    have e1 : st f 272 (i + 1) = 2 * (st f 272 i + cn f 272 i) := rfl
    have e2 : lst f 272 (i + 1) = lst f 272 i ++ kth f (i + 1) 272 := rfl
    have e3 : cn f 272 (i + 1) = rk f (i + 1) 272 := cn_pos f 272 (by omega)
    have e4 : ((ints (lst f 272 i)).length : Int) = ((off f 272 (i + 1) : Nat) : Int) := by rw [ints_len, s3]
    have i16 : inb ((i + 1 : Nat) : Int) 16 = true := inb_nat (by omega)
    simp only [squash_newDecoder_l1108, c, decide_true, cond_true, i16, chk_t, Option.bind_some, Int.toNat_natCast, wrap_mul2 (show st f 272 i + cn f 272 i < 4611686018427387000 by omega), ← e1, e4, arr_set _ (show i + 1 < 16 by omega)]
    rw [dec_inner f _ _ _ (by omega) _ (by omega) _ rfl]
    simp only [Option.bind_some, wrap_succ (show i + 1 < 9223372036854775807 by omega), e2, e3]
  · exact .done (by simp [squash_newDecoder_l1108])
end Go.Proofs.YtmnegopgidckoaaDoor
