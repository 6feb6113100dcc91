import Derived.Test.YtmnegopgidckoaaDoorLawC
namespace Go.Proofs.YtmnegopgidckoaaDoor
open Go Go.Fe

/-! ### Texts of bits -/
/-- The n bits of v. -/
def bs : Nat → Nat → Str
  | 0, _ => []
  | n + 1, v => bs n (v / 2) ++ [UInt8.ofNat (48 + v % 2)]
/-- .. as bytes. -/
def bi : Nat → Nat → List Int
  | 0, _ => []
  | n + 1, v => bi n (v / 2) ++ [((48 + v % 2 : Nat) : Int)]
theorem bs_len : ∀ n v, (bs n v).length = n
  | 0, _ => rfl
  | n + 1, v => by simp [bs, bs_len n]
theorem bi_len : ∀ n v, (bi n v).length = n
  | 0, _ => rfl
  | n + 1, v => by simp [bi, bi_len n]
theorem strBytes_bs : ∀ n v, strBytes (bs n v) = bi n v
  | 0, _ => rfl
  | n + 1, v => by
    have h := strBytes_bs n (v / 2)
    have : (UInt8.ofNat (48 + v % 2)).toNat = 48 + v % 2 := by simp; omega
    simp only [strBytes] at h
    simp [strBytes, bs, bi, h]
    omega
theorem bytesStr_bi : ∀ n v, bytesStr (bi n v) = bs n v
  | 0, _ => rfl
  | n + 1, v => by
    have h := bytesStr_bi n (v / 2)
    simp only [bytesStr] at h
    simp only [bytesStr, bi, bs, List.map_append, h, List.map_cons, List.map_nil, byteOfInt_nat]
theorem bs_inj : ∀ {n v w : Nat}, v < 2 ^ n → w < 2 ^ n → bs n v = bs n w → v = w
  | 0, v, w, hv, hw, _ => by simp at hv hw; omega
  | n + 1, v, w, hv, hw, h => by
    rw [bs, bs] at h
    have h := List.append_inj h (by rw [bs_len, bs_len])
    rw [Nat.pow_succ] at hv hw
    have h1 := bs_inj (n := n) (by omega) (by omega) h.1
    have h2 : (UInt8.ofNat (48 + v % 2)).toNat = (UInt8.ofNat (48 + w % 2)).toNat := by rw [List.cons.inj h.2 |>.1]
    simp at h2
    omega
theorem bs_next (n v b : Nat) (hb : b < 2) : bs n v ++ [UInt8.ofNat (48 + b)] = bs (n + 1) (2 * v + b) := by
  rw [bs, show (2 * v + b) / 2 = v by omega, show (2 * v + b) % 2 = b by omega]
theorem bs_ne {n v : Nat} (h : 1 ≤ n) : bs n v ≠ [] := fun e => by
  have := bs_len n v
  rw [e] at this
  simp at this
  omega

theorem decimal_bit {b : Nat} (hb : b < 2) : chanceryref2_Decimal (b : Int) = some ([UInt8.ofNat (48 + b)], ()) := by
  have e : ∀ m, chanceryref2_Decimal_f (m + 1) (b : Int) = some ([UInt8.ofNat (48 + b)], ()) := fun m => by
    have h1 : ¬((b : Int) ≤ -10) := by omega
    have h2 : ¬((b : Int) < 0) := by omega
    have h3 : ¬(10 ≤ (b : Int)) := by omega
    have e1 : IntKind.u8.wrap (IntKind.i64.wrap (48 + (b : Int))) = ((48 + b : Nat) : Int) := by
      rw [wrap_i64 (by omega) (by omega), wrap_u8i (by omega) (by omega)]
      omega
    simp only [chanceryref2_Decimal_f, chanceryref2_Decimal_s, h1, h2, h3, decide_false, cond_false, e1, bytesStr, List.map_cons, List.map_nil, byteOfInt_nat]
  exact e 1099511627775

theorem getD_mid (l t : List Int) (x : Int) {n : Nat} (h : l.length = n) : (l ++ ([x] ++ t)).getD n 0 = x := by
  subst h
  simp [List.getD]
theorem set_mid (l t : List Int) (x y : Int) {n : Nat} (h : l.length = n) : (l ++ ([x] ++ t)).set n y = l ++ ([y] ++ t) := by
  subst h
  simp

/-- One more. -/
theorem inc_loop (out : List Str) : ∀ (m u : Nat) (t : List Int), m ≤ 100 → u + 1 < 2 ^ m → ∃ (i : Nat) (b : List Int), i < b.length ∧ b.set i 49 = bi m (u + 1) ++ t ∧
    Halts chanceryref2_codesOf_l1221 m ((), (), (m : Int) - 1, out, bi m u ++ t, ()) ((), (), (i : Int), out, b, ())
  | 0, u, t, _, h => by simp at h
  | m + 1, u, t, hm, h => by
    have e0 : (((m + 1 : Nat) : Int) - 1) = (m : Int) := by omega
    have el : bi (m + 1) u ++ t = bi m (u / 2) ++ ([((48 + u % 2 : Nat) : Int)] ++ t) := by rw [bi, List.append_assoc]
    have hl := bi_len m (u / 2)
    have hlt : m < (bi m (u / 2) ++ ([((48 + u % 2 : Nat) : Int)] ++ t)).length := by simp [hl]
    rw [e0, el]
    rcases Nat.mod_two_eq_zero_or_one u with e | e
    · refine ⟨m, bi m (u / 2) ++ ([((48 + u % 2 : Nat) : Int)] ++ t), hlt, ?_, .done ?_⟩
      · rw [set_mid _ _ _ _ hl, bi, show (u + 1) / 2 = u / 2 by omega, show (u + 1) % 2 = 1 by omega, List.append_assoc]
        rfl
      · rw [e] at hlt ⊢
        simp only [chanceryref2_codesOf_l1221, inb_nat hlt, chk_t, Option.bind_some, Int.toNat_natCast, getD_mid _ _ _ hl]
        rfl
    · obtain ⟨i, b, h1, h2, h3⟩ := inc_loop out m (u / 2) (48 :: t) (by omega) (by rw [Nat.pow_succ] at h; omega)
      refine ⟨i, b, h1, ?_, .step ?_ h3⟩
      · rw [h2, bi, show (u + 1) / 2 = u / 2 + 1 by omega, show (u + 1) % 2 = 0 by omega, List.append_assoc]
        rfl
      · have ew : IntKind.i64.wrap ((m : Int) - 1) = (m : Int) - 1 := wrap_i64 (by omega) (by omega)
        rw [e] at hlt ⊢
        simp only [chanceryref2_codesOf_l1221, inb_nat hlt, chk_t, Option.bind_some, Int.toNat_natCast, getD_mid _ _ _ hl, set_mid _ _ _ _ hl, ew]
        rfl

theorem pad_loop (p : Unit × (Str × (Int × (Int × ((List Str) × Unit))))) {n : Nat} (hp : p.2.2.2.1 = (n : Int)) (hn : n ≤ 100) (out : List Str) : ∀ (k m u : Nat), m + k = n →
    Halts (chanceryref2_codesOf_l1240 p) k ((), bs m u, out, ()) ((), bs n (u * 2 ^ k), out, ())
  | 0, m, u, h => by
    have : m = n := by omega
    subst this
    exact .done (by simp [chanceryref2_codesOf_l1240, hp, bs_len])
  | k + 1, m, u, h => by
    have ih := pad_loop p hp hn out k (m + 1) (2 * u) (by omega)
    rw [show u * 2 ^ (k + 1) = 2 * u * 2 ^ k by rw [Nat.pow_succ, Nat.mul_comm 2 u, Nat.mul_assoc, Nat.mul_comm 2 (2 ^ k)]]
    refine .step ?_ ih
    have c : ((bs m u).length : Int) < (n : Int) := by rw [bs_len]; omega
    have hb := bs_next m u 0 (by omega)
    simp only [chanceryref2_codesOf_l1240, hp, c, decide_true, cond_true]
    rw [cat_ok (by rw [bs_len]; simp; omega), show ([48] : Str) = [UInt8.ofNat (48 + 0)] from rfl, hb]
    rfl

section
variable (f : Nat → Nat)
/-- The text of a symbol's code. -/
def code (k : Nat) : Str := bs (f k) (st f 272 (f k) + rk f (f k) k)
/-- The codes of the symbols ahead of (n, i). -/
def codes (n i : Nat) : List Str := (List.range 272).map fun k => if 1 ≤ f k ∧ (f k < n ∨ f k = n ∧ k < i) then code f k else []
theorem codes_len (n i : Nat) : (codes f n i).length = 272 := by simp [codes]
theorem codes_set {n i : Nat} (hi : i < 272) (hn : 1 ≤ n) (h : f i = n) : (codes f n i).set i (code f i) = codes f n (i + 1) := by
  apply List.ext_getElem
  · simp [codes]
  · intro j h1 h2
    rw [List.getElem_set]
    simp only [codes, List.getElem_map, List.getElem_range]
    by_cases e : i = j
    · subst e
      rw [if_pos rfl, if_pos ⟨by omega, .inr ⟨h, by omega⟩⟩]
    · rw [if_neg e]
      by_cases g : 1 ≤ f j ∧ (f j < n ∨ f j = n ∧ j < i)
      · rw [if_pos g, if_pos ⟨g.1, g.2.imp id (fun g => ⟨g.1, by omega⟩)⟩]
      · rw [if_neg g, if_neg (fun g' => g ⟨g'.1, g'.2.imp id (fun g => ⟨g.1, by omega⟩)⟩)]
theorem codes_skip {n i : Nat} (h : f i ≠ n) : codes f n i = codes f n (i + 1) := by
  apply List.ext_getElem
  · simp [codes]
  · intro j h1 h2
    simp only [codes, List.getElem_map, List.getElem_range]
    by_cases g : 1 ≤ f j ∧ (f j < n ∨ f j = n ∧ j < i)
    · rw [if_pos g, if_pos ⟨g.1, g.2.imp id (fun g => ⟨g.1, by omega⟩)⟩]
    · rw [if_neg g, if_neg (fun g' => g ⟨g'.1, g'.2.imp id (fun q => ⟨q.1, by
        have : j ≠ i := fun e => by subst e; exact h q.1
        omega⟩)⟩)]
theorem codes_next (n : Nat) : codes f n 272 = codes f (n + 1) 0 := by
  apply List.ext_getElem
  · simp [codes]
  · intro j h1 h2
    have hj : j < 272 := by simpa [codes] using h1
    simp only [codes, List.getElem_map, List.getElem_range]
    have : (1 ≤ f j ∧ (f j < n ∨ f j = n ∧ j < 272)) ↔ (1 ≤ f j ∧ (f j < n + 1 ∨ f j = n + 1 ∧ j < 0)) := by omega
    simp only [this]

/-- The last code, with the space up to it. -/
def Last (n : Nat) (last : Str) (space : Nat) : Prop := space = 0 ∧ last = [] ∨ ∃ m u, 1 ≤ m ∧ m ≤ n ∧ last = bs m u ∧ (u + 1) * 2 ^ (15 - m) = space
theorem Last.mono {n n' : Nat} (h : n ≤ n') {l : Str} {s : Nat} (hl : Last n l s) : Last n' l s :=
  hl.imp id (fun ⟨m, u, h1, h2, h3⟩ => ⟨m, u, h1, by omega, h3⟩)

/-- The space ahead of (n, i). -/
def spc (n i : Nat) : Nat := (st f 272 n + rk f n i) * 2 ^ (15 - n)
theorem spc_last {n : Nat} (h1 : 1 ≤ n) (h : n ≤ 15) : spc f n 272 = sp f 272 n := by
  rw [spc, sp_eq f 272 n h, cn_pos f 272 (by omega)]
theorem spc_zero {n : Nat} (h : n + 1 ≤ 15) : spc f (n + 1) 0 = sp f 272 n := by
  have e : 15 - n = 15 - (n + 1) + 1 := by omega
  have e2 : rk f (n + 1) 0 = 0 := rfl
  rw [spc, sp_eq f 272 n (by omega), e, Nat.pow_succ, e2, st, Nat.add_zero, Nat.mul_comm 2 (_ + _), Nat.mul_assoc, Nat.mul_comm 2]
theorem spc_mono {n i j : Nat} (h : i ≤ j) : spc f n i ≤ spc f n j := Nat.mul_le_mul_right _ (by have := rk_mono f n h; omega)

theorem codesOf_inner {n : Nat} (hn : 1 ≤ n) (hn' : n ≤ 15) (p : Unit × (Str × (Int × (Int × ((List Str) × Unit))))) (hp : p.2.2.2.1 = (n : Int)) : ∀ (k i : Nat) (last : Str), i + k = 272 → Last n last (spc f n i) → spc f n i ≤ 32768 →
    if sp f 272 n ≤ 32768 then ∃ last', Last n last' (spc f n 272) ∧ Halts (chanceryref2_codesOf_l1254 (lens f 272) p) k ((), last, (spc f n i : Int), (i : Int), codes f n i, ()) (.inl ((), last', (spc f n 272 : Int), codes f n 272, ()))
    else Halts (chanceryref2_codesOf_l1254 (lens f 272) p) k ((), last, (spc f n i : Int), (i : Int), codes f n i, ()) (.inr ((), false, ()))
  | 0, i, last, hi, hL, hs => by
    have : i = 272 := by omega
    subst this
    rw [spc_last f hn hn'] at hs
    rw [if_pos hs]
    exact ⟨last, hL, .done (by simp [chanceryref2_codesOf_l1254, lens_len])⟩
  | k + 1, i, last, hi, hL, hs => by
    have hlt : i < 272 := by omega
    have c : ((i : Int) < ((lens f 272).length : Int)) := by rw [lens_len]; omega
    by_cases e : f i = n
    · have e' : decide ((f i : Int) = (n : Int)) = true := by simp [e]
      have e15 : IntKind.i64.wrap (15 - (n : Int)) = ((15 - n : Nat) : Int) := by rw [wrap_i64 (by omega) (by omega)]; omega
      have hp2 := two_pow_le (show 15 - n ≤ 14 by omega)
      have hq : (2 : Nat) ^ 14 = 16384 := rfl
      have hS : spc f n (i + 1) = spc f n i + 2 ^ (15 - n) := by
        rw [spc, rk_succ, if_pos e, ← Nat.add_assoc, Nat.add_mul _ 1, Nat.one_mul]
        rfl
      have ew : IntKind.i64.wrap ((spc f n i : Int) + ((2 ^ (15 - n) : Nat) : Int)) = ((spc f n (i + 1) : Nat) : Int) := by rw [wrap_add (by omega), hS]
      by_cases g : spc f n (i + 1) ≤ 32768
      · -- one more code
        have key : ∃ r7 : Str, ((cond (!decide (last = []))
  ((chk (decide (last.length ≤ lim))).bind fun _ =>
  (loop chanceryref2_codesOf_l1221 ((), (), IntKind.i64.wrap (((strBytes last).length : Int) - 1), codes f n i, strBytes last, ())).bind fun r5 =>
  (chk (inb r5.2.2.1 r5.2.2.2.2.1.length)).bind fun _ =>
  let v6 : List Int := r5.2.2.2.2.1.set r5.2.2.1.toNat 49
  some ((), bytesStr v6, r5.2.2.2.1, ()))
  (some ((), last, codes f n i, ())) : Option (Unit × (Str × ((List Str) × Unit))))) = some ((), r7, codes f n i, ()) ∧ ∃ m u, m ≤ n ∧ r7 = bs m u ∧ u * 2 ^ (n - m) = st f 272 n + rk f n i := by
          rcases hL with ⟨h1, h2⟩ | ⟨m, u, h1, h2, h3, h4⟩
          · refine ⟨[], ?_, 0, 0, by omega, rfl, ?_⟩
            · rw [h2]; rfl
            · have hp0 : 0 < 2 ^ (15 - n) := Nat.two_pow_pos _
              rw [spc] at h1
              rcases Nat.mul_eq_zero.1 h1 with h | h <;> omega
          · have h15 : (2 : Nat) ^ 15 = 2 ^ m * 2 ^ (15 - m) := by rw [← Nat.pow_add, show m + (15 - m) = 15 by omega]
            have hp0 : 0 < 2 ^ (15 - n) := Nat.two_pow_pos _
            have hp1 : 0 < 2 ^ (15 - m) := Nat.two_pow_pos _
            have hu : u + 1 < 2 ^ m := by
              refine Nat.lt_of_mul_lt_mul_right (a := 2 ^ (15 - m)) ?_
              rw [h4, ← h15]
              have : (2 : Nat) ^ 15 = 32768 := rfl
              omega
            obtain ⟨j, b, g1, g2, g3⟩ := inc_loop (codes f n i) m u [] (by omega) hu
            have := g3.loop (by omega)
            simp only [List.append_nil] at this g2
            refine ⟨bs m (u + 1), ?_, m, u + 1, h2, rfl, ?_⟩
            · have ne : last ≠ [] := by rw [h3]; exact bs_ne h1
              have hw : IntKind.i64.wrap ((m : Int) - 1) = (m : Int) - 1 := wrap_i64 (by omega) (by omega)
              subst h3
              simp only [ne, decide_false, Bool.not_false, cond_true, bs_len, strBytes_bs, bi_len, hw, this, Option.bind_some, show m ≤ lim by unfold lim; omega, decide_true, chk_t, inb_nat g1, Int.toNat_natCast, g2, bytesStr_bi]
            · refine Nat.eq_of_mul_eq_mul_right hp0 ?_
              rw [Nat.mul_assoc, ← Nat.pow_add, show n - m + (15 - n) = 15 - m by omega, h4]
              rfl
        obtain ⟨r7, k1, m, u, k2, k3, k4⟩ := key
        have hpad := (pad_loop p hp (by omega) (codes f n i) (n - m) m u (by omega)).loop (by omega)
        rw [← k3, k4] at hpad
        have hcode : bs n (st f 272 n + rk f n i) = code f i := by rw [code, e]
        rw [hcode] at hpad
        have ih := codesOf_inner hn hn' p hp k (i + 1) (code f i) (by omega) (.inr ⟨n, st f 272 n + rk f n i, hn, by omega, hcode.symm, by
          rw [spc, rk_succ, if_pos e, ← Nat.add_assoc]⟩) g
        have hstep : chanceryref2_codesOf_l1254 (lens f 272) p ((), last, (spc f n i : Int), (i : Int), codes f n i, ()) = some (.inl ((), code f i, (spc f n (i + 1) : Int), ((i + 1 : Nat) : Int), codes f n (i + 1), ())) := by
          have hl : i < (codes f n i).length := by rw [codes_len]; exact hlt
          simp only [chanceryref2_codesOf_l1254, c, decide_true, cond_true, lens_idx f 272 hlt, Option.bind_some, hp, e', Bool.not_true, cond_false, e15, shc_nat, shl_one (show 15 - n ≤ 40 by omega), ew, show ¬(32768 < ((spc f n (i + 1) : Nat) : Int)) by omega, decide_false, k1, hpad, inb_nat hl, chk_t, Int.toNat_natCast, codes_set f hlt hn e, wrap_succ (show i < 9223372036854775807 by omega)]
        split
        · rename_i hc
          rw [if_pos hc] at ih
          obtain ⟨l', q1, q2⟩ := ih
          exact ⟨l', q1, .step hstep q2⟩
        · rename_i hc
          rw [if_neg hc] at ih
          exact .step hstep ih
      · have : ¬ sp f 272 n ≤ 32768 := fun h => g (by
          rw [← spc_last f hn hn'] at h
          have := spc_mono f (n := n) (show i + 1 ≤ 272 by omega)
          omega)
        rw [if_neg this]
        refine .done ?_
        simp only [chanceryref2_codesOf_l1254, c, decide_true, cond_true, lens_idx f 272 hlt, Option.bind_some, hp, e', Bool.not_true, cond_false, e15, shc_nat, shl_one (show 15 - n ≤ 40 by omega), ew, show (32768 < ((spc f n (i + 1) : Nat) : Int)) by omega]
    · have e' : decide ((f i : Int) = (n : Int)) = false := by simp; omega
      have hS : spc f n (i + 1) = spc f n i := by rw [spc, rk_succ, if_neg e]; rfl
      have ih := codesOf_inner hn hn' p hp k (i + 1) last (by omega) (by rw [hS]; exact hL) (by omega)
      have hstep : chanceryref2_codesOf_l1254 (lens f 272) p ((), last, (spc f n i : Int), (i : Int), codes f n i, ()) = some (.inl ((), last, (spc f n (i + 1) : Int), ((i + 1 : Nat) : Int), codes f n (i + 1), ())) := by
        simp only [chanceryref2_codesOf_l1254, c, decide_true, cond_true, lens_idx f 272 hlt, Option.bind_some, hp, e', Bool.not_false, wrap_succ (show i < 9223372036854775807 by omega), hS, codes_skip f e]
      split
      · rename_i hc
        rw [if_pos hc] at ih
        obtain ⟨l', q1, q2⟩ := ih
        exact ⟨l', q1, .step hstep q2⟩
      · rename_i hc
        rw [if_neg hc] at ih
        exact .step hstep ih

theorem codesOf_outer : ∀ (k n : Nat) (last : Str), n + 1 + k = 16 → Last (n + 1) last (sp f 272 n) → sp f 272 n ≤ 32768 →
    Halts (chanceryref2_codesOf_l1261 (lens f 272)) k ((), last, (sp f 272 n : Int), ((n + 1 : Nat) : Int), codes f (n + 1) 0, ()) (if sp f 272 15 ≤ 32768 then .inl ((), codes f 16 0, ()) else .inr ((), false, ()))
  | 0, n, last, hn, hL, hs => by
    have : n = 15 := by omega
    subst this
    rw [if_pos hs]
    exact .done (by simp [chanceryref2_codesOf_l1261])
  | k + 1, n, last, hn, hL, hs => by
    have c : (((n + 1 : Nat) : Int) ≤ 15) := by omega
    have z := spc_zero f (show n + 1 ≤ 15 by omega)
    have hin := codesOf_inner f (show 1 ≤ n + 1 by omega) (show n + 1 ≤ 15 by omega) ((), last, (sp f 272 n : Int), ((n + 1 : Nat) : Int), codes f (n + 1) 0, ()) rfl 272 0 last (by omega) (by rw [z]; exact hL) (by rw [z]; exact hs)
    rw [z] at hin
    rw [spc_last f (by omega) (by omega)] at hin
    by_cases g : sp f 272 (n + 1) ≤ 32768
    · rw [if_pos g] at hin
      obtain ⟨l', q1, q2⟩ := hin
      have q3 := q2.loop (by omega)
      have ih := codesOf_outer k (n + 1) l' (by omega) (q1.mono (by omega)) g
      refine .step ?_ ih
      simp only [chanceryref2_codesOf_l1261, c, decide_true, cond_true]
      rw [show (0 : Int) = ((0 : Nat) : Int) from rfl, q3]
      simp only [Option.bind_some, wrap_succ (show n + 1 < 9223372036854775807 by omega), codes_next]
    · rw [if_neg g] at hin
      have q3 := hin.loop (by omega)
      have : ¬ sp f 272 15 ≤ 32768 := fun h => g (Nat.le_trans (sp_mono f 272 (by omega)) h)
      rw [if_neg this]
      refine .done ?_
      simp only [chanceryref2_codesOf_l1261, c, decide_true, cond_true]
      rw [show (0 : Int) = ((0 : Nat) : Int) from rfl, q3]
      simp only [Option.bind_some]

theorem codes_start : codes f 1 0 = List.replicate 272 [] := by
  apply List.ext_getElem
  · rw [codes_len, List.length_replicate]
  · intro j h1 h2
    simp only [codes, List.getElem_map, List.getElem_range, List.getElem_replicate]
    rw [if_neg (by omega)]

theorem codesOf_eq : chanceryref2_codesOf (lens f 272) = some (if sp f 272 15 ≤ 32768 then (codes f 16 0, true, ()) else ([], false, ())) := by
  have h := (codesOf_outer f 15 0 [] (by omega) (.inl ⟨rfl, rfl⟩) (Nat.zero_le _)).loop (by omega)
  have e : ((sp f 272 0 : Nat) : Int) = 0 := rfl
  rw [e, Nat.zero_add, codes_start] at h
  simp only [chanceryref2_codesOf, lens_len]
  rw [mk_nat (by omega)]
  simp only [Option.bind_some]
  rw [show (1 : Int) = ((1 : Nat) : Int) from rfl, h]
  by_cases g : sp f 272 15 ≤ 32768
  · simp only [if_pos g, Option.bind_some]
  · simp only [if_neg g, Option.bind_some]

/-! ### The search -/
theorem code_is (hk : sp f 272 15 ≤ 32768) (hf : ∀ k, f k ≤ 15) {n v k : Nat} (hn : 1 ≤ n) (hn' : n ≤ 15) (hv : v < 2 ^ n) (hlt : k < 272) : (codes f 16 0)[k]'(by rw [codes_len]; exact hlt) = bs n v ↔ f k = n ∧ st f 272 n + rk f n k = v := by
  have hfk := hf k
  simp only [codes, List.getElem_map, List.getElem_range]
  by_cases h1 : 1 ≤ f k
  · rw [if_pos ⟨h1, .inl (by omega)⟩, code]
    constructor
    · intro h
      have hl : f k = n := by
        have := congrArg List.length h
        rwa [bs_len, bs_len] at this
      refine ⟨hl, ?_⟩
      rw [hl] at h
      have hr : rk f n k < cn f 272 n := by
        have h2 := rk_succ f n k
        rw [if_pos hl] at h2
        have h3 := rk_mono f n (show k + 1 ≤ 272 by omega)
        rw [cn_pos f 272 (by omega)]
        omega
      have := kraft f 272 hk hn'
      exact bs_inj (by omega) hv h
    · rintro ⟨h2, h3⟩
      rw [h2, h3]
  · rw [if_neg (fun h => h1 h.1)]
    constructor
    · intro h
      exact absurd h.symm (bs_ne hn)
    · rintro ⟨h2, _⟩
      omega

theorem search (hk : sp f 272 15 ≤ 32768) (hf : ∀ k, f k ≤ 15) {n v : Nat} (hn : 1 ≤ n) (hn' : n ≤ 15) (hv : v < 2 ^ n) (q : Bool × Unit) :
    loop (chanceryref2_Unsquash_l479 (codes f 16 0, q) (bs n v)) (-1, 0, ()) = some (if st f 272 n ≤ v ∧ v < st f 272 n + cn f 272 n then (((kth f n 272).getD (v - st f 272 n) 0 : Nat) : Int) else -1, ()) := by
  have h16 : (codes f 16 0).length = 272 := codes_len f 16 0
  by_cases hit : st f 272 n ≤ v ∧ v < st f 272 n + cn f 272 n
  · have hl : v - st f 272 n < (kth f n 272).length := by
      have : (kth f n 272).length = cn f 272 n := by rw [cn_pos f 272 (by omega)]; rfl
      omega
    obtain ⟨k0, hk0⟩ : ∃ k0, (kth f n 272)[v - st f 272 n]? = some k0 := ⟨_, List.getElem?_eq_getElem hl⟩
    obtain ⟨g1, g2, g3⟩ := (kth_get f n 272 _ _).1 hk0
    rw [if_pos hit]
    have hg : (kth f n 272).getD (v - st f 272 n) 0 = k0 := by simp [List.getD, hk0]
    rw [hg]
    have := Halts.along (f := chanceryref2_Unsquash_l479 (codes f 16 0, q) (bs n v)) (n := 0) (r := ((k0 : Int), ())) (fun i => (if k0 < i then (k0 : Int) else -1, (i : Int), ())) 272 ?_ ?_
    · simpa using this.loop (by omega)
    · intro i hi
      have c : ((i : Int) < ((codes f 16 0).length : Int)) := by rw [h16]; omega
      have hci := code_is f hk hf hn hn' hv hi
      simp only [chanceryref2_Unsquash_l479, c, decide_true, cond_true]
      rw [idx_lt (by rw [h16]; exact hi)]
      simp only [Option.bind_some, hci, wrap_succ (show i < 9223372036854775807 by omega)]
      by_cases e : f i = n ∧ st f 272 n + rk f n i = v
      · have : i = k0 := by
          have := (kth_get f n 272 _ _).2 ⟨hi, e.1, show rk f n i = v - st f 272 n by omega⟩
          rw [hk0] at this
          exact (Option.some.inj this).symm
        subst this
        simp [e]
      · have : i ≠ k0 := fun h => e (by subst h; exact ⟨g2, by omega⟩)
        simp only [e, decide_false, cond_false, Option.bind_some]
        by_cases g : k0 < i
        · rw [if_pos g, if_pos (by omega)]
        · rw [if_neg g, if_neg (by omega)]
    · refine .done ?_
      rw [if_pos (by omega)]
      simp [chanceryref2_Unsquash_l479, h16]
  · rw [if_neg hit]
    have := Halts.along (f := chanceryref2_Unsquash_l479 (codes f 16 0, q) (bs n v)) (n := 0) (r := (-1, ())) (fun i => (-1, (i : Int), ())) 272 ?_ ?_
    · simpa using this.loop (by omega)
    · intro i hi
      have c : ((i : Int) < ((codes f 16 0).length : Int)) := by rw [h16]; omega
      have hci := code_is f hk hf hn hn' hv hi
      simp only [chanceryref2_Unsquash_l479, c, decide_true, cond_true]
      rw [idx_lt (by rw [h16]; exact hi)]
      simp only [Option.bind_some, hci, wrap_succ (show i < 9223372036854775807 by omega)]
      have e : ¬(f i = n ∧ st f 272 n + rk f n i = v) := fun h => hit ⟨by omega, by
        have h2 := rk_succ f n i
        rw [if_pos h.1] at h2
        have h3 := rk_mono f n (show i + 1 ≤ 272 by omega)
        rw [cn_pos f 272 (by omega)]
        omega⟩
      simp only [e, decide_false, cond_false, Option.bind_some]
    · exact .done (by simp [chanceryref2_Unsquash_l479, h16])
end

/-! ### Reading a symbol -/
def decOutR : Dec → ((Int × (Int × Unit)) ⊕ (Str × (Int × Unit)))
  | .form => .inr ([], 4, ())
  | .short => .inr ([], 11, ())
  | .sym k b => .inl ((b : Int), (k : Int), ())
/-- What the loop says where no code is found. -/
def decOutR' (a : Nat) : Dec → ((Int × (Int × Unit)) ⊕ (Str × (Int × Unit)))
  | .form => .inl (((a + 15 : Nat) : Int), -1, ())
  | .short => .inr ([], 11, ())
  | .sym k b => .inl ((b : Int), (k : Int), ())

theorem read_loop (s : Str) (hs : s.length ≤ 2000000) (a : Nat) (f : Nat → Nat) (hk : sp f 272 15 ≤ 32768) (hf : ∀ k, f k ≤ 15) (q : Bool × Unit) : ∀ (m n : Nat), n + m = 15 → a + n ≤ 8 * s.length →
    Halts (chanceryref2_Unsquash_l487 (bitsL s (8 * s.length), ()) (codes f 16 0, q)) (m + 1) (((a + n : Nat) : Int), -1, bs n (valAt s a n), ()) (decOutR' a (dec s a f m n))
  | 0, n, hn, _ => by
    have : n = 15 := by omega
    subst this
    exact .done (by simp [chanceryref2_Unsquash_l487, dec, decOutR', bs_len])
  | m + 1, n, hn, ha => by
    have c : ((n : Int) < 15) := by omega
    rw [dec]
    by_cases g : a + n < 8 * s.length
    · rw [if_pos g]
      have hb := bitAt_lt s (a + n)
      have hv := valAt_lt s a (n + 1)
      have e1 : ¬(((a + n : Nat) : Int) = ((bitsL s (8 * s.length)).length : Int)) := by rw [bitsL_len]; omega
      have e2 : idx (bitsL s (8 * s.length)) ((a + n : Nat) : Int) = some ((bitAt s (a + n) : Nat) : Int) := by
        rw [idx_lt (by rw [bitsL_len]; exact g)]
        simp [bitsL]
      have hsr := search f hk hf (show 1 ≤ n + 1 by omega) (show n + 1 ≤ 15 by omega) hv q
      have hstep : chanceryref2_Unsquash_l487 (bitsL s (8 * s.length), ()) (codes f 16 0, q) (((a + n : Nat) : Int), -1, bs n (valAt s a n), ()) =
          some (.inl (((a + n + 1 : Nat) : Int), (if st f 272 (n + 1) ≤ valAt s a (n + 1) ∧ valAt s a (n + 1) < st f 272 (n + 1) + cn f 272 (n + 1) then (((kth f (n + 1) 272).getD (valAt s a (n + 1) - st f 272 (n + 1)) 0 : Nat) : Int) else -1), bs (n + 1) (valAt s a (n + 1)), ())) := by
        simp only [chanceryref2_Unsquash_l487, show ((-1 : Int) < 0) by omega, decide_true, cond_true, bs_len, c, Option.bind_some, e1, decide_false, cond_false, e2, decimal_bit hb]
        rw [cat_ok (by rw [bs_len]; simp; omega), bs_next n _ _ hb]
        have e3 : 2 * valAt s a n + bitAt s (a + n) = valAt s a (n + 1) := rfl
        simp only [Option.bind_some, e3, hsr, wrap_succ (show a + n < 9223372036854775807 by omega)]
      by_cases hit : st f 272 (n + 1) ≤ valAt s a (n + 1) ∧ valAt s a (n + 1) < st f 272 (n + 1) + cn f 272 (n + 1)
      · rw [if_pos hit] at hstep ⊢
        refine .step hstep (.done ?_)
        have : ¬((((kth f (n + 1) 272).getD (valAt s a (n + 1) - st f 272 (n + 1)) 0 : Nat) : Int) < 0) := by omega
        simp only [chanceryref2_Unsquash_l487, this, decide_false, cond_false, Option.bind_some, decOutR']
      · rw [if_neg hit] at hstep ⊢
        exact .step hstep (read_loop s hs a f hk hf q m (n + 1) (by omega) (by omega))
    · rw [if_neg g]
      have e : a + n = 8 * s.length := by omega
      have e1 : (((a + n : Nat) : Int) = ((bitsL s (8 * s.length)).length : Int)) := by rw [bitsL_len, e]
      refine .done ?_
      simp only [chanceryref2_Unsquash_l487, show ((-1 : Int) < 0) by omega, decide_true, cond_true, bs_len, c, Option.bind_some, e1, decOutR']
end Go.Proofs.YtmnegopgidckoaaDoor
