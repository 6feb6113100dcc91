/- The reference's character is the library's. (Turned from wip/values.) -/
import Derived.Test.YtkjkjebmkmkgfaaDoorFun
import Derived.Test.YtkjkjebmkmkgfaaDoorFeRun
import Derived.Lib.DecodeN
namespace Go.Proofs.YtkjkjebmkmkgfaaDoor
open Go Go.Fe

/-! ### The first character of a text -/
theorem bytes_cases (p : Nat → Bool) (h : ((List.range 256).all p) = true) : ∀ b, b < 256 → p b = true := by
  intro b hb
  exact List.all_eq_true.1 h b (List.mem_range.2 hb)
theorem band_31 {b : Nat} (h : b < 256) : band .i64 (b : Int) 31 = ((b % 32 : Nat) : Int) := by
  have := bytes_cases (fun b => decide (band .i64 (b : Int) 31 = ((b % 32 : Nat) : Int))) (by kernel_rfl) b h
  simpa using this
theorem band_15 {b : Nat} (h : b < 256) : band .i64 (b : Int) 15 = ((b % 16 : Nat) : Int) := by
  have := bytes_cases (fun b => decide (band .i64 (b : Int) 15 = ((b % 16 : Nat) : Int))) (by kernel_rfl) b h
  simpa using this
theorem band_7 {b : Nat} (h : b < 256) : band .i64 (b : Int) 7 = ((b % 8 : Nat) : Int) := by
  have := bytes_cases (fun b => decide (band .i64 (b : Int) 7 = ((b % 8 : Nat) : Int))) (by kernel_rfl) b h
  simpa using this
theorem band_63 {b : Nat} (h : b < 256) : band .u8 (b : Int) 63 = ((b % 64 : Nat) : Int) := by
  have := bytes_cases (fun b => decide (band .u8 (b : Int) 63 = ((b % 64 : Nat) : Int))) (by kernel_rfl) b h
  simpa using this
theorem band_192 {b : Nat} (h : b < 256) : (band .u8 (b : Int) 192 = 128) ↔ b / 64 = 2 := by
  have := bytes_cases (fun b => decide (band .u8 (b : Int) 192 = 128) == decide (b / 64 = 2)) (by kernel_rfl) b h
  simpa using this
theorem bor_shl {a b : Nat} (ha : a < 100000000) (hb : b < 64) : bor .i64 (shl .i64 (a : Int) 6) (b : Int) = ((a * 64 + b : Nat) : Int) := by
  unfold shl
  have e : (a : Int) * 2 ^ (min 6 (IntKind.bits .i64)) = ((2 ^ 6 * a : Nat) : Int) := by
    have : min 6 (IntKind.bits .i64) = 6 := by decide
    rw [this]; push_cast; omega
  rw [e, wrap_i64 (by omega) (by omega)]
  unfold bor
  rw [BitVec.ofInt_natCast, BitVec.ofInt_natCast, BitVec.toNat_or]
  simp only [IntKind.bits, BitVec.toNat_ofNat]
  rw [Nat.mod_eq_of_lt (by omega), Nat.mod_eq_of_lt (by omega), Nat.two_pow_add_eq_or_of_lt (i := 6) hb a |>.symm, wrap_i64 (by omega) (by omega)]
  congr 1; omega

/-- The byte at a place, or 0. -/
def at0 (s : Str) (i : Nat) : Nat := (s.getD i 0).toNat
theorem at0_lt (s : Str) (i : Nat) : at0 s i < 256 := UInt8.toNat_lt _
theorem idx_at0 {s : Str} {i : Nat} (h : i < s.length) : ∃ c, idx s (i : Int) = some c ∧ ofByte c = (at0 s i : Int) :=
  ⟨s[i], idx_lt h, by unfold at0; rw [ofByte_eq, List.getD_eq_getElem?_getD, List.getElem?_eq_getElem h]; rfl⟩
theorem runeOf_eq {s : Str} (h : s ≠ []) : runeOf s = Lib.decodeN s.length (at0 s 0) (at0 s 1) (at0 s 2) (at0 s 3) := by
  have hz : (⟨s.toArray⟩ : ByteArray).size ≠ 0 := fun e => h (List.eq_nil_of_length_eq_zero e)
  have g : ∀ i, (ByteArray.get! ⟨s.toArray⟩ i).toNat = at0 s i := fun i => by
    unfold at0 ByteArray.get!
    simp only [List.getElem!_toArray]
    rw [List.getD_eq_getElem?_getD]
    simp
    cases s[i]? <;> rfl
  unfold runeOf Lib.decodeGo
  rw [if_neg hz, Lib.decode_at]
  simp only [g, Nat.zero_add, Nat.sub_zero]
  rfl
/-- What the reference's Rune says: the length is 0 where the text isn't right. -/
def runeR (s : Str) : Nat × Nat := if runeOf s = (65533, 1) then (0, 0) else runeOf s
theorem rune_step {s : Str} {z : Int × (Int × (Int × Unit))} {c i n : Nat} (hz : z.2.1 = (n : Int)) (hi : i < n) (hn : n ≤ s.length) (h4 : n ≤ 4) (hc : c < 100000000) :
    chanceryref2_Rune_l1 z s ((c : Int), (i : Int), ()) = some (if at0 s i / 64 = 2 then .inl (((c * 64 + at0 s i % 64 : Nat) : Int), ((i + 1 : Nat) : Int), ()) else .inr (.inr (0, 0, ()))) := by
  obtain ⟨b, hb, hb'⟩ := idx_at0 (s := s) (i := i) (by omega)
  unfold chanceryref2_Rune_l1
  simp only [hz]
  rw [decide_eq_true (by omega : (i : Int) < (n : Int)), cond_true, hb, Option.bind_some, hb']
  by_cases h : at0 s i / 64 = 2
  · rw [decide_eq_true ((band_192 (at0_lt s i)).2 h), Bool.not_true, cond_false, if_pos h, show shc 6 = some 6 from shc_nat 6, Option.bind_some, Option.bind_some, hb', band_63 (at0_lt s i)]
    rw [wrap_i64 (by omega) (by omega), bor_shl hc (by omega), wrap_i64 (by omega) (by omega)]
    rfl
  · rw [decide_eq_false (fun e => h ((band_192 (at0_lt s i)).1 e)), Bool.not_false, cond_true, if_neg h]
theorem rune_end {s : Str} {z : Int × (Int × (Int × Unit))} {c n : Nat} (hz : z.2.1 = (n : Int)) :
    chanceryref2_Rune_l1 z s ((c : Int), (n : Int), ()) = some (.inr (.inl ((c : Int), ()))) := by
  unfold chanceryref2_Rune_l1
  simp only [hz]
  rw [decide_eq_false (by omega : ¬ (n : Int) < (n : Int)), cond_false]
/-- Further bytes are as they have to be. -/
def more (s : Str) : Nat → Nat → Bool
  | 0, _ => true
  | k + 1, i => decide (at0 s i / 64 = 2) && more s k (i + 1)
def moreC (s : Str) : Nat → Nat → Nat → Nat
  | 0, _, c => c
  | k + 1, i, c => moreC s k (i + 1) (c * 64 + at0 s i % 64)
theorem rune_halts {s : Str} {z : Int × (Int × (Int × Unit))} {n : Nat} (hz : z.2.1 = (n : Int)) (hn : n ≤ s.length) (h4 : n ≤ 4) : ∀ (k c i : Nat), i + k = n → c < 64 ^ i →
    Halts (chanceryref2_Rune_l1 z s) (k + 1) ((c : Int), (i : Int), ()) (bif more s k i then .inl ((moreC s k i c : Nat), ()) else .inr (0, 0, ()))
  | 0, c, i, hk, hc => by
    have : i = n := by omega
    subst this
    exact Halts.done (rune_end hz)
  | k + 1, c, i, hk, hc => by
    have hc8 : c < 100000000 := by
      have : i ≤ 3 := by omega
      have : 64 ^ i ≤ 64 ^ 3 := Nat.pow_le_pow_right (by omega) (by omega)
      have : (64 : Nat) ^ 3 = 262144 := rfl
      omega
    have hs := rune_step hz (i := i) (c := c) (by omega) hn h4 hc8
    by_cases h : at0 s i / 64 = 2
    · rw [if_pos h] at hs
      refine Halts.step hs ?_
      have ih := rune_halts hz hn h4 k (c * 64 + at0 s i % 64) (i + 1) (by omega) (by
        rw [Nat.pow_succ]; omega)
      simp only [more, moreC, h, decide_true, Bool.true_and]
      exact ih
    · rw [if_neg h] at hs
      simp only [more, h, decide_false, Bool.false_and, cond_false]
      exact Halts.done hs
theorem Rune_eq {s : Str} (h : s ≠ []) : chanceryref2_Rune s = some (((runeR s).1 : Int), ((runeR s).2 : Int), ()) := by
  obtain ⟨b, hb, hb'⟩ := idx_at0 (s := s) (i := 0) (List.length_pos_iff.2 h)
  have h0 := at0_lt s 0
  have h1 := at0_lt s 1
  have h2 := at0_lt s 2
  have h3 := at0_lt s 3
  have hl : 0 < s.length := List.length_pos_iff.2 h
  unfold chanceryref2_Rune runeR
  rw [runeOf_eq h]
  rw [show (0 : Int) = ((0 : Nat) : Int) from rfl, hb, Option.bind_some, hb']
  rw [wrap_i64 (by omega) (by omega), band_31 h0, band_15 h0, band_7 h0]
  have key : ∀ (z : Int × (Int × (Int × Unit))) (n c : Nat), z.1 = (c : Int) → z.2.1 = (n : Int) → n ≤ s.length → n ≤ 4 → 1 ≤ n → c < 64 →
      loop (chanceryref2_Rune_l1 z s) (z.1, 1, ()) = some (bif more s (n - 1) 1 then .inl ((moreC s (n - 1) 1 c : Nat), ()) else .inr (0, 0, ())) := by
    intro z n c hz1 hz hn h4 hn1 hc
    rw [hz1]
    exact (rune_halts hz hn h4 (n - 1) c 1 (by omega) (by omega)).loop (by omega)
  by_cases a1 : at0 s 0 < 128
  · have e : Lib.decodeN s.length (at0 s 0) (at0 s 1) (at0 s 2) (at0 s 3) = (at0 s 0, 1) := if_pos a1
    rw [e, decide_eq_true (by omega : ((at0 s 0 : Nat) : Int) < 128), cond_true, Option.bind_some, if_neg (by simp; omega)]
    rfl
  rw [decide_eq_false (by omega : ¬ ((at0 s 0 : Nat) : Int) < 128), cond_false]
  have n1 : ∀ {x y : Nat × Nat}, y.2 ≠ 1 → (if y = (65533, 1) then x else y) = y := fun {x y} hy => if_neg (fun e => hy (by rw [e]))
  have n0 : ∀ {x y : Nat × Nat}, y = (65533, 1) → (if y = (65533, 1) then x else y) = x := fun {x y} hy => if_pos hy
  have tail : ∀ (n c low : Nat), n ≤ 4 → 1 ≤ n → c < 64 →
      (cond (decide ((s.length : Int) < ((n : Nat) : Int))) (some ((0 : Int), (0 : Int), ())) ((loop (chanceryref2_Rune_l1 (((c : Nat) : Int), ((n : Nat) : Int), ((low : Nat) : Int), ()) s) (((c : Nat) : Int), 1, ())).bind fun r14 =>
        (match r14 with
        | .inl z15 => ((cond (decide (z15.1 < ((low : Nat) : Int)))
          (some (true, ()))
          (cond (decide (55296 ≤ z15.1))
          (cond (((decide (z15.1 < 57344))))
          (some (true, ()))
          (some ((decide (1114111 < z15.1)), ())))
          (cond (false)
          (some (true, ()))
          (some ((decide (1114111 < z15.1)), ())))) : Option (Bool × Unit)).bind fun r16 =>
          cond r16.1
          (some (0, 0, ()))
          (some (z15.1, ((n : Nat) : Int), ())))
        | .inr z17 => (some z17)))) =
      some (if n ≤ s.length ∧ more s (n - 1) 1 = true ∧ low ≤ moreC s (n - 1) 1 c ∧ (moreC s (n - 1) 1 c < 55296 ∨ 57344 ≤ moreC s (n - 1) 1 c ∧ moreC s (n - 1) 1 c ≤ 1114111)
        then (((moreC s (n - 1) 1 c : Nat) : Int), ((n : Nat) : Int), ()) else (0, 0, ())) := by
    intro n c low h4 hn1 hc
    by_cases hl2 : s.length < n
    · rw [decide_eq_true (by omega), cond_true, if_neg (by omega)]
    rw [decide_eq_false (by omega), cond_false]
    have k := key (((c : Nat) : Int), ((n : Nat) : Int), ((low : Nat) : Int), ()) n c rfl rfl (by omega) h4 hn1 hc
    simp only at k
    rw [k, Option.bind_some]
    cases hm : more s (n - 1) 1
    · rw [cond_false, if_neg (by simp)]
    · rw [cond_true]
      generalize moreC s (n - 1) 1 c = v
      simp only
      by_cases b1 : v < low
      · rw [decide_eq_true (by omega), cond_true, Option.bind_some, cond_true, if_neg (by omega)]
      rw [decide_eq_false (by omega), cond_false]
      by_cases b2 : 55296 ≤ v
      · rw [decide_eq_true (by omega), cond_true]
        by_cases b3 : v < 57344
        · rw [decide_eq_true (by omega), cond_true, Option.bind_some, cond_true, if_neg (by omega)]
        · rw [decide_eq_false (by omega : ¬ (v : Int) < 57344), cond_false, Option.bind_some]
          by_cases b4 : v ≤ 1114111
          · rw [decide_eq_false (by omega), cond_false, if_pos (by simp; omega)]
          · rw [decide_eq_true (by omega), cond_true, if_neg (by omega)]
      · rw [decide_eq_false (by omega : ¬ (55296 : Int) ≤ v), cond_false, cond_false, Option.bind_some, decide_eq_false (by omega), cond_false, if_pos (by simp; omega)]
  have two : more s (2 - 1) 1 = decide (at0 s 1 / 64 = 2) := by simp [more]
  have three : more s (3 - 1) 1 = (decide (at0 s 1 / 64 = 2) && decide (at0 s 2 / 64 = 2)) := by simp [more]
  have four : more s (4 - 1) 1 = (decide (at0 s 1 / 64 = 2) && (decide (at0 s 2 / 64 = 2) && decide (at0 s 3 / 64 = 2))) := by simp [more]
  have put : ∀ {P : Prop} [Decidable P] {y : Nat × Nat} {a b : Nat}, y = (if P then (a, b) else (65533, 1)) → (P → b ≠ 1) →
      (some (if P then (((a : Nat) : Int), ((b : Nat) : Int), ()) else (0, 0, ())) : Option (Int × (Int × Unit))) = some ((((if y = (65533, 1) then (0, 0) else y).1 : Nat) : Int), (((if y = (65533, 1) then (0, 0) else y).2 : Nat) : Int), ()) := by
    intro P _ y a b hy hb
    by_cases h : P
    · rw [if_pos h] at hy ⊢
      rw [hy, if_neg (fun e => hb h (congrArg Prod.snd e))]
    · rw [if_neg h] at hy ⊢
      rw [hy, if_pos rfl]; rfl
  by_cases a2 : at0 s 0 < 194
  · rw [decide_eq_false (by omega : ¬ (194 : Int) ≤ ((at0 s 0 : Nat) : Int)), cond_false, Option.bind_some, cond_false,
      decide_eq_false (by omega : ¬ (224 : Int) ≤ ((at0 s 0 : Nat) : Int)), cond_false, Option.bind_some, cond_false,
      decide_eq_false (by omega : ¬ (240 : Int) ≤ ((at0 s 0 : Nat) : Int)), cond_false, Option.bind_some, cond_false, Option.bind_some]
    refine put (P := False) (a := 0) (b := 0) ?_ (fun h => h.elim)
    unfold Lib.decodeN
    repeat' split
    all_goals first | rfl | (exfalso; omega)
  rw [decide_eq_true (by omega : (194 : Int) ≤ ((at0 s 0 : Nat) : Int)), cond_true]
  by_cases a3 : at0 s 0 < 224
  · rw [decide_eq_true (by omega : ((at0 s 0 : Nat) : Int) < 224)]
    simp only [Option.bind_some, cond_true]
    refine (tail 2 (at0 s 0 % 32) 128 (by omega) (by omega) (by omega)).trans (put ?_ (fun _ => by omega))
    rw [two]
    simp only [moreC, Nat.reduceSub]
    unfold Lib.decodeN
    rw [if_neg a1]
    simp only [decide_eq_true_eq]
    repeat' split
    all_goals first | rfl | (exfalso; omega) | (apply Prod.ext <;> simp only <;> omega)
  rw [decide_eq_false (by omega : ¬ ((at0 s 0 : Nat) : Int) < 224)]
  simp only [Option.bind_some, cond_false]
  rw [decide_eq_true (by omega : (224 : Int) ≤ ((at0 s 0 : Nat) : Int))]
  simp only [cond_true]
  by_cases a4 : at0 s 0 < 240
  · rw [decide_eq_true (by omega : ((at0 s 0 : Nat) : Int) < 240)]
    simp only [Option.bind_some, cond_true]
    refine (tail 3 (at0 s 0 % 16) 2048 (by omega) (by omega) (by omega)).trans (put ?_ (fun _ => by omega))
    rw [three]
    simp only [moreC, Nat.reduceSub, Nat.reduceAdd]
    unfold Lib.decodeN
    rw [if_neg a1]
    simp only [Bool.and_eq_true, decide_eq_true_eq]
    repeat' split
    all_goals first | rfl | (exfalso; omega) | (apply Prod.ext <;> simp only <;> omega)
  rw [decide_eq_false (by omega : ¬ ((at0 s 0 : Nat) : Int) < 240)]
  simp only [Option.bind_some, cond_false]
  rw [decide_eq_true (by omega : (240 : Int) ≤ ((at0 s 0 : Nat) : Int))]
  simp only [cond_true]
  by_cases a5 : at0 s 0 < 245
  · rw [decide_eq_true (by omega : ((at0 s 0 : Nat) : Int) < 245)]
    simp only [Option.bind_some, cond_true]
    refine (tail 4 (at0 s 0 % 8) 65536 (by omega) (by omega) (by omega)).trans (put ?_ (fun _ => by omega))
    rw [four]
    simp only [moreC, Nat.reduceSub, Nat.reduceAdd]
    unfold Lib.decodeN
    rw [if_neg a1]
    simp only [Bool.and_eq_true, decide_eq_true_eq]
    repeat' split
    all_goals first | rfl | (exfalso; omega) | (apply Prod.ext <;> simp only <;> omega)
  rw [decide_eq_false (by omega : ¬ ((at0 s 0 : Nat) : Int) < 245)]
  simp only [Option.bind_some, cond_false]
  refine put (P := False) (a := 0) (b := 0) ?_ (fun h => h.elim)
  unfold Lib.decodeN
  repeat' split
  all_goals first | rfl | (exfalso; omega)
theorem rune_n {s : Str} (h : s ≠ []) : 1 ≤ (runeOf s).2 ∧ (runeOf s).2 ≤ s.length ∧ (runeOf s).1 ≤ 1114111 := by
  rw [runeOf_eq h]
  have hl : 0 < s.length := List.length_pos_iff.2 h
  unfold Lib.decodeN
  repeat' split
  all_goals (simp only; omega)
def okC (c : Int) : Bool := decide (c = 9 ∨ c = 10 ∨ (32 ≤ c ∧ c ≤ 126) ∨ (160 ≤ c ∧ c < 55296) ∨ (57344 ≤ c ∧ c ≤ 1114111))
theorem rChar_eq (c : Int) : chanceryref2_Char c = some (okC c, ()) := by
  unfold chanceryref2_Char okC
  by_cases h1 : c = 9
  · simp [h1]
  by_cases h2 : c = 10
  · simp [h2]
  by_cases h3 : 32 ≤ c <;> by_cases h4 : c ≤ 126 <;> by_cases h5 : 160 ≤ c <;> by_cases h6 : c < 55296 <;> by_cases h7 : 57344 ≤ c <;> by_cases h8 : c ≤ 1114111 <;> simp [h1, h2, h3, h4, h5, h6, h7, h8] <;> omega
end Go.Proofs.YtkjkjebmkmkgfaaDoor
