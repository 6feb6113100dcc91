import Derived.Test.YtmkpdineahbfkaaGreatDoorFun
import Derived.Test.YtmkpdineahbfkaaGreatDoorFeRun
import Derived.Lib.DecodeN
import Derived.Test.YtmkpdineahbfkaaGreatDoorRLawA
import Derived.Test.YtmkpdineahbfkaaGreatDoorRLawR
namespace Go.Proofs.YtmkpdineahbfkaaGreatDoor
open Go Go.Fe

/-! ### The first character of a text -/
theorem bytes_cases (p : Nat → Bool) (h : ((List.range 256).all p) = true) : ∀ b, b < 256 → p b = true := by
  intro b hb
  exact List.all_eq_true.1 h b (List.mem_range.2 hb)
theorem band_31 {b : Nat} (h : b < 256) : band .i64 (b : Int) 31 = ((b % 32 : Nat) : Int) := by
  have := bytes_cases (fun b => decide (band .i64 (b : Int) 31 = ((b % 32 : Nat) : Int))) (by kernel_rfl) b h
  simpa using this
theorem band_15 {b : Nat} (h : b < 256) : band .i64 (b : Int) 15 = ((b % 16 : Nat) : Int) := by
  have := bytes_cases (fun b => decide (band .i64 (b : Int) 15 = ((b % 16 : Nat) : Int))) (by kernel_rfl) b h
  simpa using this
theorem band_7 {b : Nat} (h : b < 256) : band .i64 (b : Int) 7 = ((b % 8 : Nat) : Int) := by
  have := bytes_cases (fun b => decide (band .i64 (b : Int) 7 = ((b % 8 : Nat) : Int))) (by kernel_rfl) b h
  simpa using this
theorem band_63 {b : Nat} (h : b < 256) : band .u8 (b : Int) 63 = ((b % 64 : Nat) : Int) := by
  have := bytes_cases (fun b => decide (band .u8 (b : Int) 63 = ((b % 64 : Nat) : Int))) (by kernel_rfl) b h
  simpa using this
theorem band_192 {b : Nat} (h : b < 256) : (band .u8 (b : Int) 192 = 128) ↔ b / 64 = 2 := by
  have := bytes_cases (fun b => decide (band .u8 (b : Int) 192 = 128) == decide (b / 64 = 2)) (by kernel_rfl) b h
  simpa using this
theorem bor_shl {a b : Nat} (ha : a < 100000000) (hb : b < 64) : bor .i64 (shl .i64 (a : Int) 6) (b : Int) = ((a * 64 + b : Nat) : Int) := by
  unfold shl
  have e : (a : Int) * 2 ^ (min 6 (IntKind.bits .i64)) = ((2 ^ 6 * a : Nat) : Int) := by
    have : min 6 (IntKind.bits .i64) = 6 := by decide
    rw [this]; push_cast; omega
  rw [e, wrap_i64 (by omega) (by omega)]
  unfold bor
  rw [BitVec.ofInt_natCast, BitVec.ofInt_natCast, BitVec.toNat_or]
  simp only [IntKind.bits, BitVec.toNat_ofNat]
  rw [Nat.mod_eq_of_lt (by omega), Nat.mod_eq_of_lt (by omega), Nat.two_pow_add_eq_or_of_lt (i := 6) hb a |>.symm, wrap_i64 (by omega) (by omega)]
  congr 1; omega

/-- The byte at a place, or 0. -/
def at0 (s : Str) (i : Nat) : Nat := (s.getD i 0).toNat
theorem at0_lt (s : Str) (i : Nat) : at0 s i < 256 := UInt8.toNat_lt _
theorem idx_at0 {s : Str} {i : Nat} (h : i < s.length) : ∃ c, idx s (i : Int) = some c ∧ ofByte c = (at0 s i : Int) :=
  ⟨s[i], idx_lt h, by unfold at0; rw [ofByte_eq, List.getD_eq_getElem?_getD, List.getElem?_eq_getElem h]; rfl⟩
theorem runeOf_eq {s : Str} (h : s ≠ []) : runeOf s = Lib.decodeN s.length (at0 s 0) (at0 s 1) (at0 s 2) (at0 s 3) := by
  have hz : (⟨s.toArray⟩ : ByteArray).size ≠ 0 := fun e => h (List.eq_nil_of_length_eq_zero e)
  have g : ∀ i, (ByteArray.get! ⟨s.toArray⟩ i).toNat = at0 s i := fun i => by
    unfold at0 ByteArray.get!
    simp only [List.getElem!_toArray]
    rw [List.getD_eq_getElem?_getD]
    simp
    cases s[i]? <;> rfl
  unfold runeOf Lib.decodeGo
  rw [if_neg hz, Lib.decode_at]
  simp only [g, Nat.zero_add, Nat.sub_zero]
  rfl
/-- What the reference's Rune says: the length is 0 where the text isn't right. -/
def runeR (s : Str) : Nat × Nat := if runeOf s = (65533, 1) then (0, 0) else runeOf s
theorem rune_step {s : Str} {z : Int × (Int × (Int × Unit))} {c i n : Nat} (hz : z.2.1 = (n : Int)) (hi : i < n) (hn : n ≤ s.length) (h4 : n ≤ 4) (hc : c < 100000000) :
    chanceryref2_Rune_l1 z s ((c : Int), (i : Int), ()) = some (if at0 s i / 64 = 2 then .inl (((c * 64 + at0 s i % 64 : Nat) : Int), ((i + 1 : Nat) : Int), ()) else .inr (.inr (0, 0, ()))) := by
  obtain ⟨b, hb, hb'⟩ := idx_at0 (s := s) (i := i) (by omega)
  unfold chanceryref2_Rune_l1
  simp only [hz]
  rw [decide_eq_true (by omega : (i : Int) < (n : Int)), cond_true, hb, Option.bind_some, hb']
  by_cases h : at0 s i / 64 = 2
  · rw [decide_eq_true ((band_192 (at0_lt s i)).2 h), Bool.not_true, cond_false, if_pos h, show shc 6 = some 6 from shc_nat 6, Option.bind_some, Option.bind_some, hb', band_63 (at0_lt s i)]
    rw [wrap_i64 (by omega) (by omega), bor_shl hc (by omega), wrap_i64 (by omega) (by omega)]
    rfl
  · rw [decide_eq_false (fun e => h ((band_192 (at0_lt s i)).1 e)), Bool.not_false, cond_true, if_neg h]
theorem rune_end {s : Str} {z : Int × (Int × (Int × Unit))} {c n : Nat} (hz : z.2.1 = (n : Int)) :
    chanceryref2_Rune_l1 z s ((c : Int), (n : Int), ()) = some (.inr (.inl ((c : Int), ()))) := by
  unfold chanceryref2_Rune_l1
  simp only [hz]
  rw [decide_eq_false (by omega : ¬ (n : Int) < (n : Int)), cond_false]
/-- Further bytes are as they have to be. -/
def more (s : Str) : Nat → Nat → Bool
  | 0, _ => true
  | k + 1, i => decide (at0 s i / 64 = 2) && more s k (i + 1)
def moreC (s : Str) : Nat → Nat → Nat → Nat
  | 0, _, c => c
  | k + 1, i, c => moreC s k (i + 1) (c * 64 + at0 s i % 64)
theorem rune_halts {s : Str} {z : Int × (Int × (Int × Unit))} {n : Nat} (hz : z.2.1 = (n : Int)) (hn : n ≤ s.length) (h4 : n ≤ 4) : ∀ (k c i : Nat), i + k = n → c < 64 ^ i →
    Halts (chanceryref2_Rune_l1 z s) (k + 1) ((c : Int), (i : Int), ()) (bif more s k i then .inl ((moreC s k i c : Nat), ()) else .inr (0, 0, ()))
  | 0, c, i, hk, hc => by
    have : i = n := by omega
    subst this
    exact Halts.done (rune_end hz)
  | k + 1, c, i, hk, hc => by
    have hc8 : c < 100000000 := by
      have : i ≤ 3 := by omega
      have : 64 ^ i ≤ 64 ^ 3 := Nat.pow_le_pow_right (by omega) (by omega)
      have : (64 : Nat) ^ 3 = 262144 := rfl
      omega
    have hs := rune_step hz (i := i) (c := c) (by omega) hn h4 hc8
    by_cases h : at0 s i / 64 = 2
    · rw [if_pos h] at hs
      refine Halts.step hs ?_
      have ih := rune_halts hz hn h4 k (c * 64 + at0 s i % 64) (i + 1) (by omega) (by
        rw [Nat.pow_succ]; omega)
      simp only [more, moreC, h, decide_true, Bool.true_and]
      exact ih
    · rw [if_neg h] at hs
      simp only [more, h, decide_false, Bool.false_and, cond_false]
      exact Halts.done hs
theorem Rune_eq {s : Str} (h : s ≠ []) : chanceryref2_Rune s = some (((runeR s).1 : Int), ((runeR s).2 : Int), ()) := by
  obtain ⟨b, hb, hb'⟩ := idx_at0 (s := s) (i := 0) (List.length_pos_iff.2 h)
  have h0 := at0_lt s 0
  have h1 := at0_lt s 1
  have h2 := at0_lt s 2
  have h3 := at0_lt s 3
  have hl : 0 < s.length := List.length_pos_iff.2 h
  unfold chanceryref2_Rune runeR
  rw [runeOf_eq h]
  rw [show (0 : Int) = ((0 : Nat) : Int) from rfl, hb, Option.bind_some, hb']
  rw [wrap_i64 (by omega) (by omega), band_31 h0, band_15 h0, band_7 h0]
  have key : ∀ (z : Int × (Int × (Int × Unit))) (n c : Nat), z.1 = (c : Int) → z.2.1 = (n : Int) → n ≤ s.length → n ≤ 4 → 1 ≤ n → c < 64 →
      loop (chanceryref2_Rune_l1 z s) (z.1, 1, ()) = some (bif more s (n - 1) 1 then .inl ((moreC s (n - 1) 1 c : Nat), ()) else .inr (0, 0, ())) := by
    intro z n c hz1 hz hn h4 hn1 hc
    rw [hz1]
    exact (rune_halts hz hn h4 (n - 1) c 1 (by omega) (by omega)).loop (by omega)
  by_cases a1 : at0 s 0 < 128
  · have e : Lib.decodeN s.length (at0 s 0) (at0 s 1) (at0 s 2) (at0 s 3) = (at0 s 0, 1) := if_pos a1
    rw [e, decide_eq_true (by omega : ((at0 s 0 : Nat) : Int) < 128), cond_true, Option.bind_some, if_neg (by simp; omega)]
    rfl
  rw [decide_eq_false (by omega : ¬ ((at0 s 0 : Nat) : Int) < 128), cond_false]
  have n1 : ∀ {x y : Nat × Nat}, y.2 ≠ 1 → (if y = (65533, 1) then x else y) = y := fun {x y} hy => if_neg (fun e => hy (by rw [e]))
  have n0 : ∀ {x y : Nat × Nat}, y = (65533, 1) → (if y = (65533, 1) then x else y) = x := fun {x y} hy => if_pos hy
  have tail : ∀ (n c low : Nat), n ≤ 4 → 1 ≤ n → c < 64 →
      (cond (decide ((s.length : Int) < ((n : Nat) : Int))) (some ((0 : Int), (0 : Int), ())) ((loop (chanceryref2_Rune_l1 (((c : Nat) : Int), ((n : Nat) : Int), ((low : Nat) : Int), ()) s) (((c : Nat) : Int), 1, ())).bind fun r14 =>
        (match r14 with
        | .inl z15 => ((cond (decide (z15.1 < ((low : Nat) : Int)))
          (some (true, ()))
          (cond (decide (55296 ≤ z15.1))
          (cond (((decide (z15.1 < 57344))))
          (some (true, ()))
          (some ((decide (1114111 < z15.1)), ())))
          (cond (false)
          (some (true, ()))
          (some ((decide (1114111 < z15.1)), ())))) : Option (Bool × Unit)).bind fun r16 =>
          cond r16.1
          (some (0, 0, ()))
          (some (z15.1, ((n : Nat) : Int), ())))
        | .inr z17 => (some z17)))) =
      some (if n ≤ s.length ∧ more s (n - 1) 1 = true ∧ low ≤ moreC s (n - 1) 1 c ∧ (moreC s (n - 1) 1 c < 55296 ∨ 57344 ≤ moreC s (n - 1) 1 c ∧ moreC s (n - 1) 1 c ≤ 1114111)
        then (((moreC s (n - 1) 1 c : Nat) : Int), ((n : Nat) : Int), ()) else (0, 0, ())) := by
    intro n c low h4 hn1 hc
    by_cases hl2 : s.length < n
    · rw [decide_eq_true (by omega), cond_true, if_neg (by omega)]
    rw [decide_eq_false (by omega), cond_false]
    have k := key (((c : Nat) : Int), ((n : Nat) : Int), ((low : Nat) : Int), ()) n c rfl rfl (by omega) h4 hn1 hc
    simp only at k
    rw [k, Option.bind_some]
    cases hm : more s (n - 1) 1
    · rw [cond_false, if_neg (by simp)]
    · rw [cond_true]
      generalize moreC s (n - 1) 1 c = v
      simp only
      by_cases b1 : v < low
      · rw [decide_eq_true (by omega), cond_true, Option.bind_some, cond_true, if_neg (by omega)]
      rw [decide_eq_false (by omega), cond_false]
      by_cases b2 : 55296 ≤ v
      · rw [decide_eq_true (by omega), cond_true]
        by_cases b3 : v < 57344
        · rw [decide_eq_true (by omega), cond_true, Option.bind_some, cond_true, if_neg (by omega)]
        · rw [decide_eq_false (by omega : ¬ (v : Int) < 57344), cond_false, Option.bind_some]
          by_cases b4 : v ≤ 1114111
          · rw [decide_eq_false (by omega), cond_false, if_pos (by simp; omega)]
          · rw [decide_eq_true (by omega), cond_true, if_neg (by omega)]
      · rw [decide_eq_false (by omega : ¬ (55296 : Int) ≤ v), cond_false, cond_false, Option.bind_some, decide_eq_false (by omega), cond_false, if_pos (by simp; omega)]
  have two : more s (2 - 1) 1 = decide (at0 s 1 / 64 = 2) := by simp [more]
  have three : more s (3 - 1) 1 = (decide (at0 s 1 / 64 = 2) && decide (at0 s 2 / 64 = 2)) := by simp [more]
  have four : more s (4 - 1) 1 = (decide (at0 s 1 / 64 = 2) && (decide (at0 s 2 / 64 = 2) && decide (at0 s 3 / 64 = 2))) := by simp [more]
  have put : ∀ {P : Prop} [Decidable P] {y : Nat × Nat} {a b : Nat}, y = (if P then (a, b) else (65533, 1)) → (P → b ≠ 1) →
      (some (if P then (((a : Nat) : Int), ((b : Nat) : Int), ()) else (0, 0, ())) : Option (Int × (Int × Unit))) = some ((((if y = (65533, 1) then (0, 0) else y).1 : Nat) : Int), (((if y = (65533, 1) then (0, 0) else y).2 : Nat) : Int), ()) := by
    intro P _ y a b hy hb
    by_cases h : P
    · rw [if_pos h] at hy ⊢
      rw [hy, if_neg (fun e => hb h (congrArg Prod.snd e))]
    · rw [if_neg h] at hy ⊢
      rw [hy, if_pos rfl]; rfl
  by_cases a2 : at0 s 0 < 194
  · rw [decide_eq_false (by omega : ¬ (194 : Int) ≤ ((at0 s 0 : Nat) : Int)), cond_false, Option.bind_some, cond_false,
      decide_eq_false (by omega : ¬ (224 : Int) ≤ ((at0 s 0 : Nat) : Int)), cond_false, Option.bind_some, cond_false,
      decide_eq_false (by omega : ¬ (240 : Int) ≤ ((at0 s 0 : Nat) : Int)), cond_false, Option.bind_some, cond_false, Option.bind_some]
    refine put (P := False) (a := 0) (b := 0) ?_ (fun h => h.elim)
    unfold Lib.decodeN
    repeat' split
    all_goals first | rfl | (exfalso; omega)
  rw [decide_eq_true (by omega : (194 : Int) ≤ ((at0 s 0 : Nat) : Int)), cond_true]
  by_cases a3 : at0 s 0 < 224
  · rw [decide_eq_true (by omega : ((at0 s 0 : Nat) : Int) < 224)]
    simp only [Option.bind_some, cond_true]
    refine (tail 2 (at0 s 0 % 32) 128 (by omega) (by omega) (by omega)).trans (put ?_ (fun _ => by omega))
    rw [two]
    simp only [moreC, Nat.reduceSub]
    unfold Lib.decodeN
    rw [if_neg a1]
    simp only [decide_eq_true_eq]
    repeat' split
    all_goals first | rfl | (exfalso; omega) | (apply Prod.ext <;> simp only <;> omega)
  rw [decide_eq_false (by omega : ¬ ((at0 s 0 : Nat) : Int) < 224)]
  simp only [Option.bind_some, cond_false]
  rw [decide_eq_true (by omega : (224 : Int) ≤ ((at0 s 0 : Nat) : Int))]
  simp only [cond_true]
  by_cases a4 : at0 s 0 < 240
  · rw [decide_eq_true (by omega : ((at0 s 0 : Nat) : Int) < 240)]
    simp only [Option.bind_some, cond_true]
    refine (tail 3 (at0 s 0 % 16) 2048 (by omega) (by omega) (by omega)).trans (put ?_ (fun _ => by omega))
    rw [three]
    simp only [moreC, Nat.reduceSub, Nat.reduceAdd]
    unfold Lib.decodeN
    rw [if_neg a1]
    simp only [Bool.and_eq_true, decide_eq_true_eq]
    repeat' split
    all_goals first | rfl | (exfalso; omega) | (apply Prod.ext <;> simp only <;> omega)
  rw [decide_eq_false (by omega : ¬ ((at0 s 0 : Nat) : Int) < 240)]
  simp only [Option.bind_some, cond_false]
  rw [decide_eq_true (by omega : (240 : Int) ≤ ((at0 s 0 : Nat) : Int))]
  simp only [cond_true]
  by_cases a5 : at0 s 0 < 245
  · rw [decide_eq_true (by omega : ((at0 s 0 : Nat) : Int) < 245)]
    simp only [Option.bind_some, cond_true]
    refine (tail 4 (at0 s 0 % 8) 65536 (by omega) (by omega) (by omega)).trans (put ?_ (fun _ => by omega))
    rw [four]
    simp only [moreC, Nat.reduceSub, Nat.reduceAdd]
    unfold Lib.decodeN
    rw [if_neg a1]
    simp only [Bool.and_eq_true, decide_eq_true_eq]
    repeat' split
    all_goals first | rfl | (exfalso; omega) | (apply Prod.ext <;> simp only <;> omega)
  rw [decide_eq_false (by omega : ¬ ((at0 s 0 : Nat) : Int) < 245)]
  simp only [Option.bind_some, cond_false]
  refine put (P := False) (a := 0) (b := 0) ?_ (fun h => h.elim)
  unfold Lib.decodeN
  repeat' split
  all_goals first | rfl | (exfalso; omega)
end Go.Proofs.YtmkpdineahbfkaaGreatDoor

namespace Go.Proofs.YtmkpdineahbfkaaGreatDoor
open Go Go.Fe

/-! ### Texts -/
def okC (c : Int) : Bool := decide (c = 9 ∨ c = 10 ∨ (32 ≤ c ∧ c ≤ 126) ∨ (160 ≤ c ∧ c < 55296) ∨ (57344 ≤ c ∧ c ≤ 1114111))
theorem rChar_eq (c : Int) : chanceryref2_Char c = some (okC c, ()) := by
  unfold chanceryref2_Char okC
  by_cases h1 : c = 9
  · simp [h1]
  by_cases h2 : c = 10
  · simp [h2]
  by_cases h3 : 32 ≤ c <;> by_cases h4 : c ≤ 126 <;> by_cases h5 : 160 ≤ c <;> by_cases h6 : c < 55296 <;> by_cases h7 : 57344 ≤ c <;> by_cases h8 : c ≤ 1114111 <;> simp [h1, h2, h3, h4, h5, h6, h7, h8] <;> omega
theorem Char_eq (c : Int) : flow_Char c = some (okC c, ()) := by
  rw [← rChar_eq]
  unfold flow_Char chanceryref2_Char
  have e1 : decide (c < 127) = decide (c ≤ 126) := by simp; omega
  have e2 : decide (57343 < c) = decide (57344 ≤ c) := by simp; omega
  rw [e1, e2]
theorem rune_n {s : Str} (h : s ≠ []) : 1 ≤ (runeOf s).2 ∧ (runeOf s).2 ≤ s.length ∧ (runeOf s).1 ≤ 1114111 := by
  rw [runeOf_eq h]
  have hl : 0 < s.length := List.length_pos_iff.2 h
  unfold Lib.decodeN
  repeat' split
  all_goals (simp only; omega)
def badRune (s : Str) : Bool := decide (runeOf s = (65533, 1)) || !okC ((runeOf s).1 : Nat)
theorem text_step {s : Str} (h : s ≠ []) : value_text_l1 (s, ()) = some (bif badRune s then .inr (.inr (23, ())) else .inl (s.drop (runeOf s).2, ())) := by
  obtain ⟨h1, h2, h3⟩ := rune_n h
  unfold value_text_l1 badRune sRune
  have hc : cut s ((runeOf s).2 : Nat) (s.length : Int) = some (s.drop (runeOf s).2) := by
    rw [cut_nat h2 (Nat.le_refl _), List.take_length]
  rw [decide_eq_false h, Bool.not_false, cond_true, Option.bind_some]
  simp only [Char_eq, hc, wrap_i64 (by omega : (-9223372036854775808 : Int) ≤ ((runeOf s).1 : Nat)) (by omega), Option.bind_some]
  by_cases a : (runeOf s).1 = 65533
  · by_cases b : (runeOf s).2 = 1
    · rw [decide_eq_true (by rw [a]; rfl), cond_true, decide_eq_true (by rw [b]; rfl), cond_true, Option.bind_some, cond_true, decide_eq_true (Prod.ext a b), Bool.true_or, cond_true]
    · rw [decide_eq_true (by rw [a]; rfl), cond_true, decide_eq_false (show ¬ (((runeOf s).2 : Nat) : Int) = 1 from by omega), cond_false, Option.bind_some, decide_eq_false (fun e => b (congrArg Prod.snd e)), Bool.false_or, cond_some']
  · rw [decide_eq_false (show ¬ (((runeOf s).1 : Nat) : Int) = 65533 from by omega), cond_false, Option.bind_some, decide_eq_false (fun e => a (congrArg Prod.fst e)), Bool.false_or, cond_some']
theorem rtext_step {s : Str} (h : s ≠ []) : chanceryref2_TextError_l1 (s, ()) = some (bif badRune s then .inr (.inr (23, ())) else .inl (s.drop (runeOf s).2, ())) := by
  obtain ⟨h1, h2, h3⟩ := rune_n h
  unfold chanceryref2_TextError_l1 badRune
  have hc : cut s ((runeOf s).2 : Nat) (s.length : Int) = some (s.drop (runeOf s).2) := by
    rw [cut_nat h2 (Nat.le_refl _), List.take_length]
  rw [decide_eq_false h, Bool.not_false, cond_true, Rune_eq h, Option.bind_some]
  unfold runeR
  by_cases a : runeOf s = (65533, 1)
  · rw [if_pos a, decide_eq_true a, Bool.true_or, cond_true]
    rfl
  · rw [if_neg a, decide_eq_false a, Bool.false_or]
    simp only [rChar_eq, hc, Option.bind_some]
    rw [decide_eq_false (by omega), cond_false, Option.bind_some, cond_some']
def txtG : Nat → Str → Bool
  | 0, _ => true
  | k + 1, s => if s = [] then true else !badRune s && txtG k (s.drop (runeOf s).2)
def textErr (s : Str) : Int := if 32767 < s.length then 3 else if txtG s.length s = true then 0 else 23
theorem txt_halts {f : (Str × Unit) → Option ((Str × Unit) ⊕ (Unit ⊕ (Int × Unit)))} (hf : ∀ s, s ≠ [] → f (s, ()) = some (bif badRune s then .inr (.inr (23, ())) else .inl (s.drop (runeOf s).2, ())))
    (h0 : f ([], ()) = some (.inr (.inl ()))) : ∀ (k : Nat) (s : Str), s.length ≤ k → Halts f (k + 1) (s, ()) (bif txtG k s then .inl () else .inr (23, ()))
  | 0, s, hk => by
    have : s = [] := List.eq_nil_of_length_eq_zero (by omega)
    subst this
    exact Halts.done h0
  | k + 1, s, hk => by
    by_cases h : s = []
    · subst h
      exact Halts.done h0
    · have hs := hf s h
      have hn := rune_n h
      simp only [txtG, if_neg h]
      cases hb : badRune s
      · rw [hb, cond_false] at hs
        rw [Bool.not_false, Bool.true_and]
        exact Halts.step hs (txt_halts hf h0 k _ (by rw [List.length_drop]; omega))
      · rw [hb, cond_true] at hs
        exact Halts.done hs
theorem TextErr_eq (s : Str) : value_text s = some (textErr s, ()) := by
  unfold value_text textErr
  by_cases h : 32767 < s.length
  · rw [decide_eq_true (by omega), cond_true, if_pos h]
  · rw [decide_eq_false (by omega), cond_false, if_neg h, (txt_halts (fun s hs => text_step hs) rfl s.length s (Nat.le_refl _)).loop (by omega), Option.bind_some]
    cases txtG s.length s <;> rfl
theorem rTextErr_eq (s : Str) : chanceryref2_TextError s = some (textErr s, ()) := by
  unfold chanceryref2_TextError textErr
  by_cases h : 32767 < s.length
  · rw [decide_eq_true (by omega), cond_true, if_pos h]
  · rw [decide_eq_false (by omega), cond_false, if_neg h, (txt_halts (fun s hs => rtext_step hs) rfl s.length s (Nat.le_refl _)).loop (by omega), Option.bind_some]
    cases txtG s.length s <;> rfl

/-! ### Error values -/
def fts : List Str := [[], [35, 68, 73, 86, 47, 48, 33], [35, 86, 65, 76, 85, 69, 33], [35, 82, 69, 70, 33], [35, 78, 65, 77, 69, 63], [35, 78, 85, 77, 33], [35, 78, 47, 65], [35, 83, 80, 73, 76, 76, 33], [35, 67, 89, 67, 76, 69, 33]]
def ftext (c : Int) : Str := if c < 1 ∨ 8 < c then [] else fts.getD c.toNat []
theorem FaultText_eq (c : Int) : value_FaultText c = some (ftext c, ()) := by
  unfold value_FaultText ftext
  by_cases h : c < 1
  · simp [h]
  by_cases h' : 8 < c
  · have h9 : 9 ≤ c := by omega
    simp [h, h', h9]
  · have : c = 1 ∨ c = 2 ∨ c = 3 ∨ c = 4 ∨ c = 5 ∨ c = 6 ∨ c = 7 ∨ c = 8 := by omega
    rcases this with rfl | rfl | rfl | rfl | rfl | rfl | rfl | rfl <;> rfl
theorem rFaultText_eq (c : Int) : chanceryref2_FaultText c = some (ftext c, ()) := by
  rw [← FaultText_eq]
  unfold value_FaultText chanceryref2_FaultText
  have e2 : decide (9 ≤ c) = decide (8 < c) := by simp; omega
  rw [e2]
theorem ftext_nil (c : Int) : ftext c = [] ↔ (c < 1 ∨ 8 < c) := by
  unfold ftext
  by_cases h : c < 1 ∨ 8 < c
  · simp [h]
  · simp only [h, iff_false, if_false]
    have : c = 1 ∨ c = 2 ∨ c = 3 ∨ c = 4 ∨ c = 5 ∨ c = 6 ∨ c = 7 ∨ c = 8 := by omega
    rcases this with rfl | rfl | rfl | rfl | rfl | rfl | rfl | rfl <;> simp [fts]
end Go.Proofs.YtmkpdineahbfkaaGreatDoor

namespace Go.Proofs.YtmkpdineahbfkaaGreatDoor
open Go Go.Fe

/-! ### Values -/
abbrev VData := Int × ((Str × (Str × Unit)) × (Str × (Bool × (Int × (Int × (Int × Unit))))))
abbrev Val := Tree VData
abbrev vkind (v : Val) : Int := v.data.1
abbrev vnum (v : Val) : Str × (Str × Unit) := v.data.2.1
abbrev vtext (v : Val) : Str := v.data.2.2.1
abbrev von (v : Val) : Bool := v.data.2.2.2.1
abbrev vcode (v : Val) : Int := v.data.2.2.2.2.1
abbrev vrows (v : Val) : Int := v.data.2.2.2.2.2.1
abbrev vcols (v : Val) : Int := v.data.2.2.2.2.2.2.1
def fracZero (f : Str × (Str × Unit)) : Bool := decide (f.1 = []) && decide (f.2.1 = [])
def arrZero (v : Val) : Bool := decide (vrows v = 0) && (decide (vcols v = 0) && decide (v.kids.length = 0))
def formBad (v : Val) : Bool :=
  (!decide (vkind v = 1) && !fracZero (vnum v)) || ((!decide (vkind v = 2) && !decide (vtext v = [])) || ((!decide (vkind v = 3) && von v) || ((!decide (vkind v = 4) && !decide (vcode v = 0)) || (!decide (vkind v = 5) && !arrZero v))))
theorem beq_frac (f : Str × (Str × Unit)) : Ty.beq (.pair .str (.pair .str .unit)) f ([], [], ()) = fracZero f := by
  unfold fracZero
  simp [Ty.beq]
def verr1 (v : Val) : Int :=
  if vkind v < 0 ∨ 5 < vkind v then 8 else if formBad v = true then 4 else if vkind v = 1 then fracErr (vnum v) else if vkind v = 2 then textErr (vtext v)
  else if vkind v = 4 ∧ ftext (vcode v) = [] then 2 else 0
def arrHead (v : Val) : Int :=
  if vrows v < 1 ∨ 100000 < vrows v ∨ vcols v < 1 ∨ 100000 < vcols v then 2 else if 100000 < vrows v * vcols v then 3 else if (v.kids.length : Int) ≠ vrows v * vcols v then 4 else 0
def itemsErr : List Val → Int
  | [] => 0
  | x :: r => if vkind x = 5 then 8 else if verr1 x ≠ 0 then verr1 x else itemsErr r
def verr (v : Val) : Int := if verr1 v ≠ 0 then verr1 v else if vkind v = 5 then (if arrHead v ≠ 0 then arrHead v else itemsErr v.kids) else 0
theorem zeros_eq (v : Val) : value_zeros v = some (if formBad v = true then 4 else 0, ()) := by
  have hb : Ty.beq (.pair .str (.pair .str .unit)) (v.data.2.1.1, (v.data.2.1.2.1, ())) ([], [], ()) = fracZero (vnum v) := beq_frac (vnum v)
  unfold value_zeros formBad
  unfold arrZero vkind vtext von vcode vrows vcols
  have e : decide (0 < (v.kids.length : Int)) = !decide (v.kids.length = 0) := by
    cases v.kids <;> simp <;> omega
  rw [e]
  revert hb
  generalize Ty.beq (.pair .str (.pair .str .unit)) _ _ = bb
  intro hb
  rw [hb]
  generalize fracZero (vnum v) = b1
  generalize v.data.1 = k
  generalize decide (v.data.2.2.1 = []) = b2
  generalize v.data.2.2.2.1 = on
  generalize decide (v.data.2.2.2.2.1 = 0) = b4
  generalize decide (v.data.2.2.2.2.2.1 = 0) = b5
  generalize decide (v.data.2.2.2.2.2.2.1 = 0) = b6
  generalize decide (v.kids.length = 0) = b7
  by_cases h1 : k = 1
  · subst h1; cases b1 <;> cases b2 <;> cases on <;> cases b4 <;> cases b5 <;> cases b6 <;> cases b7 <;> rfl
  by_cases h2 : k = 2
  · subst h2; cases b1 <;> cases b2 <;> cases on <;> cases b4 <;> cases b5 <;> cases b6 <;> cases b7 <;> rfl
  by_cases h3 : k = 3
  · subst h3; cases b1 <;> cases b2 <;> cases on <;> cases b4 <;> cases b5 <;> cases b6 <;> cases b7 <;> rfl
  by_cases h4 : k = 4
  · subst h4; cases b1 <;> cases b2 <;> cases on <;> cases b4 <;> cases b5 <;> cases b6 <;> cases b7 <;> rfl
  by_cases h5 : k = 5
  · subst h5; cases b1 <;> cases b2 <;> cases on <;> cases b4 <;> cases b5 <;> cases b6 <;> cases b7 <;> rfl
  rw [decide_eq_false h1, decide_eq_false h2, decide_eq_false h3, decide_eq_false h4, decide_eq_false h5]
  cases b1 <;> cases b2 <;> cases on <;> cases b4 <;> cases b5 <;> cases b6 <;> cases b7 <;> rfl
end Go.Proofs.YtmkpdineahbfkaaGreatDoor

namespace Go.Proofs.YtmkpdineahbfkaaGreatDoor
open Go Go.Fe
theorem VE1 (a0 : Int) (a1 : Bool) (o0 : Int) (o0_1 : Str) (o0_2 : Str) (o0_3 : Str) (o0_4 : Bool) (o0_5 : Int) (o0_6 : Int) (o0_7 : Int) (o0_8 : List Val) :
    chanceryref2_ValueError_1 a0 a1 o0 o0_1 o0_2 o0_3 o0_4 o0_5 o0_6 o0_7 o0_8 = some (decide (o0 = a0) || a1, (), (o0, (o0_1, (o0_2, (o0_3, (o0_4, (o0_5, (o0_6, (o0_7, (o0_8, ()))))))))), ()) := by
  unfold chanceryref2_ValueError_1
  cases decide (o0 = a0) <;> rfl
theorem remade (v : Val) : (Tree.node (v.data.1, ((v.data.2.1.1, (v.data.2.1.2.1, ())), (v.data.2.2.1, (v.data.2.2.2.1, (v.data.2.2.2.2.1, (v.data.2.2.2.2.2.1, (v.data.2.2.2.2.2.2.1, ()))))))) v.kids : Val) = v := tn_eq v
theorem formB (d1 b1 d2 b2 d3 on d4 b4 d5 b5 b6 b7 : Bool) :
    (bif !(d1 || b1) then true else bif !(d2 || b2) then true else bif !(d3 || !on) then true else bif !(d4 || b4) then true else bif b5 then (bif b6 then !(d5 || b7) else !(d5 || false)) else !(d5 || false)) =
      ((!d1 && !b1) || ((!d2 && !b2) || ((!d3 && on) || ((!d4 && !b4) || (!d5 && !(b5 && (b6 && b7))))))) := by
  cases d1 <;> cases b1 <;> cases d2 <;> cases b2 <;> cases d3 <;> cases on <;> cases d4 <;> cases b4 <;> cases d5 <;> cases b5 <;> cases b6 <;> cases b7 <;> rfl
theorem formBad_eq (v : Val) : formBad v = ((!decide (v.data.1 = 1) && !Ty.beq (.pair .str (.pair .str .unit)) (v.data.2.1.1, (v.data.2.1.2.1, ())) ([], [], ())) || ((!decide (v.data.1 = 2) && !decide (v.data.2.2.1 = [])) ||
    ((!decide (v.data.1 = 3) && v.data.2.2.2.1) || ((!decide (v.data.1 = 4) && !decide (v.data.2.2.2.2.1 = 0)) ||
    (!decide (v.data.1 = 5) && !(decide (v.data.2.2.2.2.2.1 = 0) && (decide (v.data.2.2.2.2.2.2.1 = 0) && decide ((v.kids.length : Int) = 0)))))))) := by
  have e : decide ((v.kids.length : Int) = 0) = decide (v.kids.length = 0) := by simp
  rw [e]
  unfold formBad
  rw [← beq_frac]
  rfl
theorem arrB (r c : Int) : (bif decide (r < 1) then true else bif decide (c < 1) then true else bif decide (100000 < r) then true else decide (100000 < c)) = decide (r < 1 ∨ 100000 < r ∨ c < 1 ∨ 100000 < c) := by
  by_cases h1 : r < 1 <;> by_cases h2 : c < 1 <;> by_cases h3 : 100000 < r <;> by_cases h4 : 100000 < c <;> simp [h1, h2, h3, h4]
theorem arrB' (r c : Int) : (bif decide (r < 1) then true else bif decide (100000 < r) then true else bif decide (c < 1) then true else decide (100000 < c)) = decide (r < 1 ∨ 100000 < r ∨ c < 1 ∨ 100000 < c) := by
  by_cases h1 : r < 1 <;> by_cases h2 : c < 1 <;> by_cases h3 : 100000 < r <;> by_cases h4 : 100000 < c <;> simp [h1, h2, h3, h4]

theorem items_halts {f : (Int × Unit) → Option ((Int × Unit) ⊕ (Unit ⊕ (Int × Unit)))} {l : List Val} (hl : l.length < 9223372036854775807)
    (hf : ∀ i (h : i < l.length), f ((i : Int), ()) = if vkind l[i] = 5 then some (.inr (.inr (8, ()))) else if verr1 l[i] ≠ 0 then some (.inr (.inr (verr1 l[i], ()))) else some (.inl (((i + 1 : Nat) : Int), ())))
    (he : f ((l.length : Int), ()) = some (.inr (.inl ()))) : ∀ (k i : Nat), i + k = l.length → Halts f (k + 1) ((i : Int), ()) (if itemsErr (l.drop i) = 0 then .inl () else .inr (itemsErr (l.drop i), ()))
  | 0, i, hk => by
    have : i = l.length := by omega
    subst this
    rw [List.drop_length, show itemsErr [] = 0 from rfl, if_pos rfl]
    exact Halts.done he
  | k + 1, i, hk => by
    have h : i < l.length := by omega
    have hs := hf i h
    rw [List.drop_eq_getElem_cons h]
    by_cases h5 : vkind l[i] = 5
    · rw [if_pos h5] at hs
      have e : itemsErr (l[i] :: l.drop (i + 1)) = 8 := if_pos h5
      rw [e, if_neg (by omega)]
      exact Halts.done hs
    rw [if_neg h5] at hs
    by_cases hv : verr1 l[i] = 0
    · rw [if_neg (by omega)] at hs
      have e : itemsErr (l[i] :: l.drop (i + 1)) = itemsErr (l.drop (i + 1)) := (if_neg h5).trans (if_neg (by omega))
      rw [e]
      exact Halts.step hs (items_halts hl hf he k (i + 1) (by omega))
    · rw [if_pos hv] at hs
      have e : itemsErr (l[i] :: l.drop (i + 1)) = verr1 l[i] := (if_neg h5).trans (if_pos hv)
      rw [e, if_neg hv]
      exact Halts.done hs
theorem mul_small {r c : Int} (h : ¬ (r < 1 ∨ 100000 < r ∨ c < 1 ∨ 100000 < c)) : IntKind.i64.wrap (r * c) = r * c ∧ 0 < r * c := by
  have h1 : 1 ≤ r := by omega
  have h2 : 1 ≤ c := by omega
  have p : 0 < r * c := Int.mul_pos (by omega) (by omega)
  have q : r * c ≤ 100000 * 100000 := Int.mul_le_mul (by omega) (by omega) (by omega) (by omega)
  exact ⟨wrap_i64 (by omega) (by omega), p⟩
/-- The numbers of a value aren't too long. -/
def SmallN (v : Val) : Prop := (vnum v).1.length < 100000000 ∧ (vnum v).2.1.length < 100000000

theorem verr_flat {v : Val} (h5 : vkind v ≠ 5) : verr v = verr1 v := by
  unfold verr
  by_cases h : verr1 v = 0
  · rw [if_neg (by omega), if_neg h5, h]
  · rw [if_pos h]
theorem rErr_s (rec : Val → Option (Int × Unit)) (v : Val) (hs : SmallN v) (hrec : vkind v = 5 → ∀ x ∈ v.kids, vkind x ≠ 5 → rec x = some (verr1 x, ())) : chanceryref2_ValueError_s rec v = some (verr v, ()) := by
  have hfe : chanceryref2_FracError (v.data.2.1.1, (v.data.2.1.2.1, ())) = some (fracErr (vnum v), ()) := fracError_eq hs.1 hs.2
  unfold chanceryref2_ValueError_s
  simp only [VE1, Option.bind_some, cond_some', cond_pair, Bool.cond_self, rTextErr_eq, rFaultText_eq, hfe]
  rw [formB, ← formBad_eq, arrB]
  by_cases h0 : v.data.1 < 0
  · rw [decide_eq_true h0, cond_true, cond_true]
    have e : verr1 v = 8 := if_pos (Or.inl h0)
    unfold verr
    rw [e]; rfl
  by_cases h6 : 5 < v.data.1
  · rw [decide_eq_true h6, decide_eq_false h0, cond_false, cond_true]
    have e : verr1 v = 8 := if_pos (Or.inr h6)
    unfold verr
    rw [e]; rfl
  rw [decide_eq_false h0, decide_eq_false h6, cond_false, cond_false]
  by_cases hb : formBad v = true
  · rw [hb, cond_true]
    have e : verr1 v = 4 := (if_neg (by unfold vkind; omega)).trans (if_pos hb)
    unfold verr
    rw [e]; rfl
  have hb : formBad v = false := by cases h : formBad v <;> simp_all
  rw [hb]
  have e : verr1 v = if vkind v = 1 then fracErr (vnum v) else if vkind v = 2 then textErr (vtext v) else if vkind v = 4 ∧ ftext (vcode v) = [] then 2 else 0 :=
    (if_neg (by unfold vkind; omega)).trans (if_neg (by rw [hb]; exact Bool.false_ne_true))
  rw [cond_false]
  by_cases h1 : v.data.1 = 1
  · rw [verr_flat (by unfold vkind; omega), e, decide_eq_true h1, cond_true, if_pos h1]
  rw [decide_eq_false h1, cond_false]
  rw [if_neg h1] at e
  by_cases h2 : v.data.1 = 2
  · rw [verr_flat (by unfold vkind; omega), e, decide_eq_true h2, cond_true, if_pos h2]
  rw [decide_eq_false h2, cond_false]
  rw [if_neg h2] at e
  by_cases h4 : v.data.1 = 4
  · rw [verr_flat (by unfold vkind; omega), e, decide_eq_true h4, cond_true]
    by_cases hc : ftext v.data.2.2.2.2.1 = []
    · rw [decide_eq_true hc, cond_true, if_pos ⟨h4, hc⟩]
    · rw [decide_eq_false hc, cond_false, if_neg (fun e => hc e.2), decide_eq_true (by omega), cond_true]
  rw [if_neg (fun e => h4 e.1)] at e
  rw [decide_eq_false h4, cond_false, cond_false]
  by_cases h5 : ¬ v.data.1 = 5
  · rw [verr_flat h5, e, decide_eq_true (by omega), cond_true]
  have h5 : v.data.1 = 5 := by omega
  rw [decide_eq_false (by omega), cond_false]
  have ev : verr v = if arrHead v ≠ 0 then arrHead v else itemsErr v.kids := (if_neg (by omega)).trans (if_pos h5)
  rw [ev]
  by_cases g1 : v.data.2.2.2.2.2.1 < 1 ∨ 100000 < v.data.2.2.2.2.2.1 ∨ v.data.2.2.2.2.2.2.1 < 1 ∨ 100000 < v.data.2.2.2.2.2.2.1
  · rw [decide_eq_true g1, cond_true]
    have eh : arrHead v = 2 := if_pos g1
    rw [eh]; rfl
  obtain ⟨w1, w2⟩ := mul_small g1
  rw [decide_eq_false g1, cond_false, w1]
  have eh : arrHead v = _ := if_neg g1
  by_cases g2 : 100000 < v.data.2.2.2.2.2.1 * v.data.2.2.2.2.2.2.1
  · rw [if_pos g2] at eh
    rw [decide_eq_true g2, cond_true, eh]; rfl
  rw [if_neg g2] at eh
  rw [decide_eq_false g2, cond_false]
  by_cases g3 : ¬ v.data.2.2.2.2.2.1 * v.data.2.2.2.2.2.2.1 = (v.kids.length : Int)
  · rw [if_pos (fun e => g3 e.symm)] at eh
    rw [decide_eq_false g3, Bool.not_false, cond_true, eh]; rfl
  have g3 : v.data.2.2.2.2.2.1 * v.data.2.2.2.2.2.2.1 = (v.kids.length : Int) := by omega
  rw [if_neg (fun e => e g3.symm)] at eh
  rw [decide_eq_true g3, Bool.not_true, cond_false, eh, if_neg (by omega)]
  have hl := items_halts (f := chanceryref2_ValueError_l1 ((), false, (v.data.1, v.data.2.1.1, v.data.2.1.2.1, v.data.2.2.1, v.data.2.2.2.1, v.data.2.2.2.2.1, v.data.2.2.2.2.2.1, v.data.2.2.2.2.2.2.1, v.kids, ()), ()) rec) (l := v.kids) (by omega) (by
      intro i hi
      unfold chanceryref2_ValueError_l1
      simp only []
      rw [decide_eq_true (by omega : (i : Int) < (v.kids.length : Int)), cond_true, idx_lt hi, Option.bind_some]
      by_cases k5 : vkind v.kids[i] = 5
      · rw [decide_eq_true k5, cond_true, if_pos k5]
      rw [decide_eq_false k5, cond_false, if_neg k5, tn_eq, hrec h5 _ (List.getElem_mem hi) k5, Option.bind_some]
      by_cases hv : verr1 v.kids[i] = 0
      · rw [if_neg (by omega), decide_eq_true hv, Bool.not_true, cond_false, wrap_i64 (by omega) (by omega)]
        rfl
      · rw [if_pos hv, decide_eq_false hv, Bool.not_false, cond_true]) (by
      unfold chanceryref2_ValueError_l1
      simp only []
      rw [decide_eq_false (by omega), cond_false]) v.kids.length 0 (by omega)
  rw [List.drop_zero] at hl
  rw [show ((0 : Int), ()) = (((0 : Nat) : Int), ()) from rfl, hl.loop (by omega), Option.bind_some]
  by_cases hi : itemsErr v.kids = 0
  · rw [if_pos hi, hi]; rfl
  · rw [if_neg hi]
theorem array_eq (rec : Val → Option (Int × Unit)) (v : Val) (hrec : ∀ x ∈ v.kids, vkind x ≠ 5 → rec x = some (verr1 x, ())) :
    value_array rec v = some (if arrHead v ≠ 0 then arrHead v else itemsErr v.kids, ()) := by
  unfold value_array
  simp only [Option.bind_some, cond_some', cond_pair, Bool.cond_self]
  rw [arrB']
  by_cases g1 : v.data.2.2.2.2.2.1 < 1 ∨ 100000 < v.data.2.2.2.2.2.1 ∨ v.data.2.2.2.2.2.2.1 < 1 ∨ 100000 < v.data.2.2.2.2.2.2.1
  · rw [decide_eq_true g1, cond_true]
    have eh : arrHead v = 2 := if_pos g1
    rw [eh]; rfl
  obtain ⟨w1, w2⟩ := mul_small g1
  rw [decide_eq_false g1, cond_false, w1]
  have eh : arrHead v = _ := if_neg g1
  by_cases g2 : 100000 < v.data.2.2.2.2.2.1 * v.data.2.2.2.2.2.2.1
  · rw [if_pos g2] at eh
    rw [decide_eq_true g2, cond_true, eh]; rfl
  rw [if_neg g2] at eh
  rw [decide_eq_false g2, cond_false]
  by_cases g3 : ¬ (v.kids.length : Int) = v.data.2.2.2.2.2.1 * v.data.2.2.2.2.2.2.1
  · rw [if_pos g3] at eh
    rw [decide_eq_false g3, Bool.not_false, cond_true, eh]; rfl
  have g3 : (v.kids.length : Int) = v.data.2.2.2.2.2.1 * v.data.2.2.2.2.2.2.1 := by omega
  rw [if_neg (fun e => e g3)] at eh
  rw [decide_eq_true g3, Bool.not_true, cond_false, eh, if_neg (by omega)]
  have hl := items_halts (f := value_array_l1 ((), false, (v.data.1, v.data.2.1.1, v.data.2.1.2.1, v.data.2.2.1, v.data.2.2.2.1, v.data.2.2.2.2.1, v.data.2.2.2.2.2.1, v.data.2.2.2.2.2.2.1, v.kids, ()), ()) rec) (l := v.kids) (by omega) (by
      intro i hi
      unfold value_array_l1
      simp only []
      rw [decide_eq_true (by omega : (i : Int) < (v.kids.length : Int)), cond_true, idx_lt hi, Option.bind_some]
      by_cases k5 : vkind v.kids[i] = 5
      · rw [decide_eq_true k5, cond_true, if_pos k5]
      rw [decide_eq_false k5, cond_false, if_neg k5, tn_eq, hrec _ (List.getElem_mem hi) k5, Option.bind_some]
      by_cases hv : verr1 v.kids[i] = 0
      · rw [if_neg (by omega), decide_eq_true hv, Bool.not_true, cond_false, wrap_i64 (by omega) (by omega)]
        rfl
      · rw [if_pos hv, decide_eq_false hv, Bool.not_false, cond_true]) (by
      unfold value_array_l1
      simp only []
      rw [decide_eq_false (by omega), cond_false]) v.kids.length 0 (by omega)
  rw [List.drop_zero] at hl
  rw [show ((0 : Int), ()) = (((0 : Nat) : Int), ()) from rfl, hl.loop (by omega), Option.bind_some]
  by_cases hi : itemsErr v.kids = 0
  · rw [if_pos hi, hi]; rfl
  · rw [if_neg hi]
theorem Check_s (rec : Val → Option (Int × Unit)) (v : Val) (hs : SmallN v) (hrec : vkind v = 5 → ∀ x ∈ v.kids, vkind x ≠ 5 → rec x = some (verr1 x, ())) : value_Check_s rec v = some (verr v, ()) := by
  have hfe : exact_Check (v.data.2.1.1, (v.data.2.1.2.1, ())) = some (fracErr (vnum v), ()) := Check_eq hs.1 hs.2
  unfold value_Check_s
  simp only [Option.bind_some, cond_some', cond_pair, Bool.cond_self, remade, zeros_eq, TextErr_eq, FaultText_eq, hfe]
  by_cases h0 : v.data.1 < 0
  · rw [decide_eq_true h0, cond_true, cond_true]
    have e : verr1 v = 8 := if_pos (Or.inl h0)
    unfold verr
    rw [e]; rfl
  by_cases h6 : 5 < v.data.1
  · rw [decide_eq_true h6, decide_eq_false h0, cond_false, cond_true]
    have e : verr1 v = 8 := if_pos (Or.inr h6)
    unfold verr
    rw [e]; rfl
  rw [decide_eq_false h0, decide_eq_false h6, cond_false, cond_false]
  by_cases hb : formBad v = true
  · rw [if_pos hb]
    have e : verr1 v = 4 := (if_neg (by unfold vkind; omega)).trans (if_pos hb)
    unfold verr
    rw [e]; rfl
  have e : verr1 v = if vkind v = 1 then fracErr (vnum v) else if vkind v = 2 then textErr (vtext v) else if vkind v = 4 ∧ ftext (vcode v) = [] then 2 else 0 :=
    (if_neg (by unfold vkind; omega)).trans (if_neg hb)
  rw [if_neg hb, decide_eq_true rfl, Bool.not_true, cond_false]
  by_cases h1 : v.data.1 = 1
  · rw [verr_flat (by unfold vkind; omega), e, decide_eq_true h1, cond_true, if_pos h1]; rfl
  rw [decide_eq_false h1, cond_false]
  rw [if_neg h1] at e
  by_cases h2 : v.data.1 = 2
  · rw [verr_flat (by unfold vkind; omega), e, decide_eq_true h2, cond_true, if_pos h2]; rfl
  rw [decide_eq_false h2, cond_false]
  rw [if_neg h2] at e
  by_cases h4 : v.data.1 = 4
  · rw [verr_flat (by unfold vkind; omega), e, decide_eq_true h4, cond_true]
    by_cases hc : ftext v.data.2.2.2.2.1 = []
    · rw [decide_eq_true hc, cond_true, if_pos ⟨h4, hc⟩]; rfl
    · rw [decide_eq_false hc, cond_false, if_neg (fun e => hc e.2)]; rfl
  rw [if_neg (fun e => h4 e.1)] at e
  rw [decide_eq_false h4, cond_false]
  by_cases h5 : ¬ v.data.1 = 5
  · rw [verr_flat h5, e, decide_eq_false h5, cond_false]; rfl
  have h5 : v.data.1 = 5 := by omega
  rw [decide_eq_true h5, cond_true, array_eq rec v (hrec h5)]
  have ev : verr v = if arrHead v ≠ 0 then arrHead v else itemsErr v.kids := (if_neg (by omega)).trans (if_pos h5)
  rw [ev]; rfl
def SmallV (v : Val) : Prop := SmallN v ∧ ∀ x ∈ v.kids, SmallN x
theorem rErr_eq {v : Val} (hs : SmallV v) : chanceryref2_ValueError v = some (verr v, ()) :=
  rErr_s _ v hs.1 fun _ x hx h5 => (rErr_s _ x (hs.2 x hx) (fun h => absurd h h5)).trans (by rw [verr_flat h5])
theorem VCheck_eq {v : Val} (hs : SmallV v) : value_Check v = some (verr v, ()) :=
  Check_s _ v hs.1 fun _ x hx h5 => (Check_s _ x (hs.2 x hx) (fun h => absurd h h5)).trans (by rw [verr_flat h5])
end Go.Proofs.YtmkpdineahbfkaaGreatDoor

namespace Go.Proofs.YtmkpdineahbfkaaGreatDoor
open Go Go.Fe
open Classical

/-! ### How much a value holds -/
abbrev dataTy : Ty := .pair (.int .i64) (.pair (.pair .str (.pair .str .unit)) (.pair .str (.pair .bool (.pair (.int .i64) (.pair (.int .i64) (.pair (.int .i64) .unit))))))
def vb (v : Val) : Nat := Ty.bulk (.mu dataTy) v
theorem vb_eq (v : Val) : vb v = 1 + ((v.data.2.1.1.length + 1 + (v.data.2.1.2.1.length + 1 + 0)) + (v.data.2.2.1.length + 1 + 5 - 1)) + ((v.kids.map vb).sum + 1) := by
  obtain ⟨d, ks⟩ := v
  have h : vb (.node d ks) = Ty.bulk dataTy d + (Tree.bulks (fun y => Ty.bulk dataTy y) ks + 1) := by
    show Tree.bulk (fun y => Ty.bulk dataTy y) (.node d ks) = _
    rw [Tree.bulk]
  rw [h, Tree.bulks_eq]
  have e : ∀ l : List Val, List.map (Tree.bulk fun y => dataTy.bulk y) l = List.map vb l := fun l => by
    refine List.map_congr_left fun x _ => ?_
    unfold vb
    rfl
  have e' : (ks.map (Tree.bulk fun y => dataTy.bulk y)).sum = (ks.map vb).sum := congrArg List.sum (e ks)
  rw [e']
  simp only [Ty.bulk, Tree.data, Tree.kids]
  omega
theorem vb_pos (v : Val) : 1 ≤ vb v := by rw [vb_eq]; omega
theorem sum_ge {l : List Val} {x : Val} (h : x ∈ l) : vb x ≤ (l.map vb).sum := by
  induction l with
  | nil => cases h
  | cons y r ih =>
    rw [List.map_cons, List.sum_cons]
    rcases List.mem_cons.1 h with e | e
    · rw [e]; omega
    · have := ih e; omega
theorem sum_len (l : List Val) : l.length ≤ (l.map vb).sum := by
  induction l with
  | nil => simp
  | cons y r ih =>
    rw [List.map_cons, List.sum_cons, List.length_cons]
    have := vb_pos y; omega
theorem vb_kid {v x : Val} (h : x ∈ v.kids) : vb x < vb v := by
  have := sum_ge h
  rw [vb_eq v]; omega
theorem vb_len (v : Val) : v.kids.length < vb v := by
  have := sum_len v.kids
  rw [vb_eq v]; omega
theorem vb_smallN {v : Val} (h : vb v ≤ 1048576) : SmallN v := by
  rw [vb_eq] at h
  constructor <;> (simp only [vnum]; omega)
theorem vb_small {v : Val} (h : vb v ≤ 1048576) : SmallV v :=
  ⟨vb_smallN h, fun x hx => vb_smallN (by have := vb_kid hx; omega)⟩

/-! ### Values that are the same -/
theorem tree_eq (a b : Val) : a = b ↔ a.data = b.data ∧ a.kids = b.kids := by
  constructor
  · rintro rfl; exact ⟨rfl, rfl⟩
  · rintro ⟨h1, h2⟩
    rw [← tn_eq a, ← tn_eq b]
    unfold tn
    rw [h1, h2]
theorem data_eq (x y : VData) : x = y ↔ x.1 = y.1 ∧ x.2.1 = y.2.1 ∧ x.2.2.1 = y.2.2.1 ∧ x.2.2.2.1 = y.2.2.2.1 ∧ x.2.2.2.2.1 = y.2.2.2.2.1 ∧ x.2.2.2.2.2.1 = y.2.2.2.2.2.1 ∧ x.2.2.2.2.2.2.1 = y.2.2.2.2.2.2.1 := by
  constructor
  · rintro rfl; exact ⟨rfl, rfl, rfl, rfl, rfl, rfl, rfl⟩
  · rintro ⟨h1, h2, h3, h4, h5, h6, h7⟩
    exact Prod.ext h1 (Prod.ext h2 (Prod.ext h3 (Prod.ext h4 (Prod.ext h5 (Prod.ext h6 (Prod.ext h7 rfl))))))
noncomputable def sameV (a b : Val) : Bool := decide (a = b)
theorem beq_num (f g : Str × (Str × Unit)) : Ty.beq (.pair .str (.pair .str .unit)) f g = decide (f = g) := by
  obtain ⟨f1, f2, ⟨⟩⟩ := f
  obtain ⟨g1, g2, ⟨⟩⟩ := g
  simp [Ty.beq]
theorem same_halts {σ : Type} {f : σ → Option (σ ⊕ (Unit ⊕ (Bool × Unit)))} (st : Nat → σ) {l m : List Val} (hlen : l.length = m.length)
    (hf : ∀ i (h : i < l.length), f (st i) = some (if l[i] = m[i]'(by omega) then .inl (st (i + 1)) else .inr (.inr (false, ()))))
    (he : f (st l.length) = some (.inr (.inl ()))) : ∀ (k i : Nat), i + k = l.length → Halts f (k + 1) (st i) (if l.drop i = m.drop i then .inl () else .inr (false, ()))
  | 0, i, hk => by
    have : i = l.length := by omega
    subst this
    rw [List.drop_length, hlen, List.drop_length, if_pos rfl, ← hlen]
    exact Halts.done he
  | k + 1, i, hk => by
    have h : i < l.length := by omega
    have hs := hf i h
    have e : (l.drop i = m.drop i) ↔ (l[i] = m[i]'(by omega) ∧ l.drop (i + 1) = m.drop (i + 1)) := by
      rw [List.drop_eq_getElem_cons h, List.drop_eq_getElem_cons (show i < m.length by omega), List.cons.injEq]
    by_cases hv : l[i] = m[i]'(by omega)
    · rw [if_pos hv] at hs
      have ih := same_halts st hlen hf he k (i + 1) (by omega)
      simp only [e, hv, true_and]
      exact Halts.step hs ih
    · rw [if_neg hv] at hs
      rw [if_neg (fun x => hv (e.1 x).1)]
      exact Halts.done hs
theorem items_same {σ : Type} {f : σ → Option (σ ⊕ (Unit ⊕ (Bool × Unit)))} (st : Nat → σ) {l m : List Val} (hlen : l.length = m.length) (hl : l.length < 1000000000)
    (hf : ∀ i (h : i < l.length), f (st i) = some (if l[i] = m[i]'(by omega) then .inl (st (i + 1)) else .inr (.inr (false, ()))))
    (he : f (st l.length) = some (.inr (.inl ()))) : loop f (st 0) = some (if l = m then .inl () else .inr (false, ())) := by
  have := same_halts st hlen hf he l.length 0 (by omega)
  rw [List.drop_zero, List.drop_zero] at this
  exact this.loop (by omega)
theorem same_s {n : Nat} (ih : ∀ a b : Val, vb a < n → vb a ≤ 1048576 → value_Same_f n a b = some (sameV a b, ())) {a b : Val} (h : vb a < n + 1) (hs : vb a ≤ 1048576) : value_Same_f (n + 1) a b = some (sameV a b, ()) := by
  show value_Same_s (value_Same_f n) a b = _
  have hlt := vb_len a
  have hk : api_Value__Same (value_Same_f n) a.kids b.kids = some (decide (a.kids = b.kids), ()) := by
    unfold api_Value__Same
    by_cases hlen : a.kids.length = b.kids.length
    · rw [decide_eq_true (by omega), Bool.not_true, cond_false]
      have key : loop (api_Value__Same_l1 a.kids b.kids (value_Same_f n)) ((), 0, ()) = _ := items_same (f := api_Value__Same_l1 a.kids b.kids (value_Same_f n)) (fun i => ((), (i : Int), ())) hlen (by omega) (by
        intro i hi
        unfold api_Value__Same_l1
        simp only []
        rw [decide_eq_true (by omega : (i : Int) < (a.kids.length : Int)), cond_true, idx_lt hi, Option.bind_some, idx_lt (show i < b.kids.length by omega), Option.bind_some, tn_eq, tn_eq, ih _ _ (by have := vb_kid (List.getElem_mem hi); omega) (by have := vb_kid (List.getElem_mem hi); omega), Option.bind_some]
        unfold sameV
        by_cases e : a.kids[i] = b.kids[i]
        · rw [decide_eq_true e, if_pos e, Bool.not_true, cond_false, wrap_i64 (by omega) (by omega)]; rfl
        · rw [decide_eq_false e, if_neg e, Bool.not_false, cond_true]) (by
        unfold api_Value__Same_l1
        simp only []
        rw [decide_eq_false (by omega), cond_false])
      rw [key, Option.bind_some]
      by_cases e : a.kids = b.kids
      · rw [if_pos e, decide_eq_true e]
      · rw [if_neg e, decide_eq_false e]
    · rw [decide_eq_false (by omega), Bool.not_false, cond_true, decide_eq_false (fun e => hlen (congrArg _ e))]
  have hb : Ty.beq (.pair .str (.pair .str .unit)) (a.data.2.1.1, (a.data.2.1.2.1, ())) (b.data.2.1.1, (b.data.2.1.2.1, ())) = decide (a.data.2.1 = b.data.2.1) := beq_num a.data.2.1 b.data.2.1
  have no : ∀ {P : Prop}, ¬ P → (a = b → P) → sameV a b = false := fun hn f => decide_eq_false (fun e => hn (f e))
  unfold value_Same_s
  simp only [tn_eq]
  rw [hk, Option.bind_some, hb]
  by_cases h1 : a.data.1 = b.data.1
  · by_cases h2 : a.data.2.1 = b.data.2.1
    · by_cases h3 : a.data.2.2.1 = b.data.2.2.1
      · by_cases h4 : a.data.2.2.2.1 = b.data.2.2.2.1
        · by_cases h5 : a.data.2.2.2.2.1 = b.data.2.2.2.2.1
          · by_cases h6 : a.data.2.2.2.2.2.1 = b.data.2.2.2.2.2.1
            · by_cases h7 : a.data.2.2.2.2.2.2.1 = b.data.2.2.2.2.2.2.1
              · rw [decide_eq_true h1, cond_true, decide_eq_true h2, cond_true, decide_eq_true h3, cond_true, h4, beq_self_eq_true, cond_true, decide_eq_true h5, cond_true, decide_eq_true h6, cond_true, decide_eq_true h7, cond_true]
                unfold sameV
                by_cases h8 : a.kids = b.kids
                · rw [decide_eq_true h8, decide_eq_true ((tree_eq a b).2 ⟨(data_eq _ _).2 ⟨h1, h2, h3, h4, h5, h6, h7⟩, h8⟩)]
                · rw [decide_eq_false h8, decide_eq_false (fun e => h8 (by rw [e]))]
              · rw [no h7 (fun e => by rw [e]), decide_eq_true h1, cond_true, decide_eq_true h2, cond_true, decide_eq_true h3, cond_true, h4, beq_self_eq_true, cond_true, decide_eq_true h5, cond_true, decide_eq_true h6, cond_true, decide_eq_false h7, cond_false]
            · rw [no h6 (fun e => by rw [e]), decide_eq_true h1, cond_true, decide_eq_true h2, cond_true, decide_eq_true h3, cond_true, h4, beq_self_eq_true, cond_true, decide_eq_true h5, cond_true, decide_eq_false h6, cond_false]
          · rw [no h5 (fun e => by rw [e]), decide_eq_true h1, cond_true, decide_eq_true h2, cond_true, decide_eq_true h3, cond_true, h4, beq_self_eq_true, cond_true, decide_eq_false h5, cond_false]
        · rw [no h4 (fun e => by rw [e]), decide_eq_true h1, cond_true, decide_eq_true h2, cond_true, decide_eq_true h3, cond_true, beq_eq_false_iff_ne.2 h4, cond_false]
      · rw [no h3 (fun e => by rw [e]), decide_eq_true h1, cond_true, decide_eq_true h2, cond_true, decide_eq_false h3, cond_false]
    · rw [no h2 (fun e => by rw [e]), decide_eq_true h1, cond_true, decide_eq_false h2, cond_false]
  · rw [no h1 (fun e => by rw [e]), decide_eq_false h1, cond_false]
theorem rsame_s {n : Nat} (ih : ∀ a b : Val, vb a < n → vb a ≤ 1048576 → chanceryref2_SameValue_f n a b = some (sameV a b, ())) {a b : Val} (h : vb a < n + 1) (hs : vb a ≤ 1048576) : chanceryref2_SameValue_f (n + 1) a b = some (sameV a b, ()) := by
  show chanceryref2_SameValue_s (chanceryref2_SameValue_f n) a b = _
  have hlt := vb_len a
  have hb : Ty.beq (.pair .str (.pair .str .unit)) (a.data.2.1.1, (a.data.2.1.2.1, ())) (b.data.2.1.1, (b.data.2.1.2.1, ())) = decide (a.data.2.1 = b.data.2.1) := beq_num a.data.2.1 b.data.2.1
  have no : ∀ {P : Prop}, ¬ P → (a = b → P) → sameV a b = false := fun hn f => decide_eq_false (fun e => hn (f e))
  unfold chanceryref2_SameValue_s
  simp only [cond_some', cond_pair, Bool.cond_self, Option.bind_some]
  rw [hb]
  by_cases h1 : a.data.1 = b.data.1
  · by_cases h2 : a.data.2.1 = b.data.2.1
    · by_cases h3 : a.data.2.2.1 = b.data.2.2.1
      · by_cases h4 : a.data.2.2.2.1 = b.data.2.2.2.1
        · by_cases h5 : a.data.2.2.2.2.1 = b.data.2.2.2.2.1
          · by_cases h6 : a.data.2.2.2.2.2.1 = b.data.2.2.2.2.2.1
            · by_cases h7 : a.data.2.2.2.2.2.2.1 = b.data.2.2.2.2.2.2.1
              · by_cases hlen : a.kids.length = b.kids.length
                · rw [decide_eq_true h1, decide_eq_true h2, decide_eq_true h3, h4, beq_self_eq_true, decide_eq_true h5, decide_eq_true h6, decide_eq_true h7, decide_eq_true (by omega : (a.kids.length : Int) = (b.kids.length : Int))]
                  simp only [Bool.not_true, cond_false]
                  refine (congrArg (fun z => Option.bind z _) (items_same (fun i => ((), (), (i : Int), _, _, ())) hlen (by omega) ?_ ?_)).trans ?_
                  · intro i hi
                    unfold chanceryref2_SameValue_l1
                    simp only []
                    rw [decide_eq_true (by omega : (i : Int) < (a.kids.length : Int)), cond_true, idx_lt hi, Option.bind_some, idx_lt (show i < b.kids.length by omega), Option.bind_some, ih _ _ (by have := vb_kid (List.getElem_mem hi); omega) (by have := vb_kid (List.getElem_mem hi); omega), Option.bind_some]
                    unfold sameV
                    by_cases e : a.kids[i] = b.kids[i]
                    · rw [decide_eq_true e, if_pos e, Bool.not_true, cond_false, wrap_i64 (by omega) (by omega)]; rfl
                    · rw [decide_eq_false e, if_neg e, Bool.not_false, cond_true]
                  · unfold chanceryref2_SameValue_l1
                    simp only []
                    rw [decide_eq_false (by omega), cond_false]
                  · unfold sameV
                    by_cases h8 : a.kids = b.kids
                    · rw [if_pos h8, decide_eq_true ((tree_eq a b).2 ⟨(data_eq _ _).2 ⟨h1, h2, h3, h4, h5, h6, h7⟩, h8⟩)]; rfl
                    · rw [if_neg h8, decide_eq_false (fun e => h8 (by rw [e]))]; rfl
                · rw [no hlen (fun e => by rw [e]), decide_eq_true h1, decide_eq_true h2, decide_eq_true h3, h4, beq_self_eq_true, decide_eq_true h5, decide_eq_true h6, decide_eq_true h7, decide_eq_false (show ¬ (a.kids.length : Int) = (b.kids.length : Int) by omega)]; rfl
              · rw [no h7 (fun e => by rw [e]), decide_eq_true h1, decide_eq_true h2, decide_eq_true h3, h4, beq_self_eq_true, decide_eq_true h5, decide_eq_true h6, decide_eq_false h7]; rfl
            · rw [no h6 (fun e => by rw [e]), decide_eq_true h1, decide_eq_true h2, decide_eq_true h3, h4, beq_self_eq_true, decide_eq_true h5, decide_eq_false h6]; rfl
          · rw [no h5 (fun e => by rw [e]), decide_eq_true h1, decide_eq_true h2, decide_eq_true h3, h4, beq_self_eq_true, decide_eq_false h5]; rfl
        · rw [no h4 (fun e => by rw [e]), decide_eq_true h1, decide_eq_true h2, decide_eq_true h3, beq_eq_false_iff_ne.2 h4]; rfl
      · rw [no h3 (fun e => by rw [e]), decide_eq_true h1, decide_eq_true h2, decide_eq_false h3]; rfl
    · rw [no h2 (fun e => by rw [e]), decide_eq_true h1, decide_eq_false h2]; rfl
  · rw [no h1 (fun e => by rw [e]), decide_eq_false h1]; rfl
theorem Same_f : ∀ (n : Nat) (a b : Val), vb a < n → vb a ≤ 1048576 → value_Same_f n a b = some (sameV a b, ())
  | 0, _, _, h, _ => absurd h (Nat.not_lt_zero _)
  | n + 1, _, _, h, hs => same_s (Same_f n) h hs
theorem rSame_f : ∀ (n : Nat) (a b : Val), vb a < n → vb a ≤ 1048576 → chanceryref2_SameValue_f n a b = some (sameV a b, ())
  | 0, _, _, h, _ => absurd h (Nat.not_lt_zero _)
  | n + 1, _, _, h, hs => rsame_s (rSame_f n) h hs
theorem Same_eq {a b : Val} (hs : vb a ≤ 1048576) : value_Same a b = some (sameV a b, ()) := Same_f rounds a b (by unfold rounds; omega) hs
theorem rSame_eq {a b : Val} (hs : vb a ≤ 1048576) : chanceryref2_SameValue a b = some (sameV a b, ()) := rSame_f rounds a b (by unfold rounds; omega) hs
theorem sameV_self (a : Val) : sameV a a = true := decide_eq_true rfl
end Go.Proofs.YtmkpdineahbfkaaGreatDoor

namespace Go.Proofs.YtmkpdineahbfkaaGreatDoor
open Go Go.Fe

/-! ### The makers -/
def vNum (f : Str × (Str × Unit)) : Val := .node (1, (f, ([], (false, (0, (0, (0, ()))))))) []
def vNone : Val := .node (0, (([], ([], ())), ([], (false, (0, (0, (0, ()))))))) []
end Go.Proofs.YtmkpdineahbfkaaGreatDoor

