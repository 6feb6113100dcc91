import Derived.Test.YtmnegopgidckoaaDoorFun
import Derived.Test.YtmnegopgidckoaaDoorFeRun
namespace Go.Proofs.YtmnegopgidckoaaDoor
open Go Go.Fe

/-! ### Bits -/
def bitAt (s : Str) (i : Nat) : Nat := (s.getD (i / 8) 0).toNat / 2 ^ (7 - i % 8) % 2
theorem bitAt_lt (s : Str) (i : Nat) : bitAt s i < 2 := Nat.mod_lt _ (by omega)
/-- The number of n bits from a place on. -/
def valAt (s : Str) (a : Nat) : Nat → Nat
  | 0 => 0
  | n + 1 => 2 * valAt s a n + bitAt s (a + n)
theorem valAt_lt (s : Str) (a : Nat) : ∀ n, valAt s a n < 2 ^ n
  | 0 => by simp [valAt]
  | n + 1 => by
    have := valAt_lt s a n
    have := bitAt_lt s (a + n)
    rw [valAt, Nat.pow_succ]
    omega
theorem two_pow_le {n m : Nat} (h : n ≤ m) : 2 ^ n ≤ 2 ^ m := Nat.pow_le_pow_right (by omega) h

theorem wrap_byte (c : UInt8) : IntKind.i64.wrap (ofByte c) = ((c.toNat : Nat) : Int) := by
  have := byte_lt c
  rw [ofByte_eq, wrap_i64 (by omega) (by omega)]
theorem getD_lt {s : Str} {i : Nat} (h : i < s.length) : s.getD i 0 = s[i] := by simp [List.getD, h]

theorem byte_bit (c : UInt8) (k : Nat) (hk : k ≤ 7) : band .i64 (shr .i64 (IntKind.i64.wrap (ofByte c)) k) 1 = ((c.toNat / 2 ^ k % 2 : Nat) : Int) := by
  have := byte_lt c
  have := Nat.div_le_self c.toNat (2 ^ k)
  have e : min k (IntKind.bits .i64) = k := by simp only [IntKind.bits]; omega
  rw [wrap_byte, shr_nat, e, band_i64_one (by omega)]

theorem bit_eq (s : Str) (h : s.length ≤ 2000000) {i : Nat} (hi : i ≤ 8 * s.length) :
    squash_reader__bit s i = some (if i = 8 * s.length then (-1, (), (s, ((i : Int), ())), ()) else ((bitAt s i : Int), (), (s, (((i + 1 : Nat) : Int), ())), ())) := by
  have e1 : IntKind.i64.wrap (8 * (s.length : Int)) = ((8 * s.length : Nat) : Int) := by rw [wrap_i64 (by omega) (by omega)]; omega
  simp only [squash_reader__bit, e1]
  by_cases g : i = 8 * s.length
  · simp [g]
  · have g' : ¬((i : Int) = ((8 * s.length : Nat) : Int)) := by omega
    have hq : i / 8 < s.length := by omega
    have e2 : IntKind.i64.wrap (7 - ((i % 8 : Nat) : Int)) = ((7 - i % 8 : Nat) : Int) := by rw [wrap_i64 (by omega) (by omega)]; omega
    have e3 : IntKind.i64.wrap ((i : Int) + 1) = ((i + 1 : Nat) : Int) := by rw [wrap_i64 (by omega) (by omega)]; omega
    rw [show (8 : Int) = ((8 : Nat) : Int) from rfl, quo_nat (by omega) (by omega), rem_nat (by omega)]
    simp only [Option.bind_some, idx_lt hq, e2, shc_nat, byte_bit _ _ (show 7 - i % 8 ≤ 7 by omega), e3, if_neg g, g', decide_false, cond_false]
    rw [bitAt, getD_lt hq]

theorem wrap_two {v b : Nat} (h : v < 4611686018427387000) (hb : b < 2) : IntKind.i64.wrap (IntKind.i64.wrap (2 * (v : Int)) + (b : Int)) = ((2 * v + b : Nat) : Int) := by
  have e : IntKind.i64.wrap (2 * (v : Int)) = ((2 * v : Nat) : Int) := by rw [wrap_i64 (by omega) (by omega)]; omega
  rw [e, wrap_i64 (by omega) (by omega)]
  omega
theorem val_small (s : Str) (a : Nat) {n : Nat} (h : n ≤ 60) : valAt s a n < 4611686018427387000 := by
  have := valAt_lt s a n
  have := two_pow_le h
  have : (2 : Nat) ^ 60 = 1152921504606846976 := rfl
  omega

theorem wrap_succ {i : Nat} (h : i < 9223372036854775807) : IntKind.i64.wrap ((i : Int) + 1) = ((i + 1 : Nat) : Int) := by rw [wrap_i64 (by omega) (by omega)]; omega

theorem number_eq (s : Str) (h : s.length ≤ 2000000) {i x : Nat} (hi : i ≤ 8 * s.length) (hx : x ≤ 60) :
    squash_reader__number x s i = some (if i + x ≤ 8 * s.length then ((valAt s i x : Int), (), (s, (((i + x : Nat) : Int), ())), ()) else (-1, (), (s, (((8 * s.length : Nat) : Int), ())), ())) := by
  have key := Halts.scan (f := squash_reader__number_l1494 (x : Int)) (r := .inl ((), (valAt s i x : Int), (s, (((i + x : Nat) : Int), ())), ()))
    (fun j => ((), (valAt s i j : Int), (j : Int), (s, (((i + j : Nat) : Int), ())), ())) (fun j => decide (i + j < 8 * s.length)) x (fun _ => .inr ((), -1, (s, (((8 * s.length : Nat) : Int), ())), ())) ?_ ?_
  · simp only [squash_reader__number]
    rcases key with ⟨h1, h2⟩ | ⟨j, h1, h2, h3, h4⟩
    · rw [show (0 : Int) = ((0 : Nat) : Int) from rfl]
      have := h2.loop (by omega)
      simp only [valAt, Nat.add_zero] at this
      rw [this]
      simp only [Option.bind_some]
      have : i + x ≤ 8 * s.length := by
        by_cases e : x = 0
        · omega
        · have := h1 (x - 1) (by omega)
          simp only [decide_eq_true_eq] at this
          omega
      rw [if_pos this]
    · have := h4.loop (by omega)
      simp only [valAt, Nat.add_zero] at this
      rw [show (0 : Int) = ((0 : Nat) : Int) from rfl, this]
      simp only [decide_eq_false_iff_not] at h2
      simp only [Option.bind_some]
      rw [if_neg (by omega)]
  · intro j hj hp
    have hij : i + j ≤ 8 * s.length := by
      by_cases e : j = 0
      · omega
      · have := hp (j - 1) (by omega)
        simp only [decide_eq_true_eq] at this
        omega
    have c : ((j : Int) < (x : Int)) := by omega
    simp only [squash_reader__number_l1494, c, decide_true, cond_true, bit_eq s h hij, Option.bind_some, decide_eq_true_eq]
    by_cases g : i + j = 8 * s.length
    · simp [g]
    · have hb := bitAt_lt s (i + j)
      simp only [if_neg g, show ¬((bitAt s (i + j) : Int) < 0) by omega, decide_false, cond_false, wrap_two (val_small s i (show j ≤ 60 by omega)) hb, wrap_succ (show j < 9223372036854775807 by omega), show i + j < 8 * s.length by omega, if_true]
      rfl
  · intro _
    simp [squash_reader__number_l1494]

/-! ### The reference's bits -/
def bitsL (s : Str) (n : Nat) : List Int := (List.range n).map fun i => (bitAt s i : Int)
theorem bitsL_succ (s : Str) (n : Nat) : bitsL s (n + 1) = bitsL s n ++ [(bitAt s n : Int)] := by simp [bitsL, List.range_succ]
theorem bitsL_len (s : Str) (n : Nat) : (bitsL s n).length = n := by simp [bitsL]

theorem bitsOf_inner (s : Str) {i : Nat} (hi : i < s.length) (hs : s.length ≤ 2000000) (x : List Int) :
    loop (chanceryref2_bitsOf_l1161 s ((), (i : Int), x, ())) ((), 7, bitsL s (8 * i), ()) = some ((), bitsL s (8 * (i + 1)), ()) := by
  have := Halts.along (f := chanceryref2_bitsOf_l1161 s ((), (i : Int), x, ())) (n := 0) (r := ((), bitsL s (8 * (i + 1)), ()))
    (fun j => ((), 7 - (j : Int), bitsL s (8 * i + j), ())) 8 ?_ ?_
  · simpa using this.loop (by omega)
  · intro j hj
    have c : (0 : Int) ≤ ((7 - j : Nat) : Int) := by omega
    have e1 : (7 - (j : Int)) = ((7 - j : Nat) : Int) := by omega
    have e2 : IntKind.i64.wrap (((7 - j : Nat) : Int) - 1) = 7 - ((j + 1 : Nat) : Int) := by rw [wrap_i64 (by omega) (by omega)]; omega
    simp only [chanceryref2_bitsOf_l1161, c, decide_true, cond_true, idx_lt hi, Option.bind_some, e1, shc_nat, byte_bit _ _ (show 7 - j ≤ 7 by omega)]
    rw [cat_ok (by rw [bitsL_len]; simp; omega)]
    simp only [Option.bind_some, e2]
    have e3 : (s[i].toNat / 2 ^ (7 - j) % 2) = bitAt s (8 * i + j) := by
      rw [bitAt, show (8 * i + j) / 8 = i by omega, show (8 * i + j) % 8 = j by omega, getD_lt hi]
    rw [e3, show 8 * i + (j + 1) = 8 * i + j + 1 from rfl, bitsL_succ]
  · exact .done (by simp [chanceryref2_bitsOf_l1161, Nat.mul_add])

theorem bitsOf_eq (s : Str) (hs : s.length ≤ 2000000) : chanceryref2_bitsOf s = some (bitsL s (8 * s.length), ()) := by
  have := Halts.along (f := chanceryref2_bitsOf_l1170 s) (n := 0) (r := ((), bitsL s (8 * s.length), ()))
    (fun i => ((), (i : Int), bitsL s (8 * i), ())) s.length ?_ ?_
  · simp only [chanceryref2_bitsOf]
    have := this.loop (by omega)
    simp only [Nat.mul_zero] at this
    rw [show (0 : Int) = ((0 : Nat) : Int) from rfl, show ([] : List Int) = bitsL s 0 from rfl, this]
    rfl
  · intro i hi
    have c : ((i : Int) < (s.length : Int)) := by omega
    simp only [chanceryref2_bitsOf_l1170, c, decide_true, cond_true, bitsOf_inner s hi hs, Option.bind_some, wrap_succ (show i < 9223372036854775807 by omega)]
  · exact .done (by simp [chanceryref2_bitsOf_l1170])

theorem numberOf_eq (s : Str) (a x : Nat) (hx : x ≤ 60) : chanceryref2_numberOf ((List.range x).map fun j => (bitAt s (a + j) : Int)) = some ((valAt s a x : Int), ()) := by
  have := Halts.along (f := chanceryref2_numberOf_l1133 ((List.range x).map fun j => (bitAt s (a + j) : Int))) (n := 0) (r := ((valAt s a x : Int), ()))
    (fun j => ((valAt s a j : Int), (j : Int), ())) x ?_ ?_
  · simp only [chanceryref2_numberOf]
    have := this.loop (by omega)
    simp only [valAt] at this
    rw [show (0 : Int) = ((0 : Nat) : Int) from rfl, this]
    rfl
  · intro j hj
    have c : ((j : Int) < (((List.range x).map fun j => (bitAt s (a + j) : Int)).length : Int)) := by simp; omega
    have hj' : j < ((List.range x).map fun j => (bitAt s (a + j) : Int)).length := by simpa using hj
    simp only [chanceryref2_numberOf_l1133, c, decide_true, cond_true, idx_lt hj', Option.bind_some, List.getElem_map, List.getElem_range, wrap_two (val_small s a (show j ≤ 60 by omega)) (bitAt_lt s (a + j)), wrap_succ (show j < 9223372036854775807 by omega), valAt]
  · exact .done (by simp [chanceryref2_numberOf_l1133])

theorem bitsL_cut (s : Str) {n a x : Nat} (h : a + x ≤ n) : ((bitsL s n).take (a + x)).drop a = (List.range x).map fun j => (bitAt s (a + j) : Int) := by
  apply List.ext_getElem
  · simp [bitsL]; omega
  · intro i h1 h2
    simp [bitsL]

/-! ### The head -/
theorem byte_val (s : Str) (i : Nat) (a : Nat) (h : a = 8 * i) : valAt s a 8 = (s.getD i 0).toNat := by
  subst h
  have e : ∀ j, j < 8 → bitAt s (8 * i + j) = (s.getD i 0).toNat / 2 ^ (7 - j) % 2 := fun j hj => by
    rw [bitAt, show (8 * i + j) / 8 = i by omega, show (8 * i + j) % 8 = j by omega]
  have hb := byte_lt (s.getD i 0)
  simp only [valAt, e 0 (by omega), e 1 (by omega), e 2 (by omega), e 3 (by omega), e 4 (by omega), e 5 (by omega), e 6 (by omega), e 7 (by omega)]
  generalize (s.getD i 0).toNat = c at hb
  simp only [Nat.reduceSub, Nat.reducePow]
  omega
theorem valAt_add (s : Str) (a n : Nat) : ∀ m, valAt s a (n + m) = valAt s a n * 2 ^ m + valAt s (a + n) m
  | 0 => by simp [valAt]
  | m + 1 => by
    have := valAt_add s a n m
    rw [← Nat.add_assoc, valAt, valAt, this, Nat.pow_succ, show a + (n + m) = a + n + m by omega]
    rw [← Nat.mul_assoc (valAt s a n)]
    omega
/-- The number of the first four bytes. -/
def head (s : Str) : Nat := (s.getD 0 0).toNat * 16777216 + (s.getD 1 0).toNat * 65536 + (s.getD 2 0).toNat * 256 + (s.getD 3 0).toNat
theorem head_val (s : Str) : valAt s 0 32 = head s := by
  have h0 := byte_val s 0 0 rfl
  have h1 := byte_val s 1 8 rfl
  have h2 := byte_val s 2 16 rfl
  have h3 := byte_val s 3 24 rfl
  rw [show (32 : Nat) = 24 + 8 from rfl, valAt_add, show (24 : Nat) = 16 + 8 from rfl, valAt_add, show (16 : Nat) = 8 + 8 from rfl, valAt_add, head]
  simp only [Nat.zero_add, Nat.reduceAdd] at *
  rw [h0, h1, h2, h3]
  omega
theorem head_lt (s : Str) : head s < 4294967296 := by
  rw [← head_val]
  exact valAt_lt s 0 32

theorem bor_nat {a b k : Nat} (ha : 2 ^ k * a < 9223372036854775808) (hb : b < 2 ^ k) (hs : 2 ^ k * a + b < 9223372036854775808) : bor .i64 ((2 ^ k * a : Nat) : Int) (b : Int) = ((2 ^ k * a + b : Nat) : Int) := by
  unfold bor
  rw [BitVec.ofInt_natCast, BitVec.ofInt_natCast, BitVec.toNat_or]
  simp only [IntKind.bits, BitVec.toNat_ofNat]
  have : b ≤ 2 ^ k * a + b := by omega
  rw [Nat.mod_eq_of_lt (show 2 ^ k * a < 2 ^ 64 by omega), Nat.mod_eq_of_lt (show b < 2 ^ 64 by omega), ← Nat.two_pow_add_eq_or_of_lt hb, wrap_i64 (by omega) (by omega)]
theorem shl_byte (c : UInt8) (k : Nat) (hk : k ≤ 24) : shl .i64 (IntKind.i64.wrap (ofByte c)) k = ((2 ^ k * c.toNat : Nat) : Int) := by
  have h := byte_lt c
  have hp := two_pow_le hk
  have : (2 : Nat) ^ 24 = 16777216 := rfl
  have e : min k (IntKind.bits .i64) = k := by simp only [IntKind.bits]; omega
  have hm : c.toNat * 2 ^ k ≤ 256 * 16777216 := Nat.mul_le_mul (by omega) (by omega)
  unfold shl
  rw [wrap_byte, e]
  have e2 : ((c.toNat : Nat) : Int) * 2 ^ k = ((c.toNat * 2 ^ k : Nat) : Int) := by rw [Int.natCast_mul, Int.natCast_pow]; rfl
  rw [e2, wrap_i64 (by omega) (by omega), Nat.mul_comm]

theorem head_bor (s : Str) (h : 4 ≤ s.length) : bor .i64 (bor .i64 (bor .i64 (shl .i64 (IntKind.i64.wrap (ofByte s[0])) 24) (shl .i64 (IntKind.i64.wrap (ofByte s[1])) 16)) (shl .i64 (IntKind.i64.wrap (ofByte s[2])) 8)) (IntKind.i64.wrap (ofByte s[3])) = (head s : Int) := by
  have b0 := byte_lt s[0]
  have b1 := byte_lt s[1]
  have b2 := byte_lt s[2]
  have b3 := byte_lt s[3]
  rw [shl_byte _ 24 (by omega), shl_byte _ 16 (by omega), shl_byte _ 8 (by omega), wrap_byte]
  rw [bor_nat (by omega) (by omega) (by omega)]
  rw [show 2 ^ 24 * s[0].toNat + 2 ^ 16 * s[1].toNat = 2 ^ 16 * (256 * s[0].toNat + s[1].toNat) by omega]
  rw [bor_nat (by omega) (by omega) (by omega)]
  rw [show 2 ^ 16 * (256 * s[0].toNat + s[1].toNat) + 2 ^ 8 * s[2].toNat = 2 ^ 8 * (65536 * s[0].toNat + 256 * s[1].toNat + s[2].toNat) by omega]
  rw [bor_nat (by omega) (by omega) (by omega), head, getD_lt (by omega), getD_lt (by omega), getD_lt (by omega), getD_lt (by omega)]
  congr 1
  omega
end Go.Proofs.YtmnegopgidckoaaDoor
