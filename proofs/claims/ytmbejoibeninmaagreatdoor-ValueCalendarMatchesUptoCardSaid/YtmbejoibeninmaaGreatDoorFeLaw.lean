/- Words about the plain functions' words. -/
import Derived.Test.YtmbejoibeninmaaGreatDoorFeCode
namespace Go.Fe
open Go

theorem loopK_seq {S R : Type} (f : S → Option (S ⊕ R)) (st : Nat → S) (r : R) : ∀ (n k m : Nat), n < m → (∀ i, i < n → f (st (k + i)) = some (.inl (st (k + i + 1)))) → f (st (k + n)) = some (.inr r) → loopK f m (st k) = some r
  | 0, k, m + 1, _, _, he => by
    simp only [Nat.add_zero] at he
    simp only [loopK, he]
  | n + 1, k, m + 1, hm, h, he => by
    have h0 := h 0 (by omega)
    simp only [Nat.add_zero] at h0
    simp only [loopK, h0]
    refine loopK_seq f st r n (k + 1) m (by omega) (fun i hi => ?_) ?_
    · have := h (i + 1) (by omega)
      rw [show k + 1 + i = k + (i + 1) by omega]
      exact this
    · rw [show k + 1 + n = k + (n + 1) by omega]
      exact he

/-- A loop that goes through a known row of states. -/
theorem loop_seq {S R : Type} {f : S → Option (S ⊕ R)} (st : Nat → S) (n : Nat) {r : R} (hn : n < 1099511627776) (h : ∀ i, i < n → f (st i) = some (.inl (st (i + 1)))) (he : f (st n) = some (.inr r)) : loop f (st 0) = some r :=
  loopK_seq f st r n 0 rounds hn (fun i hi => by simpa using h i hi) (by simpa using he)

theorem wrap_i64 {n : Int} (h : -9223372036854775808 ≤ n) (h' : n < 9223372036854775808) : IntKind.wrap .i64 n = n := by
  have e : IntKind.wrap .i64 n = if decide (n % 18446744073709551616 ≥ 9223372036854775808) = true then n % 18446744073709551616 - 18446744073709551616 else n % 18446744073709551616 := rfl
  rw [e]
  simp only [decide_eq_true_eq]
  split <;> omega
theorem wrap_u8 (n : Nat) : IntKind.wrap .u8 n = (n % 256 : Nat) := by
  simp only [IntKind.wrap, IntKind.bits, IntKind.signed, Bool.false_and, Bool.false_eq_true, if_false]
  omega
theorem wrap_u32 (n : Nat) : IntKind.wrap .u32 n = (n % 4294967296 : Nat) := by
  simp only [IntKind.wrap, IntKind.bits, IntKind.signed, Bool.false_and, Bool.false_eq_true, if_false]
  omega
theorem shr_nat (k : IntKind) (a n : Nat) : shr k a n = (a / 2 ^ (min n k.bits) : Nat) := by
  unfold shr
  have : (2 : Int) ^ (min n k.bits) = ((2 ^ (min n k.bits) : Nat) : Int) := by simp
  rw [this, Int.fdiv_eq_ediv_of_nonneg _ (Int.natCast_nonneg _)]
  rfl
theorem shc_nat (n : Nat) : shc n = some n := by
  unfold shc
  rw [if_neg (by omega)]
  rfl
theorem bxor_u32 {a b : Nat} (ha : a < 4294967296) (hb : b < 4294967296) : bxor .u32 a b = (a ^^^ b : Nat) := by
  unfold bxor
  rw [BitVec.ofInt_natCast, BitVec.ofInt_natCast, BitVec.toNat_xor, wrap_u32]
  simp only [IntKind.bits, BitVec.toNat_ofNat]
  rw [Nat.mod_eq_of_lt (show a < 2 ^ 32 from ha), Nat.mod_eq_of_lt (show b < 2 ^ 32 from hb), Nat.mod_eq_of_lt (Nat.xor_lt_two_pow (n := 32) ha hb)]
theorem bxor_u8 {a b : Nat} (ha : a < 256) (hb : b < 256) : bxor .u8 a b = (a ^^^ b : Nat) := by
  unfold bxor
  rw [BitVec.ofInt_natCast, BitVec.ofInt_natCast, BitVec.toNat_xor, wrap_u8]
  simp only [IntKind.bits, BitVec.toNat_ofNat]
  rw [Nat.mod_eq_of_lt (show a < 2 ^ 8 from ha), Nat.mod_eq_of_lt (show b < 2 ^ 8 from hb), Nat.mod_eq_of_lt (Nat.xor_lt_two_pow (n := 8) ha hb)]
theorem band_i64_one {a : Nat} (ha : a < 9223372036854775808) : band .i64 a 1 = (a % 2 : Nat) := by
  unfold band
  rw [show (1 : Int) = ((1 : Nat) : Int) from rfl, BitVec.ofInt_natCast, BitVec.ofInt_natCast, BitVec.toNat_and]
  simp only [IntKind.bits, BitVec.toNat_ofNat]
  rw [Nat.mod_eq_of_lt (show a < 2 ^ 64 by omega), show 1 % 2 ^ 64 = 1 from rfl, Nat.and_one_is_mod, wrap_i64 (by omega) (by omega)]

theorem idx_nat {α : Type} {xs : List α} {i : Nat} : idx xs (i : Int) = xs[i]? := by
  unfold idx
  rw [if_pos (by omega)]
  rfl
theorem chk_some {b : Bool} (h : b = true) {α : Type} (f : Unit → Option α) : (chk b).bind f = f () := by subst h; rfl

end Go.Fe
