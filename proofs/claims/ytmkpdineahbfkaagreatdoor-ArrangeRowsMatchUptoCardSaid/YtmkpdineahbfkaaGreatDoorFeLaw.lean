/- Words about the plain functions' words. -/
import Derived.Test.YtmkpdineahbfkaaGreatDoorFeCode
namespace Go.Fe
open Go
/-- The same tree, written by its parts (what the program does when it copies a struct part by part). -/
def tn {α : Type} (t : Tree α) : Tree α := .node t.data t.kids
@[simp] theorem tn_eq {α : Type} (t : Tree α) : tn t = t := by cases t; rfl

theorem wrap_i64 {n : Int} (h : -9223372036854775808 ≤ n) (h' : n < 9223372036854775808) : IntKind.wrap .i64 n = n := by
  have e : IntKind.wrap .i64 n = if decide (n % 18446744073709551616 ≥ 9223372036854775808) = true then n % 18446744073709551616 - 18446744073709551616 else n % 18446744073709551616 := rfl
  rw [e]
  simp only [decide_eq_true_eq]
  split <;> omega
theorem wrap_u8 (n : Nat) : IntKind.wrap .u8 n = (n % 256 : Nat) := by
  simp only [IntKind.wrap, IntKind.bits, IntKind.signed, Bool.false_and, Bool.false_eq_true, if_false]
  omega
theorem wrap_u32 (n : Nat) : IntKind.wrap .u32 n = (n % 4294967296 : Nat) := by
  simp only [IntKind.wrap, IntKind.bits, IntKind.signed, Bool.false_and, Bool.false_eq_true, if_false]
  omega
theorem shr_nat (k : IntKind) (a n : Nat) : shr k a n = (a / 2 ^ (min n k.bits) : Nat) := by
  unfold shr
  have : (2 : Int) ^ (min n k.bits) = ((2 ^ (min n k.bits) : Nat) : Int) := by simp
  rw [this, Int.fdiv_eq_ediv_of_nonneg _ (Int.natCast_nonneg _)]
  rfl
theorem shc_nat (n : Nat) : shc n = some n := by
  unfold shc
  rw [if_neg (by omega)]
  rfl
theorem idx_nat {α : Type} {xs : List α} {i : Nat} : idx xs (i : Int) = xs[i]? := by
  unfold idx
  rw [if_pos (by omega)]
  rfl
end Go.Fe
