/- Words about the plain functions' words. -/
import Derived.Test.YtmnpchoocaiegaaGreatDoorFeCode
namespace Go.Fe
open Go
/-- The same tree, written by its parts (what the program does when it copies a struct part by part). -/
def tn {α : Type} (t : Tree α) : Tree α := .node t.data t.kids
@[simp] theorem tn_eq {α : Type} (t : Tree α) : tn t = t := by cases t; rfl

theorem wrap_i64 {n : Int} (h : -9223372036854775808 ≤ n) (h' : n < 9223372036854775808) : IntKind.wrap .i64 n = n := by
  have e : IntKind.wrap .i64 n = if decide (n % 18446744073709551616 ≥ 9223372036854775808) = true then n % 18446744073709551616 - 18446744073709551616 else n % 18446744073709551616 := rfl
  rw [e]
  simp only [decide_eq_true_eq]
  split <;> omega
end Go.Fe
