import Derived.Test.YtmbejoibeninmaaGreatDoorFun
import Derived.Test.YtmbejoibeninmaaGreatDoorFeRun
namespace Go.Proofs.YtmbejoibeninmaaGreatDoor
open Go Go.Fe
theorem values_true : chancerylaw2_values = some (true, ()) := by kernel_rfl
def leapP (y : Int) : Prop := (y % 4 = 0 /\ y % 100 ≠ 0) \/ y % 400 = 0
instance (y : Int) : Decidable (leapP y) := by unfold leapP; infer_instance
def yl (y : Int) : Int := if leapP y then 366 else 365
def bef (y : Int) : Int := 365 * (y - 1900) + (y - 1) / 4 - (y - 1) / 100 + (y - 1) / 400 - 460
theorem bef_succ (y : Int) : bef (y + 1) = bef y + yl y := by
 unfold bef yl leapP
 have e : y + 1 - 1 = y := by omega
 rw [e]
 have h4 : y / 4 = (y - 1) / 4 + (if y % 4 = 0 then 1 else 0) := by split <;> omega
 have h100 : y / 100 = (y - 1) / 100 + (if y % 100 = 0 then 1 else 0) := by split <;> omega
 have h400 : y / 400 = (y - 1) / 400 + (if y % 400 = 0 then 1 else 0) := by split <;> omega
 rw [h4, h100, h400]
 by_cases a : y % 4 = 0 <;> by_cases b : y % 100 = 0 <;> by_cases c : y % 400 = 0 <;> simp [a, b, c] <;> omega
theorem yl_pos (y : Int) : 365 <= yl y /\ yl y <= 366 := by unfold yl; split <;> omega
theorem bef_1900 : bef 1900 = 0 := by decide
theorem bef_add (y : Int) (n : Nat) : bef y + 365 * n <= bef (y + n) /\ bef (y + n) <= bef y + 366 * n := by
 induction n with
 | zero => simp
 | succ n ih =>
  have := bef_succ (y + n)
  have := yl_pos (y + n)
  have e : y + ((n + 1 : Nat) : Int) = y + n + 1 := by omega
  rw [e]
  omega
theorem rem_pos {a b : Int} (ha : 0 <= a) (hb : 0 < b) : rem a b = some (a % b) := by
 unfold rem
 rw [if_neg (by omega), Int.tmod_eq_emod_of_nonneg ha]
theorem quo_pos {a b : Int} (ha : 0 <= a) (hb : 0 < b) (hs : a <= 9223372036854775807) : quo .i64 a b = some (a / b) := by
 unfold quo
 rw [if_neg (by omega), Int.tdiv_eq_ediv_of_nonneg ha, wrap_i64 (by have := Int.ediv_nonneg ha (Int.le_of_lt hb); omega) (by have := Int.ediv_le_self b ha; omega)]
theorem leap_eq {y : Int} (h : 0 <= y) : chanceryref2_Leap y = some (decide (leapP y), ()) := by
 unfold chanceryref2_Leap leapP
 rw [rem_pos h (by omega), rem_pos h (by omega), rem_pos h (by omega), Option.bind_some]
 by_cases a : y % 4 = 0 <;> by_cases b : y % 100 = 0 <;> by_cases c : y % 400 = 0 <;> simp [a, b, c]
def mdays (y m : Int) : Int := if m = 2 then (if leapP y then 29 else 28) else if m = 4 \/ m = 6 \/ m = 9 \/ m = 11 then 30 else 31
theorem mdays_eq {y : Int} (h : 0 <= y) (m : Int) : chanceryref2_MonthDays y m = some (mdays y m, ()) := by
 unfold chanceryref2_MonthDays mdays
 rw [leap_eq h]
 by_cases h2 : m = 2
 ·by_cases hl : leapP y <;> simp [h2, hl]
 ·by_cases h4 : m = 4 <;> by_cases h6 : m = 6 <;> by_cases h9 : m = 9 <;> by_cases h11 : m = 11 <;> simp_all
def mlist (y : Int) : List Int := [31, if leapP y then 29 else 28, 31, 30, 31, 30, 31, 31, 30, 31, 30, 31]
theorem lengths_eq {y : Int} (h : 0 <= y) : value_lengths y = some (mlist y, ()) := by
 unfold value_lengths mlist leapP
 rw [rem_pos h (by omega), rem_pos h (by omega), rem_pos h (by omega), Option.bind_some]
 by_cases a : y % 4 = 0 <;> by_cases b : y % 100 = 0 <;> by_cases c : y % 400 = 0 <;> simp [a, b, c, chk, inb] <;> omega
theorem before_eq {y : Int} (h : 1900 <= y) (h' : y <= 10001) : value_before y = some (bef y, ()) := by
 unfold value_before bef
 have w1 : IntKind.i64.wrap (y - 1) = y - 1 := wrap_i64 (by omega) (by omega)
 have w2 : IntKind.i64.wrap (y - 1900) = y - 1900 := wrap_i64 (by omega) (by omega)
 have w3 : IntKind.i64.wrap (365 * (y - 1900)) = 365 * (y - 1900) := wrap_i64 (by omega) (by omega)
 rw [w1, w2, w3, quo_pos (by omega) (by omega) (by omega), quo_pos (by omega) (by omega) (by omega), quo_pos (by omega) (by omega) (by omega)]
 simp only [Option.bind_some]
 rw [wrap_i64 (n := 365 * (y - 1900) + (y - 1) / 4) (by omega) (by omega), wrap_i64 (n := 365 * (y - 1900) + (y - 1) / 4 - (y - 1) / 100) (by omega) (by omega),
  wrap_i64 (n := 365 * (y - 1900) + (y - 1) / 4 - (y - 1) / 100 + (y - 1) / 400) (by omega) (by omega), wrap_i64 (by omega) (by omega)]
end Go.Proofs.YtmbejoibeninmaaGreatDoor
