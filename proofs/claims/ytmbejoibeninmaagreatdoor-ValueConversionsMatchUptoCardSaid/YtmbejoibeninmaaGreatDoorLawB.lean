import Derived.Test.YtmbejoibeninmaaGreatDoorLawA
namespace Go.Proofs.YtmbejoibeninmaaGreatDoor
open Go Go.Fe
def msum (y : Int) : Nat -> Int
 | 0 => 0
 | i + 1 => msum y i + mdays y ((i : Int) + 1)
theorem mdays_pos (y m : Int) : 28 <= mdays y m /\ mdays y m <= 31 := by
 unfold mdays
 repeat' split
 all_goals omega
theorem msum_pos (y : Int) : ∀ i, 0 <= msum y i /\ msum y i <= 31 * i
 | 0 => by simp [msum]
 | i + 1 => by
  have := msum_pos y i
  have := mdays_pos y ((i : Int) + 1)
  simp only [msum]
  omega
theorem mlist_get (y : Int) : ∀ i : Nat, i < 12 -> (mlist y)[i]? = some (mdays y ((i : Int) + 1))
 | 0, _ => by simp [mlist, mdays]
 | 1, _ => by simp [mlist, mdays]
 | 2, _ => by simp [mlist, mdays]
 | 3, _ => by simp [mlist, mdays]
 | 4, _ => by simp [mlist, mdays]
 | 5, _ => by simp [mlist, mdays]
 | 6, _ => by simp [mlist, mdays]
 | 7, _ => by simp [mlist, mdays]
 | 8, _ => by simp [mlist, mdays]
 | 9, _ => by simp [mlist, mdays]
 | 10, _ => by simp [mlist, mdays]
 | 11, _ => by simp [mlist, mdays]
 | _ + 12, h => by omega
theorem mlist_len (y : Int) : (mlist y).length = 12 := rfl
theorem bef_small {i : Nat} (h : i <= 8100) : 0 <= bef (1900 + i) /\ bef (1900 + i) <= 2964600 := by
 have := bef_add 1900 i
 rw [bef_1900] at this
 omega
theorem refYears {y d : Int} (h : 1900 <= y) (h' : y <= 9999) (hd : 1 <= d /\ d <= 31) : loop (chanceryref2_Day_l1 y) (d, 1900, ()) = some (d + bef y, ()) := by
 obtain ⟨k, rfl⟩ : ∃ k : Nat, y = 1900 + (k : Int) := ⟨(y - 1900).toNat, by omega⟩
 have hl : Halts (chanceryref2_Day_l1 (1900 + (k : Int))) (0 + k) (d + bef (1900 + ((0 : Nat) : Int)), 1900 + ((0 : Nat) : Int), ()) (d + bef (1900 + (k : Int)), ()) := by
  refine Halts.along (fun i => (d + bef (1900 + (i : Int)), 1900 + (i : Int), ())) k (fun i hi => ?_) (.done ?_)
  ·have hb := bef_small (i := i) (by omega)
   have hs := bef_succ (1900 + (i : Int))
   have hp := yl_pos (1900 + (i : Int))
   have e : (1900 : Int) + ((i + 1 : Nat) : Int) = 1900 + (i : Int) + 1 := by omega
   have w1 : IntKind.i64.wrap (1900 + (i : Int) + 1) = 1900 + (i : Int) + 1 := wrap_i64 (by omega) (by omega)
   have w2 : IntKind.i64.wrap (d + bef (1900 + (i : Int)) + 365) = d + bef (1900 + (i : Int)) + 365 := wrap_i64 (by omega) (by omega)
   have w3 : IntKind.i64.wrap (d + bef (1900 + (i : Int)) + 365 + 1) = d + bef (1900 + (i : Int)) + 366 := by rw [wrap_i64 (by omega) (by omega)]; omega
   have c : (1900 : Int) + (i : Int) < 1900 + (k : Int) := by omega
   rw [e, hs]
   unfold chanceryref2_Day_l1
   dsimp only
   rw [decide_eq_true c, cond_true, leap_eq (by omega), Option.bind_some, w1, w2, w3]
   unfold yl
   by_cases hL : leapP (1900 + (i : Int))
   ·rw [decide_eq_true hL, if_pos hL, show d + (bef (1900 + (i : Int)) + 366) = d + bef (1900 + (i : Int)) + 366 by omega]
    rfl
   ·rw [decide_eq_false hL, if_neg hL, show d + (bef (1900 + (i : Int)) + 365) = d + bef (1900 + (i : Int)) + 365 by omega]
    rfl
  ·unfold chanceryref2_Day_l1
   dsimp only
   rw [decide_eq_false (by omega)]
   rfl
 have := hl.loop (by omega)
 rw [show (1900 : Int) + ((0 : Nat) : Int) = 1900 by omega, bef_1900, Int.add_zero] at this
 exact this
theorem refMonths {y m n : Int} (hy : 0 <= y) (h : 1 <= m) (h' : m <= 12) (hn : 0 <= n /\ n <= 3000000) : loop (chanceryref2_Day_l2 m y) (n, 1, ()) = some (n + msum y (m - 1).toNat, ()) := by
 obtain ⟨k, rfl⟩ : ∃ k : Nat, m = 1 + (k : Int) := ⟨(m - 1).toNat, by omega⟩
 have hl : Halts (chanceryref2_Day_l2 (1 + (k : Int)) y) (0 + k) (n + msum y 0, 1 + ((0 : Nat) : Int), ()) (n + msum y k, ()) := by
  refine Halts.along (fun i => (n + msum y i, 1 + (i : Int), ())) k (fun i hi => ?_) (.done ?_)
  ·have hb := msum_pos y i
   have hp := mdays_pos y (1 + (i : Int))
   have c : (1 : Int) + (i : Int) < 1 + (k : Int) := by omega
   unfold chanceryref2_Day_l2
   dsimp only
   rw [decide_eq_true c, cond_true, mdays_eq hy, Option.bind_some]
   dsimp only
   rw [wrap_i64 (by omega) (by omega), wrap_i64 (by omega) (by omega), msum, show (i : Int) + 1 = 1 + (i : Int) by omega, show ((i + 1 : Nat) : Int) = (i : Int) + 1 by omega, Int.add_assoc, Int.add_assoc]
  ·unfold chanceryref2_Day_l2
   dsimp only
   rw [decide_eq_false (by omega)]
   rfl
 have := hl.loop (by omega)
 rw [show (1 : Int) + ((0 : Nat) : Int) = 1 by omega, msum, Int.add_zero] at this
 rw [this, show (1 + (k : Int) - 1).toNat = k by omega]
theorem progMonths {y b : Int} {k : Nat} (h : k <= 12) (hb : 0 <= b /\ b <= 3000000) : loop (value_Day_l1 ((mlist y).take k)) (b, (), 0, (mlist y).take k, ()) = some (b + msum y k, ()) := by
 have hlen : ((mlist y).take k).length = k := by rw [List.length_take, mlist_len]; omega
 have hl : Halts (value_Day_l1 ((mlist y).take k)) (0 + k) (b + msum y 0, (), ((0 : Nat) : Int), (mlist y).take k, ()) (b + msum y k, ()) := by
  refine Halts.along (fun i => (b + msum y i, (), (i : Int), (mlist y).take k, ())) k (fun i hi => ?_) (.done ?_)
  ·have hp := msum_pos y i
   have hm := mdays_pos y ((i : Int) + 1)
   have c : (i : Int) < (((mlist y).take k).length : Int) := by omega
   have hi2 : inb (i : Int) ((mlist y).take k).length = true := by
    simp only [inb, Bool.and_eq_true, decide_eq_true_eq]
    omega
   have hg : ((mlist y).take k).getD (i : Int).toNat 0 = mdays y ((i : Int) + 1) := by
    rw [List.getD_eq_getElem?_getD, Int.toNat_natCast, List.getElem?_take, if_pos hi, mlist_get y i (by omega)]
    rfl
   unfold value_Day_l1
   dsimp only
   rw [decide_eq_true c, cond_true, hi2, chk_t, Option.bind_some, hg, wrap_i64 (n := (i : Int) + 1) (by omega) (by omega), wrap_i64 (by omega) (by omega), msum, Int.add_assoc]
   rfl
  ·unfold value_Day_l1
   dsimp only
   rw [decide_eq_false (by omega)]
   rfl
 have := hl.loop (by omega)
 rw [msum, Int.add_zero] at this
 exact this
def dateP (y m d : Int) : Prop := 1900 <= y /\ y <= 9999 /\ 1 <= m /\ m <= 12 /\ 1 <= d /\ d <= mdays y m
instance (y m d : Int) : Decidable (dateP y m d) := by unfold dateP; infer_instance
def dayN (y m d : Int) : Int := bef y + d + msum y (m - 1).toNat
theorem rday_eq (y m d : Int) : chanceryref2_Day y m d = some (if dateP y m d then dayN y m d else 0, ()) := by
 unfold chanceryref2_Day
 by_cases h1 : y < 1900
 ·have hn : ¬dateP y m d := by unfold dateP; omega
  simp [h1, hn]
 by_cases h2 : 9999 < y
 ·have hn : ¬dateP y m d := by unfold dateP; omega
  simp [h1, h2, hn]
 by_cases h3 : m < 1
 ·have hn : ¬dateP y m d := by unfold dateP; omega
  simp [h1, h2, h3, hn]
 by_cases h4 : 12 < m
 ·have hn : ¬dateP y m d := by unfold dateP; omega
  simp [h1, h2, h3, h4, hn]
 by_cases h5 : d < 1
 ·have hn : ¬dateP y m d := by unfold dateP; omega
  simp [h1, h2, h3, h4, h5, hn]
 rw [mdays_eq (by omega)]
 by_cases h6 : mdays y m < d
 ·have hn : ¬dateP y m d := by unfold dateP; omega
  simp [h1, h2, h3, h4, h5, h6, hn]
 ·have hp := mdays_pos y m
  obtain ⟨k, hk⟩ : ∃ k : Nat, y = 1900 + (k : Int) := ⟨(y - 1900).toNat, by omega⟩
  have hb := bef_small (i := k) (by omega)
  rw [<- hk] at hb
  have hn : dateP y m d := by unfold dateP; omega
  rw [if_pos hn]
  simp only [h1, h2, h3, h4, h5, h6, decide_false, cond_false, Option.bind_some]
  rw [refYears (by omega) (by omega) (by omega), Option.bind_some]
  dsimp only
  rw [refMonths (by omega) (by omega) (by omega) (by omega), Option.bind_some]
  unfold dayN
  rw [show d + bef y = bef y + d by omega]
theorem pday_eq (y m d : Int) : value_Day y m d = some (if dateP y m d then dayN y m d else 0, decide (dateP y m d), ()) := by
 unfold value_Day
 by_cases h1 : y < 1900
 ·have hn : ¬dateP y m d := by unfold dateP; omega
  simp [h1, hn]
 by_cases h2 : 9999 < y
 ·have hn : ¬dateP y m d := by unfold dateP; omega
  simp [h1, h2, hn]
 by_cases h3 : m < 1
 ·have hn : ¬dateP y m d := by unfold dateP; omega
  simp [h1, h2, h3, hn]
 by_cases h4 : 12 < m
 ·have hn : ¬dateP y m d := by unfold dateP; omega
  simp [h1, h2, h3, h4, hn]
 have w : IntKind.i64.wrap (m - 1) = m - 1 := wrap_i64 (by omega) (by omega)
 rw [lengths_eq (by omega), w]
 by_cases h5 : d < 1
 ·have hn : ¬dateP y m d := by unfold dateP; omega
  simp [h1, h2, h3, h4, h5, hn]
 have hi : inb (m - 1) 12 = true := by
  simp only [inb, Bool.and_eq_true, decide_eq_true_eq]
  omega
 have hg : (mlist y).getD (m - 1).toNat 0 = mdays y m := by
  rw [List.getD_eq_getElem?_getD, mlist_get y _ (by omega), show (((m - 1).toNat : Nat) : Int) + 1 = m by omega]
  rfl
 simp only [h1, h2, h3, h4, h5, decide_false, cond_false, Option.bind_some, hi, chk_t, hg]
 by_cases h6 : mdays y m < d
 ·have hn : ¬dateP y m d := by unfold dateP; omega
  simp [h6, hn]
 ·have hn : dateP y m d := by unfold dateP; omega
  have hp := mdays_pos y m
  obtain ⟨k, hk⟩ : ∃ k : Nat, y = 1900 + (k : Int) := ⟨(y - 1900).toNat, by omega⟩
  have hb := bef_small (i := k) (by omega)
  rw [<- hk] at hb
  have hc := cut_nat (xs := mlist y) (a := 0) (b := (m - 1).toNat) (Nat.zero_le _) (by rw [mlist_len]; omega)
  rw [show (((m - 1).toNat : Nat) : Int) = m - 1 by omega, List.drop_zero] at hc
  rw [if_pos hn, decide_eq_true hn, decide_eq_false h6, cond_false, before_eq (by omega) (by omega), Option.bind_some]
  erw [hc]
  rw [Option.bind_some]
  dsimp only
  rw [wrap_i64 (by omega) (by omega), progMonths (by omega) (by omega)]
  rfl
end Go.Proofs.YtmbejoibeninmaaGreatDoor
