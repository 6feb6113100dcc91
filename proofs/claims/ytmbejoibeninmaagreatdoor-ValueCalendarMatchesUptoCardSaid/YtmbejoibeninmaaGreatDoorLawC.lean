import Derived.Test.YtmbejoibeninmaaGreatDoorLawB
namespace Go.Proofs.YtmbejoibeninmaaGreatDoor
open Go Go.Fe

/-! ### The date with a number -/
theorem stair (f : Nat → Int) {n : Int} (h0 : f 0 < n) : ∀ K : Nat, n ≤ f K → ∃ k, k < K ∧ f k < n ∧ n ≤ f (k + 1)
  | 0, h => by omega
  | K + 1, h => by
    by_cases g : n ≤ f K
    · obtain ⟨k, h1, h2, h3⟩ := stair f h0 K g
      exact ⟨k, by omega, h2, h3⟩
    · exact ⟨K, by omega, by omega, h⟩
theorem bef_mono {i j : Nat} (h : i ≤ j) : bef (1900 + i) ≤ bef (1900 + j) := by
  obtain ⟨k, rfl⟩ : ∃ k, j = i + k := ⟨j - i, by omega⟩
  have := bef_add (1900 + i) k
  rw [show (1900 : Int) + ((i + k : Nat) : Int) = 1900 + (i : Int) + (k : Int) by omega]
  omega
theorem msum_mono (y : Int) {i : Nat} : ∀ k, msum y i ≤ msum y (i + k)
  | 0 => by simp
  | k + 1 => by
    have := msum_mono y (i := i) k
    have := mdays_pos y (((i + k : Nat) : Int) + 1)
    rw [← Nat.add_assoc, msum]
    omega
theorem msum_12 (y : Int) : msum y 12 = yl y := by
  by_cases h : leapP y <;> simp [msum, mdays, yl, h]
theorem year_of {n : Int} (h : 1 ≤ n) (h' : n ≤ 2958464) : ∃ k : Nat, k < 8100 ∧ bef (1900 + k) < n ∧ n ≤ bef (1900 + k) + yl (1900 + k) ∧ n / 366 ≤ k := by
  obtain ⟨k, h1, h2, h3⟩ := stair (fun i : Nat => bef (1900 + (i : Int))) (n := n) (by show bef (1900 + ((0 : Nat) : Int)) < n; rw [show (1900 : Int) + ((0 : Nat) : Int) = 1900 by omega, bef_1900]; omega) 8100 (by
    show n ≤ bef (1900 + ((8100 : Nat) : Int))
    have : bef (1900 + ((8100 : Nat) : Int)) = 2958464 := by decide
    omega)
  have h2 : bef (1900 + (k : Int)) < n := h2
  have h3 : n ≤ bef (1900 + ((k + 1 : Nat) : Int)) := h3
  have e : (1900 : Int) + ((k + 1 : Nat) : Int) = 1900 + (k : Int) + 1 := by omega
  rw [e] at h3
  have hs := bef_succ (1900 + (k : Int))
  refine ⟨k, h1, h2, by omega, ?_⟩
  have h5 := bef_add 1901 k
  have h6 : bef 1901 = 365 := by decide
  rw [show (1901 : Int) + (k : Int) = 1900 + (k : Int) + 1 by omega, h6] at h5
  omega
theorem month_of {y d : Int} (h : 1 ≤ d) (h' : d ≤ yl y) : ∃ j : Nat, j < 12 ∧ msum y j < d ∧ d ≤ msum y (j + 1) :=
  stair (msum y) (by show (0 : Int) < d; omega) 12 (by rw [msum_12]; exact h')
theorem rdate_eq {n : Int} {k j : Nat} (hk : k < 8100) (h1 : bef (1900 + k) < n) (h2 : n ≤ bef (1900 + k) + yl (1900 + k)) (hj : j < 12) (h3 : msum (1900 + k) j < n - bef (1900 + k)) (h4 : n - bef (1900 + k) ≤ msum (1900 + k) (j + 1)) :
    chanceryref2_Date n = some (1900 + (k : Int), 1 + (j : Int), n - bef (1900 + k) - msum (1900 + k) j, ()) := by
  have hn : 0 ≤ bef (1900 + (k : Int)) ∧ bef (1900 + (k : Int)) ≤ 2964600 := bef_small (by omega)
  have hyk := yl_pos (1900 + (k : Int))
  have hl : Halts chanceryref2_Date_l1 (0 + k) (n - bef (1900 + ((0 : Nat) : Int)), 1900 + ((0 : Nat) : Int), ()) (n - bef (1900 + (k : Int)), 1900 + (k : Int), ()) := by
    refine Halts.along (fun i => (n - bef (1900 + (i : Int)), 1900 + (i : Int), ())) k (fun i hi => ?_) (.done ?_)
    · have hb := bef_small (i := i) (by omega)
      have hs := bef_succ (1900 + (i : Int))
      have hp := yl_pos (1900 + (i : Int))
      have hm := bef_mono (i := i + 1) (j := k) (by omega)
      have e : (1900 : Int) + ((i + 1 : Nat) : Int) = 1900 + (i : Int) + 1 := by omega
      rw [e] at hm ⊢
      unfold chanceryref2_Date_l1
      dsimp only
      rw [leap_eq (by omega), Option.bind_some]
      have hh : (cond (decide (leapP (1900 + (i : Int)))) (some (IntKind.i64.wrap (365 + 1), ())) (some (365, ())) : Option (Int × Unit)) = some (yl (1900 + (i : Int)), ()) := by
        unfold yl
        by_cases hL : leapP (1900 + (i : Int))
        · rw [decide_eq_true hL, if_pos hL]; rfl
        · rw [decide_eq_false hL, if_neg hL]; rfl
      dsimp only
      rw [hh, Option.bind_some]
      dsimp only
      rw [decide_eq_false (by omega), cond_false, wrap_i64 (by omega) (by omega), wrap_i64 (by omega) (by omega), hs, Int.sub_sub]
    · unfold chanceryref2_Date_l1
      dsimp only
      rw [leap_eq (by omega), Option.bind_some]
      have hh : (cond (decide (leapP (1900 + (k : Int)))) (some (IntKind.i64.wrap (365 + 1), ())) (some (365, ())) : Option (Int × Unit)) = some (yl (1900 + (k : Int)), ()) := by
        unfold yl
        by_cases hL : leapP (1900 + (k : Int))
        · rw [decide_eq_true hL, if_pos hL]; rfl
        · rw [decide_eq_false hL, if_neg hL]; rfl
      dsimp only
      rw [hh, Option.bind_some]
      dsimp only
      rw [decide_eq_true (by omega)]
      rfl
  have hr := hl.loop (by omega)
  rw [show (1900 : Int) + ((0 : Nat) : Int) = 1900 by omega, bef_1900, Int.sub_zero] at hr
  have hl2 : Halts (chanceryref2_Date_l2 (n - bef (1900 + (k : Int)), 1900 + (k : Int), ())) (0 + j) (n - bef (1900 + (k : Int)) - msum (1900 + k) 0, 1 + ((0 : Nat) : Int), ()) (n - bef (1900 + (k : Int)) - msum (1900 + k) j, 1 + (j : Int), ()) := by
    refine Halts.along (fun i => (n - bef (1900 + (k : Int)) - msum (1900 + k) i, 1 + (i : Int), ())) j (fun i hi => ?_) (.done ?_)
    · have hb := msum_pos (1900 + (k : Int)) i
      have hp := mdays_pos (1900 + (k : Int)) (1 + (i : Int))
      have hm := msum_mono (1900 + (k : Int)) (i := i + 1) (j - (i + 1))
      rw [show i + 1 + (j - (i + 1)) = j by omega, msum, show (i : Int) + 1 = 1 + (i : Int) by omega] at hm
      unfold chanceryref2_Date_l2
      dsimp only
      rw [mdays_eq (by omega), Option.bind_some]
      dsimp only
      rw [decide_eq_true (by omega), cond_true, Option.bind_some]
      dsimp only
      rw [wrap_i64 (by omega) (by omega), wrap_i64 (by omega) (by omega), msum, show (i : Int) + 1 = 1 + (i : Int) by omega, show ((i + 1 : Nat) : Int) = (i : Int) + 1 by omega, Int.sub_sub, Int.add_assoc]
    · rw [msum, show (j : Int) + 1 = 1 + (j : Int) by omega] at h4
      unfold chanceryref2_Date_l2
      dsimp only
      rw [mdays_eq (by omega), Option.bind_some]
      dsimp only
      rw [decide_eq_false (by omega)]
      rfl
  have hr2 := hl2.loop (by omega)
  rw [show (1 : Int) + ((0 : Nat) : Int) = 1 by omega, msum, Int.sub_zero] at hr2
  unfold chanceryref2_Date
  rw [hr, Option.bind_some]
  dsimp only
  rw [hr2]
  rfl
theorem pdate_eq {n : Int} {k j : Nat} (hn1 : 1 ≤ n) (hn2 : n ≤ 2958464) (hk : k < 8100) (h1 : bef (1900 + k) < n) (h2 : n ≤ bef (1900 + k) + yl (1900 + k)) (hq : n / 366 ≤ k) (hj : j < 12) (h3 : msum (1900 + k) j < n - bef (1900 + k)) (h4 : n - bef (1900 + k) ≤ msum (1900 + k) (j + 1)) :
    value_Date n = some (1900 + (k : Int), 1 + (j : Int), n - bef (1900 + k) - msum (1900 + k) j, true, ()) := by
  have hn : 0 ≤ bef (1900 + (k : Int)) ∧ bef (1900 + (k : Int)) ≤ 2964600 := bef_small (by omega)
  have hyk := yl_pos (1900 + (k : Int))
  obtain ⟨s, hs⟩ : ∃ s : Nat, n / 366 = (s : Int) := ⟨(n / 366).toNat, by omega⟩
  obtain ⟨r, rfl⟩ : ∃ r, k = s + r := ⟨k - s, by omega⟩
  have hl : Halts (value_Date_l1 n) (0 + r) (1900 + (s : Int) + ((0 : Nat) : Int), ()) (1900 + ((s + r : Nat) : Int), ()) := by
    refine Halts.along (fun i => (1900 + (s : Int) + (i : Int), ())) r (fun i hi => ?_) (.done ?_)
    · have hm := bef_mono (i := s + i + 1) (j := s + r) (by omega)
      have e : (1900 : Int) + ((s + i + 1 : Nat) : Int) = 1900 + (s : Int) + (i : Int) + 1 := by omega
      rw [e] at hm
      unfold value_Date_l1
      dsimp only
      rw [wrap_i64 (by omega) (by omega), before_eq (by omega) (by omega), Option.bind_some]
      dsimp only
      rw [decide_eq_true (by omega), cond_true, show ((i + 1 : Nat) : Int) = (i : Int) + 1 by omega, Int.add_assoc (1900 + (s : Int))]
    · have hb := bef_succ (1900 + ((s + r : Nat) : Int))
      have e : 1900 + (s : Int) + (r : Int) = 1900 + ((s + r : Nat) : Int) := by omega
      unfold value_Date_l1
      dsimp only
      rw [e, wrap_i64 (by omega) (by omega), before_eq (by omega) (by omega), Option.bind_some]
      dsimp only
      rw [decide_eq_false (by omega)]
      rfl
  have hr := hl.loop (by omega)
  rw [show 1900 + (s : Int) + ((0 : Nat) : Int) = 1900 + (s : Int) by omega] at hr
  generalize hY : (1900 : Int) + ((s + r : Nat) : Int) = Y at *
  have hl2 : Halts (value_Date_l2 (mlist Y, ()) (Y, ())) (0 + j) (n - bef Y - msum Y 0, ((0 : Nat) : Int), ()) (.inr (Y, 1 + (j : Int), n - bef Y - msum Y j, true, ())) := by
    refine Halts.along (fun i => (n - bef Y - msum Y i, (i : Int), ())) j (fun i hi => ?_) (.done ?_)
    · have hb := msum_pos Y i
      have hp := mdays_pos Y ((i : Int) + 1)
      have hm := msum_mono Y (i := i + 1) (j - (i + 1))
      rw [show i + 1 + (j - (i + 1)) = j by omega, msum] at hm
      have hi2 : idx (mlist Y) (i : Int) = some (mdays Y ((i : Int) + 1)) := by
        unfold idx
        rw [if_pos (by omega), Int.toNat_natCast]
        exact mlist_get Y i (by omega)
      unfold value_Date_l2
      dsimp only
      rw [decide_eq_true (by omega), cond_true, hi2, Option.bind_some, decide_eq_false (by omega), cond_false, wrap_i64 (by omega) (by omega), wrap_i64 (by omega) (by omega), msum, Int.sub_sub]
      rfl
    · have hi2 : idx (mlist Y) (j : Int) = some (mdays Y ((j : Int) + 1)) := by
        unfold idx
        rw [if_pos (by omega), Int.toNat_natCast]
        exact mlist_get Y j hj
      rw [msum] at h4
      unfold value_Date_l2
      dsimp only
      rw [decide_eq_true (by omega), cond_true, hi2, Option.bind_some, decide_eq_true (by omega), cond_true, wrap_i64 (by omega) (by omega), show (j : Int) + 1 = 1 + (j : Int) by omega]
  have hr2 := hl2.loop (by omega)
  rw [msum, Int.sub_zero] at hr2
  unfold value_Date
  have hb : bef 10000 = 2958464 := by decide
  rw [decide_eq_false (by omega), cond_false, before_eq (by omega) (by omega), Option.bind_some]
  dsimp only
  rw [hb, Option.bind_some]
  dsimp only
  rw [decide_eq_false (by omega), cond_false, quo_pos (by omega) (by omega) (by omega), Option.bind_some, hs, wrap_i64 (by omega) (by omega), hr, Option.bind_some]
  dsimp only
  rw [before_eq (by omega) (by omega), Option.bind_some, lengths_eq (by omega), Option.bind_some]
  dsimp only
  rw [wrap_i64 (by omega) (by omega)]
  erw [hr2]
  rfl
theorem pdate_no {n : Int} (h : n < 1 ∨ 2958464 < n) : value_Date n = some (0, 0, 0, false, ()) := by
  unfold value_Date
  have hb : bef 10000 = 2958464 := by decide
  rw [before_eq (by omega) (by omega), hb]
  by_cases h1 : n < 1
  · rw [decide_eq_true h1]; rfl
  · rw [decide_eq_false h1, cond_false, Option.bind_some, Option.bind_some]
    dsimp only
    rw [decide_eq_true (by omega)]
    rfl

theorem valueCalendar_law (n y m d : Int) : chancerylaw2_ValueCalendarMatches n y m d = some (true, ()) := by
  have hpos : dateP y m d → 0 < dayN y m d := fun h => by
    unfold dateP at h
    obtain ⟨k, hk⟩ : ∃ k : Nat, y = 1900 + (k : Int) := ⟨(y - 1900).toNat, by omega⟩
    have := bef_small (i := k) (by omega)
    rw [← hk] at this
    have := msum_pos y (m - 1).toNat
    unfold dayN
    omega
  unfold chancerylaw2_ValueCalendarMatches
  rw [values_true, Option.bind_some]
  dsimp only
  rw [Bool.not_true, cond_false, pday_eq, rday_eq, Option.bind_some, Option.bind_some]
  dsimp only
  have hh : (cond (!decide ((if dateP y m d then dayN y m d else 0) = (if dateP y m d then dayN y m d else 0))) (some (true, ())) (some ((!(decide (dateP y m d) == (decide (0 < (if dateP y m d then dayN y m d else 0))))), ())) : Option (Bool × Unit)) = some (false, ()) := by
    by_cases h : dateP y m d
    · rw [if_pos h, decide_eq_true h, decide_eq_true (hpos h), decide_eq_true rfl]; rfl
    · rw [if_neg h, decide_eq_false h]; rfl
  rw [hh, Option.bind_some]
  dsimp only
  rw [cond_false]
  by_cases h1 : n < 1
  · rw [pdate_no (.inl h1), Option.bind_some, decide_eq_true h1]
    rfl
  by_cases h2 : 2958464 < n
  · rw [pdate_no (.inr h2), Option.bind_some, decide_eq_false h1, cond_false, decide_eq_true h2]
    rfl
  obtain ⟨k, k1, k2, k3, k4⟩ := year_of (n := n) (by omega) (by omega)
  obtain ⟨j, j1, j2, j3⟩ := month_of (y := 1900 + (k : Int)) (d := n - bef (1900 + (k : Int))) (by omega) (by omega)
  rw [pdate_eq (by omega) (by omega) k1 k2 k3 k4 j1 j2 j3, rdate_eq k1 k2 k3 j1 j2 j3, Option.bind_some, decide_eq_false h1, cond_false, decide_eq_false h2, Option.bind_some]
  dsimp only
  rw [cond_false, Option.bind_some]
  dsimp only
  rw [cond_true, decide_eq_true rfl, cond_true, decide_eq_true rfl, cond_true, decide_eq_true rfl]
end Go.Proofs.YtmbejoibeninmaaGreatDoor
