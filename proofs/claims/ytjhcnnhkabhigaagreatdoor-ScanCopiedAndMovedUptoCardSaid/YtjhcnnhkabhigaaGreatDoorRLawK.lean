import Derived.Test.YtjhcnnhkabhigaaGreatDoorRLaw2
namespace Go.Proofs.YtjhcnnhkabhigaaGreatDoor
open Go Go.Fe

/-! ### References that are copied -/
def isFar (n : Int) : Bool := decide (n < -1073741824 ∨ 1073741824 < n)
theorem far_eq (n : Int) : cellref_far n = some (isFar n, ()) := by
  unfold cellref_far isFar
  by_cases h1 : n < -1073741824 <;> by_cases h2 : 1073741824 < n <;> simp [h1, h2]
theorem lfar_eq (n : Int) : chancerylaw2_far n = some (isFar n, ()) := by
  unfold chancerylaw2_far isFar
  by_cases h1 : n < -1073741824 <;> by_cases h2 : 1073741824 < n <;> simp [h1, h2]
theorem near {n : Int} (h : isFar n = false) : -1073741824 ≤ n ∧ n ≤ 1073741824 := by
  simp only [isFar, decide_eq_false_iff_not] at h
  omega
theorem ins_range {n : Int} (h : ins n = true) : 0 ≤ n ∧ n < 1073741824 := by simpa [ins] using h
theorem ref_ok {s : Str} {k r c r2 c2 : Int} {ar ac ar2 ac2 : Bool} (h : refErr s k r c r2 c2 ar ac ar2 ac2 = 0) :
    (k = 0 ∨ k = 1 ∨ k = 2 ∨ k = 3 ∨ k = 4) ∧ badForm s k r c r2 c2 ar ac ar2 ac2 = false ∧ ins r = true ∧ ins c = true ∧ ins r2 = true ∧ ins c2 = true ∧ (k = 0 ∨ r ≤ r2 ∧ c ≤ c2) := by
  unfold refErr at h
  by_cases h1 : k < 0 ∨ 4 < k
  · rw [if_pos h1] at h; cases h
  rw [if_neg h1] at h
  by_cases h2 : nameErr s ≠ 0
  · rw [if_pos h2] at h; exact absurd h h2
  rw [if_neg h2] at h
  cases hb : badForm s k r c r2 c2 ar ac ar2 ac2 with
  | true => rw [hb] at h; cases h
  | false =>
    rw [hb, cond_false] at h
    cases i1 : ins r with
    | false => rw [i1] at h; cases h
    | true =>
      cases i2 : ins c with
      | false => rw [i1, i2] at h; cases h
      | true =>
        cases i3 : ins r2 with
        | false => rw [i1, i2, i3] at h; cases h
        | true =>
          cases i4 : ins c2 with
          | false => rw [i1, i2, i3, i4] at h; cases h
          | true =>
            rw [i1, i2, i3, i4] at h
            simp only [Bool.and_self, Bool.not_true, cond_false] at h
            refine ⟨by omega, rfl, rfl, rfl, rfl, rfl, ?_⟩
            by_cases k0 : k = 0
            · exact .inl k0
            · right
              by_cases g1 : r2 < r
              · simp [k0, g1] at h
              · by_cases g2 : c2 < c
                · simp [k0, g2] at h
                · omega
def mv (n b : Int) (a : Bool) : Int := bif a then n else n + b
theorem mv_eq {n b : Int} {a : Bool} (h : ins n = true) (hb : isFar b = false) : chanceryref2_Copied_1 n b a = some (mv n b a, ()) := by
  have := ins_range h
  have := near hb
  unfold chanceryref2_Copied_1 mv
  cases a with
  | true => rfl
  | false => rw [cond_false, cond_false, wrap_i64 (by omega) (by omega)]
theorem wrap_mv {n b : Int} (h : ins n = true) (hb : isFar b = false) : IntKind.i64.wrap (n + b) = n + b := by
  have := ins_range h
  have := near hb
  rw [wrap_i64 (by omega) (by omega)]
theorem copied_core {s : Str} {k r c r2 c2 : Int} {ar ac ar2 ac2 : Bool} {d e : Int} (h : refErr s k r c r2 c2 ar ac ar2 ac2 = 0) (hd : isFar d = false) (he : isFar e = false) :
    cellref_Copied (s, k, r, c, r2, c2, ar, ac, ar2, ac2, ()) d e =
      (cellref_meaning (s, k, mv r d ar, mv c e ac, mv r2 d ar2, mv c2 e ac2, ar, ac, ar2, ac2, ())).bind fun v7 => (cellref_ordered v7.1).bind fun v8 => (cellref_fitting v8.1).bind fun v9 => some (v9.1, 0, ()) := by
  obtain ⟨_, _, i1, i2, i3, i4, _⟩ := ref_ok h
  simp only [cellref_Copied, Check_eq, h, far_eq, hd, he, decide_true, Bool.not_true, cond_false, Option.bind_some]
  cases ar <;> cases ac <;> cases ar2 <;> cases ac2 <;> simp only [Bool.not_true, Bool.not_false, cond_true, cond_false, mv, wrap_mv i1 hd, wrap_mv i2 he, wrap_mv i3 hd, wrap_mv i4 he]
theorem okD {s : Str} {k r c r2 c2 : Int} {ar ac ar2 ac2 : Bool} (h1 : 0 ≤ k ∧ k ≤ 4) (h2 : nameErr s = 0) (h3 : badForm s k r c r2 c2 ar ac ar2 ac2 = false) (h4 : ins r = true) (h5 : ins c = true) (h6 : ins r2 = true) (h7 : ins c2 = true)
    (h8 : k = 0 ∨ r ≤ r2 ∧ c ≤ c2) : errD (s, k, r, c, r2, c2, ar, ac, ar2, ac2, ()) = 0 := refErr_zero h1 h2 h3 h4 h5 h6 h7 h8
theorem copied_eq {s : Str} {k r c r2 c2 : Int} {ar ac ar2 ac2 : Bool} {d e : Int} (h : refErr s k r c r2 c2 ar ac ar2 ac2 = 0) (hd : isFar d = false) (he : isFar e = false) :
    ∃ y, cellref_Copied (s, k, r, c, r2, c2, ar, ac, ar2, ac2, ()) d e = some (y, 0, ()) ∧ chanceryref2_Copied (s, k, r, c, r2, c2, ar, ac, ar2, ac2, ()) d e = some (y, ()) ∧ errD y = 0 := by
  have hn := (valid h).2.2.1
  rw [copied_core h hd he]
  obtain ⟨hk, hb, i1, i2, i3, i4, hs⟩ := ref_ok h
  have m1 := mv_eq (a := ar) i1 hd
  have m2 := mv_eq (a := ac) i2 he
  have m3 := mv_eq (a := ar2) i3 hd
  have m4 := mv_eq (a := ac2) i4 he
  rcases hk with rfl | rfl | rfl | rfl | rfl
  · simp [badForm] at hb
    obtain ⟨rfl, rfl, rfl, rfl⟩ : r2 = 0 ∧ c2 = 0 ∧ ar2 = false ∧ ac2 = false := by simpa [and_assoc] using hb
    simp only [cellref_meaning, ordered_eq, cellref_fitting, chanceryref2_Copied, permitted_ins, inside_ins, m1, m2, Option.bind_some, decide_true, cond_true, cond_false, Bool.not_true, Bool.not_false,
      show decide ((0 : Int) = 3) = false from rfl, show decide ((0 : Int) = 4) = false from rfl, show decide ((0 : Int) = 2) = false from rfl, show decide ((1 : Int) ≤ 0) = false from rfl, show ins 0 = true from rfl]
    cases e_r : ins (mv r d ar) <;> cases e_c : ins (mv c e ac) <;> exact ⟨_, rfl, rfl, by first | rfl | ((try dsimp only); exact okD (by omega) hn (by simp [badForm]) e_r e_c rfl rfl (.inl rfl))⟩
  · simp only [cellref_meaning, ordered_eq, cellref_fitting, chanceryref2_Copied, permitted_ins, inside_ins, m1, m2, m3, m4, Sorted_eq, Option.bind_some, cond_true, cond_false, Bool.not_false,
      show decide ((1 : Int) = 3) = false from rfl, show decide ((1 : Int) = 4) = false from rfl, show decide ((1 : Int) = 2) = false from rfl, show decide ((1 : Int) = 0) = false from rfl, show decide ((1 : Int) ≤ 1) = true from rfl, show decide ((1 : Int) ≤ 3) = true from rfl, sortR]
    by_cases g1 : mv r2 d ar2 < mv r d ar <;> by_cases g2 : mv c2 e ac2 < mv c e ac <;> simp only [g1, g2, if_true, if_false, show decide ((1 : Int) = 3) = false from rfl, show decide ((1 : Int) = 4) = false from rfl, show decide ((1 : Int) = 2) = false from rfl, show decide ((1 : Int) = 0) = false from rfl, cond_false, Option.bind_some] <;>
      cases e_r : ins (mv r d ar) <;> cases e_c : ins (mv c e ac) <;> cases e_r2 : ins (mv r2 d ar2) <;> cases e_c2 : ins (mv c2 e ac2) <;> exact ⟨_, rfl, rfl, by first | rfl | ((try dsimp only); exact okD (by omega) hn (by simp [badForm]) (by assumption) (by assumption) (by assumption) (by assumption) (.inr ⟨by omega, by omega⟩))⟩
  · simp [badForm] at hb
    obtain ⟨rfl, rfl, rfl, rfl⟩ : c = 0 ∧ c2 = 0 ∧ ac = false ∧ ac2 = false := by simpa [and_assoc] using hb
    simp only [cellref_meaning, ordered_eq, cellref_fitting, chanceryref2_Copied, permitted_ins, inside_ins, m1, m3, Sorted_eq, Option.bind_some, decide_true, cond_true, cond_false, Bool.not_true, Bool.not_false,
      show decide ((2 : Int) = 3) = false from rfl, show decide ((2 : Int) = 4) = false from rfl, show decide ((2 : Int) = 0) = false from rfl, show decide ((1 : Int) ≤ 2) = true from rfl, show decide ((2 : Int) ≤ 3) = true from rfl, sortR]
    by_cases g1 : mv r2 d ar2 < mv r d ar <;> simp only [g1, if_true, if_false, show decide ((2 : Int) = 3) = false from rfl, show decide ((2 : Int) = 0) = false from rfl, cond_false, cond_true, decide_true, Option.bind_some, Int.lt_irrefl, show ins 0 = true from rfl] <;>
      cases e_r : ins (mv r d ar) <;> cases e_r2 : ins (mv r2 d ar2) <;> exact ⟨_, rfl, rfl, by first | rfl | ((try dsimp only); exact okD (by omega) hn (by simp [badForm]) (by assumption) rfl (by assumption) rfl (.inr ⟨by omega, by omega⟩))⟩
  · simp [badForm] at hb
    obtain ⟨rfl, rfl, rfl, rfl⟩ : r = 0 ∧ r2 = 0 ∧ ar = false ∧ ar2 = false := by simpa [and_assoc] using hb
    simp only [cellref_meaning, ordered_eq, cellref_fitting, chanceryref2_Copied, permitted_ins, inside_ins, m2, m4, Sorted_eq, Option.bind_some, decide_true, cond_true, cond_false, Bool.not_true, Bool.not_false,
      show decide ((3 : Int) = 2) = false from rfl, show decide ((3 : Int) = 4) = false from rfl, show decide ((3 : Int) = 0) = false from rfl, show decide ((1 : Int) ≤ 3) = true from rfl, show decide ((3 : Int) ≤ 3) = true from rfl, sortR, Int.lt_irrefl, if_false]
    by_cases g2 : mv c2 e ac2 < mv c e ac <;> simp only [g2, if_true, if_false, show decide ((3 : Int) = 2) = false from rfl, show decide ((3 : Int) = 0) = false from rfl, cond_false, cond_true, decide_true, Option.bind_some, show ins 0 = true from rfl] <;>
      cases e_c : ins (mv c e ac) <;> cases e_c2 : ins (mv c2 e ac2) <;> exact ⟨_, rfl, rfl, by first | rfl | ((try dsimp only); exact okD (by omega) hn (by simp [badForm]) rfl (by assumption) rfl (by assumption) (.inr ⟨by omega, by omega⟩))⟩
  · simp [badForm] at hb
    obtain ⟨rfl, rfl, rfl, rfl, rfl, rfl, rfl, rfl, rfl⟩ : s = [] ∧ r = 0 ∧ c = 0 ∧ r2 = 0 ∧ c2 = 0 ∧ ar = false ∧ ac = false ∧ ar2 = false ∧ ac2 = false := by simpa [and_assoc] using hb
    exact ⟨_, rfl, rfl, rfl⟩
end Go.Proofs.YtjhcnnhkabhigaaGreatDoor
