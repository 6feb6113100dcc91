/- The refusals of a printed text, one by one. -/
import Derived.Test.YtmnpchoocaiegaaGreatDoorFun
import Derived.Test.YtmnpchoocaiegaaGreatDoorFeLaw
namespace Go.Proofs.YtmnpchoocaiegaaGreatDoor
open Go Go.Fe
set_option maxRecDepth 100000

theorem mod23 (a : Int) : ∃ r : Nat, r < 23 ∧ chancerylaw2_mod a 23 = some ((r : Int), ()) := by
  have h1 := Int.tmod_lt_of_pos a (show (0 : Int) < 23 by decide)
  have h2 : -23 < a.tmod 23 := by
    have := Int.lt_tmod_of_pos a (show (0 : Int) < 23 by decide)
    exact this
  have hw : IntKind.wrap .i64 (a.tmod 23 + 23) = a.tmod 23 + 23 := wrap_i64 (by omega) (by omega)
  have h3 := Int.tmod_lt_of_pos (a.tmod 23 + 23) (show (0 : Int) < 23 by decide)
  have h4 := Int.tmod_nonneg 23 (show 0 ≤ a.tmod 23 + 23 by omega)
  refine ⟨((a.tmod 23 + 23).tmod 23).toNat, by omega, ?_⟩
  have h0 : ¬ ((23 : Int) = 0) := by decide
  simp only [chancerylaw2_mod, rem, if_neg h0, Option.bind_some, hw]
  rw [Int.toNat_of_nonneg h4]

theorem refuses_dep {k j : Int} (h : chancerylaw2_mod k 23 = chancerylaw2_mod j 23) : chancerylaw2_MarkupRefuses k = chancerylaw2_MarkupRefuses j := by
  have e : ∀ n : Int, n = 23 → chancerylaw2_mod k n = chancerylaw2_mod j n := fun n hn => by rw [hn]; exact h
  unfold chancerylaw2_MarkupRefuses
  dsimp only
  rw [e _ (by rfl)]
theorem refuses0 : chancerylaw2_MarkupRefuses 0 = some (true, ()) := by kernel_rfl
theorem refuses1 : chancerylaw2_MarkupRefuses 1 = some (true, ()) := by kernel_rfl
theorem refuses2 : chancerylaw2_MarkupRefuses 2 = some (true, ()) := by kernel_rfl
theorem refuses3 : chancerylaw2_MarkupRefuses 3 = some (true, ()) := by kernel_rfl
theorem refuses4 : chancerylaw2_MarkupRefuses 4 = some (true, ()) := by kernel_rfl
theorem refuses5 : chancerylaw2_MarkupRefuses 5 = some (true, ()) := by kernel_rfl
theorem refuses6 : chancerylaw2_MarkupRefuses 6 = some (true, ()) := by kernel_rfl
theorem refuses7 : chancerylaw2_MarkupRefuses 7 = some (true, ()) := by kernel_rfl
theorem refuses8 : chancerylaw2_MarkupRefuses 8 = some (true, ()) := by kernel_rfl
theorem refuses9 : chancerylaw2_MarkupRefuses 9 = some (true, ()) := by kernel_rfl
theorem refuses10 : chancerylaw2_MarkupRefuses 10 = some (true, ()) := by kernel_rfl
theorem refuses11 : chancerylaw2_MarkupRefuses 11 = some (true, ()) := by kernel_rfl
theorem refuses12 : chancerylaw2_MarkupRefuses 12 = some (true, ()) := by kernel_rfl
theorem refuses13 : chancerylaw2_MarkupRefuses 13 = some (true, ()) := by kernel_rfl
theorem refuses14 : chancerylaw2_MarkupRefuses 14 = some (true, ()) := by kernel_rfl
theorem refuses15 : chancerylaw2_MarkupRefuses 15 = some (true, ()) := by kernel_rfl
theorem refuses16 : chancerylaw2_MarkupRefuses 16 = some (true, ()) := by kernel_rfl
theorem refuses17 : chancerylaw2_MarkupRefuses 17 = some (true, ()) := by kernel_rfl
theorem refuses18 : chancerylaw2_MarkupRefuses 18 = some (true, ()) := by kernel_rfl
theorem refuses19 : chancerylaw2_MarkupRefuses 19 = some (true, ()) := by kernel_rfl
theorem refuses20 : chancerylaw2_MarkupRefuses 20 = some (true, ()) := by kernel_rfl
theorem refuses21 : chancerylaw2_MarkupRefuses 21 = some (true, ()) := by kernel_rfl
theorem refuses22 : chancerylaw2_MarkupRefuses 22 = some (true, ()) := by kernel_rfl

theorem refuses_law (k : Int) : chancerylaw2_MarkupRefuses k = some (true, ()) := by
  obtain ⟨r, hr, h⟩ := mod23 k
  have key : ∀ r : Nat, r < 23 → chancerylaw2_mod (r : Int) 23 = some ((r : Int), ()) ∧ chancerylaw2_MarkupRefuses (r : Int) = some (true, ()) := fun r hr => by
    match r, hr with
    | 0, _ => exact ⟨by kernel_rfl, refuses0⟩
    | 1, _ => exact ⟨by kernel_rfl, refuses1⟩
    | 2, _ => exact ⟨by kernel_rfl, refuses2⟩
    | 3, _ => exact ⟨by kernel_rfl, refuses3⟩
    | 4, _ => exact ⟨by kernel_rfl, refuses4⟩
    | 5, _ => exact ⟨by kernel_rfl, refuses5⟩
    | 6, _ => exact ⟨by kernel_rfl, refuses6⟩
    | 7, _ => exact ⟨by kernel_rfl, refuses7⟩
    | 8, _ => exact ⟨by kernel_rfl, refuses8⟩
    | 9, _ => exact ⟨by kernel_rfl, refuses9⟩
    | 10, _ => exact ⟨by kernel_rfl, refuses10⟩
    | 11, _ => exact ⟨by kernel_rfl, refuses11⟩
    | 12, _ => exact ⟨by kernel_rfl, refuses12⟩
    | 13, _ => exact ⟨by kernel_rfl, refuses13⟩
    | 14, _ => exact ⟨by kernel_rfl, refuses14⟩
    | 15, _ => exact ⟨by kernel_rfl, refuses15⟩
    | 16, _ => exact ⟨by kernel_rfl, refuses16⟩
    | 17, _ => exact ⟨by kernel_rfl, refuses17⟩
    | 18, _ => exact ⟨by kernel_rfl, refuses18⟩
    | 19, _ => exact ⟨by kernel_rfl, refuses19⟩
    | 20, _ => exact ⟨by kernel_rfl, refuses20⟩
    | 21, _ => exact ⟨by kernel_rfl, refuses21⟩
    | 22, _ => exact ⟨by kernel_rfl, refuses22⟩
    | r + 23, h => exact absurd h (by omega)
  rw [refuses_dep (h.trans (key r hr).1.symm)]
  exact (key r hr).2
end Go.Proofs.YtmnpchoocaiegaaGreatDoor
