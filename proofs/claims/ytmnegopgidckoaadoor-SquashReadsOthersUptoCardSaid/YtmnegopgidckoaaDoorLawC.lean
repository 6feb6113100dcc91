import Derived.Test.YtmnegopgidckoaaDoorLawB
namespace Go.Proofs.YtmnegopgidckoaaDoor
open Go Go.Fe

/-- What reading a symbol comes to. -/
inductive Dec
  | short
  | form
  | sym (k a : Nat)

section
variable (s : Str) (a : Nat) (f : Nat → Nat)
/-- Symbol by symbol: m more bits at the most, n bits are read. -/
def dec : Nat → Nat → Dec
  | 0, _ => .form
  | m + 1, n => if a + n < 8 * s.length then
      if st f 272 (n + 1) ≤ valAt s a (n + 1) ∧ valAt s a (n + 1) < st f 272 (n + 1) + cn f 272 (n + 1) then
        .sym ((kth f (n + 1) 272).getD (valAt s a (n + 1) - st f 272 (n + 1)) 0) (a + n + 1)
      else dec m (n + 1)
    else .short
end

theorem lst_pre (f : Nat → Nat) (N : Nat) {n m : Nat} (h : n ≤ m) : ∃ t, lst f N m = lst f N n ++ t := by
  induction h with
  | refl => exact ⟨[], by simp⟩
  | step _ ih =>
    obtain ⟨t, ht⟩ := ih
    exact ⟨_, by rw [lst, ht, List.append_assoc]⟩
theorem off_mono (f : Nat → Nat) (N : Nat) {n m : Nat} (h : n ≤ m) : off f N n ≤ off f N m := by
  induction h with
  | refl => exact Nat.le_refl _
  | step _ ih => rw [off]; omega
theorem lst_get (f : Nat → Nat) {n i : Nat} (hn : n + 1 ≤ 15) (hi : i < cn f 272 (n + 1)) : (ints (lst f 272 15)).getD (off f 272 (n + 1) + i) 0 = ((kth f (n + 1) 272).getD i 0 : Int) := by
  obtain ⟨t, ht⟩ := lst_pre f 272 hn
  have hl := lst_len f 272 n
  have hk : (kth f (n + 1) 272).length = cn f 272 (n + 1) := by rw [cn_pos f 272 (by omega)]; rfl
  rw [ht, lst, ← hl]
  simp only [ints, List.getD, List.map_append, List.append_assoc]
  rw [List.getElem?_append_right (by simp), List.length_map, Nat.add_sub_cancel_left, List.getElem?_append_left (by simpa [hk] using hi)]
  simp [hk, hi]

abbrev D0 (f : Nat → Nat) : (List Int) × ((List Int) × (Unit × Unit)) := (arr (st f 272) 16, (arr (off f 272) 16, ((), ())))
abbrev L0 (f : Nat → Nat) : List Int := ints (lst f 272 15)

/-- .. as the program says it. -/
def decOut (s : Str) (a : Nat) (f : Nat → Nat) : Dec → ((Unit × (Unit × (((List Int) × ((List Int) × (Unit × Unit))) × ((Str × (Int × Unit)) × ((List Int) × Unit))))) ⊕ (Unit × (Unit × (Int × (Int × (((List Int) × ((List Int) × (Unit × Unit))) × ((Str × (Int × Unit)) × ((List Int) × Unit))))))))
  | .form => .inl ((), (), D0 f, (s, (((a + 15 : Nat) : Int), ())), L0 f, ())
  | .short => .inr ((), (), 0, 11, D0 f, (s, (((8 * s.length : Nat) : Int), ())), L0 f, ())
  | .sym k b => .inr ((), (), (k : Int), 0, D0 f, (s, ((b : Int), ())), L0 f, ())

theorem symbol_loop (s : Str) (hs : s.length ≤ 2000000) (a : Nat) (f : Nat → Nat) : ∀ (m n : Nat), n + m = 15 → a + n ≤ 8 * s.length →
    Halts squash_decoder__symbol_l1449 m ((), (), (valAt s a n : Int), ((n + 1 : Nat) : Int), D0 f, (s, (((a + n : Nat) : Int), ())), L0 f, ()) (decOut s a f (dec s a f m n))
  | 0, n, hn, _ => by
    have : n = 15 := by omega
    subst this
    exact .done (by simp [squash_decoder__symbol_l1449, dec, decOut])
  | m + 1, n, hn, ha => by
    have c : (((n + 1 : Nat) : Int) ≤ 15) := by omega
    rw [dec]
    by_cases g : a + n < 8 * s.length
    · rw [if_pos g]
      have hb := bitAt_lt s (a + n)
      have hv := valAt_lt s a (n + 1)
      have hv2 := two_pow_le (show n + 1 ≤ 15 by omega)
      have h15 : (2 : Nat) ^ 15 = 32768 := rfl
      have s1 := st_small f (show n + 1 ≤ 16 by omega)
      have s2 := cn_le f 272 (n + 1)
      have s3 := off_le f 272 (n + 1)
      have s3' : (n + 1) * 272 ≤ 16 * 272 := Nat.mul_le_mul_right _ (by omega)
      have s4 : off f 272 (n + 2) = off f 272 (n + 1) + cn f 272 (n + 1) := rfl
      have i16 : inb ((n + 1 : Nat) : Int) 16 = true := inb_nat (by omega)
      have e2 : IntKind.i64.wrap (((n + 1 : Nat) : Int) + 1) = ((n + 2 : Nat) : Int) := wrap_succ (by omega)
      have ev : IntKind.i64.wrap (IntKind.i64.wrap (2 * (valAt s a n : Int)) + (bitAt s (a + n) : Int)) = (valAt s a (n + 1) : Int) := by
        rw [wrap_two (val_small s a (show n ≤ 60 by omega)) hb]
        rfl
      have gd1 : (arr (st f 272) 16).getD (n + 1) 0 = (st f 272 (n + 1) : Int) := arr_get _ (by omega) (by omega)
      have gd2 : (arr (off f 272) 16).getD (n + 1) 0 = (off f 272 (n + 1) : Int) := arr_get _ (by omega) (by omega)
      have ew : IntKind.i64.wrap ((valAt s a (n + 1) : Int) - (st f 272 (n + 1) : Int)) = (valAt s a (n + 1) : Int) - (st f 272 (n + 1) : Int) := wrap_i64 (by omega) (by omega)
      have ec : IntKind.i64.wrap ((off f 272 (n + 2) : Int) - (off f 272 (n + 1) : Int)) = (cn f 272 (n + 1) : Int) := by rw [wrap_sub (by omega) (by omega)]; omega
      have hend : (cond (decide (((n + 1 : Nat) : Int) < 15))
          ((chk (inb ((n + 2 : Nat) : Int) 16)).bind fun _ => some ((), (), ((arr (off f 272) 16).getD (n + 2) 0), D0 f, (s, (((a + n + 1 : Nat) : Int), ())), L0 f, ()))
          (some ((), (), ((L0 f).length : Int), D0 f, (s, (((a + n + 1 : Nat) : Int), ())), L0 f, ())) : Option (Unit × (Unit × (Int × (((List Int) × ((List Int) × (Unit × Unit))) × ((Str × (Int × Unit)) × ((List Int) × Unit))))))) =
          some ((), (), (off f 272 (n + 2) : Int), D0 f, (s, (((a + n + 1 : Nat) : Int), ())), L0 f, ()) := by
        by_cases g2 : n + 1 < 15
        · have : ((n + 1 : Nat) : Int) < 15 := by omega
          have i2 : inb ((n + 2 : Nat) : Int) 16 = true := inb_nat (by omega)
          simp only [this, decide_true, cond_true, i2, chk_t, Option.bind_some]
          rw [arr_get _ (by omega) (by omega)]
        · have : ¬((n + 1 : Nat) : Int) < 15 := by omega
          have e : n = 14 := by omega
          subst e
          simp only [this, decide_false, cond_false]
          rw [ints_len, lst_len]
      have hstep : squash_decoder__symbol_l1449 ((), (), (valAt s a n : Int), ((n + 1 : Nat) : Int), D0 f, (s, (((a + n : Nat) : Int), ())), L0 f, ()) =
          some (if st f 272 (n + 1) ≤ valAt s a (n + 1) ∧ valAt s a (n + 1) < st f 272 (n + 1) + cn f 272 (n + 1) then .inr (decOut s a f (.sym ((kth f (n + 1) 272).getD (valAt s a (n + 1) - st f 272 (n + 1)) 0) (a + n + 1)))
            else .inl ((), (), (valAt s a (n + 1) : Int), ((n + 2 : Nat) : Int), D0 f, (s, (((a + n + 1 : Nat) : Int), ())), L0 f, ())) := by
        simp only [squash_decoder__symbol_l1449, c, decide_true, cond_true, bit_eq s hs ha, Option.bind_some, if_neg (show ¬(a + n = 8 * s.length) by omega), show ¬((bitAt s (a + n) : Int) < 0) by omega, decide_false, cond_false, ev, e2, Int.toNat_natCast, hend, i16, chk_t, gd1, gd2, ew, ec]
        by_cases h1 : st f 272 (n + 1) ≤ valAt s a (n + 1)
        · have h1' : (0 : Int) ≤ (valAt s a (n + 1) : Int) - (st f 272 (n + 1) : Int) := by omega
          simp only [h1', decide_true, cond_true, Option.bind_some]
          by_cases h2 : valAt s a (n + 1) < st f 272 (n + 1) + cn f 272 (n + 1)
          · have h2' : (valAt s a (n + 1) : Int) - (st f 272 (n + 1) : Int) < (cn f 272 (n + 1) : Int) := by omega
            have e8 : IntKind.i64.wrap ((off f 272 (n + 1) : Int) + ((valAt s a (n + 1) : Int) - (st f 272 (n + 1) : Int))) = ((off f 272 (n + 1) + (valAt s a (n + 1) - st f 272 (n + 1)) : Nat) : Int) := by
              rw [wrap_i64 (by omega) (by omega)]
              omega
            have hlen : off f 272 (n + 1) + (valAt s a (n + 1) - st f 272 (n + 1)) < (L0 f).length := by
              have hl : (L0 f).length = off f 272 16 := by rw [ints_len, lst_len]
              have := off_mono f 272 (show n + 2 ≤ 16 by omega)
              rw [hl]
              omega
            simp only [h2', decide_true, cond_true, gd2, e8, inb_nat hlen, chk_t, Option.bind_some, Int.toNat_natCast]
            rw [lst_get f (by omega) (by omega), if_pos ⟨h1, h2⟩]
            simp [decOut]
          · have h2' : ¬((valAt s a (n + 1) : Int) - (st f 272 (n + 1) : Int) < (cn f 272 (n + 1) : Int)) := by omega
            simp only [h2', decide_false, cond_false]
            rw [if_neg (fun h => h2 h.2)]
        · have h1' : ¬((0 : Int) ≤ (valAt s a (n + 1) : Int) - (st f 272 (n + 1) : Int)) := by omega
          simp only [h1', decide_false, cond_false, Option.bind_some]
          rw [if_neg (fun h => h1 h.1)]
      by_cases hit : st f 272 (n + 1) ≤ valAt s a (n + 1) ∧ valAt s a (n + 1) < st f 272 (n + 1) + cn f 272 (n + 1)
      · rw [if_pos hit] at hstep ⊢
        exact .done hstep
      · rw [if_neg hit] at hstep ⊢
        exact .step hstep (symbol_loop s hs a f m (n + 1) (by omega) (by omega))
    · rw [if_neg g]
      have e : a + n = 8 * s.length := by omega
      refine .done ?_
      simp only [squash_decoder__symbol_l1449, c, decide_true, cond_true, bit_eq s hs ha, Option.bind_some, if_pos e]
      simp [decOut, e]

theorem symbol_eq (s : Str) (hs : s.length ≤ 2000000) {a : Nat} (ha : a ≤ 8 * s.length) (f : Nat → Nat) :
    squash_decoder__symbol (arr (st f 272) 16) (arr (off f 272) 16) (L0 f) s (a : Int) = some (match dec s a f 15 0 with
      | .form => (0, 4, (), (), D0 f, (s, (((a + 15 : Nat) : Int), ())), L0 f, ())
      | .short => (0, 11, (), (), D0 f, (s, (((8 * s.length : Nat) : Int), ())), L0 f, ())
      | .sym k b => ((k : Int), 0, (), (), D0 f, (s, ((b : Int), ())), L0 f, ())) := by
  have := (symbol_loop s hs a f 15 0 (by omega) (by omega)).loop (by omega)
  simp only [valAt, Nat.add_zero, Nat.zero_add] at this
  simp only [squash_decoder__symbol]
  rw [show (0 : Int) = ((0 : Nat) : Int) from rfl, show (1 : Int) = ((1 : Nat) : Int) from rfl, this]
  cases dec s a f 15 0 <;> simp only [decOut, Option.bind_some] <;> norm_cast
end Go.Proofs.YtmnegopgidckoaaDoor
