import Derived.Test.YtfbnnjmhlkafiaaDoorLawA
namespace Go.Proofs.YtfbnnjmhlkafiaaDoor
open Go Go.Fe

/-- A letter's number: 1 to 26. -/
def rank (c : UInt8) : Nat := if 97 ≤ c.toNat then c.toNat - 96 else c.toNat - 64
theorem rank_bounds {c : UInt8} (h : isLetter c = true) : 1 ≤ rank c ∧ rank c ≤ 26 := by
  simp only [isLetter, decide_eq_true_eq] at h
  unfold rank
  split <;> omega
theorem band31 : ∀ n : Fin 256, (65 ≤ n.val ∧ n.val ≤ 90 ∨ 97 ≤ n.val ∧ n.val ≤ 122) → band .u8 (n.val : Int) 31 = ((if 97 ≤ n.val then n.val - 96 else n.val - 64 : Nat) : Int) := by decide +kernel
theorem band_rank {c : UInt8} (h : isLetter c = true) : band .u8 (ofByte c) 31 = (rank c : Int) := by
  simp only [isLetter, decide_eq_true_eq] at h
  exact band31 ⟨c.toNat, byte_lt c⟩ h

/-- The number that letters stand for. -/
def number (s : Str) : Nat := s.foldl (fun n c => 26 * n + rank c) 0
theorem number_snoc (s : Str) (c : UInt8) : number (s ++ [c]) = 26 * number s + rank c := by simp [number]
theorem number_take {s : Str} {i : Nat} (h : i < s.length) : number (s.take (i + 1)) = 26 * number (s.take i) + rank s[i] := by
  rw [List.take_succ_eq_append_getElem h, number_snoc]
theorem number_lt : ∀ (k : Nat) (s : Str), s.length = k → s.all isLetter = true → 25 * number s + 26 ≤ 26 * 26 ^ k
  | 0, s, h, _ => by
    have : s = [] := List.eq_nil_of_length_eq_zero h
    subst this
    simp [number]
  | k + 1, s, h, ha => by
    obtain ⟨t, c, rfl⟩ : ∃ t c, s = t ++ [c] := ⟨s.dropLast, s.getLast (by intro e; subst e; simp at h), (List.dropLast_concat_getLast _).symm⟩
    simp only [List.all_append, Bool.and_eq_true] at ha
    have h1 := number_lt k t (by simpa using h) ha.1
    have h2 := rank_bounds (c := c) (by simpa using ha.2)
    rw [number_snoc, Nat.pow_succ]
    omega
theorem number_small {s : Str} (h : s.length ≤ 7) (ha : s.all isLetter = true) : number s < 17179869184 := by
  have h1 := number_lt _ s rfl ha
  have h2 : 26 ^ s.length ≤ 26 ^ 7 := Nat.pow_le_pow_right (by omega) h
  have : (26 : Nat) ^ 7 = 8031810176 := by decide
  omega
theorem number_pos {s : Str} (h : s ≠ []) (ha : s.all isLetter = true) : 1 ≤ number s := by
  obtain ⟨t, c, rfl⟩ : ∃ t c, s = t ++ [c] := ⟨s.dropLast, s.getLast h, (List.dropLast_concat_getLast _).symm⟩
  simp only [List.all_append, Bool.and_eq_true] at ha
  have h2 := rank_bounds (c := c) (by simpa using ha.2)
  rw [number_snoc]
  omega

theorem all_take {s : Str} {p : UInt8 → Bool} {i : Nat} (h : ∀ j, j < i → (s[j]?).all p = true) : (s.take i).all p = true := by
  rw [List.all_eq_true]
  intro x hx
  obtain ⟨j, hj, rfl⟩ := List.mem_iff_getElem.1 hx
  have hj' : j < i ∧ j < s.length := by rw [List.length_take] at hj; omega
  have := h j hj'.1
  simpa [List.getElem?_eq_getElem hj'.2] using this

theorem Column_eq (s : Str) : cellref_Column s = some (if s = [] ∨ 7 < s.length ∨ s.all isLetter = false then (0, 10, ()) else if 1073741824 < number s then (0, 2, ()) else ((number s : Int) - 1, 0, ())) := by
  by_cases h0 : s = []
  · simp [cellref_Column, h0]
  by_cases h7 : 7 < s.length
  · simp [cellref_Column, h0, h7, show (7 : Int) < (s.length : Int) by omega]
  have h7' : ¬ (7 : Int) < (s.length : Int) := by omega
  have key : ∀ i (hi : i < s.length), (s.take i).all isLetter = true → cellref_Column_l278 s ((number (s.take i) : Int), (i : Int), ()) = some (if isLetter s[i] = true then .inl ((number (s.take (i + 1)) : Int), ((i + 1 : Nat) : Int), ()) else .inr (.inr (0, 10, ()))) := fun i hi ha => by
    have hg : ((i : Int) < (s.length : Int)) := by omega
    have hn := number_small (s := s.take i) (by simp; omega) ha
    rw [number_take hi]
    generalize hm : number (s.take i) = m at *
    simp only [cellref_Column_l278, idx_lt hi, letter_eq, Option.bind_some, wrap_succ (i := i) (by omega), hg, decide_true, cond_true]
    cases hl : isLetter s[i] with
    | false => simp
    | true =>
      have hr := rank_bounds hl
      rw [band_rank hl]
      rw [wrap_i64 (n := (26 : Int) * (m : Int)) (by omega) (by omega), wrap_i64 (n := (rank s[i] : Int)) (by omega) (by omega), wrap_i64 (by omega) (by omega)]
      simp
  have hloop : loop (cellref_Column_l278 s) (0, 0, ()) = some (if s.all isLetter = true then .inl ((number s : Int), ()) else .inr (0, 10, ())) := by
    rcases Halts.scan (f := cellref_Column_l278 s) (fun i => ((number (s.take i) : Int), (i : Int), ())) (fun i => (s[i]?).all isLetter) s.length (r := .inl ((number s : Int), ())) (fun _ => .inr (0, 10, ()))
      (fun i hi hj => by simp only [List.getElem?_eq_getElem hi, Option.all_some]; exact key i hi (all_take hj)) (fun _ => by simp [cellref_Column_l278]) with ⟨h1, h2⟩ | ⟨i, hi, h1, _, h2⟩
    · rw [if_pos (all_none h1)]
      exact h2.loop (by omega)
    · rw [if_neg (by rw [all_some hi h1]; decide)]
      exact h2.loop (by omega)
  simp only [cellref_Column, h0, h7', decide_false, cond_false, Option.bind_some, hloop]
  cases hal : s.all isLetter with
  | false => simp
  | true =>
    have hn := number_small (s := s) (by omega) hal
    have hp := number_pos h0 hal
    simp only [if_true]
    rw [wrap_i64 (by omega) (by omega)]
    by_cases hb : 1073741824 < number s
    · simp [h7, hb, show (1073741824 : Int) < (number s : Int) by omega]
    · simp [h7, hb, show ¬ (1073741824 : Int) < (number s : Int) by omega]

/-! ### The reference's column -/
/-- How many columns have fewer letters. -/
theorem upper_eq (c : UInt8) : chanceryref2_Upper [c] = some ([if 97 ≤ c.toNat ∧ c.toNat ≤ 122 then UInt8.ofNat (c.toNat - 32) else c], ()) := by
  have h1 : chanceryref2_Upper_l1382 [c] ([], 0, ()) = some (.inl ([if 97 ≤ c.toNat ∧ c.toNat ≤ 122 then UInt8.ofNat (c.toNat - 32) else c], 1, ())) := by
    have := byte_lt c
    simp only [chanceryref2_Upper_l1382, ofByte_eq]
    by_cases h1 : 97 ≤ c.toNat <;> by_cases h2 : c.toNat ≤ 122
    · have e : IntKind.u8.wrap ((c.toNat : Int) - 32) = ((c.toNat - 32 : Nat) : Int) := by rw [wrap_u8i (by omega) (by omega)]; omega
      simp [h1, h2, show (97 : Int) ≤ (c.toNat : Int) by omega, show (c.toNat : Int) ≤ 122 by omega, e, bytesStr_one, cat, lim, wrap_i64]
    · simp [h1, h2, show (97 : Int) ≤ (c.toNat : Int) by omega, show ¬ (c.toNat : Int) ≤ 122 by omega, bytesStr_one, cat, lim, wrap_i64]
    · simp [h1, h2, show ¬ (97 : Int) ≤ (c.toNat : Int) by omega, show (c.toNat : Int) ≤ 122 by omega, bytesStr_one, cat, lim, wrap_i64]
    · omega
  have h2 : ∀ x, chanceryref2_Upper_l1382 [c] (x, 1, ()) = some (.inr (x, ())) := fun x => by simp [chanceryref2_Upper_l1382]
  simp only [chanceryref2_Upper]
  rw [(Halts.step h1 (Halts.done (n := 0) (h2 _))).loop (by omega)]
  rfl

def geom : Nat → Nat
  | 0 => 0
  | n + 1 => 26 * geom n + 1

theorem ofNat_toNat {n : Nat} (h : n < 256) : (UInt8.ofNat n).toNat = n := by
  rw [UInt8.toNat_ofNat']
  omega

theorem rcolumn_ends1 {s : Str} (ha : s.all isLetter = true) : ∀ (i n p : Nat), i ≤ s.length → i ≤ 7 → n + p * number (s.take i) < 1099511627776 → p * 26 ^ i < 1099511627776 →
    ∃ m : Nat, Halts (chanceryref2_Column_l344 s) i ((n : Int), (p : Int), (i : Int) - 1, ()) ((m : Int), ()) ∧ m + p * geom i = n + p * number (s.take i)
  | 0, n, p, _, _, _, _ => by
    refine ⟨n, .done ?_, by simp [geom, number]⟩
    simp [chanceryref2_Column_l344]
  | i + 1, n, p, hi, h7, hn, hp => by
    have hi' : i < s.length := by omega
    have hl : isLetter s[i] = true := List.all_eq_true.1 ha _ (List.getElem_mem hi')
    have hr := rank_bounds hl
    have en := number_take hi'
    have e1 : p * number (s.take (i + 1)) = 26 * p * number (s.take i) + p * rank s[i] := by
      rw [en, Nat.mul_add, ← Nat.mul_assoc, Nat.mul_comm p 26]
    have e2 : p * geom (i + 1) = 26 * p * geom i + p := by
      show p * (26 * geom i + 1) = _
      rw [Nat.mul_add, ← Nat.mul_assoc, Nat.mul_comm p 26, Nat.mul_one]
    have e3 : p * 26 ^ (i + 1) = 26 * p * 26 ^ i := by rw [Nat.pow_succ, Nat.mul_comm (26 ^ i), ← Nat.mul_assoc, Nat.mul_comm p 26]
    have e4 : p * rank s[i] = p * (rank s[i] - 1) + p := by
      obtain ⟨r, hr⟩ : ∃ r, rank s[i] = r + 1 := ⟨rank s[i] - 1, by omega⟩
      rw [hr, Nat.mul_add]
      simp
    have e5 : p ≤ p * 26 ^ (i + 1) := Nat.le_mul_of_pos_right _ (Nat.pow_pos (by omega))
    obtain ⟨m, h1, h2⟩ := rcolumn_ends1 ha i (n + p * (rank s[i] - 1)) (26 * p) (by omega) (by omega) (by omega) (by omega)
    refine ⟨m, .step ?_ h1, by omega⟩
    have a1 : ((i + 1 : Nat) : Int) - 1 = (i : Int) := by omega
    have a2 : IntKind.i64.wrap ((i : Int) - 1) = (i : Int) - 1 := by rw [wrap_i64 (by omega) (by omega)]
    have a3 : cut s (i : Int) ((i + 1 : Nat) : Int) = some [s[i]] := by
      rw [cut_nat (by omega) (by omega)]
      congr 1
      rw [List.take_succ_eq_append_getElem hi', List.drop_append_of_le_length (by simp; omega)]
      simp
    have hc := byte_lt s[i]
    have a4 : IntKind.u8.wrap ((ofByte (if 97 ≤ s[i].toNat ∧ s[i].toNat ≤ 122 then UInt8.ofNat (s[i].toNat - 32) else s[i])) - 65) = ((rank s[i] - 1 : Nat) : Int) := by
      simp only [isLetter, decide_eq_true_eq] at hl
      simp only [ofByte_eq, rank]
      by_cases h : 97 ≤ s[i].toNat
      · have : s[i].toNat ≤ 122 := by omega
        simp only [h, this, and_self, if_true]
        rw [ofNat_toNat (by omega), wrap_u8i (by omega) (by omega)]
        omega
      · simp only [h, false_and, if_false]
        rw [wrap_u8i (by omega) (by omega)]
        omega
    have a5 : IntKind.i64.wrap ((rank s[i] - 1 : Nat) : Int) = ((rank s[i] - 1 : Nat) : Int) := wrap_i64 (by omega) (by omega)
    have a6 : IntKind.i64.wrap ((p : Int) * ((rank s[i] - 1 : Nat) : Int)) = ((p * (rank s[i] - 1) : Nat) : Int) := by
      rw [show (p : Int) * ((rank s[i] - 1 : Nat) : Int) = ((p * (rank s[i] - 1) : Nat) : Int) from rfl]
      exact wrap_i64 (by omega) (by omega)
    have a7 : IntKind.i64.wrap ((n : Int) + ((p * (rank s[i] - 1) : Nat) : Int)) = ((n + p * (rank s[i] - 1) : Nat) : Int) := by rw [wrap_i64 (by omega) (by omega)]; omega
    have a8 : IntKind.i64.wrap ((p : Int) * 26) = ((26 * p : Nat) : Int) := by rw [wrap_i64 (by omega) (by omega)]; omega
    simp only [chanceryref2_Column_l344, a1, wrap_succ (i := i) (by omega), a3, Option.bind_some, upper_eq, idx_zero, List.getElem?_cons_zero, a4, a5, a6, a7, a8, a2]
    simp

theorem rcolumn_ends2 : ∀ (k : Nat) (s : Str) (n p : Nat), s.length = k + 1 → k ≤ 7 → n + p * geom k < 1099511627776 → p * 26 ^ k < 1099511627776 →
    Halts chanceryref2_Column_l360 k (s, (n : Int), (p : Int), ()) (((n + p * geom k : Nat) : Int), ())
  | 0, s, n, p, hs, _, _, _ => .done (by simp [chanceryref2_Column_l360, hs, geom])
  | k + 1, s, n, p, hs, hk, hn, hp => by
    have e2 : p * geom (k + 1) = 26 * p * geom k + p := by
      show p * (26 * geom k + 1) = _
      rw [Nat.mul_add, ← Nat.mul_assoc, Nat.mul_comm p 26, Nat.mul_one]
    have e3 : p * 26 ^ (k + 1) = 26 * p * 26 ^ k := by rw [Nat.pow_succ, Nat.mul_comm (26 ^ k), ← Nat.mul_assoc, Nat.mul_comm p 26]
    have e5 : p ≤ p * 26 ^ (k + 1) := Nat.le_mul_of_pos_right _ (Nat.pow_pos (by omega))
    have e6 : 26 * p ≤ 26 * p * 26 ^ k := Nat.le_mul_of_pos_right _ (Nat.pow_pos (by omega))
    have ih := rcolumn_ends2 k (s.drop 1) (n + p) (26 * p) (by simp; omega) (by omega) (by omega) (by omega)
    have e4 : n + p * geom (k + 1) = n + p + 26 * p * geom k := by omega
    rw [e4]
    refine .step ?_ ih
    have a1 : cut s 1 (s.length : Int) = some (s.drop 1) := by
      rw [show (1 : Int) = ((1 : Nat) : Int) from rfl, cut_nat (by omega) (by omega), List.take_length]
    have a2 : IntKind.i64.wrap ((n : Int) + (p : Int)) = ((n + p : Nat) : Int) := by rw [wrap_i64 (by omega) (by omega)]; omega
    have a3 : IntKind.i64.wrap ((p : Int) * 26) = ((26 * p : Nat) : Int) := by rw [wrap_i64 (by omega) (by omega)]; omega
    have hg : (1 : Int) < (s.length : Int) := by omega
    simp only [chanceryref2_Column_l360, a1, a2, a3, hg, decide_true, cond_true, Option.bind_some]

theorem geom_le : ∀ k, 25 * geom k + 1 = 26 ^ k
  | 0 => rfl
  | k + 1 => by
    have := geom_le k
    rw [Nat.pow_succ]
    show 25 * (26 * geom k + 1) + 1 = _
    omega

theorem RColumn_eq {s : Str} (h0 : s ≠ []) (h7 : s.length ≤ 7) (ha : s.all isLetter = true) : chanceryref2_Column s = some ((number s : Int) - 1, ()) := by
  have hl : 1 ≤ s.length := by
    cases s with
    | nil => exact absurd rfl h0
    | cons c r => simp
  have h26 : 26 ^ s.length ≤ 26 ^ 7 := Nat.pow_le_pow_right (by omega) h7
  have hq : (26 : Nat) ^ 7 = 8031810176 := by decide
  have hn := number_small h7 ha
  obtain ⟨m, h1, h2⟩ := rcolumn_ends1 ha s.length 0 1 (Nat.le_refl _) h7 (by simp; omega) (by omega)
  simp only [List.take_length, Nat.one_mul, Nat.zero_add] at h2
  obtain ⟨k, hk⟩ : ∃ k, s.length = k + 1 := ⟨s.length - 1, by omega⟩
  have hg := geom_le k
  have hk7 : 26 ^ k ≤ 26 ^ 7 := Nat.pow_le_pow_right (by omega) (by omega)
  have h3 := rcolumn_ends2 k s m 26 hk (by omega) (by omega) (by omega)
  have e : geom s.length = 26 * geom k + 1 := by rw [hk]; rfl
  have a1 : IntKind.i64.wrap ((s.length : Int) - 1) = (s.length : Int) - 1 := by rw [wrap_i64 (by omega) (by omega)]
  simp only [chanceryref2_Column, a1]
  rw [show ((0 : Nat) : Int) = 0 from rfl, show ((1 : Nat) : Int) = 1 from rfl] at h1
  rw [h1.loop (by omega)]
  simp only [Option.bind_some]
  rw [show ((26 : Nat) : Int) = 26 from rfl] at h3
  rw [h3.loop (by omega)]
  simp only [Option.bind_some]
  congr 2
  omega

end Go.Proofs.YtfbnnjmhlkafiaaDoor
