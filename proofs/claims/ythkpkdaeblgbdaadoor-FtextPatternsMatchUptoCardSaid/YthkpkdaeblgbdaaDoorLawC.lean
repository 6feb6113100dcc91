/- The program's pieces of a pattern, and what its matching comes to. -/
import Derived.Test.YthkpkdaeblgbdaaDoorLawB
namespace Go.Proofs.YthkpkdaeblgbdaaDoor
open Go Go.Fe

def codes (s : Str) : List Int := (sufs s.length s).map chrOf
theorem codes_nil : codes [] = [] := rfl
theorem codes_cons {s : Str} (h : s ≠ []) : codes s = chrOf s :: codes (s.drop (runeOf s).2) := by
  have hl := List.length_pos_iff.2 h
  have h1 := rune_n h
  unfold codes
  rw [sufs_fuel s.length ((s.length - 1) + 1) s (Nat.le_refl _) (by omega), sufs, if_neg h, List.map_cons, sufs_fuel (s.length - 1) (s.drop (runeOf s).2).length _ (by rw [List.length_drop]; omega) (Nat.le_refl _)]
theorem i32_w32 (n : Int) : IntKind.i32.wrap n = RowKit.wrap32 n := by
  have e : IntKind.i32.wrap n = if decide (n % 4294967296 ≥ 2147483648) = true then n % 4294967296 - 4294967296 else n % 4294967296 := rfl
  rw [e, RowKit.wrap32]
  simp only [decide_eq_true_eq]
  split <;> omega
/-- The code as the program computes it. -/
theorem code_step {s : Str} (h : s ≠ []) {β : Type} (acc : β) : ((cond (decide (((runeOf s).1 : Int) = 65533))
    (some ((), (decide (((runeOf s).2 : Int) = 1)), acc, ()))
    (some ((), false, acc, ())) : Option (Unit × (Bool × (β × Unit)))).bind fun r3 =>
    cond r3.2.1
    ((idx s 0).bind fun v4 =>
    some ((), IntKind.i32.wrap (0 - (IntKind.i32.wrap (ofByte v4))), r3.2.2.1, ()))
    (some ((), ((runeOf s).1 : Int), r3.2.2.1, ())) : Option (Unit × (Int × (β × Unit)))) = some ((), chrOf s, acc, ()) := by
  have hi : idx s 0 = some (s.getD 0 0) := by
    obtain ⟨c, u, rfl⟩ := List.exists_cons_of_ne_nil h
    rfl
  unfold chrOf
  by_cases e : runeOf s = (65533, 1)
  · rw [if_pos e, e]
    simp only [hi, show ((65533 : Nat) : Int) = 65533 from rfl, show ((1 : Nat) : Int) = 1 from rfl, decide_true, cond_true, Option.bind_some, i32_w32, Int.zero_sub]
  · rw [if_neg e]
    by_cases e1 : ((runeOf s).1 : Int) = 65533
    · have e2 : ¬ ((runeOf s).2 : Int) = 1 := fun e2 => e (Prod.ext (by simp only; omega) (by simp only; omega))
      simp only [e1, e2, decide_true, decide_false, cond_true, cond_false, Option.bind_some]
    · simp only [e1, decide_false, cond_false, Option.bind_some]
theorem byte0 {s : Str} (h : s ≠ []) : idx s 0 = some (s.getD 0 0) ∧ ofByte (s.getD 0 0) = (at0 s 0 : Int) := by
  obtain ⟨c, u, rfl⟩ := List.exists_cons_of_ne_nil h
  exact ⟨rfl, rfl⟩
theorem pieces_halts : ∀ (n : Nat) (s : Str) (acc : List Piece), s.length ≤ n → acc.length + s.length ≤ 100000 → Halts ftext_pieces_l1 n ((), s, acc, ()) ((), acc ++ pcs (codes s), ())
  | n, [], acc, _, _ => Halts.done (by simp [ftext_pieces_l1, codes_nil, pcs])
  | n + 1, c0 :: u, acc, hn, ha => by
    obtain ⟨s, hs⟩ : ∃ s, c0 :: u = s := ⟨_, rfl⟩
    have hne : s ≠ [] := by rw [← hs]; simp
    rw [hs] at hn ha ⊢
    have h1 := rune_n hne
    have hcut : cut s ((runeOf s).2 : Int) (s.length : Int) = some (s.drop (runeOf s).2) := by rw [cut_nat (by omega) (Nat.le_refl _), List.take_length]
    have hd : (s.drop (runeOf s).2).length = s.length - (runeOf s).2 := List.length_drop ..
    have hcs := codes_cons hne
    generalize hv : s.drop (runeOf s).2 = v at *
    have step : ftext_pieces_l1 ((), s, acc, ()) = some (.inl ((), (if chrOf s = 126 ∧ v ≠ [] ∧ (chrOf v = 63 ∨ chrOf v = 42 ∨ chrOf v = 126) then v.drop 1 else v), acc ++ [if chrOf s = 126 ∧ v ≠ [] ∧ (chrOf v = 63 ∨ chrOf v = 42 ∨ chrOf v = 126) then (chrOf v, false, false, ()) else (chrOf s, decide (chrOf s = 63), decide (chrOf s = 42), ())], ())) := by
      unfold ftext_pieces_l1
      simp only [decide_eq_false hne, Bool.not_false, cond_true]
      simp only [sRune, Option.bind_some]
      rw [code_step hne acc]
      simp only [Option.bind_some, hcut]
      have hcat : ∀ p : Piece, cat acc [p] = some (acc ++ [p]) := fun p => cat_ok (by rw [List.length_singleton]; omega)
      by_cases e1 : chrOf s = 126
      · by_cases hvn : v = []
        · rw [if_neg (fun h => h.2.1 hvn), if_neg (fun h => h.2.1 hvn)]
          simp only [e1, hvn, decide_true, Bool.not_true, cond_true, cond_false, Option.bind_some, hcat]
        · obtain ⟨b1, b2⟩ := byte0 hvn
          have k63 : (at0 v 0 : Int) = 63 ↔ chrOf v = 63 := by rw [show (63 : Int) = ((63 : Nat) : Int) from rfl, chr_ascii hvn (by omega)]; omega
          have k42 : (at0 v 0 : Int) = 42 ↔ chrOf v = 42 := by rw [show (42 : Int) = ((42 : Nat) : Int) from rfl, chr_ascii hvn (by omega)]; omega
          have k126 : (at0 v 0 : Int) = 126 ↔ chrOf v = 126 := by rw [show (126 : Int) = ((126 : Nat) : Int) from rfl, chr_ascii hvn (by omega)]; omega
          have hc1 : cut v 1 (v.length : Int) = some (v.drop 1) := by
            rw [show (1 : Int) = ((1 : Nat) : Int) from rfl, cut_nat (List.length_pos_iff.2 hvn) (Nat.le_refl _), List.take_length]
          have hb := at0_lt v 0
          by_cases q1 : chrOf v = 63
          · rw [if_pos ⟨e1, hvn, .inl q1⟩, if_pos ⟨e1, hvn, .inl q1⟩]
            simp only [e1, decide_eq_false hvn, decide_true, Bool.not_false, cond_true, b1, b2, k63.2 q1, Option.bind_some, hc1, hcat, q1]
            rfl
          · by_cases q2 : chrOf v = 42
            · rw [if_pos ⟨e1, hvn, .inr (.inl q2)⟩, if_pos ⟨e1, hvn, .inr (.inl q2)⟩]
              simp only [e1, decide_eq_false hvn, decide_true, Bool.not_false, cond_true, b1, b2, k42.2 q2, show decide ((42 : Int) = 63) = false from rfl, Option.bind_some, hc1, hcat, q2, cond_false]
              rfl
            · by_cases q3 : chrOf v = 126
              · rw [if_pos ⟨e1, hvn, .inr (.inr q3)⟩, if_pos ⟨e1, hvn, .inr (.inr q3)⟩]
                simp only [e1, decide_eq_false hvn, decide_true, Bool.not_false, cond_true, b1, b2, k126.2 q3, show decide ((126 : Int) = 63) = false from rfl, show decide ((126 : Int) = 42) = false from rfl, Option.bind_some, hc1, hcat, q3, cond_false]
                rfl
              · rw [if_neg (by rintro ⟨_, _, h | h | h⟩ <;> contradiction), if_neg (by rintro ⟨_, _, h | h | h⟩ <;> contradiction)]
                simp only [e1, decide_eq_false hvn, decide_true, Bool.not_false, cond_true, cond_false, b1, b2, decide_eq_false (mt k63.1 q1), decide_eq_false (mt k42.1 q2), decide_eq_false (mt k126.1 q3), Option.bind_some, hcat]
      · rw [if_neg (fun h => e1 h.1), if_neg (fun h => e1 h.1)]
        simp only [e1, decide_false, cond_false, Option.bind_some, hcat]
    refine Halts.step step ?_
    split
    · rename_i hc
      obtain ⟨e1, hvn, e2⟩ := hc
      have hlv := List.length_pos_iff.2 hvn
      have hrv : (runeOf v).2 = 1 := by
        rcases e2 with e2 | e2 | e2
        · exact ascii_n hvn (k := 63) (by omega) e2
        · exact ascii_n hvn (k := 42) (by omega) e2
        · exact ascii_n hvn (k := 126) (by omega) e2
      have hcv := codes_cons hvn
      rw [hrv] at hcv
      have ih := pieces_halts n (v.drop 1) (acc ++ [(chrOf v, false, false, ())]) (by rw [List.length_drop]; omega) (by rw [List.length_drop, List.length_append, List.length_singleton]; omega)
      have e3 : acc ++ pcs (codes s) = acc ++ [(chrOf v, false, false, ())] ++ pcs (codes (v.drop 1)) := by
        rw [hcs, hcv, pcs, if_pos ⟨e1, e2⟩]
        simp
      rw [e3]
      exact ih
    · rename_i hc
      have ih := pieces_halts n v (acc ++ [(chrOf s, decide (chrOf s = 63), decide (chrOf s = 42), ())]) (by omega) (by rw [List.length_append, List.length_singleton]; omega)
      have e3 : acc ++ pcs (codes s) = acc ++ [(chrOf s, decide (chrOf s = 63), decide (chrOf s = 42), ())] ++ pcs (codes v) := by
        rw [hcs]
        by_cases hvn : v = []
        · subst hvn
          simp [codes_nil, pcs]
        · rw [codes_cons hvn, pcs, if_neg (fun h => hc ⟨h.1, hvn, h.2⟩), ← codes_cons hvn]
          simp
      rw [e3]
      exact ih
theorem pcs_len : ∀ (n : Nat) (l : List Int), l.length ≤ n → (pcs l).length ≤ l.length
  | _, [], _ => Nat.le_refl _
  | _, [_], _ => Nat.le_refl _
  | n + 1, c :: d :: r, h => by
    rw [List.length_cons, List.length_cons] at h
    unfold pcs
    split
    · have := pcs_len n r (by omega)
      simp only [List.length_cons]
      omega
    · have := pcs_len n (d :: r) (by rw [List.length_cons]; omega)
      simp only [List.length_cons] at this ⊢
      omega
theorem codes_len (s : Str) : (codes s).length ≤ s.length := by
  unfold codes
  rw [List.length_map]
  exact sufs_len _ _
theorem pieces_eq {s : Str} (h : s.length ≤ 100000) : ftext_pieces s = some (pcs (codes (lowS s)), ()) := by
  unfold ftext_pieces
  rw [VLower_eq (by omega), Option.bind_some]
  have := (pieces_halts (lowS s).length (lowS s) [] (Nat.le_refl _) (by rw [lowS_len, List.length_nil]; omega)).loop (by rw [lowS_len]; omega)
  rw [this]
  rfl

/-! ### The matching, text place by text place -/
/-- From the places of the text that pieces reach to those that one more reaches. -/
def stepR (t : List Int) (p : Piece) (Q : Nat → Prop) (i : Nat) : Prop := if p.2.2.1 = true then ∃ j, j ≤ i ∧ Q j else ∃ j, i = j + 1 ∧ Q j ∧ (p.2.1 = true ∧ j < t.length ∨ t[j]? = some p.1)
def RR (t : List Int) : List Piece → (Nat → Prop) → (Nat → Prop)
  | [], Q => Q
  | p :: l, Q => RR t l (stepR t p Q)
theorem RR_append (t : List Int) : ∀ (l l' : List Piece) (Q : Nat → Prop), RR t (l ++ l') Q = RR t l' (RR t l Q)
  | [], _, _ => rfl
  | _ :: l, l', Q => RR_append t l l' _
/-- What the first k pieces reach. -/
def Rk (t : List Int) (l : List Piece) (k : Nat) : Nat → Prop := RR t (l.take k) (fun i => i = 0)
theorem Rk_zero (t : List Int) (l : List Piece) : Rk t l 0 = fun i => i = 0 := rfl
theorem Rk_succ (t : List Int) (l : List Piece) {k : Nat} (h : k < l.length) : Rk t l (k + 1) = stepR t l[k] (Rk t l k) := by
  unfold Rk
  rw [List.take_succ_eq_append_getElem h, RR_append]
  rfl
/-- The places of the pattern that can be where i characters are read. -/
def Pk (t : List Int) (l : List Piece) (k i : Nat) : Prop := if pMany l k = true then ∃ j, j ≤ i ∧ Rk t l k j else Rk t l k i
theorem many_at {l : List Piece} {k : Nat} (h : k < l.length) : pMany l k = l[k].2.2.1 := by unfold pMany; rw [List.getElem?_eq_getElem h]
theorem one_at {l : List Piece} {k : Nat} (h : k < l.length) : pOne l k = l[k].2.1 := by unfold pOne; rw [List.getElem?_eq_getElem h]
theorem chr_at {l : List Piece} {k : Nat} (h : k < l.length) : pChr l k = l[k].1 := by unfold pChr; rw [List.getElem?_eq_getElem h]
theorem many_end (l : List Piece) : pMany l l.length = false := by unfold pMany; rw [List.getElem?_eq_none (Nat.le_refl _)]
theorem closK_succ {l : List Piece} {N : Nat → Prop} {m j : Nat} (hj : j + 1 ≤ m) : closK l N m (j + 1) ↔ N (j + 1) ∨ (pMany l j = true ∧ closK l N m j) := by
  constructor
  · rintro ⟨i, hi, hN, h⟩
    rcases Nat.lt_or_ge i (j + 1) with h1 | h1
    · exact .inr ⟨(h j (by omega) (by omega)).2, i, by omega, hN, fun k h2 h3 => h k h2 (by omega)⟩
    · obtain rfl : i = j + 1 := by omega
      exact .inl hN
  · rintro (h | ⟨h, i, hi, hN, hk⟩)
    · exact ⟨j + 1, Nat.le_refl _, h, fun k h1 h2 => by omega⟩
    · refine ⟨i, by omega, hN, fun k h1 h2 => ?_⟩
      rcases Nat.lt_or_ge k j with h3 | h3
      · exact hk k h1 h3
      · obtain rfl : k = j := by omega
        exact ⟨by omega, h⟩
theorem closK_start {l : List Piece} {N : Nat → Prop} {m : Nat} : closK l N m 0 ↔ N 0 := by
  constructor
  · rintro ⟨i, hi, hN, _⟩
    obtain rfl : i = 0 := by omega
    exact hN
  · intro h
    exact ⟨0, Nat.le_refl _, h, fun k h1 h2 => by omega⟩
theorem stepR_at {t : List Int} {l : List Piece} {k : Nat} (hk : k < l.length) (Q : Nat → Prop) (i : Nat) : stepR t l[k] Q i ↔ if pMany l k = true then ∃ j, j ≤ i ∧ Q j else ∃ j, i = j + 1 ∧ Q j ∧ (pOne l k = true ∧ j < t.length ∨ t[j]? = some (pChr l k)) := by
  unfold stepR
  rw [many_at hk, one_at hk, chr_at hk]
/-- At the text's beginning. -/
theorem Pk_start (t : List Int) (l : List Piece) : ∀ k, k ≤ l.length → (Pk t l k 0 ↔ closK l (fun k => k = 0) l.length k)
  | 0, _ => by
    rw [closK_start]
    unfold Pk
    rw [Rk_zero]
    split
    · exact ⟨fun _ => rfl, fun _ => ⟨0, Nat.le_refl _, rfl⟩⟩
    · exact Iff.rfl
  | k + 1, hk => by
    have ih := Pk_start t l k (by omega)
    have e : Pk t l (k + 1) 0 ↔ Rk t l (k + 1) 0 := by
      unfold Pk
      split
      · exact ⟨fun ⟨j, hj, h⟩ => by obtain rfl : j = 0 := by omega
                                    exact h, fun h => ⟨0, Nat.le_refl _, h⟩⟩
      · exact Iff.rfl
    rw [e, closK_succ hk, Rk_succ t l (by omega), stepR_at (by omega), ← ih]
    unfold Pk
    split
    · rename_i hm
      simp [hm]
    · rename_i hm
      simp [hm]
/-- From one character to the next. -/
theorem Pk_step {t : List Int} {l : List Piece} {i : Nat} {c : Int} (hc : t[i]? = some c) : ∀ k, k ≤ l.length → (Pk t l k (i + 1) ↔ closK l (nextS l c (fun k => Pk t l k i)) l.length k) := by
  have hi : i < t.length := by
    rcases Nat.lt_or_ge i t.length with h | h
    · exact h
    · rw [List.getElem?_eq_none h] at hc; cases hc
  -- the pieces' own step
  have hN : ∀ j, j ≤ l.length → (nextS l c (fun k => Pk t l k i) j ↔ (pMany l j = true ∧ Pk t l j i) ∨ ∃ k, j = k + 1 ∧ ¬ pMany l k = true ∧ Pk t l k i ∧ (pOne l k = true ∨ pChr l k = c)) := by
    intro j hj
    constructor
    · rintro ⟨k, hk, hP, hp⟩
      unfold pNext at hp
      split at hp
      · split at hp
        · rename_i hm
          cases hp
          exact .inl ⟨hm, hP⟩
        · split at hp
          · rename_i hm ho
            cases hp
            exact .inr ⟨k, rfl, hm, hP, ho⟩
          · cases hp
      · cases hp
    · rintro (⟨hm, hP⟩ | ⟨k, rfl, hm, hP, ho⟩)
      · have : j < l.length := by
          rcases Nat.lt_or_ge j l.length with h | h
          · exact h
          · obtain rfl : j = l.length := by omega
            rw [many_end] at hm; cases hm
        exact ⟨j, hj, hP, pNext_many this hm⟩
      · exact ⟨k, by omega, hP, pNext_one (by omega) (by simpa using hm) ho⟩
  have hP : ∀ k, Pk t l k (i + 1) ↔ Rk t l k (i + 1) ∨ (pMany l k = true ∧ Pk t l k i) := by
    intro k
    unfold Pk
    split
    · rename_i hm
      constructor
      · rintro ⟨j, hj, h⟩
        rcases Nat.lt_or_ge j (i + 1) with h1 | h1
        · exact .inr ⟨hm, j, by omega, h⟩
        · obtain rfl : j = i + 1 := by omega
          exact .inl h
      · rintro (h | ⟨_, j, hj, h⟩)
        · exact ⟨_, Nat.le_refl _, h⟩
        · exact ⟨j, by omega, h⟩
    · rename_i hm
      simp [hm]
  intro k
  induction k with
  | zero =>
    intro hk
    rw [closK_start, hP, hN 0 hk, Rk_zero]
    simp
  | succ k ih =>
    intro hk
    have ih := ih (by omega)
    rw [closK_succ hk, hP, hN (k + 1) hk, ← ih, Rk_succ t l (by omega), stepR_at (by omega)]
    have e : (if pMany l k = true then ∃ j, j ≤ i + 1 ∧ Rk t l k j else ∃ j, i + 1 = j + 1 ∧ Rk t l k j ∧ (pOne l k = true ∧ j < t.length ∨ t[j]? = some (pChr l k))) ↔
        (pMany l k = true ∧ Pk t l k (i + 1)) ∨ ∃ k', k + 1 = k' + 1 ∧ ¬ pMany l k' = true ∧ Pk t l k' i ∧ (pOne l k' = true ∨ pChr l k' = c) := by
      split
      · rename_i hm
        have : Pk t l k (i + 1) ↔ ∃ j, j ≤ i + 1 ∧ Rk t l k j := by unfold Pk; rw [if_pos hm]
        rw [← this]
        constructor
        · exact fun h => .inl ⟨hm, h⟩
        · rintro (h | ⟨k', e, h, _⟩)
          · exact h.2
          · obtain rfl : k = k' := by omega
            exact absurd hm h
      · rename_i hm
        have : Pk t l k i ↔ Rk t l k i := by unfold Pk; rw [if_neg hm]
        constructor
        · rintro ⟨j, e, h1, h2⟩
          obtain rfl : i = j := by omega
          refine .inr ⟨k, rfl, hm, this.2 h1, ?_⟩
          rw [hc] at h2
          rcases h2 with h2 | h2
          · exact .inl h2.1
          · exact .inr (Option.some.inj h2).symm
        · rintro (h | ⟨k', e, h1, h2, h3⟩)
          · exact absurd h.1 hm
          · obtain rfl : k = k' := by omega
            refine ⟨i, rfl, this.1 h2, ?_⟩
            rcases h3 with h3 | h3
            · exact .inl ⟨h3, hi⟩
            · exact .inr (by rw [hc, h3])
    rw [e]
    constructor
    · rintro ((h | h) | h)
      · exact .inr h
      · exact .inl (.inr h)
      · exact .inl (.inl h)
    · rintro ((h | h) | h)
      · exact .inr h
      · exact .inl (.inr h)
      · exact .inl (.inl h)
theorem closK_congr {l : List Piece} {S S' : Nat → Prop} {m j : Nat} (hj : j ≤ m) (h : ∀ k, k ≤ m → (S k ↔ S' k)) : closK l S m j ↔ closK l S' m j := by
  constructor
  · rintro ⟨i, h1, h2, h3⟩
    exact ⟨i, h1, (h i (by omega)).1 h2, h3⟩
  · rintro ⟨i, h1, h2, h3⟩
    exact ⟨i, h1, (h i (by omega)).2 h2, h3⟩
theorem nextS_congr {l : List Piece} {c : Int} {S S' : Nat → Prop} (h : ∀ k, k ≤ l.length → (S k ↔ S' k)) (j : Nat) : nextS l c S j ↔ nextS l c S' j := by
  constructor
  · rintro ⟨k, h1, h2, h3⟩
    exact ⟨k, h1, (h k h1).1 h2, h3⟩
  · rintro ⟨k, h1, h2, h3⟩
    exact ⟨k, h1, (h k h1).2 h2, h3⟩
/-- The program's matching. -/
theorem runL_eq (t : List Int) (l : List Piece) : ∀ (n : Nat) (s : Str) (i : Nat) (S : Nat → Prop), s.length < n → t.drop i = codes s → i ≤ t.length → (∀ k, k ≤ l.length → (S k ↔ Pk t l k i)) → (runL l true n s S = true ↔ Rk t l l.length t.length)
  | 0, _, _, _, h, _, _, _ => by omega
  | n + 1, s, i, S, hn, ht, hi, hS => by
    unfold runL
    by_cases hs : s = []
    · subst hs
      rw [codes_nil] at ht
      have hi : i = t.length := by
        have := congrArg List.length ht
        rw [List.length_drop, List.length_nil] at this
        omega
      have e := hS l.length (Nat.le_refl _)
      unfold Pk at e
      rw [if_neg (by rw [many_end]; decide), hi] at e
      rw [← e]
      by_cases h : S l.length
      · rw [if_pos ⟨h, .inr rfl⟩]
        simp [h]
      · rw [if_neg (fun h' => h h'.1), if_pos rfl]
        simp [h]
    · rw [if_neg (fun h => hs (h.2.resolve_left (by simp))), if_neg hs]
      have hc := codes_cons hs
      have h1 := rune_n hs
      have hti : t[i]? = some (chrOf s) := by
        have := congrArg (fun l : List Int => l[0]?) (ht.trans hc)
        simpa [List.getElem?_drop] using this
      have hil : i < t.length := by
        rcases Nat.lt_or_ge i t.length with h | h
        · exact h
        · rw [List.getElem?_eq_none h] at hti; cases hti
      refine runL_eq t l n _ (i + 1) _ (by rw [List.length_drop]; omega) ?_ (by omega) (fun k hk => ?_)
      · have := congrArg List.tail (ht.trans hc)
        rwa [List.tail_cons, List.tail_drop] at this
      · rw [Pk_step hti k hk]
        exact closK_congr hk fun j hj => nextS_congr hS j
theorem Matches_prog {p s : Str} (hp : p.length ≤ 60) (hs : s.length ≤ 200) :
    ∃ b, ftext_Matches p s = some (b, ()) ∧ (b = true ↔ RR (codes (lowS s)) (pcs (codes (lowS p))) (fun i => i = 0) (codes (lowS s)).length) := by
  have hl : (pcs (codes (lowS p))).length ≤ 60 := Nat.le_trans (pcs_len _ _ (Nat.le_refl _)) (Nat.le_trans (codes_len _) (by rw [lowS_len]; exact hp))
  refine ⟨runL (pcs (codes (lowS p))) true ((lowS s).length + 1) (lowS s) (closK (pcs (codes (lowS p))) (fun k => k = 0) (pcs (codes (lowS p))).length), ?_, ?_⟩
  · unfold ftext_Matches
    rw [pieces_eq (by omega), Option.bind_some]
    unfold sRun
    rw [if_pos (show (pcs (codes (lowS p))).length ≤ 100000 by omega)]
    simp only [VLower_eq (s := s) (by omega), Option.bind_some]
    rw [if_pos (by rw [lowS_len]; omega)]
    rfl
  · rw [runL_eq (codes (lowS s)) (pcs (codes (lowS p))) _ (lowS s) 0 _ (by omega) rfl (Nat.zero_le _) (fun k hk => (Pk_start _ _ k hk).symm)]
    unfold Rk
    rw [List.take_length]
end Go.Proofs.YthkpkdaeblgbdaaDoor
