/- The reference's matching, and the law. -/
import Derived.Test.YthkpkdaeblgbdaaDoorLawC
namespace Go.Proofs.YthkpkdaeblgbdaaDoor
open Go Go.Fe
open Classical

/-! ### Rows of marks -/
/-- A proposition's Boolean. -/
noncomputable def db (P : Prop) : Bool := @decide P (propDecidable P)
theorem db_iff {P : Prop} : db P = true ↔ P := by unfold db; exact decide_eq_true_iff
theorem db_true {P : Prop} (h : P) : db P = true := db_iff.2 h
theorem db_false {P : Prop} (h : ¬ P) : db P = false := by
  rw [← Bool.not_eq_true, db_iff]
  exact h
noncomputable def bl (n : Nat) (P : Nat → Prop) : List Bool := (List.range n).map fun i => db (P i)
theorem bl_len (n : Nat) (P : Nat → Prop) : (bl n P).length = n := by unfold bl; rw [List.length_map, List.length_range]
theorem bl_get {n i : Nat} (h : i < n) (P : Nat → Prop) : (bl n P).getD i false = db (P i) := by
  unfold bl
  rw [List.getD_eq_getElem?_getD, List.getElem?_map, List.getElem?_range h]
  rfl
theorem bl_congr {n : Nat} {P Q : Nat → Prop} (h : ∀ i, i < n → (P i ↔ Q i)) : bl n P = bl n Q := by
  unfold bl
  refine List.map_congr_left fun i hi => ?_
  have := h i (List.mem_range.1 hi)
  by_cases hp : P i
  · rw [db_true hp, db_true (this.1 hp)]
  · rw [db_false hp, db_false (mt this.2 hp)]
theorem bl_at {n i : Nat} {P : Nat → Prop} (h : i < (bl n P).length) : (bl n P)[i] = db (P i) :=
  (List.getElem_map (l := List.range n) (fun i => db (P i))).trans (congrArg (fun i => db (P i)) (List.getElem_range ..))
theorem bl_set (n i : Nat) (P : Nat → Prop) (b : Bool) : (bl n P).set i b = bl n (fun j => if j = i then b = true else P j) := by
  apply List.ext_getElem
  · rw [List.length_set, bl_len, bl_len]
  · intro j h1 h2
    rw [List.getElem_set, bl_at h2]
    by_cases e : i = j
    · subst e
      rw [if_pos rfl, Bool.eq_iff_iff, db_iff, if_pos rfl]
    · rw [if_neg e, bl_at, if_neg (fun h : j = i => e h.symm)]
theorem bl_zero (n : Nat) : List.replicate n false = bl n (fun _ => False) := by
  apply List.ext_getElem
  · rw [List.length_replicate, bl_len]
  · intro j h1 h2
    unfold bl
    simp [db_false]
theorem mk_bl {n : Nat} (h : n ≤ 1000000) : mk (n : Int) (n : Int) false = some (bl n (fun _ => False)) := by rw [mk_nat (by omega), bl_zero]

/-! ### The reference's characters -/
theorem Runes_halts : ∀ (n : Nat) (s : Str) (acc : List Str), s.length ≤ n → acc.length + s.length ≤ 100000 → Halts chanceryref2_Runes_l1 n (s, (), acc, ()) ((), acc ++ (sufs n s).map ch, ())
  | 0, [], acc, _, _ => Halts.done (by simp [chanceryref2_Runes_l1, sufs])
  | n + 1, [], acc, _, _ => Halts.done (by simp [chanceryref2_Runes_l1, sufs])
  | n + 1, c0 :: u, acc, hn, ha => by
    obtain ⟨s, hs⟩ : ∃ s, c0 :: u = s := ⟨_, rfl⟩
    have hne : s ≠ [] := by rw [← hs]; simp
    rw [hs] at hn ha ⊢
    have h1 := rune_n hne
    have hcut : cut s ((runeOf s).2 : Int) (s.length : Int) = some (s.drop (runeOf s).2) := by rw [cut_nat (by omega) (Nat.le_refl _), List.take_length]
    have hcut0 : cut s 0 ((runeOf s).2 : Int) = some (ch s) := by
      rw [show (0 : Int) = ((0 : Nat) : Int) from rfl, cut_nat (by omega) (by omega)]
      rfl
    have hd : (s.drop (runeOf s).2).length = s.length - (runeOf s).2 := List.length_drop ..
    have hcat : cat acc [ch s] = some (acc ++ [ch s]) := cat_ok (by rw [List.length_singleton]; omega)
    have en : ∀ {β : Type} (b : β), (cond (decide (((runeR s).2 : Int) = 0)) (some ((), (1 : Int), b, ())) (some ((), ((runeR s).2 : Int), b, ())) : Option (Unit × (Int × (β × Unit)))) = some ((), ((runeOf s).2 : Int), b, ()) := by
      intro β b
      unfold runeR
      by_cases e : runeOf s = (65533, 1)
      · rw [if_pos e, e]
        rfl
      · rw [if_neg e, decide_eq_false (by omega), cond_false]
    have step : chanceryref2_Runes_l1 (s, (), acc, ()) = some (.inl (s.drop (runeOf s).2, (), acc ++ [ch s], ())) := by
      unfold chanceryref2_Runes_l1
      simp only [decide_eq_false hne, Bool.not_false, cond_true, Rune_eq hne, Option.bind_some, en, hcut0, hcat, hcut]
    refine Halts.step step ?_
    have ih := Runes_halts n (s.drop (runeOf s).2) (acc ++ [ch s]) (by omega) (by rw [List.length_append, List.length_singleton]; omega)
    have e3 : acc ++ (sufs (n + 1) s).map ch = acc ++ [ch s] ++ (sufs n (s.drop (runeOf s).2)).map ch := by
      rw [sufs, if_neg hne, List.map_cons, List.append_assoc]
      rfl
    rw [e3]
    exact ih
theorem Runes_eq {s : Str} (h : s.length ≤ 100000) : chanceryref2_Runes s = some ((sufs s.length s).map ch, ()) := by
  unfold chanceryref2_Runes
  rw [(Runes_halts s.length s [] (Nat.le_refl _) (by rw [List.length_nil]; omega)).loop (by omega)]
  rfl

/-! ### One piece of the pattern -/
/-- A sequence. -/
theorem many_halts {n : Nat} (hn : n ≤ 1000000) (r : TA2) (hr : r.2.2.2.2.1.length = n) (Q : Nat → Prop) :
    Halts (chanceryref2_matches_l1 r) n ((), (), false, 0, bl n Q, bl n (fun _ => False), ()) ((), bl n (fun i => ∃ j, j ≤ i ∧ Q j), ()) := by
  have hl : Halts (chanceryref2_matches_l1 r) (0 + n) ((), (), db (∃ j, j < 0 ∧ Q j), ((0 : Nat) : Int), bl n Q, bl n (fun i => i < 0 ∧ ∃ j, j ≤ i ∧ Q j), ()) ((), bl n (fun i => i < n ∧ ∃ j, j ≤ i ∧ Q j), ()) := by
    refine Halts.along (fun k => ((), (), db (∃ j, j < k ∧ Q j), ((k : Nat) : Int), bl n Q, bl n (fun i => i < k ∧ ∃ j, j ≤ i ∧ Q j), ())) n (fun k hk => ?_) (.done ?_)
    · have e1 : (k : Int) < (r.2.2.2.2.1.length : Int) := by rw [hr]; omega
      have e2 : inb (k : Int) (bl n Q).length = true := by rw [bl_len]; exact inb_nat hk
      have e3 : inb (k : Int) (bl n (fun i => i < k ∧ ∃ j, j ≤ i ∧ Q j)).length = true := by rw [bl_len]; exact inb_nat hk
      have e4 : IntKind.i64.wrap ((k : Int) + 1) = ((k + 1 : Nat) : Int) := wsuc (by omega)
      have e5 : ∀ b : Bool, (b = true ↔ ∃ j, j ≤ k ∧ Q j) → some (Sum.inl ((), (), b, ((k + 1 : Nat) : Int), bl n Q, (bl n (fun i => i < k ∧ ∃ j, j ≤ i ∧ Q j)).set k b, ())) = (some (Sum.inl ((), (), db (∃ j, j < k + 1 ∧ Q j), ((k + 1 : Nat) : Int), bl n Q, bl n (fun i => i < k + 1 ∧ ∃ j, j ≤ i ∧ Q j), ())) : Option ((Unit × (Unit × (Bool × (Int × TA0)))) ⊕ TA3)) := by
        intro b hb
        have hb' : b = db (∃ j, j < k + 1 ∧ Q j) := by
          rw [Bool.eq_iff_iff, hb, db_iff]
          exact ⟨fun ⟨j, h1, h2⟩ => ⟨j, by omega, h2⟩, fun ⟨j, h1, h2⟩ => ⟨j, by omega, h2⟩⟩
        have hset : (bl n (fun i => i < k ∧ ∃ j, j ≤ i ∧ Q j)).set k b = bl n (fun i => i < k + 1 ∧ ∃ j, j ≤ i ∧ Q j) := by
          rw [bl_set]
          refine bl_congr fun i _ => ?_
          by_cases e : i = k
          · subst e
            rw [if_pos rfl, hb]
            exact ⟨fun h => ⟨by omega, h⟩, fun h => h.2⟩
          · rw [if_neg e]
            exact ⟨fun h => ⟨by omega, h.2⟩, fun h => ⟨by omega, h.2⟩⟩
        rw [hset, hb']
      by_cases hs : ∃ j, j < k ∧ Q j
      · rw [← e5 true ⟨fun _ => by obtain ⟨j, h1, h2⟩ := hs; exact ⟨j, by omega, h2⟩, fun _ => rfl⟩]
        simp only [chanceryref2_matches_l1, e1, decide_true, cond_true, db_true hs, Option.bind_some, e3, e4, chk_t, Int.toNat_natCast]
      · rw [← e5 (db (Q k)) (by
          rw [db_iff]
          constructor
          · exact fun h => ⟨k, Nat.le_refl _, h⟩
          · rintro ⟨j, h1, h2⟩
            rcases Nat.lt_or_ge j k with h | h
            · exact absurd ⟨j, h, h2⟩ hs
            · obtain rfl : j = k := by omega
              exact h2)]
        simp only [chanceryref2_matches_l1, e1, decide_true, cond_true, db_false hs, cond_false, Option.bind_some, e2, e3, e4, chk_t, Int.toNat_natCast, bl_get hk]
    · simp only [chanceryref2_matches_l1, hr, Int.lt_irrefl, decide_false, cond_false]
  have a0 : bl n (fun i => i < 0 ∧ ∃ j, j ≤ i ∧ Q j) = bl n (fun _ => False) := bl_congr fun i _ => ⟨fun h => by omega, fun h => h.elim⟩
  have a1 : bl n (fun i => i < n ∧ ∃ j, j ≤ i ∧ Q j) = bl n (fun i => ∃ j, j ≤ i ∧ Q j) := bl_congr fun i hi => ⟨fun h => h.2, fun h => ⟨hi, h⟩⟩
  have a2 : db (∃ j, j < 0 ∧ Q j) = false := db_false (fun ⟨j, h, _⟩ => by omega)
  rw [a0, a1, a2, Nat.zero_add] at hl
  exact hl
/-- A single character. -/
theorem one_halts {T : List Str} (hn : T.length ≤ 100000) (r12 : (List Str) × (Unit × (Unit × (Str × TA0)))) (r9 : TA2) (Q : Nat → Prop) :
    Halts (chanceryref2_matches_l2 T r12 r9) T.length ((), (), 0, bl (T.length + 1) Q, bl (T.length + 1) (fun _ => False), ())
      ((), bl (T.length + 1) (fun i => ∃ j, i = j + 1 ∧ Q j ∧ (((r12.2.2.2.1 = [63] ∧ r9.2.2.1 = false) ∧ j < T.length) ∨ T[j]? = some r12.2.2.2.1)), ()) := by
  let G : Nat → Prop := fun j => Q j ∧ (((r12.2.2.2.1 = [63] ∧ r9.2.2.1 = false) ∧ j < T.length) ∨ T[j]? = some r12.2.2.2.1)
  have hG : ∀ j, G j ↔ (Q j ∧ (((r12.2.2.2.1 = [63] ∧ r9.2.2.1 = false) ∧ j < T.length) ∨ T[j]? = some r12.2.2.2.1)) := fun _ => Iff.rfl
  have hl : Halts (chanceryref2_matches_l2 T r12 r9) (0 + T.length) ((), (), ((0 : Nat) : Int), bl (T.length + 1) Q, bl (T.length + 1) (fun i => i ≤ 0 ∧ ∃ j, i = j + 1 ∧ G j), ())
      ((), bl (T.length + 1) (fun i => i ≤ T.length ∧ ∃ j, i = j + 1 ∧ G j), ()) := by
    refine Halts.along (fun k => ((), (), ((k : Nat) : Int), bl (T.length + 1) Q, bl (T.length + 1) (fun i => i ≤ k ∧ ∃ j, i = j + 1 ∧ G j), ())) T.length (fun k hk => ?_) (.done ?_)
    · have e1 : (k : Int) < (T.length : Int) := by omega
      have e2 : inb (k : Int) (bl (T.length + 1) Q).length = true := by rw [bl_len]; exact inb_nat (by omega)
      have e4 : IntKind.i64.wrap ((k : Int) + 1) = ((k + 1 : Nat) : Int) := wsuc (by omega)
      have e3 : inb ((k + 1 : Nat) : Int) (bl (T.length + 1) (fun i => i ≤ k ∧ ∃ j, i = j + 1 ∧ G j)).length = true := by rw [bl_len]; exact inb_nat (by omega)
      have hT : T[k]? = some T[k] := List.getElem?_eq_getElem hk
      have yes : G k → (bl (T.length + 1) (fun i => i ≤ k ∧ ∃ j, i = j + 1 ∧ G j)).set (k + 1) true = bl (T.length + 1) (fun i => i ≤ k + 1 ∧ ∃ j, i = j + 1 ∧ G j) := by
        intro hg
        rw [bl_set]
        refine bl_congr fun i _ => ?_
        by_cases e : i = k + 1
        · subst e
          rw [if_pos rfl]
          exact ⟨fun _ => ⟨Nat.le_refl _, k, rfl, hg⟩, fun _ => rfl⟩
        · rw [if_neg e]
          exact ⟨fun h => ⟨by omega, h.2⟩, fun h => ⟨by omega, h.2⟩⟩
      have no : ¬ G k → bl (T.length + 1) (fun i => i ≤ k ∧ ∃ j, i = j + 1 ∧ G j) = bl (T.length + 1) (fun i => i ≤ k + 1 ∧ ∃ j, i = j + 1 ∧ G j) := by
        intro hg
        refine bl_congr fun i _ => ⟨fun h => ⟨by omega, h.2⟩, fun ⟨h1, j, h2, h3⟩ => ⟨?_, j, h2, h3⟩⟩
        rcases Nat.lt_or_ge k i with h | h
        · obtain rfl : j = k := by omega
          exact absurd h3 hg
        · exact h
      by_cases hq : Q k
      · by_cases hc : r12.2.2.2.1 = T[k]
        · rw [← yes ((hG k).2 ⟨hq, .inr (by rw [hT, hc])⟩)]
          simp only [chanceryref2_matches_l2, e1, decide_true, cond_true, e2, chk_t, Option.bind_some, Int.toNat_natCast, bl_get (show k < T.length + 1 by omega), db_true hq, idx_lt hk, decide_eq_true hc, e4, e3]
        · by_cases h63 : r12.2.2.2.1 = [63]
          · cases h9 : r9.2.2.1 with
            | false =>
              rw [← yes ((hG k).2 ⟨hq, .inl ⟨⟨h63, h9⟩, hk⟩⟩)]
              simp only [chanceryref2_matches_l2, e1, decide_true, cond_true, e2, chk_t, Option.bind_some, Int.toNat_natCast, bl_get (show k < T.length + 1 by omega), db_true hq, idx_lt hk, decide_eq_false hc, decide_eq_true h63, h9, Bool.not_false, cond_false, e4, e3]
            | true =>
              rw [← no (fun h => by
                rcases ((hG k).1 h).2 with h | h
                · rw [h9] at h; exact absurd h.1.2 (by decide)
                · rw [hT] at h; exact hc (Option.some.inj h).symm)]
              simp only [chanceryref2_matches_l2, e1, decide_true, cond_true, e2, chk_t, Option.bind_some, Int.toNat_natCast, bl_get (show k < T.length + 1 by omega), db_true hq, idx_lt hk, decide_eq_false hc, decide_eq_true h63, h9, Bool.not_true, cond_false, e4]
          · rw [← no (fun h => by
              rcases ((hG k).1 h).2 with h | h
              · exact h63 h.1.1
              · rw [hT] at h; exact hc (Option.some.inj h).symm)]
            simp only [chanceryref2_matches_l2, e1, decide_true, cond_true, e2, chk_t, Option.bind_some, Int.toNat_natCast, bl_get (show k < T.length + 1 by omega), db_true hq, idx_lt hk, decide_eq_false hc, decide_eq_false h63, cond_false, e4]
      · rw [← no (fun h => hq ((hG k).1 h).1)]
        simp only [chanceryref2_matches_l2, e1, decide_true, cond_true, e2, chk_t, Option.bind_some, Int.toNat_natCast, bl_get (show k < T.length + 1 by omega), db_false hq, cond_false, e4]
    · simp only [chanceryref2_matches_l2, Int.lt_irrefl, decide_false, cond_false]
  have a0 : bl (T.length + 1) (fun i => i ≤ 0 ∧ ∃ j, i = j + 1 ∧ G j) = bl (T.length + 1) (fun _ => False) := bl_congr fun i _ => ⟨fun ⟨h1, j, h2, _⟩ => by omega, fun h => h.elim⟩
  have a1 : bl (T.length + 1) (fun i => i ≤ T.length ∧ ∃ j, i = j + 1 ∧ G j) = bl (T.length + 1) (fun i => ∃ j, i = j + 1 ∧ G j) := bl_congr fun i hi => ⟨fun h => h.2, fun h => ⟨by omega, h⟩⟩
  rw [a0, a1, Nat.zero_add] at hl
  exact hl
end Go.Proofs.YthkpkdaeblgbdaaDoor
