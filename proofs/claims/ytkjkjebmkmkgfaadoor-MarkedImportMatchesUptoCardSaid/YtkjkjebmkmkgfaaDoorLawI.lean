/- Lines; the marks of a paragraph. -/
import Derived.Test.YtkjkjebmkmkgfaaDoorLawH
namespace Go.Proofs.YtkjkjebmkmkgfaaDoor
open Go Go.Fe

/-! ### Lines -/
/-- The lines of a text, the first of which has begun. -/
def sp : Str → Str → List Str
  | cur, [] => [cur]
  | cur, c :: r => if c = 10 then cur :: sp [] r else sp (cur ++ [c]) r
theorem sp_len : ∀ (cur r : Str), (sp cur r).length = Lib.countByte r 10 + 1
  | _, [] => rfl
  | cur, c :: r => by
    unfold sp Lib.countByte
    by_cases h : c = 10
    · rw [if_pos h, List.length_cons, sp_len [] r, h, List.count_cons_self]
      rfl
    · rw [if_neg h, sp_len _ r, List.count_cons_of_ne h]
      rfl
theorem count_le (s : Str) : Lib.countByte s 10 ≤ s.length := List.count_le_length
theorem rsplit_halts {s0 : Str} (hs : s0.length ≤ 50000) : ∀ (n i fr : Nat) (out : List Str), s0.length - i ≤ n → i ≤ s0.length → fr ≤ i → out.length ≤ i →
    ∃ (fr' : Nat) (out' : List Str), Halts (chanceryref2_Split_l1 s0 10) n ((), (fr : Int), (i : Int), out, ()) ((), (fr' : Int), out', ()) ∧ fr' ≤ s0.length ∧ out'.length ≤ s0.length ∧ out' ++ [s0.drop fr'] = out ++ sp ((s0.take i).drop fr) (s0.drop i)
  | n, i, fr, out, hn, hi, hf, ho => by
    by_cases hil : i < s0.length
    · cases n with
      | zero => omega
      | succ n =>
      have e1 : (i : Int) < (s0.length : Int) := by omega
      have w1 := wsuc (show i < 9223372036854775807 by omega)
      have hd : s0.drop i = s0[i] :: s0.drop (i + 1) := List.drop_eq_getElem_cons hil
      by_cases hc : s0[i] = 10
      · have e2 : ofByte s0[i] = 10 := by rw [hc]; rfl
        have hcut : cut s0 (fr : Int) (i : Int) = some ((s0.take i).drop fr) := cut_nat hf hi
        have hcat : cat out [(s0.take i).drop fr] = some (out ++ [(s0.take i).drop fr]) := cat_ok (by rw [List.length_singleton]; omega)
        obtain ⟨fr', out', h1, h2, h3, h4⟩ := rsplit_halts hs n (i + 1) (i + 1) (out ++ [(s0.take i).drop fr]) (by omega) (by omega) (Nat.le_refl _) (by rw [List.length_append, List.length_singleton]; omega)
        refine ⟨fr', out', Halts.step ?_ h1, h2, h3, ?_⟩
        · unfold chanceryref2_Split_l1
          simp only [e1, decide_true, cond_true, idx_lt hil, Option.bind_some, e2, hcut, hcat, w1]
        · rw [h4, hd, sp, if_pos hc]
          have : (s0.take (i + 1)).drop (i + 1) = [] := List.drop_of_length_le (by rw [List.length_take]; omega)
          rw [this]
          simp
      · have e2 : ¬ ofByte s0[i] = 10 := by
          rw [ofByte_eq]
          intro e
          exact hc (UInt8.toNat_inj.1 (by show s0[i].toNat = 10; omega))
        obtain ⟨fr', out', h1, h2, h3, h4⟩ := rsplit_halts hs n (i + 1) fr out (by omega) (by omega) (by omega) (by omega)
        refine ⟨fr', out', Halts.step ?_ h1, h2, h3, ?_⟩
        · unfold chanceryref2_Split_l1
          simp only [e1, decide_true, cond_true, idx_lt hil, Option.bind_some, e2, decide_false, cond_false, w1]
        · rw [h4, hd, sp, if_neg hc]
          have : (s0.take (i + 1)).drop fr = (s0.take i).drop fr ++ [s0[i]] := by
            rw [List.take_succ_eq_append_getElem hil, List.drop_append_of_le_length (by rw [List.length_take]; omega)]
          rw [this]
    · have e1 : ¬ (i : Int) < (s0.length : Int) := by omega
      refine ⟨fr, out, Halts.done ?_, by omega, by omega, ?_⟩
      · unfold chanceryref2_Split_l1
        simp only [e1, decide_false, cond_false]
      · rw [List.drop_of_length_le (by omega : s0.length ≤ i), sp, List.take_of_length_le (by omega)]
theorem rsplit_eq {s : Str} (hs : s.length ≤ 50000) : chanceryref2_Split s 10 = some (sp [] s, ()) := by
  obtain ⟨fr, out, h1, h2, h3, h4⟩ := rsplit_halts hs s.length 0 0 [] (by omega) (Nat.zero_le _) (Nat.le_refl _) (Nat.le_refl _)
  have hlp := h1.loop (by omega)
  have hlp' : loop (chanceryref2_Split_l1 s 10) ((), 0, 0, [], ()) = some ((), (fr : Int), out, ()) := hlp
  have hc : cat out [s.drop fr] = some (out ++ [s.drop fr]) := cat_ok (by rw [List.length_singleton]; omega)
  unfold chanceryref2_Split
  rw [hlp']
  simp only [Option.bind_some, cut_end h2, hc]
  rw [h4]
  simp

theorem sp_first : ∀ (cur r : Str), 0 < Lib.countByte r 10 → ∃ m : Nat, Lib.indexByte r 10 = (m : Int) ∧ m < r.length ∧ sp cur r = (cur ++ r.take m) :: sp [] (r.drop (m + 1)) ∧ Lib.countByte (r.drop (m + 1)) 10 + 1 = Lib.countByte r 10
  | _, [], h => by simp [Lib.countByte] at h
  | cur, c :: r, h => by
    by_cases hc : c = 10
    · subst hc
      refine ⟨0, ?_, by simp, ?_, ?_⟩
      · simp [Lib.indexByte]
      · simp [sp]
      · simp [Lib.countByte]
    · have h' : 0 < Lib.countByte r 10 := by
        unfold Lib.countByte at h ⊢
        rwa [List.count_cons_of_ne hc] at h
      obtain ⟨m, h1, h2, h3, h4⟩ := sp_first (cur ++ [c]) r h'
      refine ⟨m + 1, ?_, by simp; omega, ?_, ?_⟩
      · unfold Lib.indexByte
        have hbe : (c == 10) = false := by simpa using hc
        simp only [hbe, h1]
        simp
      · rw [sp, if_neg hc, h3]
        simp
      · unfold Lib.countByte at h4 ⊢
        rw [List.count_cons_of_ne hc, List.drop_succ_cons]
        exact h4
theorem sp_none : ∀ (cur r : Str), Lib.countByte r 10 = 0 → sp cur r = [cur ++ r]
  | cur, [], _ => by simp [sp]
  | cur, c :: r, h => by
    have hc : c ≠ 10 := by
      rintro rfl
      simp [Lib.countByte] at h
    unfold Lib.countByte at h
    rw [List.count_cons_of_ne hc] at h
    rw [sp, if_neg hc, sp_none _ r h]
    simp
theorem gs_halts (v4 : Int) : ∀ (k i : Nat) (s : Str) (acc : List Str), s.length ≤ 50000 → i + k ≤ 100000 → Lib.countByte s 10 = k → v4 = ((i + k : Nat) : Int) → acc.length = i →
    ∃ s' A, Halts (strings_genSplit_l1 v4 [10] 0) k (s, (), (i : Int), acc ++ List.replicate (k + 1) [], ()) (s', (), ((i + k : Nat) : Int), A ++ [[]], ()) ∧ A.length = i + k ∧ A ++ [s'] = acc ++ sp [] s
  | 0, i, s, acc, hs, hi, hk, hv, ha => by
    have e1 : ¬ (i : Int) < v4 := by omega
    refine ⟨s, acc, Halts.done ?_, by omega, ?_⟩
    · unfold strings_genSplit_l1
      simp only [e1, decide_false, cond_false]
      rfl
    · rw [sp_none [] s hk]
      rfl
  | k + 1, i, s, acc, hs, hi, hk, hv, ha => by
    have e1 : (i : Int) < v4 := by omega
    obtain ⟨m, h1, h2, h3, h4⟩ := sp_first [] s (by omega)
    have e2 : ¬ ((m : Int) < 0) := by omega
    have w0 : IntKind.i64.wrap ((m : Int) + 0) = (m : Int) := by rw [Int.add_zero, wrap_i64 (by omega) (by omega)]
    have w1 : IntKind.i64.wrap ((m : Int) + (([10] : Str).length : Int)) = ((m + 1 : Nat) : Int) := by
      show IntKind.i64.wrap ((m : Int) + 1) = _
      exact wsuc (by omega)
    have w2 := wsuc (show i < 9223372036854775807 by omega)
    have hcut : cut s 0 (m : Int) = some (s.take m) := by
      rw [show (0 : Int) = ((0 : Nat) : Int) from rfl, cut_nat (Nat.zero_le _) (by omega)]
      rfl
    have hin : inb (i : Int) (acc ++ List.replicate (k + 1 + 1) []).length = true := inb_nat (by rw [List.length_append, List.length_replicate]; omega)
    have hc1 : cut s ((m + 1 : Nat) : Int) (s.length : Int) = some (s.drop (m + 1)) := cut_end (by omega)
    have hset : (acc ++ List.replicate (k + 1 + 1) ([] : Str)).set i (s.take m) = (acc ++ [s.take m]) ++ List.replicate (k + 1) [] := by
      rw [List.set_append_right _ _ (by omega), ha, Nat.sub_self, List.replicate_succ, List.set_cons_zero, List.append_assoc]
      rfl
    obtain ⟨s', A, g1, g2, g3⟩ := gs_halts v4 k (i + 1) (s.drop (m + 1)) (acc ++ [s.take m]) (by rw [List.length_drop]; omega) (by omega) (by omega) (by omega) (by rw [List.length_append, List.length_singleton, ha])
    refine ⟨s', A, ?_, by omega, ?_⟩
    · rw [show i + (k + 1) = i + 1 + k by omega]
      refine Halts.step ?_ g1
      unfold strings_genSplit_l1 strings_Index
      simp only [e1, decide_true, cond_true, sIndex, h1, Option.bind_some, e2, decide_false, cond_false, w0, hcut, hin, chk_t, Int.toNat_natCast, hset, w1, hc1, w2]
    · rw [g3, h3]
      simp
theorem split_eq {s : Str} (hs : s.length ≤ 50000) : strings_Split s [10] = some ((), sp [] s, ()) := by
  have hc := count_le s
  obtain ⟨k, hk⟩ : ∃ k, Lib.countByte s 10 = k := ⟨_, rfl⟩
  have w1 : IntKind.i64.wrap ((k : Int) + 1) = ((k + 1 : Nat) : Int) := wsuc (by omega)
  have w2 : IntKind.i64.wrap ((s.length : Int) + 1) = ((s.length + 1 : Nat) : Int) := wsuc (by omega)
  have hmn : mn ((k + 1 : Nat) : Int) ((s.length + 1 : Nat) : Int) = ((k + 1 : Nat) : Int) := by unfold mn; rw [if_neg (by omega)]
  have w3 : IntKind.i64.wrap (((k + 1 : Nat) : Int) - 1) = ((0 + k : Nat) : Int) := by rw [wrap_i64 (by omega) (by omega)]; omega
  have hmk : mk ((k + 1 : Nat) : Int) ((k + 1 : Nat) : Int) ([] : Str) = some (List.replicate (k + 1) []) := mk_nat (by omega)
  obtain ⟨s', A, g1, g2, g3⟩ := gs_halts ((0 + k : Nat) : Int) k 0 s [] hs (by omega) hk rfl rfl
  have hlp := g1.loop (by omega)
  have hlp' : loop (strings_genSplit_l1 ((0 + k : Nat) : Int) [10] 0) (s, (), 0, List.replicate (k + 1) [], ()) = some (s', (), ((0 + k : Nat) : Int), A ++ [[]], ()) := hlp
  have hin : inb ((0 + k : Nat) : Int) (A ++ [[]]).length = true := inb_nat (by rw [List.length_append, List.length_singleton]; omega)
  have hset : (A ++ [([] : Str)]).set (0 + k) s' = sp [] s := by
    rw [List.set_append_right _ _ (by omega), g2, Nat.sub_self, List.set_cons_zero, g3]
    rfl
  have w4 : IntKind.i64.wrap (((0 + k : Nat) : Int) + 1) = ((0 + k + 1 : Nat) : Int) := wsuc (by omega)
  have hcut : cut (sp [] s) 0 ((0 + k + 1 : Nat) : Int) = some (sp [] s) := by
    have hl := sp_len [] s
    rw [show (0 : Int) = ((0 : Nat) : Int) from rfl, cut_nat (Nat.zero_le _) (by omega), List.take_of_length_le (by omega)]
    rfl
  unfold strings_Split strings_genSplit
  have d1 : decide ((-1 : Int) = 0) = false := rfl
  have d2 : decide (([10] : Str) = []) = false := rfl
  have d3 : decide ((-1 : Int) < 0) = true := rfl
  simp only [d1, cond_false, d2, d3, cond_true, sCount, hk, Option.bind_some, w1, w2, hmn, hmk, w3, hlp', hin, chk_t, Int.toNat_natCast, hset, w4, hcut]

/-! ### The marks of a paragraph -/
/-- How many bytes at the beginning are these. -/
def lead (c : UInt8) : Str → Nat
  | [] => 0
  | x :: r => if x = c then lead c r + 1 else 0
theorem lead_le (c : UInt8) : ∀ s, lead c s ≤ s.length
  | [] => Nat.le_refl _
  | x :: r => by
    unfold lead
    split
    · have := lead_le c r
      rw [List.length_cons]; omega
    · exact Nat.zero_le _
theorem trimB {k : Nat} (hk : k < 256) : ∀ (s : Str) , Halts (strings_trimLeftByte_l1 (k : Int)) s.length (s, ()) (s.drop (lead (UInt8.ofNat k) s), ())
  | [] => Halts.done (by simp [strings_trimLeftByte_l1, lead])
  | x :: r => by
    have ek : (UInt8.ofNat k).toNat = k := by rw [UInt8.toNat_ofNat']; omega
    have e0 : (0 : Int) < ((x :: r).length : Int) := by rw [List.length_cons]; omega
    have hcut : cut (x :: r) 1 ((x :: r).length : Int) = some r := cut_one (xs := x :: r) (by rw [List.length_cons]; omega)
    have hi : idx (x :: r) 0 = some x := rfl
    by_cases h : x = UInt8.ofNat k
    · have e1 : ofByte x = (k : Int) := by rw [ofByte_eq, h, ek]
      have : lead (UInt8.ofNat k) (x :: r) = lead (UInt8.ofNat k) r + 1 := if_pos h
      rw [this, List.drop_succ_cons]
      refine Halts.step ?_ (trimB hk r)
      unfold strings_trimLeftByte_l1
      simp only [e0, decide_true, cond_true, hi, Option.bind_some, e1, hcut]
    · have e1 : ¬ ofByte x = (k : Int) := by
        rw [ofByte_eq]
        intro e
        exact h (UInt8.toNat_inj.1 (by rw [ek]; omega))
      have : lead (UInt8.ofNat k) (x :: r) = 0 := if_neg h
      rw [this]
      refine Halts.done ?_
      unfold strings_trimLeftByte_l1
      simp only [e0, decide_true, cond_true, hi, Option.bind_some, e1, decide_false, cond_false]
      rfl
theorem trim_eq {k : Nat} (hk : k < 128) {s : Str} (hs : s.length ≤ 50000) : strings_TrimLeft s [UInt8.ofNat k] = some (s.drop (lead (UInt8.ofNat k) s), ()) := by
  have ek : (UInt8.ofNat k).toNat = k := by rw [UInt8.toNat_ofNat']; omega
  have hlp := (trimB (k := k) (by omega) s).loop (by omega)
  unfold strings_TrimLeft
  by_cases h : s = []
  · subst h
    simp [lead]
  · have d1 : decide (([UInt8.ofNat k] : Str) = []) = false := rfl
    have e1 : ((([UInt8.ofNat k] : Str).length : Nat) : Int) = 1 := rfl
    have hi : idx ([UInt8.ofNat k] : Str) 0 = some (UInt8.ofNat k) := rfl
    have e2 : ofByte (UInt8.ofNat k) = (k : Int) := by rw [ofByte_eq, ek]
    have e3 : (k : Int) < 128 := by omega
    unfold strings_trimLeftByte
    simp only [h, decide_false, cond_false, d1, Option.bind_some, e1, decide_true, cond_true, hi, e2, e3, hlp]
theorem span1 : ∀ (n i : Nat) (s0 : Str), s0.length ≤ 50000 → s0.length - i ≤ n → i ≤ s0.length →
    ∃ R, Halts (chanceryref2_span_Marked_1_l1 s0) n ((), (i : Int), ()) R ∧ (match R with | .inl _ => (some ((s0.length : Int), ()) : Option (Int × Unit)) | .inr z => some z) = some (((i + lead 35 (s0.drop i) : Nat) : Int), ())
  | n, i, s0, hs, hn, hi => by
    by_cases hil : i < s0.length
    · have e1 : (i : Int) < (s0.length : Int) := by omega
      have w1 := wsuc (show i < 9223372036854775807 by omega)
      have hd : s0.drop i = s0[i] :: s0.drop (i + 1) := List.drop_eq_getElem_cons hil
      by_cases hc : s0[i] = 35
      · cases n with
        | zero => omega
        | succ n =>
        have e2 : ofByte s0[i] = 35 := by rw [hc]; rfl
        obtain ⟨R, h1, h2⟩ := span1 n (i + 1) s0 hs (by omega) (by omega)
        refine ⟨R, Halts.step ?_ h1, ?_⟩
        · unfold chanceryref2_span_Marked_1_l1 chanceryref2_Marked_1
          simp only [e1, decide_true, cond_true, idx_lt hil, Option.bind_some, e2, Bool.not_true, cond_false, w1]
        · rw [h2, hd, lead, if_pos hc, show i + 1 + lead 35 (s0.drop (i + 1)) = i + (lead 35 (s0.drop (i + 1)) + 1) by omega]
      · have e2 : ¬ ofByte s0[i] = 35 := by
          rw [ofByte_eq]
          intro e
          exact hc (UInt8.toNat_inj.1 (by show s0[i].toNat = 35; omega))
        refine ⟨.inr ((i : Int), ()), Halts.done ?_, ?_⟩
        · unfold chanceryref2_span_Marked_1_l1 chanceryref2_Marked_1
          simp only [e1, decide_true, cond_true, idx_lt hil, Option.bind_some, e2, decide_false, Bool.not_false]
        · rw [hd, lead, if_neg hc]
          rfl
    · have e1 : ¬ (i : Int) < (s0.length : Int) := by omega
      refine ⟨.inl (), Halts.done ?_, ?_⟩
      · unfold chanceryref2_span_Marked_1_l1
        simp only [e1, decide_false, cond_false]
      · rw [List.drop_of_length_le (by omega)]
        have : i = s0.length := by omega
        rw [this]
        rfl
theorem span2 : ∀ (n i : Nat) (s0 : Str), s0.length ≤ 50000 → s0.length - i ≤ n → i ≤ s0.length →
    ∃ R, Halts (chanceryref2_span_Marked_2_l1 s0) n ((), (i : Int), ()) R ∧ (match R with | .inl _ => (some ((s0.length : Int), ()) : Option (Int × Unit)) | .inr z => some z) = some (((i + lead 32 (s0.drop i) : Nat) : Int), ())
  | n, i, s0, hs, hn, hi => by
    by_cases hil : i < s0.length
    · have e1 : (i : Int) < (s0.length : Int) := by omega
      have w1 := wsuc (show i < 9223372036854775807 by omega)
      have hd : s0.drop i = s0[i] :: s0.drop (i + 1) := List.drop_eq_getElem_cons hil
      by_cases hc : s0[i] = 32
      · cases n with
        | zero => omega
        | succ n =>
        have e2 : ofByte s0[i] = 32 := by rw [hc]; rfl
        obtain ⟨R, h1, h2⟩ := span2 n (i + 1) s0 hs (by omega) (by omega)
        refine ⟨R, Halts.step ?_ h1, ?_⟩
        · unfold chanceryref2_span_Marked_2_l1 chanceryref2_Marked_2
          simp only [e1, decide_true, cond_true, idx_lt hil, Option.bind_some, e2, Bool.not_true, cond_false, w1]
        · rw [h2, hd, lead, if_pos hc, show i + 1 + lead 32 (s0.drop (i + 1)) = i + (lead 32 (s0.drop (i + 1)) + 1) by omega]
      · have e2 : ¬ ofByte s0[i] = 32 := by
          rw [ofByte_eq]
          intro e
          exact hc (UInt8.toNat_inj.1 (by show s0[i].toNat = 32; omega))
        refine ⟨.inr ((i : Int), ()), Halts.done ?_, ?_⟩
        · unfold chanceryref2_span_Marked_2_l1 chanceryref2_Marked_2
          simp only [e1, decide_true, cond_true, idx_lt hil, Option.bind_some, e2, decide_false, Bool.not_false]
        · rw [hd, lead, if_neg hc]
          rfl
    · have e1 : ¬ (i : Int) < (s0.length : Int) := by omega
      refine ⟨.inl (), Halts.done ?_, ?_⟩
      · unfold chanceryref2_span_Marked_2_l1
        simp only [e1, decide_false, cond_false]
      · rw [List.drop_of_length_le (by omega)]
        have : i = s0.length := by omega
        rw [this]
        rfl
theorem span1_eq {s : Str} (hs : s.length ≤ 50000) : chanceryref2_span_Marked_1 s = some ((lead 35 s : Int), ()) := by
  obtain ⟨R, h1, h2⟩ := span1 s.length 0 s hs (by omega) (Nat.zero_le _)
  have hlp := h1.loop (by omega)
  unfold chanceryref2_span_Marked_1
  rw [show (0 : Int) = ((0 : Nat) : Int) from rfl, hlp]
  rw [Nat.zero_add, List.drop_zero] at h2
  cases R <;> exact h2
theorem span2_eq {s : Str} (hs : s.length ≤ 50000) : chanceryref2_span_Marked_2 s = some ((lead 32 s : Int), ()) := by
  obtain ⟨R, h1, h2⟩ := span2 s.length 0 s hs (by omega) (Nat.zero_le _)
  have hlp := h1.loop (by omega)
  unfold chanceryref2_span_Marked_2
  rw [show (0 : Int) = ((0 : Nat) : Int) from rfl, hlp]
  rw [Nat.zero_add, List.drop_zero] at h2
  cases R <;> exact h2
theorem has_eq {s p : Str} : chanceryref2_Has s p = some (Lib.hasPrefix s p, ()) := by
  unfold chanceryref2_Has Lib.hasPrefix
  by_cases h : p.length ≤ s.length
  · have hc : cut s 0 (p.length : Int) = some (s.take p.length) := by
      rw [show (0 : Int) = ((0 : Nat) : Int) from rfl, cut_nat (Nat.zero_le _) h]
      rfl
    rw [decide_eq_true (by omega : (p.length : Int) ≤ (s.length : Int)), cond_true, hc, Option.bind_some]
    have : decide (s.take p.length = p) = p.isPrefixOf s := by
      rw [Bool.eq_iff_iff, decide_eq_true_iff, List.isPrefixOf_iff_prefix]
      exact ⟨fun e => ⟨s.drop p.length, by rw [← e, List.length_take, Nat.min_eq_left h]; exact List.take_append_drop _ _⟩, fun e => (List.prefix_iff_eq_take.1 e).symm⟩
    rw [this]
  · rw [decide_eq_false (by omega : ¬ (p.length : Int) ≤ (s.length : Int)), cond_false]
    have : p.isPrefixOf s = false := by
      rw [← Bool.not_eq_true, List.isPrefixOf_iff_prefix]
      exact fun e => h e.length_le
    rw [this]
end Go.Proofs.YtkjkjebmkmkgfaaDoor
