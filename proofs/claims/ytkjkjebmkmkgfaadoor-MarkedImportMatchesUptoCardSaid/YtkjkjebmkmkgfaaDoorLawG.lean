/- The reference's search for a link; a line read by both. -/
import Derived.Test.YtkjkjebmkmkgfaaDoorLawF
namespace Go.Proofs.YtkjkjebmkmkgfaaDoor
open Go Go.Fe

theorem inS_ne : ∀ (n : Nat) (out w : Str) {txt rest : Str}, inS n out w = some (txt, rest) → txt ≠ []
  | 0, _, _, _, _, h => by cases h
  | n + 1, out, w, txt, rest, h => by
    unfold inS at h
    split at h
    · cases h
    · split at h
      · split at h
        · cases h
        · rename_i ho
          cases h
          exact fun e => ho (.inl e)
      · split at h
        · cases h
        · exact inS_ne n _ _ h
theorem outS_ne : ∀ (n : Nat) (v : Str) {txt v' rest : Str}, outS n v = some (txt, v', rest) → txt ≠ [] ∧ v' ≠ []
  | 0, _, _, _, _, h => by cases h
  | n + 1, v, txt, v', rest, h => by
    unfold outS at h
    split at h
    · cases h
    · rename_i hv
      split at h
      · cases h
      · split at h
        · simp only [Option.map_eq_some_iff] at h
          obtain ⟨p, hp, he⟩ := h
          cases he
          exact ⟨inS_ne _ _ _ hp, hv⟩
        · exact outS_ne n _ h

section
variable {T : List Str} (hT : T.length ≤ 100000)
include hT
theorem tok_at {k : Nat} {w : Str} (hk : T.drop k = toks w) (hw : w ≠ []) : k < T.length ∧ idx (T.map tk) (k : Int) = some (tk w) ∧ T.drop (k + 1) = toks (nx w) := by
  have _ := hT
  rw [toks_cons hw] at hk
  have hl : k < T.length := by
    rcases Nat.lt_or_ge k T.length with h | h
    · exact h
    · rw [List.drop_of_length_le h] at hk; cases hk
  refine ⟨hl, ?_, ?_⟩
  · rw [idx_nat, List.getElem?_map]
    have := congrArg (fun l : List Str => l[0]?) hk
    simp only [List.getElem?_drop, Nat.add_zero, List.getElem?_cons_zero] at this
    rw [this]
    rfl
  · have := congrArg List.tail hk
    rwa [List.tail_drop, List.tail_cons] at this
theorem ref_in (z : Int × Unit) : ∀ (n m : Nat) (out w : Str) (N : Nat), T.length - m ≤ n → m ≤ T.length → out.length ≤ m → w.length < N → T.drop m = toks w →
    ∃ R, Halts (chanceryref2_linkAt_l1 (T.map tk) z) n (out, (m : Int), ()) R ∧
      match inS N out w with
      | some (txt, rest) => ∃ y : Nat, R = .inr (txt, z.1, (y : Int), ()) ∧ T.drop y = toks rest ∧ y ≤ T.length ∧ m < y
      | none => R = .inl () ∨ R = .inr ([], 0, 0, ())
  | _, _, _, _, 0, _, _, _, h, _ => by omega
  | n, m, out, w, N + 1, hn, hm, ho, hN, hd => by
    by_cases hw : w = []
    · subst hw
      rw [toks_nil] at hd
      have : T.length ≤ m := List.drop_eq_nil_iff.1 hd
      have e1 : ¬ (m : Int) < ((T.map tk).length : Int) := by rw [List.length_map]; omega
      refine ⟨.inl (), Halts.done ?_, ?_⟩
      · unfold chanceryref2_linkAt_l1
        simp only [e1, decide_false, cond_false]
      · unfold inS
        rw [if_pos rfl]
        exact .inl rfl
    · obtain ⟨hml, hidx, hd1⟩ := tok_at hT hd hw
      have hnl := nx_len hw
      have e1 : (m : Int) < ((T.map tk).length : Int) := by rw [List.length_map]; omega
      have w1 := wsuc (show m < 9223372036854775807 by omega)
      have i41 := is_eq (tk w) (show (0 : Int) ≤ 41 by omega) (show (41 : Int) < 256 by omega)
      have i92 := is_eq (tk w) (show (0 : Int) ≤ 92 by omega) (show (92 : Int) < 256 by omega)
      cases h41 : isB (tk w) 41 with
      | true =>
        rw [h41] at i41
        unfold inS
        rw [if_neg hw, if_pos h41]
        by_cases hoe : out = []
        · rw [if_pos (.inl hoe)]
          refine ⟨.inr ([], 0, 0, ()), Halts.done ?_, .inr rfl⟩
          unfold chanceryref2_linkAt_l1
          simp only [e1, decide_true, cond_true, hidx, Option.bind_some, i41, hoe]
        · by_cases hlong : 200 < out.length
          · have e2 : 200 < (out.length : Int) := by omega
            rw [if_pos (.inr hlong)]
            refine ⟨.inr ([], 0, 0, ()), Halts.done ?_, .inr rfl⟩
            unfold chanceryref2_linkAt_l1
            simp only [e1, decide_true, cond_true, hidx, Option.bind_some, i41, hoe, decide_false, cond_false, e2]
          · have e2 : ¬ 200 < (out.length : Int) := by omega
            rw [if_neg (by rintro (h | h) <;> contradiction)]
            refine ⟨.inr (out, z.1, ((m + 1 : Nat) : Int), ()), Halts.done ?_, m + 1, rfl, hd1, by omega, by omega⟩
            unfold chanceryref2_linkAt_l1
            simp only [e1, decide_true, cond_true, hidx, Option.bind_some, i41, hoe, decide_false, cond_false, e2, w1]
      | false =>
        rw [h41] at i41
        by_cases hbad : (tk w).2.2.2.1 = true ∨ (tk w).1 < 32 ∨ 126 < (tk w).1 ∨ isB (tk w) 92 = true
        · unfold inS
          rw [if_neg hw, if_neg (by rw [h41]; decide), if_pos hbad]
          refine ⟨.inr ([], 0, 0, ()), Halts.done ?_, .inr rfl⟩
          unfold chanceryref2_linkAt_l1
          cases hb : (tk w).2.2.2.1 with
          | true => simp only [e1, decide_true, cond_true, hidx, Option.bind_some, i41, cond_false, hb]
          | false =>
            by_cases h32 : (tk w).1 < 32
            · simp only [e1, decide_true, cond_true, hidx, Option.bind_some, i41, cond_false, hb, h32]
            · by_cases h126 : 126 < (tk w).1
              · simp only [e1, decide_true, cond_true, hidx, Option.bind_some, i41, cond_false, hb, h32, decide_false, h126]
              · have h92 : isB (tk w) 92 = true := by
                  rcases hbad with h | h | h | h
                  · rw [hb] at h; cases h
                  · exact absurd h h32
                  · exact absurd h h126
                  · exact h
                rw [h92] at i92
                simp only [e1, decide_true, cond_true, hidx, Option.bind_some, i41, cond_false, hb, h32, decide_false, h126, i92]
        · have hb : (tk w).2.2.2.1 = false := by
            cases h : (tk w).2.2.2.1 with
            | true => exact absurd (.inl h) hbad
            | false => rfl
          have h32 : ¬ (tk w).1 < 32 := fun h => hbad (.inr (.inl h))
          have h126 : ¬ 126 < (tk w).1 := fun h => hbad (.inr (.inr (.inl h)))
          have h92 : isB (tk w) 92 = false := by
            cases h : isB (tk w) 92 with
            | true => exact absurd (.inr (.inr (.inr h))) hbad
            | false => rfl
          rw [h92] at i92
          obtain ⟨x, hx⟩ : ∃ x : Nat, (tk w).1 = (x : Int) := ⟨(tk w).1.toNat, by omega⟩
          have wu : IntKind.u8.wrap (tk w).1 = (x : Int) := by rw [hx]; exact wrap_u8i (by omega) (by omega)
          have hby : bytesStr [(x : Int)] = [UInt8.ofNat x] := by unfold bytesStr; rw [List.map_cons, byteOfInt_nat, List.map_nil]
          have hc : cat out [UInt8.ofNat x] = some (out ++ [UInt8.ofNat x]) := cat_ok (by rw [List.length_singleton]; omega)
          cases n with
          | zero => omega
          | succ n =>
            obtain ⟨R, hR, hm'⟩ := ref_in z n (m + 1) (out ++ [UInt8.ofNat x]) (nx w) N (by omega) (by omega) (by rw [List.length_append, List.length_singleton]; omega) (by omega) hd1
            refine ⟨R, Halts.step (s' := (out ++ [UInt8.ofNat x], ((m + 1 : Nat) : Int), ())) ?_ hR, ?_⟩
            · unfold chanceryref2_linkAt_l1
              simp only [e1, decide_true, cond_true, hidx, Option.bind_some, i41, cond_false, hb, h32, decide_false, h126, i92, wu, hby, hc, w1]
            · unfold inS
              rw [if_neg hw, if_neg (by rw [h41]; decide), if_neg hbad, hx, Int.toNat_natCast]
              cases hin : inS N (out ++ [UInt8.ofNat x]) (nx w) with
              | none => rw [hin] at hm'; exact hm'
              | some r =>
                rw [hin] at hm'
                obtain ⟨y, h1, h2, h3, h4⟩ := hm'
                exact ⟨y, h1, h2, h3, by omega⟩
theorem ref_out : ∀ (n k : Nat) (v : Str) (N : Nat), T.length - k ≤ n → k ≤ T.length → v.length < N → T.drop k = toks v →
    ∃ R, Halts (chanceryref2_linkAt_l2 (T.map tk)) n ((k : Int), ()) R ∧
      match outS N v with
      | some (txt, v', rest) => ∃ x y : Nat, R = .inr (txt, (x : Int), (y : Int), ()) ∧ T.drop x = toks v' ∧ x < T.length ∧ T.drop y = toks rest ∧ y ≤ T.length ∧ x < y
      | none => R = .inl () ∨ R = .inr ([], 0, 0, ())
  | _, _, _, 0, _, _, h, _ => by omega
  | n, k, v, N + 1, hn, hk, hN, hd => by
    by_cases hv : v = []
    · subst hv
      rw [toks_nil] at hd
      have : T.length ≤ k := List.drop_eq_nil_iff.1 hd
      have e1 : ¬ (k : Int) < ((T.map tk).length : Int) := by rw [List.length_map]; omega
      refine ⟨.inl (), Halts.done ?_, ?_⟩
      · unfold chanceryref2_linkAt_l2
        simp only [e1, decide_false, cond_false, Option.bind_some]
      · unfold outS
        rw [if_pos rfl]
        exact .inl rfl
    · obtain ⟨hkl, hidx, hd1⟩ := tok_at hT hd hv
      have hnl := nx_len hv
      have e1 : (k : Int) < ((T.map tk).length : Int) := by rw [List.length_map]; omega
      have w1 := wsuc (show k < 9223372036854775807 by omega)
      have w2 : IntKind.i64.wrap ((k : Int) + 2) = ((k + 2 : Nat) : Int) := by rw [wrap_i64 (by omega) (by omega)]; rfl
      have i91 := is_eq (tk v) (show (0 : Int) ≤ 91 by omega) (show (91 : Int) < 256 by omega)
      have i93 := is_eq (tk v) (show (0 : Int) ≤ 93 by omega) (show (93 : Int) < 256 by omega)
      cases h91 : isB (tk v) 91 with
      | true =>
        rw [h91] at i91
        refine ⟨.inl (), Halts.done ?_, ?_⟩
        · unfold chanceryref2_linkAt_l2
          simp only [e1, decide_true, cond_true, hidx, Option.bind_some, i91, Bool.not_true, cond_false]
        · unfold outS
          rw [if_neg hv, if_pos h91]
          exact .inl rfl
      | false =>
        rw [h91] at i91
        have onward : (¬ (isB (tk v) 93 = true ∧ nx v ≠ [] ∧ isB (tk (nx v)) 40 = true)) → chanceryref2_linkAt_l2 (T.map tk) ((k : Int), ()) = some (.inl (((k + 1 : Nat) : Int), ())) →
            ∃ R, Halts (chanceryref2_linkAt_l2 (T.map tk)) n ((k : Int), ()) R ∧
              match outS (N + 1) v with
              | some (txt, v', rest) => ∃ x y : Nat, R = .inr (txt, (x : Int), (y : Int), ()) ∧ T.drop x = toks v' ∧ x < T.length ∧ T.drop y = toks rest ∧ y ≤ T.length ∧ x < y
              | none => R = .inl () ∨ R = .inr ([], 0, 0, ()) := by
          intro hno hstep
          cases n with
          | zero => omega
          | succ n =>
            obtain ⟨R, hR, hm⟩ := ref_out n (k + 1) (nx v) N (by omega) (by omega) (by omega) hd1
            refine ⟨R, Halts.step hstep hR, ?_⟩
            unfold outS
            rw [if_neg hv, if_neg (by rw [h91]; decide), if_neg hno]
            exact hm
        cases h93 : isB (tk v) 93 with
        | false =>
          rw [h93] at i93
          refine onward (by rw [h93]; rintro ⟨h, _⟩; cases h) ?_
          unfold chanceryref2_linkAt_l2
          simp only [e1, decide_true, cond_true, hidx, Option.bind_some, i91, Bool.not_false, i93, w1]
        | true =>
          rw [h93] at i93
          by_cases hn2 : nx v = []
          · have : T.length = k + 1 := by
              rw [hn2, toks_nil] at hd1
              have := List.drop_eq_nil_iff.1 hd1
              omega
            have e2 : ((k + 1 : Nat) : Int) = ((T.map tk).length : Int) := by rw [List.length_map]; omega
            refine onward (by rintro ⟨_, h, _⟩; exact h hn2) ?_
            unfold chanceryref2_linkAt_l2
            simp only [e1, decide_true, cond_true, hidx, Option.bind_some, i91, Bool.not_false, i93, Bool.not_true, cond_false, w1, e2]
          · obtain ⟨hkl1, hidx1, hd2⟩ := tok_at hT hd1 hn2
            have hnl2 := nx_len hn2
            have e2 : ¬ ((k + 1 : Nat) : Int) = ((T.map tk).length : Int) := by rw [List.length_map]; omega
            have i40 := is_eq (tk (nx v)) (show (0 : Int) ≤ 40 by omega) (show (40 : Int) < 256 by omega)
            cases h40 : isB (tk (nx v)) 40 with
            | false =>
              rw [h40] at i40
              refine onward (by rw [h40]; rintro ⟨_, _, h⟩; cases h) ?_
              unfold chanceryref2_linkAt_l2
              simp only [e1, decide_true, cond_true, hidx, Option.bind_some, i91, Bool.not_false, i93, Bool.not_true, cond_false, w1, e2, decide_false, hidx1, i40]
            | true =>
              rw [h40] at i40
              obtain ⟨R, hR, hm⟩ := ref_in hT ((k : Int), ()) T.length (k + 2) [] (nx (nx v)) N (by omega) (by omega) (Nat.zero_le _) (by omega) hd2
              have hlp := hR.loop (by omega)
              have hO : outS (N + 1) v = (inS N [] (nx (nx v))).map fun p => (p.1, v, p.2) := by
                unfold outS
                rw [if_neg hv, if_neg (by rw [h91]; decide), if_pos ⟨h93, hn2, h40⟩]
              rw [hO]
              cases hin : inS N [] (nx (nx v)) with
              | none =>
                rw [hin] at hm
                refine ⟨.inr ([], 0, 0, ()), Halts.done ?_, .inr rfl⟩
                unfold chanceryref2_linkAt_l2
                simp only [e1, decide_true, cond_true, hidx, Option.bind_some, i91, Bool.not_false, i93, Bool.not_true, cond_false, w1, e2, decide_false, hidx1, i40, w2, hlp]
                rcases hm with h | h <;> rw [h]
              | some r =>
                rw [hin] at hm
                obtain ⟨y, h1, h2, h3, h4⟩ := hm
                refine ⟨.inr (r.1, (k : Int), (y : Int), ()), Halts.done ?_, k, y, rfl, hd, hkl, h2, h3, by omega⟩
                unfold chanceryref2_linkAt_l2
                simp only [e1, decide_true, cond_true, hidx, Option.bind_some, i91, Bool.not_false, i93, Bool.not_true, cond_false, w1, e2, decide_false, hidx1, i40, w2, hlp, h1]
theorem linkAt_eq {k : Nat} {u : Str} (hk : T.drop (k + 1) = toks u) (hk1 : k + 1 ≤ T.length) :
    match outS (u.length + 1) u with
    | some (txt, v', rest) => ∃ x y : Nat, chanceryref2_linkAt (T.map tk) (k : Int) = some (txt, (x : Int), (y : Int), ()) ∧ T.drop x = toks v' ∧ x < T.length ∧ T.drop y = toks rest ∧ y ≤ T.length ∧ x < y
    | none => ∃ x y, chanceryref2_linkAt (T.map tk) (k : Int) = some ([], x, y, ()) := by
  obtain ⟨R, hR, hm⟩ := ref_out hT T.length (k + 1) u (u.length + 1) (by omega) hk1 (by omega) hk
  have w1 := wsuc (show k < 9223372036854775807 by omega)
  have hlp := hR.loop (by omega)
  cases ho : outS (u.length + 1) u with
  | none =>
    rw [ho] at hm
    unfold chanceryref2_linkAt
    rw [w1, hlp]
    rcases hm with h | h
    · rw [h]; exact ⟨_, _, rfl⟩
    · rw [h]; exact ⟨_, _, rfl⟩
  | some r =>
    rw [ho] at hm
    obtain ⟨x, y, h1, h2⟩ := hm
    refine ⟨x, y, ?_, h2⟩
    unfold chanceryref2_linkAt
    rw [w1, hlp, h1]
    rfl
end
end Go.Proofs.YtkjkjebmkmkgfaaDoor
