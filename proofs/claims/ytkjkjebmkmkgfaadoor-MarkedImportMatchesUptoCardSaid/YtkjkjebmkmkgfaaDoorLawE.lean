/- The link that begins at a [: the program's search by bytes, and the reference's by tokens. -/
import Derived.Test.YtkjkjebmkmkgfaaDoorLawD
namespace Go.Proofs.YtkjkjebmkmkgfaaDoor
open Go Go.Fe

theorem cont {v : Str} (h : v ≠ []) {j : Nat} (h1 : 1 ≤ j) (h2 : j < (runeOf v).2) : 128 ≤ at0 v j := by
  rw [runeOf_eq h] at h2
  unfold Lib.decodeN at h2
  repeat' split at h2
  all_goals simp only at h2
  all_goals first
    | omega
    | (rename_i hc _
       obtain rfl | rfl | rfl : j = 1 ∨ j = 2 ∨ j = 3 := by omega
       all_goals omega)
/-- The text of a link and what is left behind it. -/
def inS : Nat → Str → Str → Option (Str × Str)
  | 0, _, _ => none
  | n + 1, out, w =>
    if w = [] then none
    else if isB (tk w) 41 = true then (if out = [] ∨ 200 < out.length then none else some (out, nx w))
    else if (tk w).2.2.2.1 = true ∨ (tk w).1 < 32 ∨ 126 < (tk w).1 ∨ isB (tk w) 92 = true then none
    else inS n (out ++ [UInt8.ofNat (tk w).1.toNat]) (nx w)
theorem inS_long : ∀ (n : Nat) (out w : Str), 200 < out.length → inS n out w = none
  | 0, _, _, _ => rfl
  | n + 1, out, w, h => by
    unfold inS
    split
    · rfl
    · split
      · rw [if_pos (.inr h)]
      · split
        · rfl
        · exact inS_long n _ _ (by rw [List.length_append, List.length_singleton]; omega)
/-- The link's text, where its ] is, and what is left behind it. -/
def outS : Nat → Str → Option (Str × (Str × Str))
  | 0, _ => none
  | n + 1, v =>
    if v = [] then none
    else if isB (tk v) 91 = true then none
    else if isB (tk v) 93 = true ∧ nx v ≠ [] ∧ isB (tk (nx v)) 40 = true then (inS n [] (nx (nx v))).map fun p => (p.1, v, p.2)
    else outS n (nx v)

theorem not_esc {w : Str} (h : at0 w 0 ≠ 92) : escS w = false := by unfold escS; rw [decide_eq_false h]; rfl
theorem hd_plain {w : Str} (h : escS w = false) : hdS w = w := by unfold hdS; rw [h]; rfl
theorem sz_plain {w : Str} (h : escS w = false) : szS w = (runeOf w).2 := by unfold szS; rw [h, hd_plain h]; simp
theorem hd_esc {w : Str} (h : escS w = true) : hdS w = w.drop 1 := by unfold hdS; rw [h]; rfl
theorem sz_esc {w : Str} (h : escS w = true) : szS w = 1 + (runeOf (w.drop 1)).2 := by unfold szS; rw [h, hd_esc h]; rfl
theorem at0_drop (w : Str) (k j : Nat) : at0 (w.drop k) j = at0 w (k + j) := by
  unfold at0
  rw [List.getD_eq_getElem?_getD, List.getElem?_drop, ← List.getD_eq_getElem?_getD]
theorem ne_of_len {w : Str} (h : 0 < w.length) : w ≠ [] := List.length_pos_iff.1 h
/-- A printable character. -/
theorem printable {v : Str} (h : v ≠ []) (h1 : 32 ≤ at0 v 0) (h2 : at0 v 0 ≤ 126) : badC v = false ∧ codeC v = (at0 v 0 : Int) ∧ (runeOf v).2 = 1 := by
  have hr := ascii_rune h (by omega)
  have ho : okC ((runeOf v).1 : Nat) = true := by rw [hr]; unfold okC; simp only [decide_eq_true_eq]; omega
  have hb : badC v = false := by
    unfold badC
    rw [ho, hr, decide_eq_false (by intro e; have := congrArg Prod.fst e; simp only at this; omega)]
    rfl
  refine ⟨hb, ?_, by rw [hr]⟩
  unfold codeC
  rw [hb, hr]
  rfl
theorem unprintable {v : Str} (h : v ≠ []) (h1 : ¬ (32 ≤ at0 v 0 ∧ at0 v 0 ≤ 126)) : badC v = true ∨ codeC v < 32 ∨ 126 < codeC v := by
  cases hb : badC v with
  | true => exact .inl rfl
  | false =>
    have hc : codeC v = ((runeOf v).1 : Nat) := by unfold codeC; rw [hb]; rfl
    right
    rw [hc]
    by_cases hs : (runeOf v).1 < 128
    · have := rune_ascii h hs
      omega
    · omega
theorem strBytes_push (out : Str) {x : Nat} (hx : x < 256) : strBytes (out ++ [UInt8.ofNat x]) = strBytes out ++ [(x : Int)] := by
  unfold strBytes
  rw [List.map_append, List.map_cons, List.map_nil]
  have : (UInt8.ofNat x).toNat = x := by rw [UInt8.toNat_ofNat']; omega
  simp only [this]
theorem bytes_back (out : Str) : bytesStr (strBytes out) = out := by
  unfold bytesStr strBytes
  rw [List.map_map]
  conv => rhs; rw [← List.map_id out]
  refine List.map_congr_left fun c _ => ?_
  show byteOfInt (c.toNat : Int) = c
  rw [byteOfInt_nat]
  simp
theorem strBytes_len (s : Str) : (strBytes s).length = s.length := List.length_map ..

/-! ### The program's search -/
theorem prog_in {u : Str} (hu : u.length ≤ 100000) (z : Int × Unit) : ∀ (n i : Nat) (out : Str), u.length - i ≤ n → i ≤ u.length + 1 → out.length ≤ 201 →
    ∃ R, Halts (marked_target_l2 u z) n ((), (i : Int), ((), (), ()), strBytes out, ()) R ∧
      match inS (n + 1) out (u.drop i) with
      | some (txt, rest) => ∃ y : Nat, R = .inr (txt, z.1, (y : Int), true, ()) ∧ u.drop y = rest ∧ y ≤ u.length
      | none => R = .inl () ∨ ∃ x y y', R = .inr (x, y, y', false, ())
  | n, i, out, hn, hi, hout => by
    by_cases hil : i < u.length
    · obtain ⟨w, hw⟩ : ∃ w, u.drop i = w := ⟨_, rfl⟩
      have hwl : w.length = u.length - i := by rw [← hw, List.length_drop]
      have hwn : w ≠ [] := ne_of_len (by omega)
      have hidx : ∃ c, idx u (i : Int) = some c ∧ ofByte c = (at0 w 0 : Int) := by
        refine ⟨u[i], idx_lt hil, ?_⟩
        rw [ofByte_eq, ← hw]
        unfold at0
        rw [List.getD_eq_getElem?_getD, List.getElem?_drop, Nat.add_zero, List.getElem?_eq_getElem hil]
        rfl
      obtain ⟨c0, hc0, hc0'⟩ := hidx
      have e1 : (i : Int) < (u.length : Int) := by omega
      have w1 := wsuc (show i < 9223372036854775807 by omega)
      rw [hw]
      by_cases hlong : 200 < out.length
      · refine ⟨.inl (), Halts.done ?_, ?_⟩
        · unfold marked_target_l2 _strings_Builder__Len
          have e2 : ¬ (((strBytes out).length : Int) ≤ 200) := by rw [strBytes_len]; omega
          simp only [e1, decide_true, cond_true, Option.bind_some, e2, decide_false, cond_false]
        · rw [inS_long _ _ _ hlong]
          exact .inl rfl
      · have e2 : (((strBytes out).length : Int) ≤ 200) := by rw [strBytes_len]; omega
        have ha := at0_lt w 0
        by_cases h41 : at0 w 0 = 41
        · have he := not_esc (w := w) (by omega)
          have hB : isB (tk w) 41 = true := by
            have := is_tk hwn (c := 41) (by omega) (by omega)
            rw [he, h41] at this
            exact this
          have hz : szS w = 1 := by rw [sz_plain he, ascii_rune hwn (by omega)]
          have hnx : nx w = u.drop (i + 1) := by unfold nx; rw [hz, ← hw, List.drop_drop]
          have e3 : ((at0 w 0 : Nat) : Int) = 41 := by rw [h41]; rfl
          have e4 : (chk (decide ((strBytes out).length ≤ lim))) = some () := chk_of (by rw [strBytes_len]; unfold lim; exact decide_eq_true (by omega))
          refine ⟨.inr (out, z.1, ((i + 1 : Nat) : Int), decide (0 < ((strBytes out).length : Int)), ()), Halts.done ?_, ?_⟩
          · unfold marked_target_l2 _strings_Builder__Len _strings_Builder__Lenx
            simp only [e1, decide_true, cond_true, Option.bind_some, e2, hc0, hc0', e3, e4, w1, bytes_back]
          · unfold inS
            rw [if_neg hwn, if_pos hB]
            by_cases ho : out = []
            · rw [if_pos (.inl ho)]
              subst ho
              exact .inr ⟨[], z.1, ((i + 1 : Nat) : Int), rfl⟩
            · have hol := List.length_pos_iff.2 ho
              rw [if_neg (by rintro (h | h) <;> contradiction)]
              refine ⟨i + 1, ?_, hnx.symm, by omega⟩
              rw [decide_eq_true (by rw [strBytes_len]; omega)]
        · have e3 : ¬ ((at0 w 0 : Nat) : Int) = 41 := by omega
          have nB : isB (tk w) 41 = false := by
            have := is_tk hwn (c := 41) (by omega) (by omega)
            rw [decide_eq_false h41, Bool.and_false] at this
            exact this
          -- a character that is added
          have add : ∀ (x k : Nat), 32 ≤ x → x ≤ 126 → (tk w).1 = (x : Int) → (tk w).2.2.2.1 = false → isB (tk w) 92 = false → szS w = k → 1 ≤ k → i + k ≤ u.length →
              marked_target_l2 u z ((), (i : Int), ((), (), ()), strBytes out, ()) = some (.inl ((), ((i + k : Nat) : Int), ((), (), ()), strBytes out ++ [(x : Int)], ())) →
              ∃ R, Halts (marked_target_l2 u z) n ((), (i : Int), ((), (), ()), strBytes out, ()) R ∧
                match inS (n + 1) out w with
                | some (txt, rest) => ∃ y : Nat, R = .inr (txt, z.1, (y : Int), true, ()) ∧ u.drop y = rest ∧ y ≤ u.length
                | none => R = .inl () ∨ ∃ x y y', R = .inr (x, y, y', false, ()) := by
            intro x k hx1 hx2 hc hb h92 hz hk hik hstep
            cases n with
            | zero => omega
            | succ n =>
              obtain ⟨R, hR, hm⟩ := prog_in hu z n (i + k) (out ++ [UInt8.ofNat x]) (by omega) (by omega) (by rw [List.length_append, List.length_singleton]; omega)
              rw [strBytes_push out (by omega)] at hR
              refine ⟨R, Halts.step hstep hR, ?_⟩
              have hnx : nx w = u.drop (i + k) := by unfold nx; rw [hz, ← hw, List.drop_drop]
              have : inS (n + 1 + 1) out w = inS (n + 1) (out ++ [UInt8.ofNat x]) (u.drop (i + k)) := by
                conv => lhs; unfold inS
                rw [if_neg hwn, if_neg (by rw [nB]; decide), if_neg (by
                  rintro (h | h | h | h)
                  · rw [hb] at h; cases h
                  · rw [hc] at h; omega
                  · rw [hc] at h; omega
                  · rw [h92] at h; cases h), hnx, hc]
                rfl
              rw [this]
              exact hm
          have stop : (tk w).2.2.2.1 = true ∨ (tk w).1 < 32 ∨ 126 < (tk w).1 ∨ isB (tk w) 92 = true → marked_target_l2 u z ((), (i : Int), ((), (), ()), strBytes out, ()) = some (.inr (.inl ())) →
              ∃ R, Halts (marked_target_l2 u z) n ((), (i : Int), ((), (), ()), strBytes out, ()) R ∧
                match inS (n + 1) out w with
                | some (txt, rest) => ∃ y : Nat, R = .inr (txt, z.1, (y : Int), true, ()) ∧ u.drop y = rest ∧ y ≤ u.length
                | none => R = .inl () ∨ ∃ x y y', R = .inr (x, y, y', false, ()) := by
            intro hbad hstep
            refine ⟨.inl (), Halts.done hstep, ?_⟩
            unfold inS
            rw [if_neg hwn, if_neg (by rw [nB]; decide), if_pos hbad]
            exact .inl rfl
          by_cases h92 : at0 w 0 = 92
          · have e4 : ((at0 w 0 : Nat) : Int) = 92 := by rw [h92]; rfl
            have d41 : decide ((92 : Int) = 41) = false := rfl
            by_cases hl1 : 1 < w.length
            · have he : escS w = true := by unfold escS; rw [decide_eq_true h92, decide_eq_true hl1]; rfl
              have hv : w.drop 1 ≠ [] := ne_of_len (by rw [List.length_drop]; omega)
              have hx : at0 (w.drop 1) 0 = at0 w 1 := at0_drop w 1 0
              have hx256 := at0_lt w 1
              have e5 : ((i + 1 : Nat) : Int) < (u.length : Int) := by omega
              have hidx1 : ∃ c, idx u ((i + 1 : Nat) : Int) = some c ∧ ofByte c = (at0 w 1 : Int) := by
                refine ⟨u[i + 1], idx_lt (by omega), ?_⟩
                rw [ofByte_eq, ← hw]
                unfold at0
                rw [List.getD_eq_getElem?_getD, List.getElem?_drop, List.getElem?_eq_getElem (by omega)]
                rfl
              obtain ⟨c1, hc1, hc1'⟩ := hidx1
              have w2 := wsuc (show i + 1 < 9223372036854775807 by omega)
              have n92 : isB (tk w) 92 = false := by
                have := is_tk hwn (c := 92) (by omega) (by omega)
                rw [he] at this
                exact this
              have t1 : (tk w).1 = codeC (w.drop 1) := by unfold tk; rw [hd_esc he]
              have t2 : (tk w).2.2.2.1 = badC (w.drop 1) := by unfold tk; rw [hd_esc he]
              by_cases hp : 32 ≤ at0 w 1 ∧ at0 w 1 ≤ 126
              · obtain ⟨q1, q2, q3⟩ := printable hv (by rw [hx]; exact hp.1) (by rw [hx]; exact hp.2)
                rw [hx] at q2
                refine add (at0 w 1) 2 hp.1 hp.2 (by rw [t1, q2]) (by rw [t2, q1]) n92 (by rw [sz_esc he, q3]) (by omega) (by omega) ?_
                have hc : cat (strBytes out) [(at0 w 1 : Int)] = some (strBytes out ++ [(at0 w 1 : Int)]) := cat_ok (by rw [strBytes_len, List.length_singleton]; omega)
                have e6 : ¬ ((at0 w 1 : Nat) : Int) < 32 := by omega
                have e7 : ¬ 126 < ((at0 w 1 : Nat) : Int) := by omega
                unfold marked_target_l2 _strings_Builder__Len _strings_Builder__WriteByte
                simp only [e1, decide_true, cond_true, Option.bind_some, e2, hc0, hc0', e4, d41, cond_false, w1, e5, hc1, hc1', e6, e7, decide_false, hc, w2]
              · refine stop ?_ ?_
                · rw [t1, t2]
                  rcases unprintable hv (by rw [hx]; exact hp) with h | h | h
                  · exact .inl h
                  · exact .inr (.inl h)
                  · exact .inr (.inr (.inl h))
                · unfold marked_target_l2 _strings_Builder__Len
                  by_cases e6 : ((at0 w 1 : Nat) : Int) < 32
                  · simp only [e1, decide_true, cond_true, Option.bind_some, e2, hc0, hc0', e4, d41, cond_false, w1, e5, hc1, hc1', e6]
                  · have e7 : 126 < ((at0 w 1 : Nat) : Int) := by omega
                    simp only [e1, decide_true, cond_true, Option.bind_some, e2, hc0, hc0', e4, d41, cond_false, w1, e5, hc1, hc1', e6, e7, decide_false]
            · have he : escS w = false := by unfold escS; rw [decide_eq_false hl1, Bool.and_false]
              have e5 : ¬ ((i + 1 : Nat) : Int) < (u.length : Int) := by omega
              refine stop (.inr (.inr (.inr ?_))) ?_
              · have := is_tk hwn (c := 92) (by omega) (by omega)
                rw [he, decide_eq_true h92] at this
                exact this
              · unfold marked_target_l2 _strings_Builder__Len
                simp only [e1, decide_true, cond_true, Option.bind_some, e2, hc0, hc0', e4, d41, cond_false, w1, e5, decide_false]
          · have he := not_esc h92
            have e4 : ¬ ((at0 w 0 : Nat) : Int) = 92 := by omega
            have n92 : isB (tk w) 92 = false := by
              have := is_tk hwn (c := 92) (by omega) (by omega)
              rw [decide_eq_false h92, Bool.and_false] at this
              exact this
            have t1 : (tk w).1 = codeC w := by unfold tk; rw [hd_plain he]
            have t2 : (tk w).2.2.2.1 = badC w := by unfold tk; rw [hd_plain he]
            by_cases hp : 32 ≤ at0 w 0 ∧ at0 w 0 ≤ 126
            · obtain ⟨q1, q2, q3⟩ := printable hwn hp.1 hp.2
              refine add (at0 w 0) 1 hp.1 hp.2 (by rw [t1, q2]) (by rw [t2, q1]) n92 (by rw [sz_plain he, q3]) (by omega) (by omega) ?_
              have hc : cat (strBytes out) [(at0 w 0 : Int)] = some (strBytes out ++ [(at0 w 0 : Int)]) := cat_ok (by rw [strBytes_len, List.length_singleton]; omega)
              have e6 : ¬ ((at0 w 0 : Nat) : Int) < 32 := by omega
              have e7 : ¬ 126 < ((at0 w 0 : Nat) : Int) := by omega
              unfold marked_target_l2 _strings_Builder__Len _strings_Builder__WriteByte
              simp only [e1, decide_true, cond_true, Option.bind_some, e2, hc0, hc0', e3, e4, decide_false, cond_false, e6, e7, hc, w1]
            · refine stop ?_ ?_
              · rw [t1, t2]
                rcases unprintable hwn hp with h | h | h
                · exact .inl h
                · exact .inr (.inl h)
                · exact .inr (.inr (.inl h))
              · unfold marked_target_l2 _strings_Builder__Len
                by_cases e6 : ((at0 w 0 : Nat) : Int) < 32
                · simp only [e1, decide_true, cond_true, Option.bind_some, e2, hc0, hc0', e3, e4, decide_false, cond_false, e6]
                · have e7 : 126 < ((at0 w 0 : Nat) : Int) := by omega
                  simp only [e1, decide_true, cond_true, Option.bind_some, e2, hc0, hc0', e3, e4, decide_false, cond_false, e6, e7]
    · have hw : u.drop i = [] := List.drop_of_length_le (by omega)
      have e1 : ¬ (i : Int) < (u.length : Int) := by omega
      refine ⟨.inl (), Halts.done ?_, ?_⟩
      · unfold marked_target_l2
        simp only [e1, decide_false, cond_false, Option.bind_some]
      · rw [hw]
        unfold inS
        rw [if_pos rfl]
        exact .inl rfl
end Go.Proofs.YtkjkjebmkmkgfaaDoor
