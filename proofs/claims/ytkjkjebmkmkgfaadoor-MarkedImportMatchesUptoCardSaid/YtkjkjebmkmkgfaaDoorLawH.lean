/- A line is read by both alike. -/
import Derived.Test.YtkjkjebmkmkgfaaDoorLawG
namespace Go.Proofs.YtkjkjebmkmkgfaaDoor
open Go Go.Fe

/-! ### Marks, by tokens -/
theorem tog_cases {s : Str} (hs : s ≠ []) (_he : escS s = false) :
    (togOf s = some (0, 2) ∧ at0 s 0 = 42 ∧ at0 s 1 = 42 ∧ 1 < s.length) ∨ (togOf s = some (1, 1) ∧ at0 s 0 = 42 ∧ ¬ (1 < s.length ∧ at0 s 1 = 42)) ∨
    (togOf s = some (2, 2) ∧ at0 s 0 = 126 ∧ at0 s 1 = 126 ∧ 1 < s.length) ∨ (togOf s = some (3, 1) ∧ at0 s 0 = 96) ∨
    (togOf s = none ∧ at0 s 0 ≠ 42 ∧ at0 s 0 ≠ 96 ∧ ¬ (1 < s.length ∧ at0 s 0 = 126 ∧ at0 s 1 = 126)) := by
  have hl := List.length_pos_iff.2 hs
  have p0 : Lib.hasPrefix s [42, 42] = (decide (1 < s.length) && (decide (at0 s 0 = 42) && decide (at0 s 1 = 42))) := pre_two (w := s) (a := 42) (b := 42) (by omega) (by omega)
  have p1 : Lib.hasPrefix s [42] = (decide (0 < s.length) && decide (at0 s 0 = 42)) := pre_one (w := s) (a := 42) (by omega)
  have p2 : Lib.hasPrefix s [126, 126] = (decide (1 < s.length) && (decide (at0 s 0 = 126) && decide (at0 s 1 = 126))) := pre_two (w := s) (a := 126) (b := 126) (by omega) (by omega)
  have p3 : Lib.hasPrefix s [96] = (decide (0 < s.length) && decide (at0 s 0 = 96)) := pre_one (w := s) (a := 96) (by omega)
  rw [decide_eq_true hl, Bool.true_and] at p1 p3
  unfold togOf
  rw [p0, p1, p2, p3]
  simp only [Bool.and_eq_true, decide_eq_true_eq]
  by_cases h42 : at0 s 0 = 42
  · by_cases h2 : 1 < s.length ∧ at0 s 1 = 42
    · exact .inl ⟨if_pos ⟨h2.1, h42, h2.2⟩, h42, h2.2, h2.1⟩
    · refine .inr (.inl ⟨?_, h42, h2⟩)
      rw [if_neg (fun h => h2 ⟨h.1, h.2.2⟩), if_pos h42]
  · rw [if_neg (fun h => h42 h.2.1), if_neg h42]
    by_cases h2 : 1 < s.length ∧ at0 s 0 = 126 ∧ at0 s 1 = 126
    · exact .inr (.inr (.inl ⟨if_pos h2, h2.2.1, h2.2.2, h2.1⟩))
    · rw [if_neg h2]
      by_cases h96 : at0 s 0 = 96
      · exact .inr (.inr (.inr (.inl ⟨if_pos h96, h96⟩)))
      · exact .inr (.inr (.inr (.inr ⟨if_neg h96, h42, h96, h2⟩)))
theorem isN {s : Str} (hs : s ≠ []) {c : Nat} (h1 : 32 ≤ c) (h2 : c ≤ 126) (h : escS s = true ∨ at0 s 0 ≠ c) : isB (tk s) (c : Int) = false := by
  rw [is_tk hs h1 h2]
  rcases h with h | h
  · rw [h]; rfl
  · rw [decide_eq_false h, Bool.and_false]
theorem isY {s : Str} (hs : s ≠ []) {c : Nat} (h1 : 32 ≤ c) (h2 : c ≤ 126) (h3 : c ≠ 92) (h : at0 s 0 = c) : isB (tk s) (c : Int) = true := by
  rw [is_tk hs h1 h2, not_esc (by omega), decide_eq_true h]
  rfl
theorem nx_one {s : Str} (hs : s ≠ []) (ha : at0 s 0 < 128) (he : escS s = false) : nx s = s.drop 1 := by
  unfold nx
  rw [sz_plain he, ascii_rune hs ha]
theorem drop_suffix {s s0 : Str} {n : Nat} (h : s <:+ s0) : s.drop n <:+ s0 := (List.drop_suffix n s).trans h

/-- Where a link ends, for both. -/
def EndRel (T : List Str) (s0 : Str) (stop : Int) (after : Str) (en be : Int) : Prop :=
  (en = -1 ∧ stop = -1) ∨ ∃ (e m : Nat) (v : Str), en = (e : Int) ∧ be = (m : Int) ∧ stop = (v.length : Int) ∧ v ≠ [] ∧ T.drop e = toks v ∧ v <:+ s0 ∧ T.drop m = toks after ∧ after <:+ s0 ∧ m ≤ T.length ∧ e < m
theorem attrsOf_len (b i st f : Bool) (link : Str) : (attrsOf b i st f link).length ≤ 5 := by
  unfold attrsOf
  by_cases h : link = [] <;> cases b <;> cases i <;> cases st <;> cases f <;> simp [h]
theorem sh_push {o : TA5} {s : Str} {b i st f : Bool} {link : Str} (h : ∀ e ∈ o, e.2.2.1.length ≤ 5) : ∀ e ∈ o ++ [elOf s b i st f link], e.2.2.1.length ≤ 5 := by
  intro e he
  rcases List.mem_append.1 he with he | he
  · exact h e he
  · rw [List.mem_singleton.1 he]
    exact attrsOf_len b i st f link
theorem line_sim {s0 : Str} {T : List Str} (hT : T.length ≤ 100000) (hs0 : s0.length ≤ 50000) (hTs : T.length ≤ s0.length) (o0 : TA5) (l0 : TA3) (ho0 : o0.length ≤ 20000) (hl0 : l0.length ≤ 20000) :
    ∀ (n k : Nat) (s : Str) (stop : Int) (after : Str) (b i st f : Bool) (link : Str) (en be : Int) (o : TA5) (l : TA3), T.length - k ≤ n → k ≤ T.length → T.drop k = toks s → s <:+ s0 → EndRel T s0 stop after en be →
      o.length ≤ k → l.length ≤ k → (∀ e ∈ o, e.2.2.1.length ≤ 5) →
      ∃ (o' : TA5) (l' : TA3) (x : List Bool × (Str × Unit)), o'.length ≤ T.length ∧ l'.length ≤ T.length ∧ (∀ e ∈ o', e.2.2.1.length ≤ 5) ∧
        Halts marked_reader__linex_l1 n ((), s, stop, after, ((), (), [b, i, st, f], link, ()), o0 ++ o, l0 ++ l, ()) ((), ((), (), x), o0 ++ o', l0 ++ l', ()) ∧
        Halts (chanceryref2_MarkedLine_l2 (T.map tk, ()) (o0.length : Int)) n ((), (), (), link, en, be, (k : Int), o, l, [b, f, i, st], ()) ((), (), o', l', ())
  | n, k, s, stop, after, b, i, st, f, link, en, be, o, l, hn, hk, hd, hsuf, hend, ho, hl, hsh => by
    have hsl : s.length ≤ s0.length := hsuf.length_le
    have hol : (o0 ++ o).length < 100000 := by rw [List.length_append]; omega
    have hll : (l0 ++ l).length < 100000 := by rw [List.length_append]; omega
    by_cases hs : s = []
    · subst hs
      rw [toks_nil] at hd
      have hkl : T.length ≤ k := List.drop_eq_nil_iff.1 hd
      exact ⟨o, l, ([b, i, st, f], link, ()), by omega, by omega, hsh, Halts.done p_end, Halts.done (q_end (by rw [List.length_map]; omega))⟩
    · obtain ⟨hkl, hidx, hd1⟩ := tok_at hT hd hs
      have hkm : k < (T.map tk, ()).1.length := by simp only [List.length_map]; exact hkl
      have hz := szS_bounds hs
      cases n with
      | zero => omega
      | succ n =>
      by_cases hstop : (s.length : Int) = stop
      · rcases hend with ⟨_, h2⟩ | ⟨e, m, v, rfl, rfl, h3, hv, h4, h5, h6, h7, h8, h9⟩
        · omega
        · have hsv : s = v := by
            have hlen : s.length = v.length := by omega
            have h10 := List.suffix_of_suffix_length_le hsuf h5 (by omega)
            exact h10.eq_of_length hlen
          have hke : k = e := by
            have : T.length - k = T.length - e := by
              have h11 := congrArg List.length hd
              have h12 := congrArg List.length h4
              rw [List.length_drop] at h11 h12
              rw [h11, h12, hsv]
            have h13 : (T.drop e).length ≠ 0 := by
              rw [h4, toks_cons hv]
              simp
            rw [List.length_drop] at h13
            omega
          subst hke
          obtain ⟨o', l', x, g1, g2, g3, g4, g5⟩ := line_sim hT hs0 hTs o0 l0 ho0 hl0 n m after (-1) after b i st f [] (-1) (m : Int) o l (by omega) h8 h6 h7 (.inl ⟨rfl, rfl⟩) (by omega) (by omega) hsh
          exact ⟨o', l', x, g1, g2, g3, Halts.step (p_stop hs hstop) g4, Halts.step (q_stop hkm (by omega)) g5⟩
      · have hne : ¬ (k : Int) = en := by
          intro hke
          rcases hend with ⟨h1, _⟩ | ⟨e, m, v, h1, h2, h3, hv, h4, h5, h6, h7, h8, h9⟩
          · omega
          · have : k = e := by omega
            subst this
            have h10 : toks s = toks v := hd.symm.trans h4
            rw [toks_cons hs, toks_cons hv] at h10
            have : s = v := (List.cons.inj h10).1
            rw [this] at hstop
            exact hstop h3.symm
        -- a character that is read
        have push : marked_reader__linex_l1 ((), s, stop, after, ((), (), [b, i, st, f], link, ()), o0 ++ o, l0 ++ l, ()) = some (.inl ((), nx s, stop, after, ((), (), [b, i, st, f], link, ()), (o0 ++ o) ++ [elOf s b i st f link], (l0 ++ l) ++ lossOf (badC (hdS s)) ((o0 ++ o).length : Int), ())) →
            isB (tk s) 42 = false → (isB (tk s) 126 = false ∨ ∀ t1, k + 1 < (T.map tk, ()).1.length → idx (T.map tk, ()).1 ((k + 1 : Nat) : Int) = some t1 → isB t1 126 = false) → isB (tk s) 96 = false →
            (isB (tk s) 91 = false ∨ ¬ link = [] ∨ ∃ x y, chanceryref2_linkAt (T.map tk, ()).1 (k : Int) = some ([], x, y, ())) →
            ∃ (o' : TA5) (l' : TA3) (x : List Bool × (Str × Unit)), o'.length ≤ T.length ∧ l'.length ≤ T.length ∧ (∀ e ∈ o', e.2.2.1.length ≤ 5) ∧
              Halts marked_reader__linex_l1 (n + 1) ((), s, stop, after, ((), (), [b, i, st, f], link, ()), o0 ++ o, l0 ++ l, ()) ((), ((), (), x), o0 ++ o', l0 ++ l', ()) ∧
              Halts (chanceryref2_MarkedLine_l2 (T.map tk, ()) (o0.length : Int)) (n + 1) ((), (), (), link, en, be, (k : Int), o, l, [b, f, i, st], ()) ((), (), o', l', ()) := by
          intro hp h42 h126 h96 h91
          have hq := q_push (V := (T.map tk, ())) (a1 := (o0.length : Int)) (en := en) (be := be) (b := b) (i := i) (st := st) (f := f) (link := link) (o := o) (l := l) hkm (by omega) hne hidx (by omega) (by omega) (by omega) h42 h126 h96 h91
          have hlo : (lossOf (badC (hdS s)) ((o0.length : Int) + (o.length : Int))).length ≤ 1 := by unfold lossOf; split <;> simp
          obtain ⟨o', l', x, g1, g2, g3, g4, g5⟩ := line_sim hT hs0 hTs o0 l0 ho0 hl0 n (k + 1) (nx s) stop after b i st f link en be (o ++ [elOf s b i st f link]) (l ++ lossOf (badC (hdS s)) ((o0.length : Int) + (o.length : Int))) (by omega) (by omega) hd1 (drop_suffix hsuf) hend
            (by rw [List.length_append, List.length_singleton]; omega) (by rw [List.length_append]; omega) (sh_push hsh)
          refine ⟨o', l', x, g1, g2, g3, Halts.step hp ?_, Halts.step hq ?_⟩
          · rw [List.append_assoc, List.append_assoc]
            have : ((o0 ++ o).length : Int) = (o0.length : Int) + (o.length : Int) := by rw [List.length_append]; omega
            rw [this]
            exact g4
          · exact g5
        cases he : escS s with
        | true =>
          exact push (p_esc hs hstop he (by omega) hol hll) (isN hs (c := 42) (by omega) (by omega) (.inl he)) (.inl (isN hs (c := 126) (by omega) (by omega) (.inl he))) (isN hs (c := 96) (by omega) (by omega) (.inl he)) (.inl (isN hs (c := 91) (by omega) (by omega) (.inl he)))
        | false =>
          rcases tog_cases hs he with ⟨ht, a1, a2, a3⟩ | ⟨ht, a1, a2⟩ | ⟨ht, a1, a2, a3⟩ | ⟨ht, a1⟩ | ⟨ht, a1, a2, a3⟩
          · -- **
            have hnx1 := nx_one hs (by omega) he
            have hv : nx s ≠ [] := ne_of_len (by rw [hnx1, List.length_drop]; omega)
            have hb0 : at0 (nx s) 0 = 42 := by rw [hnx1, at0_drop]; exact a2
            obtain ⟨hkl1, hidx1, hd2⟩ := tok_at hT hd1 hv
            have hnx2 : nx (nx s) = s.drop 2 := by rw [nx_one hv (by omega) (not_esc (by omega)), hnx1, List.drop_drop]
            rw [hnx2] at hd2
            obtain ⟨o', l', x, g1, g2, g3, g4, g5⟩ := line_sim hT hs0 hTs o0 l0 ho0 hl0 n (k + 2) (s.drop 2) stop after (!b) i st f link en be o l (by omega) (by omega) hd2 (drop_suffix hsuf) hend (by omega) (by omega) hsh
            exact ⟨o', l', x, g1, g2, g3, Halts.step (p_tog hs hstop he ht (by omega) (by omega)) g4,
              Halts.step (q_tog0 hkm (by omega) hne hidx (isY hs (c := 42) (by omega) (by omega) (by omega) a1) (by simp only [List.length_map]; exact hkl1) hidx1 (isY hv (c := 42) (by omega) (by omega) (by omega) hb0)) g5⟩
          · -- *
            have hnx1 := nx_one hs (by omega) he
            rw [hnx1] at hd1
            obtain ⟨o', l', x, g1, g2, g3, g4, g5⟩ := line_sim hT hs0 hTs o0 l0 ho0 hl0 n (k + 1) (s.drop 1) stop after b (!i) st f link en be o l (by omega) (by omega) hd1 (drop_suffix hsuf) hend (by omega) (by omega) hsh
            refine ⟨o', l', x, g1, g2, g3, Halts.step (p_tog hs hstop he ht (by omega) (by omega)) g4,
              Halts.step (q_tog1 hkm (by omega) hne hidx (isY hs (c := 42) (by omega) (by omega) (by omega) a1) (fun t1 h1 h2 => ?_)) g5⟩
            simp only [List.length_map] at h1
            have hv : s.drop 1 ≠ [] := by
              intro e
              rw [e, toks_nil] at hd1
              have := List.drop_eq_nil_iff.1 hd1
              omega
            obtain ⟨_, hidx1, _⟩ := tok_at hT hd1 hv
            rw [show idx (T.map tk, ()).1 ((k + 1 : Nat) : Int) = some (tk (s.drop 1)) from hidx1] at h2
            cases h2
            have hvl := List.length_pos_iff.2 hv
            rw [List.length_drop] at hvl
            exact isN hv (c := 42) (by omega) (by omega) (.inr (by rw [at0_drop]; exact fun h => a2 ⟨by omega, h⟩))
          · -- ~~
            have hnx1 := nx_one hs (by omega) he
            have hv : nx s ≠ [] := ne_of_len (by rw [hnx1, List.length_drop]; omega)
            have hb0 : at0 (nx s) 0 = 126 := by rw [hnx1, at0_drop]; exact a2
            obtain ⟨hkl1, hidx1, hd2⟩ := tok_at hT hd1 hv
            have hnx2 : nx (nx s) = s.drop 2 := by rw [nx_one hv (by omega) (not_esc (by omega)), hnx1, List.drop_drop]
            rw [hnx2] at hd2
            obtain ⟨o', l', x, g1, g2, g3, g4, g5⟩ := line_sim hT hs0 hTs o0 l0 ho0 hl0 n (k + 2) (s.drop 2) stop after b i (!st) f link en be o l (by omega) (by omega) hd2 (drop_suffix hsuf) hend (by omega) (by omega) hsh
            exact ⟨o', l', x, g1, g2, g3, Halts.step (p_tog hs hstop he ht (by omega) (by omega)) g4,
              Halts.step (q_tog2 hkm (by omega) hne hidx (isN hs (c := 42) (by omega) (by omega) (.inr (by omega))) (isY hs (c := 126) (by omega) (by omega) (by omega) a1) (by simp only [List.length_map]; exact hkl1) hidx1 (isY hv (c := 126) (by omega) (by omega) (by omega) hb0)) g5⟩
          · -- `
            have hnx1 := nx_one hs (by omega) he
            rw [hnx1] at hd1
            obtain ⟨o', l', x, g1, g2, g3, g4, g5⟩ := line_sim hT hs0 hTs o0 l0 ho0 hl0 n (k + 1) (s.drop 1) stop after b i st (!f) link en be o l (by omega) (by omega) hd1 (drop_suffix hsuf) hend (by omega) (by omega) hsh
            exact ⟨o', l', x, g1, g2, g3, Halts.step (p_tog hs hstop he ht (by omega) (by omega)) g4,
              Halts.step (q_tog3 hkm (by omega) hne hidx (isN hs (c := 42) (by omega) (by omega) (.inr (by omega))) (isN hs (c := 126) (by omega) (by omega) (.inr (by omega))) (isY hs (c := 96) (by omega) (by omega) (by omega) a1)) g5⟩
          · have h42 := isN hs (c := 42) (by omega) (by omega) (.inr a1)
            have h96 := isN hs (c := 96) (by omega) (by omega) (.inr a2)
            have h126 : isB (tk s) 126 = false ∨ ∀ t1, k + 1 < (T.map tk, ()).1.length → idx (T.map tk, ()).1 ((k + 1 : Nat) : Int) = some t1 → isB t1 126 = false := by
              by_cases h : at0 s 0 = 126
              · refine .inr fun t1 h1 h2 => ?_
                simp only [List.length_map] at h1
                have hnx1 := nx_one hs (by omega) he
                have hd1' := hd1
                rw [hnx1] at hd1'
                have hv : s.drop 1 ≠ [] := by
                  intro e
                  rw [e, toks_nil] at hd1'
                  have := List.drop_eq_nil_iff.1 hd1'
                  omega
                obtain ⟨_, hidx1, _⟩ := tok_at hT hd1' hv
                rw [show idx (T.map tk, ()).1 ((k + 1 : Nat) : Int) = some (tk (s.drop 1)) from hidx1] at h2
                cases h2
                have hvl := List.length_pos_iff.2 hv
                rw [List.length_drop] at hvl
                exact isN hv (c := 126) (by omega) (by omega) (.inr (by rw [at0_drop]; exact fun h' => a3 ⟨by omega, h, h'⟩))
              · exact .inl (isN hs (c := 126) (by omega) (by omega) (.inr h))
            by_cases h91 : at0 s 0 = 91
            · by_cases hlk : link = []
              · have hnx1 := nx_one hs (by omega) he
                rw [hnx1] at hd1
                have hta := target_eq (u := s.drop 1) (by rw [List.length_drop]; omega)
                have hla := linkAt_eq hT (k := k) hd1 (by omega)
                cases ho' : outS ((s.drop 1).length + 1) (s.drop 1) with
                | none =>
                  rw [ho'] at hta hla
                  exact push (p_push hs hstop he ht (by omega) hol hll (.inr (.inr hta))) h42 h126 h96 (.inr (.inr hla))
                | some r =>
                  obtain ⟨txt, v, rest⟩ := r
                  rw [ho'] at hta hla
                  obtain ⟨x, y, t1, t2, t3, t4, t5⟩ := hta
                  obtain ⟨x', y', r1, r2, r3, r4, r5, r6⟩ := hla
                  obtain ⟨c1, c2⟩ := outS_ne _ _ ho'
                  subst hlk
                  rw [List.length_drop] at t4 t5
                  have hstop' : ((s.length - 1 - x : Nat) : Int) = (v.length : Int) := by
                    rw [← t2, List.length_drop, List.length_drop]
                  have hrest : s.drop (1 + y) = rest := by rw [← t3, List.drop_drop]
                  have hvs : v <:+ s0 := by rw [← t2]; exact drop_suffix (drop_suffix hsuf)
                  have hrs : rest <:+ s0 := by rw [← t3]; exact drop_suffix (drop_suffix hsuf)
                  have h126' : isB (tk s) 126 = false := isN hs (c := 126) (by omega) (by omega) (.inr (by omega))
                  obtain ⟨o', l', z, g1, g2, g3, g4, g5⟩ := line_sim hT hs0 hTs o0 l0 ho0 hl0 n (k + 1) (s.drop 1) ((s.length - 1 - x : Nat) : Int) (s.drop (1 + y)) b i st f txt (x' : Int) (y' : Int) o l (by omega) (by omega) hd1 (drop_suffix hsuf)
                    (.inr ⟨x', y', v, rfl, rfl, hstop', c2, r2, hvs, by rw [hrest]; exact r4, by rw [hrest]; exact hrs, r5, r6⟩) (by omega) (by omega) hsh
                  exact ⟨o', l', z, g1, g2, g3, Halts.step (p_link hs hstop he ht h91 (by omega) t1 (by omega) (by omega)) g4,
                    Halts.step (q_link hkm (by omega) hne hidx h42 h126' h96 (isY hs (c := 91) (by omega) (by omega) (by omega) h91) c1 r1) g5⟩
              · exact push (p_push hs hstop he ht (by omega) hol hll (.inr (.inl hlk))) h42 h126 h96 (.inr (.inl hlk))
            · exact push (p_push hs hstop he ht (by omega) hol hll (.inl h91)) h42 h126 h96 (.inl (isN hs (c := 91) (by omega) (by omega) (.inr h91)))
/-- A line: what the reference answers, and what the program adds. -/
theorem line_eq {s : Str} (hs : s.length ≤ 50000) {o0 : TA5} {l0 : TA3} (ho0 : o0.length ≤ 20000) (hl0 : l0.length ≤ 20000) (on : List Bool) (lk : Str) :
    ∃ (o : TA5) (l : TA3) (x : List Bool × (Str × Unit)), o.length ≤ s.length ∧ l.length ≤ s.length ∧ (∀ e ∈ o, e.2.2.1.length ≤ 5) ∧ chanceryref2_MarkedLine s (o0.length : Int) = some (o, l, ()) ∧ marked_reader__linex s on lk o0 l0 = some ((), ((), (), x), o0 ++ o, l0 ++ l, ()) := by
  have hT := toks_len s.length s (Nat.le_refl _)
  obtain ⟨o, l, x, g1, g2, g3, g4, g5⟩ := line_sim (s0 := s) (T := toks s) (by omega) hs hT o0 l0 ho0 hl0 (toks s).length 0 s (-1) [] false false false false [] (-1) 0 [] [] (by omega) (Nat.zero_le _) rfl (List.suffix_refl _) (.inl ⟨rfl, rfl⟩) (Nat.zero_le _) (Nat.zero_le _) (by simp)
  rw [List.append_nil, List.append_nil] at g4
  refine ⟨o, l, x, by omega, by omega, g3, ?_, ?_⟩
  · unfold chanceryref2_MarkedLine
    rw [tokens_eq hs, Option.bind_some]
    have hlp := g5.loop (by omega)
    have hlp' : loop (chanceryref2_MarkedLine_l2 ((toks s).map tk, ()) (o0.length : Int)) ((), (), (), [], -1, 0, 0, [], [], List.replicate 4 false, ()) = some ((), (), o, l, ()) := hlp
    rw [hlp']
    rfl
  · unfold marked_reader__linex
    have hlp := g4.loop (by omega)
    have hlp' : loop marked_reader__linex_l1 ((), s, -1, [], ((), (), List.replicate 4 false, [], ()), o0, l0, ()) = some ((), ((), (), x), o0 ++ o, l0 ++ l, ()) := hlp
    rw [hlp']
    rfl
end Go.Proofs.YtkjkjebmkmkgfaaDoor
