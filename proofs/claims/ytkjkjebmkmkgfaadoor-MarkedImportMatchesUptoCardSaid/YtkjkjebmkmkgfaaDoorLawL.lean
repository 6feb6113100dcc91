/- The whole text is read alike by both. -/
import Derived.Test.YtkjkjebmkmkgfaaDoorLawK
namespace Go.Proofs.YtkjkjebmkmkgfaaDoor
open Go Go.Fe

theorem wt_drop {T : List Str} {i : Nat} (h : i < T.length) : wt (T.drop i) = T[i].length + 1 + wt (T.drop (i + 1)) := by
  rw [List.drop_eq_getElem_cons h]
  rfl
theorem wt_mem : ∀ {T : List Str} {x : Str}, x ∈ T → x.length < wt T
  | y :: r, x, h => by
    rw [wt]
    rcases List.mem_cons.1 h with rfl | h
    · omega
    · have := wt_mem h
      omega
theorem wt_tr : ∀ L, wt (tr L) ≤ wt L
  | [] => Nat.le_refl _
  | [_] => Nat.le_refl _
  | x :: y :: r => by
    have := wt_tr (y :: r)
    have hx := trimR_len x
    simp only [tr, wt] at this ⊢
    omega
theorem wt_take : ∀ (n : Nat) (L : List Str), wt (L.take n) ≤ wt L
  | 0, L => by rw [List.take_zero, wt]; exact Nat.zero_le _
  | n + 1, [] => by rw [List.take_nil]; exact Nat.le_refl _
  | n + 1, x :: r => by
    have := wt_take n r
    rw [List.take_succ_cons, wt, wt]
    omega
theorem wt_length : ∀ L, L.length ≤ wt L
  | [] => Nat.le_refl _
  | x :: r => by
    have := wt_length r
    rw [wt, List.length_cons]
    omega

theorem prog_round {T : List Str} {q : TA2} {i : Nat} (hi : i < T.length) (hn : T.length ≤ 50000) (ht : T[i].length ≤ 10000) {o : TA5} {l : TA3} (ho : o.length ≤ 20000) (hl : l.length ≤ 20000) (x : List Bool × (Str × Unit)) :
    ∃ (ol : TA5) (ll : TA3) (x' : List Bool × (Str × Unit)), ol.length ≤ T[i].length ∧ ll.length ≤ T[i].length ∧ (∀ e ∈ ol, e.2.2.1.length ≤ 5) ∧
      chanceryref2_MarkedLine (mkOf T[i]).1 (o.length : Int) = some (ol, ll, ()) ∧
      marked_Import_l2 ((), (), q, T, ()) ((), (), (i : Int), ((), (), x), T, o, l, ()) = some (.inl ((), (), ((i + 1 : Nat) : Int), ((), (), x'), T, (o ++ ol) ++ [(10, 0, (mkOf T[i]).2, ())], l ++ ll, ())) := by
  obtain ⟨on, lk, u⟩ := x
  have hmk := mkOf_len T[i]
  obtain ⟨ol, ll, x', h1, h2, hsh, h3, h4⟩ := line_eq (s := (mkOf T[i]).1) (by omega) (o0 := o) (l0 := l) ho hl on lk
  refine ⟨ol, ll, x', by omega, by omega, hsh, h3, ?_⟩
  have e1 : (i : Int) < (T.length : Int) := by omega
  have hin : inb (i : Int) T.length = true := inb_nat hi
  have hget : T.getD i [] = T[i] := by rw [List.getD_eq_getElem?_getD, List.getElem?_eq_getElem hi]; rfl
  have c2 : cat (o ++ ol) [((10, 0, (mkOf T[i]).2, ()) : Int × (Int × TA1))] = some ((o ++ ol) ++ [(10, 0, (mkOf T[i]).2, ())]) := cat_ok (by rw [List.length_append, List.length_singleton]; omega)
  have w1 := wsuc (show i < 9223372036854775807 by omega)
  unfold marked_Import_l2
  simp only [e1, decide_true, cond_true, hin, chk_t, Option.bind_some, Int.toNat_natCast, hget, marks_eq (by omega : T[i].length ≤ 50000), h4, c2, w1]
theorem prog_end {T : List Str} {q : TA2} {o : TA5} {l : TA3} (x : List Bool × (Str × Unit)) :
    marked_Import_l2 ((), (), q, T, ()) ((), (), (T.length : Int), ((), (), x), T, o, l, ()) = some (.inr ((), ((), (), x), o, l, ())) := by
  unfold marked_Import_l2
  simp only [Int.lt_irrefl, decide_false, cond_false]

theorem lev_len (m : Nat) : (lev m).length ≤ 1 := by unfold lev; split <;> simp
theorem mkOf_attrs (s : Str) : (mkOf s).2.length ≤ 5 := by
  have := lev_len (lead 32 s)
  unfold mkOf
  repeat' split
  all_goals simp only [List.length_append, List.length_cons, List.length_nil]
  all_goals omega
theorem sh_line {o ol : TA5} {t : Str} (h1 : ∀ e ∈ o, e.2.2.1.length ≤ 5) (h2 : ∀ e ∈ ol, e.2.2.1.length ≤ 5) : ∀ e ∈ (o ++ ol) ++ [((10, 0, (mkOf t).2, ()) : Int × (Int × TA1))], e.2.2.1.length ≤ 5 := by
  intro e he
  rcases List.mem_append.1 he with he | he
  · rcases List.mem_append.1 he with he | he
    · exact h1 e he
    · exact h2 e he
  · rw [List.mem_singleton.1 he]
    exact mkOf_attrs t
theorem lock {L T : List Str} {q : TA2} (hmid : ∀ (i : Nat) (o : TA5) (l : TA3) (h : i < T.length), chanceryref2_Marked_l1 (L, ()) ((), (), (i : Int), o, l, ()) = refTail T[i] (i : Int) o l)
    (hend : ∀ (o : TA5) (l : TA3), chanceryref2_Marked_l1 (L, ()) ((), (), (T.length : Int), o, l, ()) = some (.inr ((), (), o, l, ()))) (hw : wt T ≤ 10000) :
    ∀ (n i : Nat) (o : TA5) (l : TA3) (x : List Bool × (Str × Unit)), T.length - i ≤ n → i ≤ T.length → o.length + wt (T.drop i) ≤ 10000 → l.length + wt (T.drop i) ≤ 10000 → (∀ e ∈ o, e.2.2.1.length ≤ 5) →
      ∃ (o' : TA5) (l' : TA3) (x' : List Bool × (Str × Unit)), o'.length ≤ 10000 ∧ l'.length ≤ 10000 ∧ (∀ e ∈ o', e.2.2.1.length ≤ 5) ∧
        Halts (marked_Import_l2 ((), (), q, T, ())) n ((), (), (i : Int), ((), (), x), T, o, l, ()) ((), ((), (), x'), o', l', ()) ∧
        Halts (chanceryref2_Marked_l1 (L, ())) n ((), (), (i : Int), o, l, ()) ((), (), o', l', ())
  | n, i, o, l, x, hn, hi, ho, hl, hsh => by
    have hwl := wt_length T
    by_cases hil : i < T.length
    · cases n with
      | zero => omega
      | succ n =>
      have hwd := wt_drop hil
      have hm := wt_mem (List.getElem_mem hil)
      obtain ⟨ol, ll, x', h1, h2, hsl, h3, h4⟩ := prog_round (q := q) hil (by omega) (by omega) (o := o) (l := l) (by omega) (by omega) x
      have h5 := refTail_eq (t := T[i]) (by omega) (i := i) (by omega) (l := l) h3 (by omega) (by omega) (by omega) (by omega)
      obtain ⟨o', l', x'', g1, g2, gs, g3, g4⟩ := lock hmid hend hw n (i + 1) ((o ++ ol) ++ [(10, 0, (mkOf T[i]).2, ())]) (l ++ ll) x' (by omega) (by omega)
        (by rw [List.length_append, List.length_append, List.length_singleton]; omega) (by rw [List.length_append]; omega) (sh_line hsh hsl)
      exact ⟨o', l', x'', g1, g2, gs, Halts.step h4 g3, Halts.step ((hmid i o l hil).trans h5) g4⟩
    · have : i = T.length := by omega
      subst this
      exact ⟨o, l, x, by omega, by omega, hsh, Halts.done (prog_end x), Halts.done (hend o l)⟩

/-- The lines that are read. -/
def linesOf (L : List Str) : List Str := if 1 < L.length ∧ L.getD (L.length - 1) [] = [] then (tr L).take (L.length - 1) else tr L
theorem linesOf_wt (L : List Str) : wt (linesOf L) ≤ wt L := by
  unfold linesOf
  split
  · exact Nat.le_trans (wt_take _ _) (wt_tr L)
  · exact wt_tr L
theorem getD_last {L : List Str} (h : L ≠ []) : L.getD (L.length - 1) [] = L[L.length - 1]'(by have := List.length_pos_iff.2 h; omega) := by
  have := List.length_pos_iff.2 h
  rw [List.getD_eq_getElem?_getD, List.getElem?_eq_getElem (by omega)]
  rfl
theorem ref_rounds {L : List Str} (hL : L ≠ []) (hn : L.length ≤ 50000) (hx : ∀ x ∈ L, x.length ≤ 50000) :
    (∀ (i : Nat) (o : TA5) (l : TA3) (h : i < (linesOf L).length), chanceryref2_Marked_l1 (L, ()) ((), (), (i : Int), o, l, ()) = refTail (linesOf L)[i] (i : Int) o l) ∧
    ∀ (o : TA5) (l : TA3), chanceryref2_Marked_l1 (L, ()) ((), (), ((linesOf L).length : Int), o, l, ()) = some (.inr ((), (), o, l, ())) := by
  have hl := List.length_pos_iff.2 hL
  have hlast := getD_last hL
  by_cases hc : 1 < L.length ∧ L.getD (L.length - 1) [] = []
  · have e : linesOf L = (tr L).take (L.length - 1) := if_pos hc
    have el : (linesOf L).length = L.length - 1 := by rw [e, List.length_take, tr_len]; omega
    constructor
    · intro i o l h
      have hi : i + 1 < L.length := by omega
      rw [ref_mid hi hn o l (hx _ (List.getElem_mem (by omega)))]
      have : (linesOf L)[i] = trimR (L[i]'(by omega)) := by
        simp only [e, List.getElem_take]
        exact tr_get L i (by omega) hi
      rw [this]
    · intro o l
      rw [el, ref_last (i := L.length - 1) (by omega) hn o l, if_pos ⟨by rw [← hlast]; exact hc.2, by omega⟩]
  · have e : linesOf L = tr L := if_neg hc
    have el : (linesOf L).length = L.length := by rw [e, tr_len]
    constructor
    · intro i o l h
      by_cases hi : i + 1 < L.length
      · rw [ref_mid hi hn o l (hx _ (List.getElem_mem (by omega)))]
        have : (linesOf L)[i] = trimR (L[i]'(by omega)) := by
          simp only [e]
          exact tr_get L i (by omega) hi
        rw [this]
      · have hi' : i = L.length - 1 := by omega
        subst hi'
        rw [ref_last (i := L.length - 1) (by omega) hn o l, if_neg (fun h => hc ⟨by omega, by rw [hlast]; exact h.1⟩)]
        have : (linesOf L)[L.length - 1] = L[L.length - 1]'(by omega) := by
          simp only [e]
          exact tr_last L hL
        rw [this]
    · intro o l
      rw [el]
      exact ref_end o l

theorem import_eq {s : Str} (hs : s.length ≤ 5000) : ∃ (o : TA5) (l : TA3), o.length ≤ 10000 ∧ l.length ≤ 10000 ∧ (∀ e ∈ o, e.2.2.1.length ≤ 5) ∧ marked_Import s = some (o, l, 0, ()) ∧ chanceryref2_Marked s = some (o, l, ()) := by
  have hL := sp_ne [] s
  have hwt := wt_sp [] s
  rw [List.length_nil, Nat.zero_add] at hwt
  obtain ⟨L, hLe⟩ : ∃ L, sp [] s = L := ⟨_, rfl⟩
  have hsp := split_eq (s := s) (by omega)
  have hrs := rsplit_eq (s := s) (by omega)
  rw [hLe] at hL hwt hsp hrs
  have hll := wt_length L
  have hx : ∀ x ∈ L, x.length ≤ 50000 := fun x h => by have := wt_mem h; omega
  obtain ⟨hmid, hend⟩ := ref_rounds hL (by omega) hx
  have hlw := linesOf_wt L
  have hl := List.length_pos_iff.2 hL
  have h1 := (l1_halts hL (by omega) hx (List.replicate 4 false, ([] : Str), ())).loop (by omega)
  rw [List.take_zero, List.nil_append, List.drop_zero] at h1
  have h1' : loop (marked_Import_l1 ((), L, ())) ((), (), 0, ((), (), (List.replicate 4 false, ([] : Str), ())), L, ()) = some ((), (), ((), (), (List.replicate 4 false, ([] : Str), ())), tr L, ()) := h1
  obtain ⟨o, l, x', g1, g2, gs, g3, g4⟩ := lock (q := ((), (), (List.replicate 4 false, ([] : Str), ()))) hmid hend (by omega) (linesOf L).length 0 [] [] (List.replicate 4 false, ([] : Str), ()) (by omega) (Nat.zero_le _)
    (by rw [List.length_nil, List.drop_zero]; omega) (by rw [List.length_nil, List.drop_zero]; omega) (by simp)
  have htl : (linesOf L).length ≤ 50000 := by have := wt_length (linesOf L); omega
  have g3' : loop (marked_Import_l2 ((), (), ((), (), (List.replicate 4 false, ([] : Str), ())), linesOf L, ())) ((), (), 0, ((), (), (List.replicate 4 false, ([] : Str), ())), linesOf L, [], [], ()) = some ((), ((), (), x'), o, l, ()) := g3.loop (by omega)
  have g4' : loop (chanceryref2_Marked_l1 (L, ())) ((), (), 0, [], [], ()) = some ((), (), o, l, ()) := g4.loop (by omega)
  refine ⟨o, l, g1, g2, gs, ?_, ?_⟩
  · have e0 : ¬ 10000000 < (s.length : Int) := by omega
    have wn : IntKind.i64.wrap (((tr L).length : Int) - 1) = ((L.length - 1 : Nat) : Int) := by rw [tr_len, wrap_i64 (by omega) (by omega)]; omega
    have hin : inb ((L.length - 1 : Nat) : Int) (tr L).length = true := by rw [tr_len]; exact inb_nat (by omega)
    have hget : (tr L).getD (L.length - 1) [] = L.getD (L.length - 1) [] := by
      rw [getD_last hL, List.getD_eq_getElem?_getD, List.getElem?_eq_getElem (by rw [tr_len]; omega)]
      exact tr_last L hL
    have hcut : cut (tr L) 0 ((L.length - 1 : Nat) : Int) = some ((tr L).take (L.length - 1)) := by
      rw [show (0 : Int) = ((0 : Nat) : Int) from rfl, cut_nat (Nat.zero_le _) (by rw [tr_len]; omega)]
      rfl
    unfold marked_Import
    simp only [e0, decide_false, cond_false, hsp, Option.bind_some, h1', wn]
    by_cases h1 : 1 < L.length
    · have e1 : 1 < ((tr L).length : Int) := by rw [tr_len]; omega
      by_cases h2 : L.getD (L.length - 1) [] = []
      · have e : linesOf L = (tr L).take (L.length - 1) := if_pos ⟨h1, h2⟩
        rw [e] at g3'
        simp only [e1, decide_true, cond_true, hin, chk_t, Option.bind_some, Int.toNat_natCast, hget, h2, hcut, g3']
      · have e : linesOf L = tr L := if_neg (fun h => h2 h.2)
        rw [e] at g3'
        simp only [e1, decide_true, cond_true, hin, chk_t, Option.bind_some, Int.toNat_natCast, hget, h2, decide_false, cond_false, g3']
    · have e1 : ¬ 1 < ((tr L).length : Int) := by rw [tr_len]; omega
      have e : linesOf L = tr L := if_neg (fun h => h1 h.1)
      rw [e] at g3'
      simp only [e1, decide_false, cond_false, Option.bind_some, g3']
  · unfold chanceryref2_Marked
    simp only [hrs, Option.bind_some, g4']

/-! ### What is read is equal to itself -/
theorem sameAttrs (a : List TA11) (h : a.length ≤ 100000000) : chanceryref2_SameAttrs a a = some (true, ()) := by
  have hl : Halts (chanceryref2_SameAttrs_l1 a a) (0 + a.length) (((0 : Nat) : Int), ()) (.inl ()) := by
    refine Halts.along (fun i => ((i : Int), ())) a.length (fun i hi => ?_) (.done ?_)
    · have e1 : (i : Int) < (a.length : Int) := by omega
      have w1 := wsuc (show i < 9223372036854775807 by omega)
      have hb : Ty.beq (.pair .str (.pair .str .unit)) a[i] a[i] = true := by simp [Ty.beq]
      unfold chanceryref2_SameAttrs_l1
      simp only [e1, decide_true, cond_true, idx_lt hi, Option.bind_some, hb, Bool.not_true, cond_false, w1]
    · unfold chanceryref2_SameAttrs_l1
      simp only [Int.lt_irrefl, decide_false, cond_false]
  have hlp : loop (chanceryref2_SameAttrs_l1 a a) (0, ()) = some (.inl ()) := hl.loop (by omega)
  unfold chanceryref2_SameAttrs
  simp only [decide_true, Bool.not_true, cond_false, hlp, Option.bind_some]
theorem sameLoss (a : TA3) (h : a.length ≤ 100000000) : api_Loss_ a a = some (true, ()) := by
  have hl : Halts (api_Loss__l1 a a) (0 + a.length) (((0 : Nat) : Int), ()) (.inl ()) := by
    refine Halts.along (fun i => ((i : Int), ())) a.length (fun i hi => ?_) (.done ?_)
    · have e1 : (i : Int) < (a.length : Int) := by omega
      have w1 := wsuc (show i < 9223372036854775807 by omega)
      have hb : Ty.beq (.pair (.int .i64) (.pair (.int .i64) (.pair (.int .i64) (.pair (.int .i64) (.pair .str .unit))))) a[i] a[i] = true := by simp [Ty.beq]
      unfold api_Loss__l1
      simp only [e1, decide_true, cond_true, idx_lt hi, Option.bind_some, hb, Bool.not_true, cond_false, w1]
    · unfold api_Loss__l1
      simp only [Int.lt_irrefl, decide_false, cond_false]
  have hlp : loop (api_Loss__l1 a a) (0, ()) = some (.inl ()) := hl.loop (by omega)
  unfold api_Loss_
  simp only [decide_true, Bool.not_true, cond_false, hlp, Option.bind_some]
theorem sameFlow (a : TA5) (h : a.length ≤ 100000000) (hA : ∀ e ∈ a, e.2.2.1.length ≤ 100000000) : chanceryref2_SameFlow a a = some (true, ()) := by
  have hl : Halts (chanceryref2_SameFlow_l1 a a) (0 + a.length) (((0 : Nat) : Int), ()) (.inl ()) := by
    refine Halts.along (fun i => ((i : Int), ())) a.length (fun i hi => ?_) (.done ?_)
    · have e1 : (i : Int) < (a.length : Int) := by omega
      have w1 := wsuc (show i < 9223372036854775807 by omega)
      have hb := sameAttrs a[i].2.2.1 (hA _ (List.getElem_mem hi))
      unfold chanceryref2_SameFlow_l1
      simp only [e1, decide_true, cond_true, idx_lt hi, Option.bind_some, hb, Bool.not_true, cond_false, w1]
    · unfold chanceryref2_SameFlow_l1
      simp only [Int.lt_irrefl, decide_false, cond_false]
  have hlp : loop (chanceryref2_SameFlow_l1 a a) (0, ()) = some (.inl ()) := hl.loop (by omega)
  unfold chanceryref2_SameFlow
  simp only [decide_true, Bool.not_true, cond_false, hlp, Option.bind_some]

theorem first : marked_Import [45, 32, 42, 97, 42] = some ([(97, 0, [([105, 116, 97, 108, 105, 99], [111, 110], ())], ()), (10, 0, [([108, 105, 115, 116], [98, 117, 108, 108, 101, 116], ())], ())], [], 0, ()) := by kernel_rfl
theorem markedImport_law (p : Str) : chancerylaw2_MarkedImportMatches p = some (true, ()) := by
  have hcut : cut p 0 (mn (p.length : Int) 400) = some (p.take (min p.length 400)) := by
    have e : mn (p.length : Int) 400 = ((min p.length 400 : Nat) : Int) := by
      unfold mn
      split <;> omega
    rw [e, show (0 : Int) = ((0 : Nat) : Int) from rfl, cut_nat (by omega) (by omega), List.drop_zero]
  obtain ⟨o, l, h1, h2, h3, h4, h5⟩ := import_eq (s := p.take (min p.length 400)) (by rw [List.length_take]; omega)
  have hf := sameFlow o (by omega) (fun e he => by have := h3 e he; omega)
  have hl := sameLoss l (by omega)
  have ha := sameAttrs [([105, 116, 97, 108, 105, 99], [111, 110], ())] (by decide)
  have hi : idx ([(97, 0, [([105, 116, 97, 108, 105, 99], [111, 110], ())], ()), (10, 0, [([108, 105, 115, 116], [98, 117, 108, 108, 101, 116], ())], ())] : TA5) 0 = some (97, 0, [([105, 116, 97, 108, 105, 99], [111, 110], ())], ()) := rfl
  have hn : ((([(97, 0, [([105, 116, 97, 108, 105, 99], [111, 110], ())], ()), (10, 0, [([108, 105, 115, 116], [98, 117, 108, 108, 101, 116], ())], ())] : TA5).length : Nat) : Int) = 2 := rfl
  unfold chancerylaw2_MarkedImportMatches
  simp only [first, Option.bind_some, decide_true, Bool.not_true, cond_false, hn, hi, ha, hcut, h4, h5, cond_true, hf, hl]
end Go.Proofs.YtkjkjebmkmkgfaaDoor
