/- A round of the program's loop over a line, and a round of the reference's. -/
import Derived.Test.YtkjkjebmkmkgfaaDoorLawC
namespace Go.Proofs.YtkjkjebmkmkgfaaDoor
open Go Go.Fe

theorem byte0 {s : Str} (h : s ≠ []) : idx s 0 = some (s.getD 0 0) ∧ ofByte (s.getD 0 0) = (at0 s 0 : Int) := by
  obtain ⟨c, u, rfl⟩ := List.exists_cons_of_ne_nil h
  exact ⟨rfl, rfl⟩
def elOf (s : Str) (b i st f : Bool) (link : Str) : Int × (Int × TA1) := (codeC (hdS s), 0, attrsOf b i st f link, ())
theorem cut_end {α : Type} {xs : List α} {a : Nat} (h : a ≤ xs.length) : cut xs (a : Int) (xs.length : Int) = some (xs.drop a) := by rw [cut_nat h (Nat.le_refl _), List.take_length]
theorem cut_one {α : Type} {xs : List α} (h : 1 ≤ xs.length) : cut xs 1 (xs.length : Int) = some (xs.drop 1) := cut_end (a := 1) h

section
variable {s after link : Str} {stop : Int} {b i st f : Bool} {o : TA5} {l : TA3}
theorem p_end : marked_reader__linex_l1 ((), [], stop, after, ((), (), [b, i, st, f], link, ()), o, l, ()) = some (.inr ((), ((), (), [b, i, st, f], link, ()), o, l, ())) := by
  unfold marked_reader__linex_l1
  simp
theorem p_stop (hs : s ≠ []) (h : (s.length : Int) = stop) : marked_reader__linex_l1 ((), s, stop, after, ((), (), [b, i, st, f], link, ()), o, l, ()) = some (.inl ((), after, -1, after, ((), (), [b, i, st, f], [], ()), o, l, ())) := by
  unfold marked_reader__linex_l1
  simp only [hs, h, decide_true, decide_false, Bool.not_false, cond_true]
theorem p_esc (hs : s ≠ []) (h : ¬ (s.length : Int) = stop) (he : escS s = true) (hl0 : s.length < 1000000) (ho : o.length < 100000) (hl : l.length < 100000) :
    marked_reader__linex_l1 ((), s, stop, after, ((), (), [b, i, st, f], link, ()), o, l, ()) = some (.inl ((), nx s, stop, after, ((), (), [b, i, st, f], link, ()), o ++ [elOf s b i st f link], l ++ lossOf (badC (hdS s)) (o.length : Int), ())) := by
  obtain ⟨b1, b2⟩ := byte0 hs
  have hd : hdS s = s.drop 1 := by unfold hdS; rw [he]; rfl
  have hne := hdS_ne hs
  have hr := rune_n hne
  have he2 := he
  unfold escS at he2
  simp only [Bool.and_eq_true, decide_eq_true_eq] at he2
  have e1 : ((at0 s 0 : Nat) : Int) = 92 := by rw [he2.1]; rfl
  have e2 : (1 : Int) < (s.length : Int) := by omega
  have hc := char_eq hne b i st f link ho hl
  have hcut : cut (hdS s) ((runeOf (hdS s)).2 : Int) ((hdS s).length : Int) = some (nx s) := by rw [cut_end (by omega), nx_eq]
  rw [hd] at hc hcut
  unfold marked_reader__linex_l1 elOf
  simp only [hs, h, decide_false, Bool.not_false, cond_true, cond_false, b1, b2, Option.bind_some, e1, e2, decide_true, cut_one (by omega : 1 ≤ s.length), hc, hcut, hd]
theorem p_tog (hs : s ≠ []) (h : ¬ (s.length : Int) = stop) (he : escS s = false) {k n : Nat} (ht : togOf s = some (k, n)) (hn : 0 < n) (hn' : n ≤ s.length) :
    marked_reader__linex_l1 ((), s, stop, after, ((), (), [b, i, st, f], link, ()), o, l, ()) = some (.inl ((), s.drop n, stop, after, ((), (), [b, i, st, f].set k (![b, i, st, f].getD k false), link, ()), o, l, ())) := by
  obtain ⟨b1, b2⟩ := byte0 hs
  have e0 : (0 : Int) < (n : Int) := by omega
  unfold escS at he
  unfold marked_reader__linex_l1
  by_cases e1 : at0 s 0 = 92
  · have e2 : ¬ (1 : Int) < (s.length : Int) := by
      intro e2
      rw [decide_eq_true e1, decide_eq_true (by omega : 1 < s.length)] at he
      cases he
    simp only [hs, h, decide_false, Bool.not_false, cond_true, cond_false, b1, b2, e1, Option.bind_some, show (((92 : Nat) : Int) = 92) = True from by simp, e2, decide_true, toggle_eq, ht, e0, cut_end hn']
  · have e1' : ¬ ((at0 s 0 : Nat) : Int) = 92 := by omega
    simp only [hs, h, decide_false, Bool.not_false, cond_true, cond_false, b1, b2, e1', Option.bind_some, toggle_eq, ht, e0, decide_true, cut_end hn']
theorem p_link (hs : s ≠ []) (h : ¬ (s.length : Int) = stop) (_he : escS s = false) (ht : togOf s = none) (h91 : at0 s 0 = 91) (hl0 : s.length < 1000000) {lk : Str} {x y : Nat} (htg : marked_target (s.drop 1) = some (lk, (x : Int), (y : Int), true, ())) (hx : x + 1 ≤ s.length) (hy : y + 1 ≤ s.length) :
    marked_reader__linex_l1 ((), s, stop, after, ((), (), [b, i, st, f], [], ()), o, l, ()) = some (.inl ((), s.drop 1, ((s.length - 1 - x : Nat) : Int), s.drop (1 + y), ((), (), [b, i, st, f], lk, ()), o, l, ())) := by
  obtain ⟨b1, b2⟩ := byte0 hs
  have d92 : decide ((91 : Int) = 92) = false := rfl
  have e1 : ((at0 s 0 : Nat) : Int) = 91 := by rw [h91]; rfl
  have w1 : IntKind.i64.wrap (1 + (y : Int)) = ((1 + y : Nat) : Int) := by rw [wrap_i64 (by omega) (by omega)]; omega
  have w2 : IntKind.i64.wrap (IntKind.i64.wrap ((s.length : Int) - 1) - (x : Int)) = ((s.length - 1 - x : Nat) : Int) := by rw [wrap_i64 (n := (s.length : Int) - 1) (by omega) (by omega), wrap_i64 (by omega) (by omega)]; omega
  unfold marked_reader__linex_l1
  simp only [hs, h, decide_false, Bool.not_false, cond_true, cond_false, d92, Option.bind_some, toggle_eq, ht, Int.lt_irrefl, b1, b2, e1, decide_true, cut_one (by omega : 1 ≤ s.length), htg, w1, w2, cut_end (by omega : 1 + y ≤ s.length)]
theorem p_push (hs : s ≠ []) (h : ¬ (s.length : Int) = stop) (he : escS s = false) (ht : togOf s = none) (hl0 : s.length < 1000000) (ho : o.length < 100000) (hl : l.length < 100000)
    (hno : ¬ at0 s 0 = 91 ∨ ¬ link = [] ∨ ∃ x y z, marked_target (s.drop 1) = some (x, y, z, false, ())) :
    marked_reader__linex_l1 ((), s, stop, after, ((), (), [b, i, st, f], link, ()), o, l, ()) = some (.inl ((), nx s, stop, after, ((), (), [b, i, st, f], link, ()), o ++ [elOf s b i st f link], l ++ lossOf (badC (hdS s)) (o.length : Int), ())) := by
  obtain ⟨b1, b2⟩ := byte0 hs
  have hd : hdS s = s := by unfold hdS; rw [he]; rfl
  have hr := rune_n hs
  have hc := char_eq hs b i st f link ho hl
  have hcut : cut s ((runeOf s).2 : Int) (s.length : Int) = some (nx s) := by rw [cut_end (by omega), nx_eq, hd]
  have hl1 : 1 ≤ s.length := by omega
  have d92 : decide ((91 : Int) = 92) = false := rfl
  unfold marked_reader__linex_l1 elOf
  by_cases h91 : at0 s 0 = 91
  · have e1 : ((at0 s 0 : Nat) : Int) = 91 := by rw [h91]; rfl
    by_cases hk : link = []
    · obtain ⟨x, y, z, htg⟩ := (hno.resolve_left (fun h => h h91)).resolve_left (fun h => h hk)
      subst hk
      simp only [hs, h, decide_false, Bool.not_false, cond_true, cond_false, d92, Option.bind_some, toggle_eq, ht, Int.lt_irrefl, b1, b2, e1, decide_true, cut_one hl1, htg, hc, hcut, hd]
    · simp only [hs, h, decide_false, Bool.not_false, cond_true, cond_false, d92, Option.bind_some, toggle_eq, ht, Int.lt_irrefl, b1, b2, e1, decide_true, hk, hc, hcut, hd]
  · have e1 : ¬ ((at0 s 0 : Nat) : Int) = 91 := by omega
    unfold escS at he
    by_cases h92 : at0 s 0 = 92
    · have e2 : ¬ (1 : Int) < (s.length : Int) := by
        intro e2
        rw [decide_eq_true h92, decide_eq_true (by omega : 1 < s.length)] at he
        cases he
      have e3 : ((at0 s 0 : Nat) : Int) = 92 := by rw [h92]; rfl
      have d91 : decide ((92 : Int) = 91) = false := rfl
      simp only [hs, h, decide_false, Bool.not_false, cond_true, cond_false, Option.bind_some, toggle_eq, ht, Int.lt_irrefl, b1, b2, e3, e2, decide_true, d91, hc, hcut, hd]
    · have e3 : ¬ ((at0 s 0 : Nat) : Int) = 92 := by omega
      simp only [hs, h, decide_false, Bool.not_false, cond_true, cond_false, Option.bind_some, toggle_eq, ht, Int.lt_irrefl, b1, b2, e1, e3, hc, hcut, hd]
end

/-! ### The reference's round -/
theorem refattrs (v : Unit × (Unit × (Unit × (Str × (Int × (Int × (Int × (Unit × TA14)))))))) (b i st f : Bool) (link : Str) (hv : v.2.2.2.1 = link) (c : Int) (o : TA5) (l : TA3) :
    loop (chanceryref2_MarkedLine_l1 [[98, 111, 108, 100], [102, 105, 120, 101, 100], [105, 116, 97, 108, 105, 99], [115, 116, 114, 105, 107, 101]] v) ((), (), (), (), 0, o, l, [b, f, i, st], (c, (0, ((), ()))), [], ()) =
      some ((), (), (), (), o, l, [b, f, i, st], (c, (0, ((), ()))), attrsOf b i st f link, ()) := by
  obtain ⟨v1, v2, v3, v4, v5⟩ := v
  simp only at hv
  subst hv
  cases v4 with
  | nil => cases b <;> cases i <;> cases st <;> cases f <;> kernel_rfl
  | cons c0 u => cases b <;> cases i <;> cases st <;> cases f <;> kernel_rfl
section
variable {V : List TA4 × Unit} {a1 : Int} {s link : Str} {en be : Int} {k : Nat} {b i st f : Bool} {o : TA5} {l : TA3} {t : TA4}
theorem q_end (h : ¬ k < V.1.length) : chanceryref2_MarkedLine_l2 V a1 ((), (), (), link, en, be, (k : Int), o, l, [b, f, i, st], ()) = some (.inr ((), (), o, l, ())) := by
  have e1 : ¬ (k : Int) < (V.1.length : Int) := by omega
  unfold chanceryref2_MarkedLine_l2
  simp only [e1, decide_false, cond_false]
theorem q_stop {m : Nat} (h : k < V.1.length) (hm : m < 1000000) : chanceryref2_MarkedLine_l2 V a1 ((), (), (), link, (k : Int), (m : Int), (k : Int), o, l, [b, f, i, st], ()) = some (.inl ((), (), (), [], -1, (m : Int), (m : Int), o, l, [b, f, i, st], ())) := by
  have e1 : (k : Int) < (V.1.length : Int) := by omega
  have w : IntKind.i64.wrap (IntKind.i64.wrap ((m : Int) - 1) + 1) = (m : Int) := by rw [wrap_i64 (n := (m : Int) - 1) (by omega) (by omega), wrap_i64 (by omega) (by omega)]; omega
  unfold chanceryref2_MarkedLine_l2
  simp only [e1, decide_true, cond_true, Option.bind_some, w]
variable (h : k < V.1.length) (hk : k < 1000000) (hne : ¬ (k : Int) = en) (hidx : idx V.1 (k : Int) = some t)
include h hk hne hidx
theorem q_tog0 {t1 : TA4} (x42 : isB t 42 = true) (h1 : k + 1 < V.1.length) (hidx1 : idx V.1 ((k + 1 : Nat) : Int) = some t1) (y42 : isB t1 42 = true) :
    chanceryref2_MarkedLine_l2 V a1 ((), (), (), link, en, be, (k : Int), o, l, [b, f, i, st], ()) = some (.inl ((), (), (), link, en, be, ((k + 2 : Nat) : Int), o, l, [!b, f, i, st], ())) := by
  have _ := h
  have e1 : (k : Int) < (V.1.length : Int) := by omega
  have e2 : ((k + 1 : Nat) : Int) < (V.1.length : Int) := by omega
  have w := wsuc (show k < 9223372036854775807 by omega)
  have w2 := wsuc (show k + 1 < 9223372036854775807 by omega)
  unfold chanceryref2_MarkedLine_l2
  simp only [e1, hne, decide_true, decide_false, cond_true, cond_false, hidx, Option.bind_some, is_eq _ (show (0 : Int) ≤ 42 by omega) (show (42 : Int) < 256 by omega), x42, w, e2, hidx1, y42, w2, show inb (0 : Int) 4 = true from rfl, show inb (1 : Int) 4 = true from rfl, show inb (2 : Int) 4 = true from rfl, show inb (3 : Int) 4 = true from rfl, chk_t]
  rfl
theorem q_tog1 (x42 : isB t 42 = true) (hn : ∀ t1, k + 1 < V.1.length → idx V.1 ((k + 1 : Nat) : Int) = some t1 → isB t1 42 = false) :
    chanceryref2_MarkedLine_l2 V a1 ((), (), (), link, en, be, (k : Int), o, l, [b, f, i, st], ()) = some (.inl ((), (), (), link, en, be, ((k + 1 : Nat) : Int), o, l, [b, f, !i, st], ())) := by
  have e1 : (k : Int) < (V.1.length : Int) := by omega
  have w := wsuc (show k < 9223372036854775807 by omega)
  unfold chanceryref2_MarkedLine_l2
  by_cases h1 : k + 1 < V.1.length
  · have e2 : ((k + 1 : Nat) : Int) < (V.1.length : Int) := by omega
    have hidx1 : idx V.1 ((k + 1 : Nat) : Int) = some V.1[k + 1] := idx_lt h1
    have y42 := hn _ h1 hidx1
    simp only [e1, hne, decide_true, decide_false, cond_true, cond_false, hidx, Option.bind_some, is_eq _ (show (0 : Int) ≤ 42 by omega) (show (42 : Int) < 256 by omega), x42, w, e2, hidx1, y42, show inb (0 : Int) 4 = true from rfl, show inb (1 : Int) 4 = true from rfl, show inb (2 : Int) 4 = true from rfl, show inb (3 : Int) 4 = true from rfl, chk_t]
    rfl
  · have e2 : ¬ ((k + 1 : Nat) : Int) < (V.1.length : Int) := by omega
    simp only [e1, hne, decide_true, decide_false, cond_true, cond_false, hidx, Option.bind_some, is_eq _ (show (0 : Int) ≤ 42 by omega) (show (42 : Int) < 256 by omega), x42, w, e2, show inb (0 : Int) 4 = true from rfl, show inb (1 : Int) 4 = true from rfl, show inb (2 : Int) 4 = true from rfl, show inb (3 : Int) 4 = true from rfl, chk_t]
    rfl
theorem q_tog2 {t1 : TA4} (x42 : isB t 42 = false) (x126 : isB t 126 = true) (h1 : k + 1 < V.1.length) (hidx1 : idx V.1 ((k + 1 : Nat) : Int) = some t1) (y126 : isB t1 126 = true) :
    chanceryref2_MarkedLine_l2 V a1 ((), (), (), link, en, be, (k : Int), o, l, [b, f, i, st], ()) = some (.inl ((), (), (), link, en, be, ((k + 2 : Nat) : Int), o, l, [b, f, i, !st], ())) := by
  have _ := h
  have e1 : (k : Int) < (V.1.length : Int) := by omega
  have e2 : ((k + 1 : Nat) : Int) < (V.1.length : Int) := by omega
  have w := wsuc (show k < 9223372036854775807 by omega)
  have w2 := wsuc (show k + 1 < 9223372036854775807 by omega)
  unfold chanceryref2_MarkedLine_l2
  simp only [e1, hne, decide_true, decide_false, cond_true, cond_false, hidx, Option.bind_some, is_eq _ (show (0 : Int) ≤ 42 by omega) (show (42 : Int) < 256 by omega), is_eq _ (show (0 : Int) ≤ 126 by omega) (show (126 : Int) < 256 by omega), x42, x126, w, e2, hidx1, y126, w2, show inb (0 : Int) 4 = true from rfl, show inb (1 : Int) 4 = true from rfl, show inb (2 : Int) 4 = true from rfl, show inb (3 : Int) 4 = true from rfl, chk_t]
  rfl
theorem q_tog3 (x42 : isB t 42 = false) (x126 : isB t 126 = false) (x96 : isB t 96 = true) :
    chanceryref2_MarkedLine_l2 V a1 ((), (), (), link, en, be, (k : Int), o, l, [b, f, i, st], ()) = some (.inl ((), (), (), link, en, be, ((k + 1 : Nat) : Int), o, l, [b, !f, i, st], ())) := by
  have e1 : (k : Int) < (V.1.length : Int) := by omega
  have w := wsuc (show k < 9223372036854775807 by omega)
  unfold chanceryref2_MarkedLine_l2
  simp only [e1, hne, decide_true, decide_false, cond_true, cond_false, hidx, Option.bind_some, is_eq _ (show (0 : Int) ≤ 42 by omega) (show (42 : Int) < 256 by omega), is_eq _ (show (0 : Int) ≤ 126 by omega) (show (126 : Int) < 256 by omega), is_eq _ (show (0 : Int) ≤ 96 by omega) (show (96 : Int) < 256 by omega), x42, x126, x96, w, show inb (0 : Int) 4 = true from rfl, show inb (1 : Int) 4 = true from rfl, show inb (2 : Int) 4 = true from rfl, show inb (3 : Int) 4 = true from rfl, chk_t]
  rfl
theorem q_link (x42 : isB t 42 = false) (x126 : isB t 126 = false) (x96 : isB t 96 = false) (x91 : isB t 91 = true) {lk : Str} {x y : Int} (hlk : lk ≠ []) (hla : chanceryref2_linkAt V.1 (k : Int) = some (lk, x, y, ())) :
    chanceryref2_MarkedLine_l2 V a1 ((), (), (), [], en, be, (k : Int), o, l, [b, f, i, st], ()) = some (.inl ((), (), (), lk, x, y, ((k + 1 : Nat) : Int), o, l, [b, f, i, st], ())) := by
  have e1 : (k : Int) < (V.1.length : Int) := by omega
  have w := wsuc (show k < 9223372036854775807 by omega)
  unfold chanceryref2_MarkedLine_l2
  simp only [e1, hne, decide_true, decide_false, cond_true, cond_false, hidx, Option.bind_some, is_eq _ (show (0 : Int) ≤ 42 by omega) (show (42 : Int) < 256 by omega), is_eq _ (show (0 : Int) ≤ 126 by omega) (show (126 : Int) < 256 by omega), is_eq _ (show (0 : Int) ≤ 96 by omega) (show (96 : Int) < 256 by omega), is_eq _ (show (0 : Int) ≤ 91 by omega) (show (91 : Int) < 256 by omega), x42, x126, x96, x91, hla, hlk, Bool.not_false, w]
theorem q_push (ho : o.length < 100000) (hl : l.length < 100000) (ha1 : 0 ≤ a1 ∧ a1 < 100000) (x42 : isB t 42 = false) (hn126 : isB t 126 = false ∨ ∀ t1, k + 1 < V.1.length → idx V.1 ((k + 1 : Nat) : Int) = some t1 → isB t1 126 = false) (x96 : isB t 96 = false)
    (hno : isB t 91 = false ∨ ¬ link = [] ∨ ∃ x y, chanceryref2_linkAt V.1 (k : Int) = some ([], x, y, ())) :
    chanceryref2_MarkedLine_l2 V a1 ((), (), (), link, en, be, (k : Int), o, l, [b, f, i, st], ()) =
      some (.inl ((), (), (), link, en, be, ((k + 1 : Nat) : Int), o ++ [(t.1, 0, attrsOf b i st f link, ())], l ++ lossOf t.2.2.2.1 (a1 + (o.length : Int)), [b, f, i, st], ())) := by
  have e1 : (k : Int) < (V.1.length : Int) := by omega
  have w := wsuc (show k < 9223372036854775807 by omega)
  have wl : IntKind.i64.wrap (a1 + (o.length : Int)) = a1 + (o.length : Int) := wrap_i64 (by omega) (by omega)
  have c1 : cat l [(5, 0, a1 + (o.length : Int), 0, [], ())] = some (l ++ [(5, 0, a1 + (o.length : Int), 0, [], ())]) := cat_ok (by rw [List.length_singleton]; omega)
  have c2 : ∀ x, cat o [x] = some (o ++ [x]) := fun x => cat_ok (by rw [List.length_singleton]; omega)
  have i42 := is_eq t (show (0 : Int) ≤ 42 by omega) (show (42 : Int) < 256 by omega)
  have i126 := is_eq t (show (0 : Int) ≤ 126 by omega) (show (126 : Int) < 256 by omega)
  have i96 := is_eq t (show (0 : Int) ≤ 96 by omega) (show (96 : Int) < 256 by omega)
  have i91 := is_eq t (show (0 : Int) ≤ 91 by omega) (show (91 : Int) < 256 by omega)
  -- behind the tests
  have tail : ∀ z : Unit × (Unit × (Unit × (Str × (Int × (Int × (Int × (Unit × TA14))))))), z = ((), (), (), link, en, be, (k : Int), (), o, l, [b, f, i, st], t, ()) →
      (((cond z.2.2.2.2.2.2.2.2.2.2.2.1.2.2.2.1
        (let v28 : (Int × (Int × (Int × (Int × (Str × Unit))))) := (5, 0, IntKind.i64.wrap (a1 + (z.2.2.2.2.2.2.2.2.1.length : Int)), 0, [], ())
        (cat z.2.2.2.2.2.2.2.2.2.1 [v28]).bind fun v29 =>
        some ((), (), (), (), z.2.2.2.2.2.2.2.2.1, v29, z.2.2.2.2.2.2.2.2.2.2.1, z.2.2.2.2.2.2.2.2.2.2.2.1, ()))
        (some ((), (), (), (), z.2.2.2.2.2.2.2.2.1, z.2.2.2.2.2.2.2.2.2.1, z.2.2.2.2.2.2.2.2.2.2.1, z.2.2.2.2.2.2.2.2.2.2.2.1, ())) : Option (Unit × (Unit × (Unit × (Unit × TA14))))).bind fun r30 =>
        let v31 : (List Str) := [[98, 111, 108, 100], [102, 105, 120, 101, 100], [105, 116, 97, 108, 105, 99], [115, 116, 114, 105, 107, 101]]
        (loop (chanceryref2_MarkedLine_l1 v31 z) ((), (), (), (), 0, r30.2.2.2.2.1, r30.2.2.2.2.2.1, r30.2.2.2.2.2.2.1, (r30.2.2.2.2.2.2.2.1.1, (0, ((), ()))), [], ())).bind fun r38 =>
        let v39 : (Int × (Int × TA1)) := (r38.2.2.2.2.2.2.2.1.1, (r38.2.2.2.2.2.2.2.1.2.1, r38.2.2.2.2.2.2.2.2))
        (cat r38.2.2.2.2.1 [v39]).bind fun v40 =>
        some ((), (), (), z.2.2.2.1, z.2.2.2.2.1, z.2.2.2.2.2.1, z.2.2.2.2.2.2.1, v40, r38.2.2.2.2.2.1, r38.2.2.2.2.2.2.1, ())) : Option TA9)
      = some ((), (), (), link, en, be, (k : Int), o ++ [(t.1, 0, attrsOf b i st f link, ())], l ++ lossOf t.2.2.2.1 (a1 + (o.length : Int)), [b, f, i, st], ()) := by
    intro z hz
    have hra := fun l' => refattrs z b i st f link (by rw [hz]) t.1 o l'
    subst hz
    cases hb : t.2.2.2.1 with
    | true =>
      simp only [cond_true, wl, c1, Option.bind_some, hra, c2, lossOf, if_true]
    | false =>
      simp only [cond_false, Option.bind_some, hra, c2, lossOf, Bool.false_eq_true, if_false, List.append_nil]
  unfold chanceryref2_MarkedLine_l2
  by_cases x126 : isB t 126 = true
  · have hn := hn126.resolve_left (by rw [x126]; decide)
    have x91 : isB t 91 = false := by
      unfold isB at x126 ⊢
      simp only [Bool.and_eq_true, decide_eq_true_eq] at x126
      rw [x126.2.2]
      simp
    by_cases h1 : k + 1 < V.1.length
    · have e2 : ((k + 1 : Nat) : Int) < (V.1.length : Int) := by omega
      have hidx1 : idx V.1 ((k + 1 : Nat) : Int) = some V.1[k + 1] := idx_lt h1
      have y126 := hn _ h1 hidx1
      simp only [e1, hne, decide_true, decide_false, cond_true, cond_false, hidx, Option.bind_some, i42, i126, i96, i91, x42, x126, x96, x91, w, e2, hidx1, is_eq V.1[k + 1] (show (0 : Int) ≤ 126 by omega) (show (126 : Int) < 256 by omega), y126]
      rw [tail _ rfl]
      simp only [Option.bind_some, w]
    · have e2 : ¬ ((k + 1 : Nat) : Int) < (V.1.length : Int) := by omega
      simp only [e1, hne, decide_true, decide_false, cond_true, cond_false, hidx, Option.bind_some, i42, i126, i96, i91, x42, x126, x96, x91, w, e2]
      rw [tail _ rfl]
      simp only [Option.bind_some, w]
  · have x126 : isB t 126 = false := by simpa using x126
    cases x91 : isB t 91 with
    | false =>
      simp only [e1, hne, decide_true, decide_false, cond_true, cond_false, hidx, Option.bind_some, i42, i126, i96, i91, x42, x126, x96, x91]
      rw [tail _ rfl]
      simp only [Option.bind_some, w]
    | true =>
      by_cases hlk : link = []
      · obtain ⟨x, y, hla⟩ := (hno.resolve_left (by rw [x91]; decide)).resolve_left (fun h => h hlk)
        simp only [e1, hne, decide_true, decide_false, cond_true, cond_false, hidx, Option.bind_some, i42, i126, i96, i91, x42, x126, x96, x91, decide_eq_true hlk, hla, Bool.not_true]
        rw [tail _ rfl]
        simp only [Option.bind_some, w]
      · simp only [e1, hne, decide_true, decide_false, cond_true, cond_false, hidx, Option.bind_some, i42, i126, i96, i91, x42, x126, x96, x91, hlk]
        rw [tail _ rfl]
        simp only [Option.bind_some, w]
end
end Go.Proofs.YtkjkjebmkmkgfaaDoor
