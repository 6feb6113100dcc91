import Derived.Test.YtjhcnnhkabhigaaDoorRLaw1
namespace Go.Proofs.YtjhcnnhkabhigaaDoor
open Go Go.Fe

/-! ### A string divided at a byte -/
def cutB (c : UInt8) : Str → Str × Str × Bool
  | [] => ([], [], false)
  | x :: r => if x = c then ([], r, true) else (x :: (cutB c r).1, (cutB c r).2.1, (cutB c r).2.2)

theorem cutB_none {c : UInt8} : ∀ {s : Str}, (∀ i : Nat, s[i]? ≠ some c) → cutB c s = (s, [], false)
  | [], _ => rfl
  | x :: r, h => by
    have h0 : x ≠ c := by simpa using h 0
    have ih := cutB_none (c := c) (s := r) (fun i => by simpa using h (i + 1))
    simp [cutB, h0, ih]
theorem cutB_some {c : UInt8} : ∀ {s : Str} {i : Nat}, s[i]? = some c → (∀ k : Nat, k < i → s[k]? ≠ some c) → cutB c s = (s.take i, s.drop (i + 1), true)
  | [], i, h, _ => by simp at h
  | x :: r, 0, h, _ => by
    have : x = c := by simpa using h
    simp [cutB, this]
  | x :: r, i + 1, h, hk => by
    have h0 : x ≠ c := by simpa using hk 0 (by omega)
    have ih := cutB_some (c := c) (s := r) (i := i) (by simpa using h) (fun k hk' => by simpa using hk (k + 1) (by omega))
    simp [cutB, h0, ih]
theorem cutB_len (c : UInt8) : ∀ s : Str, (cutB c s).1.length ≤ s.length ∧ (cutB c s).2.1.length ≤ s.length
  | [] => by simp [cutB]
  | x :: r => by
    have := cutB_len c r
    simp only [cutB]
    split <;> simp <;> omega

theorem strings_Cut_eq {s : Str} {c : UInt8} (h : s.length < 1099511627776) : strings_Cut s [c] = some ((cutB c s).1, (cutB c s).2.1, (cutB c s).2.2, ()) := by
  have hs : sIndex (s, [c], ()) = some (Lib.indexByte s c, ()) := rfl
  simp only [strings_Cut, stringslite_Cut, hs, Option.bind_some]
  by_cases hi : Lib.indexByte s c = -1
  · have hn := Lib.indexByte_none hi
    have hneg : ¬ (0 : Int) ≤ Lib.indexByte s c := by omega
    simp [hneg, cutB_none hn]
  · have hge := Lib.indexByte_ge s c
    obtain ⟨i, hi'⟩ : ∃ i : Nat, Lib.indexByte s c = i := ⟨(Lib.indexByte s c).toNat, by omega⟩
    obtain ⟨h1, h2⟩ := Lib.indexByte_some hi'
    have hil : i < s.length := by
      rcases Nat.lt_or_ge i s.length with h | h
      · exact h
      · rw [List.getElem?_eq_none h] at h1; cases h1
    have w : IntKind.i64.wrap ((i : Int) + (([c] : Str).length : Int)) = ((i + 1 : Nat) : Int) := wrap_succ (by omega)
    have c1 : cut s 0 (i : Int) = some (s.take i) := by
      have := cut_nat (xs := s) (a := 0) (b := i) (by omega) (by omega)
      simpa using this
    have c2 : cut s ((i + 1 : Nat) : Int) (s.length : Int) = some (s.drop (i + 1)) := by
      rw [cut_nat (by omega) (by omega), List.take_length]
    have hp : (0 : Int) ≤ (i : Int) := by omega
    simp only [hi', hp, decide_true, cond_true, w, c1, c2, Option.bind_some, cutB_some h1 h2]

/-! ### Names between apostrophes -/
/-- Behind the first apostrophe: the name, and what follows the last apostrophe, if it is there. -/
def quoted : Str → Str × Option Str
  | [] => ([], none)
  | [x] => if x = 39 then ([], some []) else ([x], none)
  | x :: y :: r => if x = 39 then (if y = 39 then (39 :: (quoted r).1, (quoted r).2) else ([], some (y :: r))) else (x :: (quoted (y :: r)).1, (quoted (y :: r)).2)

theorem quoted_len : ∀ (n : Nat) (s : Str), s.length ≤ n → (quoted s).1.length ≤ s.length ∧ ∀ r, (quoted s).2 = some r → r.length ≤ s.length
  | _, [], _ => by simp [quoted]
  | _, [x], _ => by simp only [quoted]; split <;> simp
  | 0, x :: y :: r, h => by simp at h
  | n + 1, x :: y :: r, h => by
    have h1 := quoted_len n r (by simp at h; omega)
    have h2 := quoted_len n (y :: r) (by simp at h ⊢; omega)
    simp only [quoted]
    split
    · split
      · refine ⟨by simp; omega, fun q hq => ?_⟩
        have := h1.2 q hq
        simp; omega
      · refine ⟨by simp, fun q hq => ?_⟩
        simp at hq
        subst hq
        simp
    · refine ⟨by simpa using h2.1, fun q hq => ?_⟩
      have := h2.2 q hq
      simp at this ⊢
      omega

theorem byte39 (c : UInt8) : (ofByte c = 39) ↔ c = 39 := by
  rw [ofByte_eq]
  constructor
  · intro h
    have : c.toNat = (39 : UInt8).toNat := by simp; omega
    exact UInt8.toNat.inj this
  · intro h; rw [h]; rfl
theorem byteIs (c : UInt8) (n : Nat) (h : n < 256) : (ofByte c = (n : Int)) ↔ c = UInt8.ofNat n := by
  rw [ofByte_eq]
  constructor
  · intro hc
    have : c.toNat = (UInt8.ofNat n).toNat := by rw [ofNat_toNat h]; omega
    exact UInt8.toNat.inj this
  · intro hc; rw [hc, ofNat_toNat h]

theorem drop_eq {s : Str} {i : Nat} {x : UInt8} {r : Str} (h : s.drop i = x :: r) : i < s.length ∧ s[i]? = some x ∧ s.drop (i + 1) = r := by
  have hl : i < s.length := by
    rcases Nat.lt_or_ge i s.length with h' | h'
    · exact h'
    · rw [List.drop_eq_nil_of_le h'] at h; cases h
  rw [List.drop_eq_getElem_cons hl] at h
  cases h
  exact ⟨hl, List.getElem?_eq_getElem hl, rfl⟩

/-- What the program makes of a name between apostrophes. -/
def sheetEnd (t : Str) (q : Str × Option Str) : Unit ⊕ (Str × (Str × (Bool × Unit))) :=
  match q.2 with
  | none => .inl ()
  | some r => .inr (t ++ q.1, Lib.trimPrefix r [33], Lib.hasPrefix r [33] && decide (0 < (t ++ q.1).length), ())

theorem bytesStr_strBytes (s : Str) : bytesStr (s.map fun c => (c.toNat : Int)) = s := by
  simp only [bytesStr, List.map_map]
  have : (byteOfInt ∘ fun c : UInt8 => (c.toNat : Int)) = id := by
    funext c
    simp [byteOfInt]
  rw [this, List.map_id]

theorem sheet_loop {s : Str} (hs : s.length ≤ 500) : ∀ (n : Nat) (rem t : Str) (i : Nat), rem.length ≤ n → s.drop i = rem → i ≤ s.length → t.length ≤ i →
    Halts (cellref_sheet_l1 s) n ((), (i : Int), ((), ((), ())), t.map (fun c => (c.toNat : Int)), ()) (sheetEnd t (quoted rem))
  | n, [], t, i, hn, hd, hi, ht => by
    have hl : s.length ≤ i := by
      have := congrArg List.length hd
      simp at this
      omega
    refine .done ?_
    have hg : ¬ ((i : Int) < (s.length : Int)) := by omega
    simp only [cellref_sheet_l1, hg, decide_false, cond_false]
    rfl
  | 0, x :: r, t, i, hn, hd, hi, ht => by simp at hn
  | n + 1, x :: r, t, i, hn, hd, hi, ht => by
    obtain ⟨hl, hx, hr⟩ := drop_eq hd
    have hg : ((i : Int) < (s.length : Int)) := by omega
    have hix : idx s (i : Int) = some x := by rw [idx_nat, hx]
    have w1 := wrap_succ (i := i) (by omega)
    have w2 := wrap_succ (i := i + 1) (by omega)
    have hrl : r.length ≤ s.length := by rw [← hr]; simp
    have wr : ∀ (b : Nat), _strings_Builder__WriteByte (b : Int) (t.map fun c => (c.toNat : Int)) = some (false, (), ((), ((), ())), (t.map fun c => (c.toNat : Int)) ++ [(b : Int)], ()) := fun b => by
      simp only [_strings_Builder__WriteByte]
      rw [cat_ok (by simp; omega)]
      rfl
    have tl : ∀ c : UInt8, (t.map fun c => (c.toNat : Int)) ++ [(c.toNat : Int)] = (t ++ [c]).map fun c => (c.toNat : Int) := fun c => by simp
    by_cases h39 : x = 39
    · subst h39
      have a39 : ofByte (39 : UInt8) = 39 := rfl
      match r, hr, hn, hrl, hd with
      | [], hr, hn, hrl, hd =>
        have hl2 : s.length ≤ i + 1 := by
          have := congrArg List.length hr
          simp at this
          omega
        have hg2 : ¬ (((i + 1 : Nat) : Int) < (s.length : Int)) := by omega
        have c2 : cut s ((i + 1 : Nat) : Int) (s.length : Int) = some [] := by
          rw [cut_nat (by omega) (by omega), List.take_length, hr]
        have cp : sCutPrefix (([] : Str), [33], ()) = some ([], false, ()) := rfl
        refine .done ?_
        simp only [cellref_sheet_l1, hg, decide_true, cond_true, hix, Option.bind_some, a39, Bool.not_true, cond_false, w1, hg2, decide_false, c2, cp]
        rw [chk_of (by simp [lim]; omega)]
        simp only [Option.bind_some, bytesStr_strBytes]
        simp [sheetEnd, quoted, Lib.trimPrefix, Lib.hasPrefix]
      | y :: r', hr, hn, hrl, hd =>
        obtain ⟨hl2, hy, hr'⟩ := drop_eq hr
        have hg2 : (((i + 1 : Nat) : Int) < (s.length : Int)) := by omega
        have hiy : idx s ((i + 1 : Nat) : Int) = some y := by rw [idx_nat, hy]
        by_cases hy39 : y = 39
        · subst hy39
          have ih := sheet_loop hs n r' (t ++ [39]) (i + 2) (by simp at hn; omega) hr' (by omega) (by simp; omega)
          have e : sheetEnd t (quoted (39 :: 39 :: r')) = sheetEnd (t ++ [39]) (quoted r') := by
            simp only [quoted, if_true, sheetEnd]
            cases (quoted r').2 <;> simp
          rw [e]
          refine .step ?_ ih
          have w39 := wr 39
          rw [show ((39 : Nat) : Int) = 39 from rfl] at w39
          have t39 := tl 39
          rw [show (((39 : UInt8).toNat : Nat) : Int) = 39 from rfl] at t39
          simp only [cellref_sheet_l1, hg, decide_true, cond_true, hix, Option.bind_some, a39, Bool.not_true, cond_false, w1, hg2, hiy, w39, w2, t39]
        · have ny : ¬ (ofByte y = 39) := by rw [byte39]; exact hy39
          have c2 : cut s ((i + 1 : Nat) : Int) (s.length : Int) = some (y :: r') := by
            rw [cut_nat (by omega) (by omega), List.take_length, hr]
          refine .done ?_
          simp only [cellref_sheet_l1, hg, decide_true, cond_true, hix, Option.bind_some, a39, Bool.not_true, cond_false, w1, hg2, hiy, ny, decide_false, c2, sCutPrefix]
          rw [chk_of (by simp [lim]; omega)]
          simp only [Option.bind_some, bytesStr_strBytes, _strings_Builder__Len]
          cases hp : Lib.hasPrefix (y :: r') [33] <;> simp [sheetEnd, quoted, hy39, hp]
    · have nx : ¬ (ofByte x = 39) := by rw [byte39]; exact h39
      have ih := sheet_loop hs n r (t ++ [x]) (i + 1) (by simp at hn; omega) hr (by omega) (by simp; omega)
      have e : sheetEnd t (quoted (x :: r)) = sheetEnd (t ++ [x]) (quoted r) := by
        match r with
        | [] => simp [quoted, h39, sheetEnd]
        | y :: r' =>
          simp only [quoted, h39, if_false, sheetEnd]
          cases (quoted (y :: r')).2 <;> simp
      rw [e]
      refine .step ?_ ih
      have wx : _strings_Builder__WriteByte (ofByte x) (t.map fun c => (c.toNat : Int)) = some (false, (), ((), ((), ())), (t ++ [x]).map (fun c => (c.toNat : Int)), ()) := by rw [← tl x]; exact wr x.toNat
      simp only [cellref_sheet_l1, hg, decide_true, cond_true, hix, Option.bind_some, nx, decide_false, Bool.not_false, wx, w1]

/-- The sheet's name, the rest, and whether the form is right. -/
def sheetOf (s : Str) : Str × Str × Bool :=
  match s with
  | [] => ([], [], true)
  | x :: r => if x = 39 then (match (quoted r).2 with
      | none => ([], [], false)
      | some q => ((quoted r).1, Lib.trimPrefix q [33], Lib.hasPrefix q [33] && decide (0 < (quoted r).1.length)))
    else if (cutB 33 s).2.2 = false then ([], s, true) else ((cutB 33 s).1, (cutB 33 s).2.1, isPlain (cutB 33 s).1)

theorem sheet_eq {s : Str} (hs : s.length ≤ 500) (hne : s ≠ [35, 82, 69, 70, 33]) : cellref_sheet s = some ((sheetOf s).1, (sheetOf s).2.1, (sheetOf s).2.2, ()) := by
  have hcut := strings_Cut_eq (s := s) (c := 33) (by omega)
  have hlen := cutB_len 33 s
  cases s with
  | nil => simp [cellref_sheet, sHasPrefix, Lib.hasPrefix, hcut, sheetOf, cutB]
  | cons x r =>
    by_cases h39 : x = 39
    · subst h39
      have := sheet_loop hs r.length r [] 1 (Nat.le_refl _) rfl (by simp) (by simp)
      have hl := this.loop (by simp at hs; omega)
      rw [show ((1 : Nat) : Int) = 1 from rfl] at hl
      simp only [List.map_nil] at hl
      have hp : sHasPrefix ((39 : UInt8) :: r, [39], ()) = some (true, ()) := by simp [sHasPrefix, Lib.hasPrefix]
      simp only [cellref_sheet, hp, Option.bind_some, Bool.not_true, cond_false, hl]
      simp only [sheetEnd, sheetOf, if_true, List.nil_append]
      cases (quoted r).2 <;> rfl
    · have hp : sHasPrefix (x :: r, [39], ()) = some (false, ()) := by simp [sHasPrefix, Lib.hasPrefix, List.isPrefixOf, Ne.symm h39]
      have hpl := Plain_eq (s := (cutB 33 (x :: r)).1) (by omega)
      simp only [cellref_sheet, hp, Option.bind_some, Bool.not_false, cond_true, hcut, hpl, hne, decide_false]
      simp only [sheetOf, h39, if_false]
      cases (cutB 33 (x :: r)).2.2 <;> simp

end Go.Proofs.YtjhcnnhkabhigaaDoor

namespace Go.Proofs.YtjhcnnhkabhigaaDoor
open Go Go.Fe

/-! ### One side of a reference -/
def stripD : Str → Str × Bool
  | [] => ([], false)
  | x :: r => if x = 36 then (r, true) else (x :: r, false)
theorem stripD_eq (s : Str) : sCutPrefix (no_index (s, [36], ())) = some ((stripD s).1, (stripD s).2, ()) := by
  cases s with
  | nil => rfl
  | cons x r =>
    by_cases h : x = 36
    · subst h
      simp [sCutPrefix, stripD, Lib.trimPrefix, Lib.hasPrefix, List.isPrefixOf]
    · simp [sCutPrefix, stripD, Lib.trimPrefix, Lib.hasPrefix, List.isPrefixOf, h, Ne.symm h]
theorem stripD_len (s : Str) : (stripD s).1.length ≤ s.length := by
  cases s with
  | nil => simp [stripD]
  | cons x r =>
    simp only [stripD]
    split <;> simp

theorem dropWhile_len (p : UInt8 → Bool) (s : Str) : (s.dropWhile p).length ≤ s.length := by
  have := congrArg List.length (List.takeWhile_append_dropWhile (p := p) (l := s))
  rw [List.length_append] at this
  omega
theorem takeWhile_len (p : UInt8 → Bool) (s : Str) : (s.takeWhile p).length ≤ s.length := by
  have := congrArg List.length (List.takeWhile_append_dropWhile (p := p) (l := s))
  rw [List.length_append] at this
  omega
theorem drop_takeWhile (p : UInt8 → Bool) : ∀ s : Str, s.drop (s.takeWhile p).length = s.dropWhile p
  | [] => rfl
  | x :: r => by
    cases h : p x with
    | true => simp [h, drop_takeWhile p r]
    | false => simp [h]

/-- The letters, what follows them, the row's mark and what follows it. -/
def sdL (s : Str) : Str := (stripD s).1.takeWhile isLetter
def sdU (s : Str) : Str := (stripD s).1.dropWhile isLetter
def sdE (s : Str) : Str × Bool := if sdL s = [] then (sdU s, (stripD s).2) else stripD (sdU s)
def sdN (s : Str) : Str := (sdE s).1.takeWhile isDigit
def sdV (s : Str) : Str := (sdE s).1.dropWhile isDigit
def sdC (s : Str) : Bool := !decide (sdL s = []) && (stripD s).2
def sdR (s : Str) : Bool := (sdE s).2
def sdFine (s : Str) : Bool := decide (sdV s = []) && (decide ((sdL s).length ≤ 7) && (decide ((sdN s).length ≤ 10) && (!Lib.hasPrefix (sdN s) [48] && (!decide (sdN s = []) || (!decide (sdL s = []) && !sdR s)))))

theorem sd_len (s : Str) : (sdL s).length ≤ s.length ∧ (sdU s).length ≤ s.length ∧ (sdE s).1.length ≤ s.length ∧ (sdN s).length ≤ s.length := by
  have h1 := stripD_len s
  have h2 := takeWhile_len isLetter (stripD s).1
  have h3 := dropWhile_len isLetter (stripD s).1
  have h4 := stripD_len (sdU s)
  have h5 : (sdU s).length ≤ s.length := Nat.le_trans h3 h1
  have h6 : (sdE s).1.length ≤ s.length := by
    unfold sdE
    split
    · exact h5
    · exact Nat.le_trans h4 h5
  exact ⟨Nat.le_trans h2 h1, h5, h6, Nat.le_trans (takeWhile_len _ _) h6⟩

theorem place_loop1 (z : Str × (Str × (Bool × (Bool × Unit)))) (q : Str × (Bool × (Bool × Unit))) : ∀ (s acc : Str), acc.length + s.length ≤ 1000 →
    Halts cellref_place_l1 s.length (s, (), (), z, (acc, q), ()) (s.dropWhile isLetter, (), (), z, (acc ++ s.takeWhile isLetter, q), ())
  | [], acc, h => .done (by simp [cellref_place_l1])
  | c :: r, acc, h => by
    have i0 : idx (c :: r) 0 = some c := rfl
    have e : decide ((c :: r : Str) = []) = false := by simp
    cases hl : isLetter c with
    | false =>
      refine .done ?_
      simp only [cellref_place_l1, e, Bool.not_false, cond_true, i0, Option.bind_some, letter_eq, hl, cond_false]
      simp [hl]
    | true =>
      have c1 : cut (c :: r) 0 1 = some [c] := by
        have := cut_nat (xs := c :: r) (a := 0) (b := 1) (by omega) (by simp)
        simpa using this
      have c2 : cut (c :: r) 1 ((c :: r).length : Int) = some r := by
        have := cut_nat (xs := c :: r) (a := 1) (b := (c :: r).length) (by simp) (by simp)
        simpa using this
      have ih := place_loop1 z q r (acc ++ [c]) (by simp at h ⊢; omega)
      have e1 : (c :: r).dropWhile isLetter = r.dropWhile isLetter := by simp [hl]
      have e2 : acc ++ (c :: r).takeWhile isLetter = acc ++ [c] ++ r.takeWhile isLetter := by simp [hl]
      rw [e1, e2]
      refine .step ?_ ih
      have c3 : cat acc [c] = some (acc ++ [c]) := cat_ok (by simp at h ⊢; omega)
      simp only [cellref_place_l1, e, Bool.not_false, cond_true, i0, Option.bind_some, letter_eq, hl, c1, c2, c3]
theorem place_loop2 (z : Str × (Str × (Bool × (Bool × Unit)))) (a : Str) (q : Bool × (Bool × Unit)) : ∀ (s acc : Str), acc.length + s.length ≤ 1000 →
    Halts cellref_place_l2 s.length (s, (), (), z, (a, acc, q), ()) (s.dropWhile isDigit, (), (), z, (a, acc ++ s.takeWhile isDigit, q), ())
  | [], acc, h => .done (by simp [cellref_place_l2])
  | c :: r, acc, h => by
    have i0 : idx (c :: r) 0 = some c := rfl
    have e : decide ((c :: r : Str) = []) = false := by simp
    cases hl : isDigit c with
    | false =>
      refine .done ?_
      simp only [cellref_place_l2, e, Bool.not_false, cond_true, i0, Option.bind_some, digit_eq, hl, cond_false]
      simp [hl]
    | true =>
      have c1 : cut (c :: r) 0 1 = some [c] := by
        have := cut_nat (xs := c :: r) (a := 0) (b := 1) (by omega) (by simp)
        simpa using this
      have c2 : cut (c :: r) 1 ((c :: r).length : Int) = some r := by
        have := cut_nat (xs := c :: r) (a := 1) (b := (c :: r).length) (by simp) (by simp)
        simpa using this
      have ih := place_loop2 z a q r (acc ++ [c]) (by simp at h ⊢; omega)
      have e1 : (c :: r).dropWhile isDigit = r.dropWhile isDigit := by simp [hl]
      have e2 : acc ++ (c :: r).takeWhile isDigit = acc ++ [c] ++ r.takeWhile isDigit := by simp [hl]
      rw [e1, e2]
      refine .step ?_ ih
      have c3 : cat acc [c] = some (acc ++ [c]) := cat_ok (by simp at h ⊢; omega)
      simp only [cellref_place_l2, e, Bool.not_false, cond_true, i0, Option.bind_some, digit_eq, hl, c1, c2, c3]

theorem place_eq {s : Str} (hs : s.length ≤ 500) : cellref_place s = some ((sdL s, sdN s, sdC s, sdR s, ()), sdFine s, ()) := by
  have hl := sd_len s
  have h1 := stripD_len s
  have l1 := (place_loop1 ([], ([], (false, (false, ())))) ([], ((stripD s).2, (false, ()))) (stripD s).1 [] (by simp; omega)).loop (by omega)
  simp only [List.nil_append] at l1
  have l1' : loop cellref_place_l1 ((stripD s).1, (), (), ([], ([], (false, (false, ())))), ([], ([], ((stripD s).2, (false, ())))), ()) = some (sdU s, (), (), ([], ([], (false, (false, ())))), (sdL s, ([], ((stripD s).2, (false, ())))), ()) := l1
  have mid : (cond (decide (sdL s = []))
      (some (sdU s, (), (), ([], ([], (false, (false, ())))), (sdL s, ([], (false, ((stripD s).2, ())))), ()))
      (cond (!decide (sdU s = []))
      (some ((stripD (sdU s)).1, (), (), ([], ([], (false, (false, ())))), (sdL s, ([], ((stripD s).2, ((stripD (sdU s)).2, ())))), ()))
      (some (sdU s, (), (), ([], ([], (false, (false, ())))), (sdL s, ([], ((stripD s).2, (false, ())))), ()))) : Option (Str × (Unit × (Unit × ((Str × (Str × (Bool × (Bool × Unit)))) × ((Str × (Str × (Bool × (Bool × Unit)))) × Unit)))))) =
      some ((sdE s).1, (), (), ([], ([], (false, (false, ())))), (sdL s, ([], (sdC s, (sdR s, ())))), ()) := by
    by_cases e : sdL s = []
    · simp [e, sdE, sdC, sdR]
    · by_cases e' : sdU s = []
      · simp [e, e', sdE, sdC, sdR, stripD]
      · simp only [e, e', decide_false, cond_false, Bool.not_false, cond_true, sdE, if_false, sdC, sdR, Bool.true_and]
  have l2 := (place_loop2 ([], ([], (false, (false, ())))) (sdL s) (sdC s, (sdR s, ())) (sdE s).1 [] (by simp; omega)).loop (by omega)
  simp only [List.nil_append] at l2
  have l2' : loop cellref_place_l2 ((sdE s).1, (), (), ([], ([], (false, (false, ())))), (sdL s, ([], (sdC s, (sdR s, ())))), ()) = some (sdV s, (), (), ([], ([], (false, (false, ())))), (sdL s, (sdN s, (sdC s, (sdR s, ())))), ()) := l2
  simp only [cellref_place, stripD_eq, Option.bind_some, l1']
  rw [mid]
  simp only [Option.bind_some, l2', sHasPrefix]
  have b7 : decide (((sdL s).length : Int) ≤ 7) = decide ((sdL s).length ≤ 7) := by simp only [decide_eq_decide]; omega
  have b10 : decide (((sdN s).length : Int) ≤ 10) = decide ((sdN s).length ≤ 10) := by simp only [decide_eq_decide]; omega
  rw [b7, b10]
  simp only [sdFine]
  cases decide ((sdL s).length ≤ 7) <;> cases decide ((sdN s).length ≤ 10) <;> cases Lib.hasPrefix (sdN s) [48] <;> cases decide (sdN s = []) <;> cases decide (sdL s = []) <;> cases decide (sdV s = []) <;> simp
end Go.Proofs.YtjhcnnhkabhigaaDoor

namespace Go.Proofs.YtjhcnnhkabhigaaDoor
open Go Go.Fe

/-! ### The reference's sides -/
abbrev TakeS := Unit × (Unit × (Unit × ((Int × Unit) × ((Str × Unit) × Unit))))
abbrev TakeR := Unit × (Unit × ((Int × Unit) × ((Str × Unit) × Unit)))
/-- The loop of a closure that takes bytes. -/
theorem take_loop {f : TakeS → Option (TakeS ⊕ TakeR)} {s : Str} {p : UInt8 → Bool}
    (hf : ∀ i : Nat, f ((), (), (), ((i : Int), ()), (s, ()), ()) = some (if (s[i]?).any p = true then .inl ((), (), (), (IntKind.i64.wrap ((i : Int) + 1), ()), (s, ()), ()) else .inr ((), (), ((i : Int), ()), (s, ()), ()))) (hs : s.length < 1000000) :
    ∀ (r : Str) (i : Nat), s.drop i = r → i ≤ s.length → Halts f r.length ((), (), (), ((i : Int), ()), (s, ()), ()) ((), (), (((i + (r.takeWhile p).length : Nat) : Int), ()), (s, ()), ())
  | [], i, hd, hi => by
    have hl : s.length ≤ i := by
      have := congrArg List.length hd
      simp at this
      omega
    refine .done ?_
    rw [hf, List.getElem?_eq_none hl]
    simp
  | x :: r, i, hd, hi => by
    obtain ⟨hl, hx, hr⟩ := drop_eq hd
    cases hp : p x with
    | false =>
      refine .done ?_
      rw [hf, hx]
      simp [hp]
    | true =>
      have ih := take_loop hf hs r (i + 1) hr (by omega)
      have e : i + ((x :: r).takeWhile p).length = i + 1 + (r.takeWhile p).length := by simp [hp]; omega
      rw [e]
      refine .step ?_ ih
      rw [hf, hx, wrap_succ (by omega)]
      simp [hp]

theorem cut_take {s : Str} {p : UInt8 → Bool} {i : Nat} (hi : i ≤ s.length) : cut s (i : Int) ((i + ((s.drop i).takeWhile p).length : Nat) : Int) = some ((s.drop i).takeWhile p) := by
  have h1 := takeWhile_len p (s.drop i)
  rw [List.length_drop] at h1
  rw [cut_nat (by omega) (by omega), List.drop_take]
  congr 1
  rw [Nat.add_sub_cancel_left]
  have : ∀ l : Str, l.take (l.takeWhile p).length = l.takeWhile p := by
    intro l
    induction l with
    | nil => rfl
    | cons x r ih =>
      cases h : p x with
      | true => simp [h, ih]
      | false => simp [h]
  exact this _

def is36 (c : UInt8) : Bool := decide (c = 36)
theorem is36_eq (c : UInt8) : decide (ofByte c = 36) = is36 c := by
  have := byteIs c 36 (by omega)
  simp only [is36, decide_eq_decide]
  exact this

/-! ### Decimal numerals -/
def dec (s : Str) : Nat := s.foldl (fun n c => 10 * n + (c.toNat - 48)) 0
theorem dec_snoc (s : Str) (c : UInt8) : dec (s ++ [c]) = 10 * dec s + (c.toNat - 48) := by simp [dec]
theorem dec_lt : ∀ (k : Nat) (s : Str), s.length = k → s.all isDigit = true → dec s + 1 ≤ 10 ^ k
  | 0, s, h, _ => by
    have : s = [] := List.eq_nil_of_length_eq_zero h
    subst this
    simp [dec]
  | k + 1, s, h, ha => by
    obtain ⟨t, c, rfl⟩ : ∃ t c, s = t ++ [c] := ⟨s.dropLast, s.getLast (by intro e; subst e; simp at h), (List.dropLast_concat_getLast _).symm⟩
    simp only [List.all_append, Bool.and_eq_true] at ha
    have h1 := dec_lt k t (by simpa using h) ha.1
    have h2 : isDigit c = true := by simpa using ha.2
    simp only [isDigit, decide_eq_true_eq] at h2
    rw [dec_snoc, Nat.pow_succ]
    omega
theorem dec_small {s : Str} (h : s.length ≤ 10) (ha : s.all isDigit = true) : dec s < 10000000000 := by
  have h1 := dec_lt _ s rfl ha
  have h2 : 10 ^ s.length ≤ 10 ^ 10 := Nat.pow_le_pow_right (by omega) h
  omega
theorem dec_take {s : Str} {i : Nat} (h : i < s.length) : dec (s.take (i + 1)) = 10 * dec (s.take i) + (s[i].toNat - 48) := by
  rw [List.take_succ_eq_append_getElem h, dec_snoc]

theorem parse_digits : ∀ (s : Str) (acc : Nat), s.all isDigit = true → (acc + 1) * 10 ^ s.length ≤ 10000000000 → Lib.parseUint10 acc s = .ok (s.foldl (fun n c => 10 * n + (c.toNat - 48)) acc)
  | [], acc, _, _ => rfl
  | c :: r, acc, ha, hb => by
    simp only [List.all_cons, Bool.and_eq_true] at ha
    have h1 := ha.1
    simp only [isDigit, decide_eq_true_eq] at h1
    have hp : 1 ≤ 10 ^ r.length := Nat.pow_pos (by omega)
    have hb' : (10 * acc + (c.toNat - 48) + 1) * 10 ^ r.length ≤ 10000000000 := by
      rw [List.length_cons, Nat.pow_succ] at hb
      have : (10 * acc + (c.toNat - 48) + 1) * 10 ^ r.length ≤ ((acc + 1) * 10) * 10 ^ r.length := Nat.mul_le_mul_right _ (by omega)
      have e : (acc + 1) * (10 ^ r.length * 10) = ((acc + 1) * 10) * 10 ^ r.length := by rw [Nat.mul_comm (10 ^ r.length) 10, Nat.mul_assoc]
      omega
    have hacc : 10 * acc + (c.toNat - 48) + 1 ≤ 10000000000 := Nat.le_trans (Nat.le_mul_of_pos_right _ hp) hb'
    have ih := parse_digits r (10 * acc + (c.toNat - 48)) ha.2 hb'
    simp only [Lib.parseUint10]
    rw [if_pos h1, if_neg (by omega), if_neg (by omega), show acc * 10 + (c.toNat - 48) = 10 * acc + (c.toNat - 48) by omega]
    exact ih

theorem sAtoi_digits {s : Str} (h0 : s ≠ []) (h : s.length ≤ 10) (ha : s.all isDigit = true) : sAtoi (no_index (s, ())) = some ((dec s : Int), false, ()) := by
  have hp : 10 ^ s.length ≤ 10 ^ 10 := Nat.pow_le_pow_right (by omega) h
  have hu := parse_digits s 0 ha (by omega)
  have hd := dec_small h ha
  have e : Lib.atoiAll s = .ok (dec s : Int) := by
    cases s with
    | nil => exact absurd rfl h0
    | cons c r =>
      have h1 : isDigit c = true := by simp only [List.all_cons, Bool.and_eq_true] at ha; exact ha.1
      simp only [isDigit, decide_eq_true_eq] at h1
      have n1 : ¬ c.toNat = 43 := by omega
      have n2 : ¬ c.toNat = 45 := by omega
      have n3 : ¬ 9223372036854775808 ≤ dec (c :: r) := by omega
      have hu' : Lib.parseUint10 0 (c :: r) = .ok (dec (c :: r)) := hu
      simp [Lib.atoiAll, n1, n2, Lib.parseMag, hu', n3]
  unfold sAtoi
  rw [if_pos (by show s.length ≤ 281474976710656; omega)]
  simp only [e]
end Go.Proofs.YtjhcnnhkabhigaaDoor

namespace Go.Proofs.YtjhcnnhkabhigaaDoor
open Go Go.Fe

theorem strip_cases (s : Str) : ((s.takeWhile is36).length = 0 ∧ stripD s = (s.dropWhile is36, false)) ∨ ((s.takeWhile is36).length = 1 ∧ stripD s = (s.dropWhile is36, true)) ∨ (2 ≤ (s.takeWhile is36).length ∧ ∃ r, stripD s = (36 :: r, true)) := by
  match s with
  | [] => exact .inl ⟨rfl, rfl⟩
  | x :: r =>
    by_cases hx : x = 36
    · subst hx
      match r with
      | [] => exact .inr (.inl ⟨rfl, rfl⟩)
      | y :: t =>
        by_cases hy : y = 36
        · subst hy
          exact .inr (.inr ⟨by simp [is36], _, rfl⟩)
        · exact .inr (.inl ⟨by simp [is36, hy], by simp [stripD, is36, hy]⟩)
    · exact .inl ⟨by simp [is36, hx], by simp [stripD, is36, hx]⟩

theorem all_takeWhile (p : UInt8 → Bool) : ∀ s : Str, (s.takeWhile p).all p = true
  | [] => rfl
  | x :: r => by
    cases h : p x with
    | true => simp only [List.takeWhile_cons, h, if_true, List.all_cons, all_takeWhile p r, Bool.and_self]
    | false => simp [h]
theorem drop_more (s : Str) (i : Nat) (p : UInt8 → Bool) : s.drop (i + ((s.drop i).takeWhile p).length) = (s.drop i).dropWhile p := by
  rw [← drop_takeWhile p (s.drop i), List.drop_drop]
theorem len_more {s : Str} {i : Nat} (p : UInt8 → Bool) (h : i ≤ s.length) : i + ((s.drop i).takeWhile p).length ≤ s.length := by
  have := takeWhile_len p (s.drop i)
  rw [List.length_drop] at this
  omega
theorem lt_drop {s : Str} {i : Nat} (h : i ≤ s.length) : ((i : Int) < (s.length : Int)) ↔ ¬ s.drop i = [] := by
  rw [List.drop_eq_nil_iff]
  omega

/-- The row, or -1; the column, or -1. -/
def rowV (s : Str) : Int := if sdN s = [] then -1 else (dec (sdN s) : Int) - 1
def colV (s : Str) : Int := if sdL s = [] then -1 else (number (sdL s) : Int) - 1

theorem head48 {D : Str} (h : D ≠ []) : ∃ c, idx D 0 = some c ∧ decide (ofByte c = 48) = Lib.hasPrefix D [48] := by
  cases D with
  | nil => exact absurd rfl h
  | cons c r =>
    refine ⟨c, rfl, ?_⟩
    have := byteIs c 48 (by omega)
    have e : (48 : UInt8) = UInt8.ofNat 48 := rfl
    simp only [Lib.hasPrefix, List.isPrefixOf, Bool.and_true]
    by_cases hc : c = 48
    · subst hc; rfl
    · have h1 : ¬ ofByte c = 48 := fun h => hc (this.1 h)
      simp [h1, Ne.symm hc]

end Go.Proofs.YtjhcnnhkabhigaaDoor

namespace Go.Proofs.YtjhcnnhkabhigaaDoor
open Go Go.Fe

/-! ### The reference's reader, in two parts -/
/-- A division at a byte, by a loop. -/
theorem cut_parts {s : Str} {i : Nat} (h : i < s.length) : cut s 0 (i : Int) = some (s.take i) ∧ cut s ((i + 1 : Nat) : Int) (s.length : Int) = some (s.drop (i + 1)) := by
  constructor
  · have := cut_nat (xs := s) (a := 0) (b := i) (by omega) (by omega)
    simpa using this
  · rw [cut_nat (by omega) (by omega), List.take_length]

end Go.Proofs.YtjhcnnhkabhigaaDoor

namespace Go.Proofs.YtjhcnnhkabhigaaDoor
open Go Go.Fe

theorem dec_pos {D : Str} (h0 : D ≠ []) (ha : D.all isDigit = true) (hp : Lib.hasPrefix D [48] = false) : 1 ≤ dec D := by
  have key : ∀ (r : Str) (n : Nat), 1 ≤ n → 1 ≤ r.foldl (fun n c => 10 * n + (c.toNat - 48)) n := by
    intro r
    induction r with
    | nil => intro n h; exact h
    | cons c r ih => intro n h; exact ih (10 * n + (c.toNat - 48)) (by omega)
  cases D with
  | nil => exact absurd rfl h0
  | cons c r =>
    simp only [List.all_cons, Bool.and_eq_true] at ha
    have h1 := ha.1
    simp only [isDigit, decide_eq_true_eq] at h1
    have h2 : c ≠ 48 := by
      intro e
      subst e
      simp [Lib.hasPrefix, List.isPrefixOf] at hp
    have h3 : c.toNat ≠ 48 := by
      intro e
      apply h2
      have : c.toNat = (48 : UInt8).toNat := by simp; omega
      exact UInt8.toNat.inj this
    exact key r (10 * 0 + (c.toNat - 48)) (by omega)

theorem fine_facts {s : Str} (h : sdFine s = true) : (sdL s).length ≤ 7 ∧ (sdN s).length ≤ 10 ∧ Lib.hasPrefix (sdN s) [48] = false := by
  simp only [sdFine, Bool.and_eq_true, decide_eq_true_eq, Bool.not_eq_true'] at h
  exact ⟨h.2.1, h.2.2.1, h.2.2.2.1⟩

def n0 (s : Str) : Int := if sdN s = [] then 0 else (dec (sdN s) : Int) - 1
def m0 (s : Str) : Int := if sdL s = [] then 0 else (number (sdL s) : Int) - 1
def over (s : Str) : Bool := decide (1073741824 ≤ rowV s) || decide (1073741824 ≤ colV s)

theorem side_facts {s : Str} (h : sdFine s = true) : decide (rowV s < 0) = decide (sdN s = []) ∧ decide (colV s < 0) = decide (sdL s = []) ∧ mx (rowV s) 0 = n0 s ∧ mx (colV s) 0 = m0 s := by
  obtain ⟨h1, h2, h3⟩ := fine_facts h
  have hL : (sdL s).all isLetter = true := all_takeWhile _ _
  have hN : (sdN s).all isDigit = true := all_takeWhile _ _
  refine ⟨?_, ?_, ?_, ?_⟩
  · by_cases e : sdN s = []
    · simp [rowV, e]
    · have := dec_pos e hN h3
      simp only [rowV, e, if_false, decide_false, decide_eq_false_iff_not]
      omega
  · by_cases e : sdL s = []
    · simp [colV, e]
    · have := number_pos e hL
      simp only [colV, e, if_false, decide_false, decide_eq_false_iff_not]
      omega
  · by_cases e : sdN s = []
    · simp [rowV, n0, e, mx]
    · have := dec_pos e hN h3
      simp only [rowV, n0, e, if_false, mx]
      split <;> omega
  · by_cases e : sdL s = []
    · simp [colV, m0, e, mx]
    · have := number_pos e hL
      simp only [colV, m0, e, if_false, mx]
      split <;> omega

theorem values_eq {s : Str} (h : sdFine s = true) : cellref_corner__values (sdL s, sdN s, sdC s, sdR s, ()) = some (cond (over s) (0, 0, 2, ()) (n0 s, m0 s, 0, ())) := by
  obtain ⟨h1, h2, h3⟩ := fine_facts h
  have hL : (sdL s).all isLetter = true := all_takeWhile _ _
  have hN : (sdN s).all isDigit = true := all_takeWhile _ _
  have hds := dec_small h2 hN
  have wd : IntKind.i64.wrap ((dec (sdN s) : Int) - 1) = (dec (sdN s) : Int) - 1 := wrap_i64 (by omega) (by omega)
  have hcol : sdL s ≠ [] → cellref_Column (sdL s) = some (if 1073741824 < number (sdL s) then (0, 2, ()) else ((number (sdL s) : Int) - 1, 0, ())) := fun e => by
    rw [Column_eq, if_neg (by simp [e, hL]; omega)]
  have big : (1073741824 ≤ (number (sdL s) : Int) - 1) ↔ 1073741824 < number (sdL s) := by omega
  by_cases eN : sdN s = [] <;> by_cases eL : sdL s = []
  · simp [cellref_corner__values, eN, eL, over, rowV, colV, n0, m0]
  · simp only [cellref_corner__values, eN, eL, decide_true, decide_false, Bool.not_true, Bool.not_false, cond_true, cond_false, Option.bind_some, hcol eL, over, rowV, colV, n0, m0, if_true, if_false, big]
    by_cases g : 1073741824 < number (sdL s) <;> simp [g]
  · simp only [cellref_corner__values, eN, eL, decide_true, decide_false, Bool.not_true, Bool.not_false, cond_true, cond_false, Option.bind_some, sAtoi_digits eN h2 hN, wd, over, rowV, colV, n0, m0, if_true, if_false]
    by_cases g : 1073741824 ≤ (dec (sdN s) : Int) - 1 <;> simp [g]
  · simp only [cellref_corner__values, eN, eL, decide_false, Bool.not_false, cond_true, Option.bind_some, sAtoi_digits eN h2 hN, wd, hcol eL, over, rowV, colV, n0, m0, if_false, big]
    by_cases g : 1073741824 < number (sdL s) <;> by_cases g' : 1073741824 ≤ (dec (sdN s) : Int) - 1 <;> simp [g, g']

/-- Rows, and columns, in order. -/
def sortR (x : RefD) : RefD :=
  let y : RefD := if x.2.2.2.2.1 < x.2.2.1 then (x.1, x.2.1, x.2.2.2.2.1, x.2.2.2.1, x.2.2.1, x.2.2.2.2.2.1, x.2.2.2.2.2.2.2.2.1, x.2.2.2.2.2.2.2.1, x.2.2.2.2.2.2.1, x.2.2.2.2.2.2.2.2.2.1, ()) else x
  if y.2.2.2.2.2.1 < y.2.2.2.1 then (y.1, y.2.1, y.2.2.1, y.2.2.2.2.2.1, y.2.2.2.2.1, y.2.2.2.1, y.2.2.2.2.2.2.1, y.2.2.2.2.2.2.2.2.2.1, y.2.2.2.2.2.2.2.2.1, y.2.2.2.2.2.2.2.1, ()) else y

theorem Sorted_eq (x : RefD) : chanceryref2_Sorted x = some (sortR x, ()) := by
  simp only [chanceryref2_Sorted, sortR]
  by_cases h : x.2.2.2.2.1 < x.2.2.1
  · by_cases h' : x.2.2.2.2.2.1 < x.2.2.2.1 <;> simp [h, h']
  · by_cases h' : x.2.2.2.2.2.1 < x.2.2.2.1 <;> simp [h, h']
theorem ordered_eq (x : RefD) : cellref_ordered x = some (cond (decide (x.2.1 = 0)) x (sortR x), ()) := by
  simp only [cellref_ordered, sortR]
  by_cases h0 : x.2.1 = 0
  · simp [h0]
  · by_cases h : x.2.2.2.2.1 < x.2.2.1
    · by_cases h' : x.2.2.2.2.2.1 < x.2.2.2.1 <;> simp [h0, h, h']
    · by_cases h' : x.2.2.2.2.2.1 < x.2.2.2.1 <;> simp [h0, h, h']

/-- The error of a reference, as one. -/
def errD (x : RefD) : Int := refErr x.1 x.2.1 x.2.2.1 x.2.2.2.1 x.2.2.2.2.1 x.2.2.2.2.2.1 x.2.2.2.2.2.2.1 x.2.2.2.2.2.2.2.1 x.2.2.2.2.2.2.2.2.1 x.2.2.2.2.2.2.2.2.2.1
theorem CheckD (x : RefD) : cellref_Check x = some (errD x, ()) := Check_eq _ _ _ _ _ _ _ _ _ _
theorem RefErrorD (x : RefD) : chanceryref2_RefError x = some (errD x, ()) := RefError_eq _ _ _ _ _ _ _ _ _ _

end Go.Proofs.YtjhcnnhkabhigaaDoor

namespace Go.Proofs.YtjhcnnhkabhigaaDoor
open Go Go.Fe

theorem errD_spec (x : RefD) {y : RefD × (Int × Unit)} (h : y = if errD x = 0 then (x, 0, ()) else (Z0, errD x, ())) : some y = some (if errD x = 0 then (x, 0, ()) else (Z0, errD x, ())) := by rw [h]

theorem last_p (x : RefD) : (cond (!decide (errD x = 0)) (some (([], (0, (0, (0, (0, (0, (false, (false, (false, (false, ())))))))))), errD x, ())) (some (x, 0, ())) : Option (RefD × (Int × Unit))) = some (cond (decide (errD x = 0)) x Z0, errD x, ()) := by
  cases h : decide (errD x = 0) with
  | true =>
    have : errD x = 0 := of_decide_eq_true h
    simp [this]
  | false => rfl

theorem sheetOf_len (s : Str) : (sheetOf s).2.1.length ≤ s.length := by
  cases s with
  | nil => simp [sheetOf]
  | cons x r =>
    simp only [sheetOf]
    split
    · have h := quoted_len r.length r (Nat.le_refl _)
      cases hq : (quoted r).2 with
      | none => simp
      | some q =>
        have h1 := h.2 q hq
        have h2 : (Lib.trimPrefix q [33]).length ≤ q.length := by
          unfold Lib.trimPrefix
          split
          · rw [List.length_drop]; omega
          · exact Nat.le_refl _
        simp only [List.length_cons]
        omega
    · have := cutB_len 33 (x :: r)
      split
      · exact Nat.le_refl _
      · exact this.2

/-- A reference that is gone. -/
def Gone : RefD := ([], 4, 0, 0, 0, 0, false, false, false, false, ())

theorem refErr_zero {s : Str} {k r c r2 c2 : Int} {ar ac ar2 ac2 : Bool} (h1 : 0 ≤ k ∧ k ≤ 4) (h2 : nameErr s = 0) (h3 : badForm s k r c r2 c2 ar ac ar2 ac2 = false) (h4 : ins r = true) (h5 : ins c = true) (h6 : ins r2 = true) (h7 : ins c2 = true)
    (h8 : k = 0 ∨ r ≤ r2 ∧ c ≤ c2) : refErr s k r c r2 c2 ar ac ar2 ac2 = 0 := by
  unfold refErr
  rw [if_neg (by omega), if_neg (by simp [h2]), h3, h4, h5, h6, h7]
  rcases h8 with h8 | h8
  · simp [h8]
  · have e1 : ¬r2 < r := by omega
    have e2 : ¬c2 < c := by omega
    simp [e1, e2]
theorem gone_valid : errD Gone = 0 := rfl

end Go.Proofs.YtjhcnnhkabhigaaDoor

