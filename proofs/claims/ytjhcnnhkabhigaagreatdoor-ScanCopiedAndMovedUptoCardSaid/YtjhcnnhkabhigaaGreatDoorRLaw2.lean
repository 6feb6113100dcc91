import Derived.Test.YtjhcnnhkabhigaaGreatDoorRLaw1
namespace Go.Proofs.YtjhcnnhkabhigaaGreatDoor
open Go Go.Fe

/-! ### A string divided at a byte -/
def cutB (c : UInt8) : Str → Str × Str × Bool
  | [] => ([], [], false)
  | x :: r => if x = c then ([], r, true) else (x :: (cutB c r).1, (cutB c r).2.1, (cutB c r).2.2)

theorem cutB_none {c : UInt8} : ∀ {s : Str}, (∀ i : Nat, s[i]? ≠ some c) → cutB c s = (s, [], false)
  | [], _ => rfl
  | x :: r, h => by
    have h0 : x ≠ c := by simpa using h 0
    have ih := cutB_none (c := c) (s := r) (fun i => by simpa using h (i + 1))
    simp [cutB, h0, ih]
theorem cutB_some {c : UInt8} : ∀ {s : Str} {i : Nat}, s[i]? = some c → (∀ k : Nat, k < i → s[k]? ≠ some c) → cutB c s = (s.take i, s.drop (i + 1), true)
  | [], i, h, _ => by simp at h
  | x :: r, 0, h, _ => by
    have : x = c := by simpa using h
    simp [cutB, this]
  | x :: r, i + 1, h, hk => by
    have h0 : x ≠ c := by simpa using hk 0 (by omega)
    have ih := cutB_some (c := c) (s := r) (i := i) (by simpa using h) (fun k hk' => by simpa using hk (k + 1) (by omega))
    simp [cutB, h0, ih]
theorem cutB_len (c : UInt8) : ∀ s : Str, (cutB c s).1.length ≤ s.length ∧ (cutB c s).2.1.length ≤ s.length
  | [] => by simp [cutB]
  | x :: r => by
    have := cutB_len c r
    simp only [cutB]
    split <;> simp <;> omega

theorem strings_Cut_eq {s : Str} {c : UInt8} (h : s.length < 1099511627776) : strings_Cut s [c] = some ((cutB c s).1, (cutB c s).2.1, (cutB c s).2.2, ()) := by
  have hs : sIndex (s, [c], ()) = some (Lib.indexByte s c, ()) := rfl
  simp only [strings_Cut, stringslite_Cut, hs, Option.bind_some]
  by_cases hi : Lib.indexByte s c = -1
  · have hn := Lib.indexByte_none hi
    have hneg : ¬ (0 : Int) ≤ Lib.indexByte s c := by omega
    simp [hneg, cutB_none hn]
  · have hge := Lib.indexByte_ge s c
    obtain ⟨i, hi'⟩ : ∃ i : Nat, Lib.indexByte s c = i := ⟨(Lib.indexByte s c).toNat, by omega⟩
    obtain ⟨h1, h2⟩ := Lib.indexByte_some hi'
    have hil : i < s.length := by
      rcases Nat.lt_or_ge i s.length with h | h
      · exact h
      · rw [List.getElem?_eq_none h] at h1; cases h1
    have w : IntKind.i64.wrap ((i : Int) + (([c] : Str).length : Int)) = ((i + 1 : Nat) : Int) := wrap_succ (by omega)
    have c1 : cut s 0 (i : Int) = some (s.take i) := by
      have := cut_nat (xs := s) (a := 0) (b := i) (by omega) (by omega)
      simpa using this
    have c2 : cut s ((i + 1 : Nat) : Int) (s.length : Int) = some (s.drop (i + 1)) := by
      rw [cut_nat (by omega) (by omega), List.take_length]
    have hp : (0 : Int) ≤ (i : Int) := by omega
    simp only [hi', hp, decide_true, cond_true, w, c1, c2, Option.bind_some, cutB_some h1 h2]

/-! ### Names between apostrophes -/
/-- Behind the first apostrophe: the name, and what follows the last apostrophe, if it is there. -/
def quoted : Str → Str × Option Str
  | [] => ([], none)
  | [x] => if x = 39 then ([], some []) else ([x], none)
  | x :: y :: r => if x = 39 then (if y = 39 then (39 :: (quoted r).1, (quoted r).2) else ([], some (y :: r))) else (x :: (quoted (y :: r)).1, (quoted (y :: r)).2)

theorem quoted_len : ∀ (n : Nat) (s : Str), s.length ≤ n → (quoted s).1.length ≤ s.length ∧ ∀ r, (quoted s).2 = some r → r.length ≤ s.length
  | _, [], _ => by simp [quoted]
  | _, [x], _ => by simp only [quoted]; split <;> simp
  | 0, x :: y :: r, h => by simp at h
  | n + 1, x :: y :: r, h => by
    have h1 := quoted_len n r (by simp at h; omega)
    have h2 := quoted_len n (y :: r) (by simp at h ⊢; omega)
    simp only [quoted]
    split
    · split
      · refine ⟨by simp; omega, fun q hq => ?_⟩
        have := h1.2 q hq
        simp; omega
      · refine ⟨by simp, fun q hq => ?_⟩
        simp at hq
        subst hq
        simp
    · refine ⟨by simpa using h2.1, fun q hq => ?_⟩
      have := h2.2 q hq
      simp at this ⊢
      omega

theorem byte39 (c : UInt8) : (ofByte c = 39) ↔ c = 39 := by
  rw [ofByte_eq]
  constructor
  · intro h
    have : c.toNat = (39 : UInt8).toNat := by simp; omega
    exact UInt8.toNat.inj this
  · intro h; rw [h]; rfl
theorem byteIs (c : UInt8) (n : Nat) (h : n < 256) : (ofByte c = (n : Int)) ↔ c = UInt8.ofNat n := by
  rw [ofByte_eq]
  constructor
  · intro hc
    have : c.toNat = (UInt8.ofNat n).toNat := by rw [ofNat_toNat h]; omega
    exact UInt8.toNat.inj this
  · intro hc; rw [hc, ofNat_toNat h]

theorem drop_eq {s : Str} {i : Nat} {x : UInt8} {r : Str} (h : s.drop i = x :: r) : i < s.length ∧ s[i]? = some x ∧ s.drop (i + 1) = r := by
  have hl : i < s.length := by
    rcases Nat.lt_or_ge i s.length with h' | h'
    · exact h'
    · rw [List.drop_eq_nil_of_le h'] at h; cases h
  rw [List.drop_eq_getElem_cons hl] at h
  cases h
  exact ⟨hl, List.getElem?_eq_getElem hl, rfl⟩

/-- What the program makes of a name between apostrophes. -/
def sheetEnd (t : Str) (q : Str × Option Str) : Unit ⊕ (Str × (Str × (Bool × Unit))) :=
  match q.2 with
  | none => .inl ()
  | some r => .inr (t ++ q.1, Lib.trimPrefix r [33], Lib.hasPrefix r [33] && decide (0 < (t ++ q.1).length), ())

theorem bytesStr_strBytes (s : Str) : bytesStr (s.map fun c => (c.toNat : Int)) = s := by
  simp only [bytesStr, List.map_map]
  have : (byteOfInt ∘ fun c : UInt8 => (c.toNat : Int)) = id := by
    funext c
    simp [byteOfInt]
  rw [this, List.map_id]

theorem sheet_loop {s : Str} (hs : s.length ≤ 500) : ∀ (n : Nat) (rem t : Str) (i : Nat), rem.length ≤ n → s.drop i = rem → i ≤ s.length → t.length ≤ i →
    Halts (cellref_sheet_l1 s) n ((), (i : Int), ((), ((), ())), t.map (fun c => (c.toNat : Int)), ()) (sheetEnd t (quoted rem))
  | n, [], t, i, hn, hd, hi, ht => by
    have hl : s.length ≤ i := by
      have := congrArg List.length hd
      simp at this
      omega
    refine .done ?_
    have hg : ¬ ((i : Int) < (s.length : Int)) := by omega
    simp only [cellref_sheet_l1, hg, decide_false, cond_false]
    rfl
  | 0, x :: r, t, i, hn, hd, hi, ht => by simp at hn
  | n + 1, x :: r, t, i, hn, hd, hi, ht => by
    obtain ⟨hl, hx, hr⟩ := drop_eq hd
    have hg : ((i : Int) < (s.length : Int)) := by omega
    have hix : idx s (i : Int) = some x := by rw [idx_nat, hx]
    have w1 := wrap_succ (i := i) (by omega)
    have w2 := wrap_succ (i := i + 1) (by omega)
    have hrl : r.length ≤ s.length := by rw [← hr]; simp
    have wr : ∀ (b : Nat), _strings_Builder__WriteByte (b : Int) (t.map fun c => (c.toNat : Int)) = some (false, (), ((), ((), ())), (t.map fun c => (c.toNat : Int)) ++ [(b : Int)], ()) := fun b => by
      simp only [_strings_Builder__WriteByte]
      rw [cat_ok (by simp; omega)]
      rfl
    have tl : ∀ c : UInt8, (t.map fun c => (c.toNat : Int)) ++ [(c.toNat : Int)] = (t ++ [c]).map fun c => (c.toNat : Int) := fun c => by simp
    by_cases h39 : x = 39
    · subst h39
      have a39 : ofByte (39 : UInt8) = 39 := rfl
      match r, hr, hn, hrl, hd with
      | [], hr, hn, hrl, hd =>
        have hl2 : s.length ≤ i + 1 := by
          have := congrArg List.length hr
          simp at this
          omega
        have hg2 : ¬ (((i + 1 : Nat) : Int) < (s.length : Int)) := by omega
        have c2 : cut s ((i + 1 : Nat) : Int) (s.length : Int) = some [] := by
          rw [cut_nat (by omega) (by omega), List.take_length, hr]
        have cp : sCutPrefix (([] : Str), [33], ()) = some ([], false, ()) := rfl
        refine .done ?_
        simp only [cellref_sheet_l1, hg, decide_true, cond_true, hix, Option.bind_some, a39, Bool.not_true, cond_false, w1, hg2, decide_false, c2, cp]
        rw [chk_of (by simp [lim]; omega)]
        simp only [Option.bind_some, bytesStr_strBytes]
        simp [sheetEnd, quoted, Lib.trimPrefix, Lib.hasPrefix]
      | y :: r', hr, hn, hrl, hd =>
        obtain ⟨hl2, hy, hr'⟩ := drop_eq hr
        have hg2 : (((i + 1 : Nat) : Int) < (s.length : Int)) := by omega
        have hiy : idx s ((i + 1 : Nat) : Int) = some y := by rw [idx_nat, hy]
        by_cases hy39 : y = 39
        · subst hy39
          have ih := sheet_loop hs n r' (t ++ [39]) (i + 2) (by simp at hn; omega) hr' (by omega) (by simp; omega)
          have e : sheetEnd t (quoted (39 :: 39 :: r')) = sheetEnd (t ++ [39]) (quoted r') := by
            simp only [quoted, if_true, sheetEnd]
            cases (quoted r').2 <;> simp
          rw [e]
          refine .step ?_ ih
          have w39 := wr 39
          rw [show ((39 : Nat) : Int) = 39 from rfl] at w39
          have t39 := tl 39
          rw [show (((39 : UInt8).toNat : Nat) : Int) = 39 from rfl] at t39
          simp only [cellref_sheet_l1, hg, decide_true, cond_true, hix, Option.bind_some, a39, Bool.not_true, cond_false, w1, hg2, hiy, w39, w2, t39]
        · have ny : ¬ (ofByte y = 39) := by rw [byte39]; exact hy39
          have c2 : cut s ((i + 1 : Nat) : Int) (s.length : Int) = some (y :: r') := by
            rw [cut_nat (by omega) (by omega), List.take_length, hr]
          refine .done ?_
          simp only [cellref_sheet_l1, hg, decide_true, cond_true, hix, Option.bind_some, a39, Bool.not_true, cond_false, w1, hg2, hiy, ny, decide_false, c2, sCutPrefix]
          rw [chk_of (by simp [lim]; omega)]
          simp only [Option.bind_some, bytesStr_strBytes, _strings_Builder__Len]
          cases hp : Lib.hasPrefix (y :: r') [33] <;> simp [sheetEnd, quoted, hy39, hp]
    · have nx : ¬ (ofByte x = 39) := by rw [byte39]; exact h39
      have ih := sheet_loop hs n r (t ++ [x]) (i + 1) (by simp at hn; omega) hr (by omega) (by simp; omega)
      have e : sheetEnd t (quoted (x :: r)) = sheetEnd (t ++ [x]) (quoted r) := by
        match r with
        | [] => simp [quoted, h39, sheetEnd]
        | y :: r' =>
          simp only [quoted, h39, if_false, sheetEnd]
          cases (quoted (y :: r')).2 <;> simp
      rw [e]
      refine .step ?_ ih
      have wx : _strings_Builder__WriteByte (ofByte x) (t.map fun c => (c.toNat : Int)) = some (false, (), ((), ((), ())), (t ++ [x]).map (fun c => (c.toNat : Int)), ()) := by rw [← tl x]; exact wr x.toNat
      simp only [cellref_sheet_l1, hg, decide_true, cond_true, hix, Option.bind_some, nx, decide_false, Bool.not_false, wx, w1]

/-- The sheet's name, the rest, and whether the form is right. -/
def sheetOf (s : Str) : Str × Str × Bool :=
  match s with
  | [] => ([], [], true)
  | x :: r => if x = 39 then (match (quoted r).2 with
      | none => ([], [], false)
      | some q => ((quoted r).1, Lib.trimPrefix q [33], Lib.hasPrefix q [33] && decide (0 < (quoted r).1.length)))
    else if (cutB 33 s).2.2 = false then ([], s, true) else ((cutB 33 s).1, (cutB 33 s).2.1, isPlain (cutB 33 s).1)

theorem sheet_eq {s : Str} (hs : s.length ≤ 500) (hne : s ≠ [35, 82, 69, 70, 33]) : cellref_sheet s = some ((sheetOf s).1, (sheetOf s).2.1, (sheetOf s).2.2, ()) := by
  have hcut := strings_Cut_eq (s := s) (c := 33) (by omega)
  have hlen := cutB_len 33 s
  cases s with
  | nil => simp [cellref_sheet, sHasPrefix, Lib.hasPrefix, hcut, sheetOf, cutB]
  | cons x r =>
    by_cases h39 : x = 39
    · subst h39
      have := sheet_loop hs r.length r [] 1 (Nat.le_refl _) rfl (by simp) (by simp)
      have hl := this.loop (by simp at hs; omega)
      rw [show ((1 : Nat) : Int) = 1 from rfl] at hl
      simp only [List.map_nil] at hl
      have hp : sHasPrefix ((39 : UInt8) :: r, [39], ()) = some (true, ()) := by simp [sHasPrefix, Lib.hasPrefix]
      simp only [cellref_sheet, hp, Option.bind_some, Bool.not_true, cond_false, hl]
      simp only [sheetEnd, sheetOf, if_true, List.nil_append]
      cases (quoted r).2 <;> rfl
    · have hp : sHasPrefix (x :: r, [39], ()) = some (false, ()) := by simp [sHasPrefix, Lib.hasPrefix, List.isPrefixOf, Ne.symm h39]
      have hpl := Plain_eq (s := (cutB 33 (x :: r)).1) (by omega)
      simp only [cellref_sheet, hp, Option.bind_some, Bool.not_false, cond_true, hcut, hpl, hne, decide_false]
      simp only [sheetOf, h39, if_false]
      cases (cutB 33 (x :: r)).2.2 <;> simp

end Go.Proofs.YtjhcnnhkabhigaaGreatDoor

namespace Go.Proofs.YtjhcnnhkabhigaaGreatDoor
open Go Go.Fe

/-! ### One side of a reference -/
def stripD : Str → Str × Bool
  | [] => ([], false)
  | x :: r => if x = 36 then (r, true) else (x :: r, false)
theorem stripD_eq (s : Str) : sCutPrefix (no_index (s, [36], ())) = some ((stripD s).1, (stripD s).2, ()) := by
  cases s with
  | nil => rfl
  | cons x r =>
    by_cases h : x = 36
    · subst h
      simp [sCutPrefix, stripD, Lib.trimPrefix, Lib.hasPrefix, List.isPrefixOf]
    · simp [sCutPrefix, stripD, Lib.trimPrefix, Lib.hasPrefix, List.isPrefixOf, h, Ne.symm h]
theorem stripD_len (s : Str) : (stripD s).1.length ≤ s.length := by
  cases s with
  | nil => simp [stripD]
  | cons x r =>
    simp only [stripD]
    split <;> simp

theorem dropWhile_len (p : UInt8 → Bool) (s : Str) : (s.dropWhile p).length ≤ s.length := by
  have := congrArg List.length (List.takeWhile_append_dropWhile (p := p) (l := s))
  rw [List.length_append] at this
  omega
theorem takeWhile_len (p : UInt8 → Bool) (s : Str) : (s.takeWhile p).length ≤ s.length := by
  have := congrArg List.length (List.takeWhile_append_dropWhile (p := p) (l := s))
  rw [List.length_append] at this
  omega
theorem drop_takeWhile (p : UInt8 → Bool) : ∀ s : Str, s.drop (s.takeWhile p).length = s.dropWhile p
  | [] => rfl
  | x :: r => by
    cases h : p x with
    | true => simp [h, drop_takeWhile p r]
    | false => simp [h]

/-- The letters, what follows them, the row's mark and what follows it. -/
def sdL (s : Str) : Str := (stripD s).1.takeWhile isLetter
def sdU (s : Str) : Str := (stripD s).1.dropWhile isLetter
def sdE (s : Str) : Str × Bool := if sdL s = [] then (sdU s, (stripD s).2) else stripD (sdU s)
def sdN (s : Str) : Str := (sdE s).1.takeWhile isDigit
def sdV (s : Str) : Str := (sdE s).1.dropWhile isDigit
def sdC (s : Str) : Bool := !decide (sdL s = []) && (stripD s).2
def sdR (s : Str) : Bool := (sdE s).2
def sdFine (s : Str) : Bool := decide (sdV s = []) && (decide ((sdL s).length ≤ 7) && (decide ((sdN s).length ≤ 10) && (!Lib.hasPrefix (sdN s) [48] && (!decide (sdN s = []) || (!decide (sdL s = []) && !sdR s)))))

theorem sd_len (s : Str) : (sdL s).length ≤ s.length ∧ (sdU s).length ≤ s.length ∧ (sdE s).1.length ≤ s.length ∧ (sdN s).length ≤ s.length := by
  have h1 := stripD_len s
  have h2 := takeWhile_len isLetter (stripD s).1
  have h3 := dropWhile_len isLetter (stripD s).1
  have h4 := stripD_len (sdU s)
  have h5 : (sdU s).length ≤ s.length := Nat.le_trans h3 h1
  have h6 : (sdE s).1.length ≤ s.length := by
    unfold sdE
    split
    · exact h5
    · exact Nat.le_trans h4 h5
  exact ⟨Nat.le_trans h2 h1, h5, h6, Nat.le_trans (takeWhile_len _ _) h6⟩

theorem place_loop1 (z : Str × (Str × (Bool × (Bool × Unit)))) (q : Str × (Bool × (Bool × Unit))) : ∀ (s acc : Str), acc.length + s.length ≤ 1000 →
    Halts cellref_place_l1 s.length (s, (), (), z, (acc, q), ()) (s.dropWhile isLetter, (), (), z, (acc ++ s.takeWhile isLetter, q), ())
  | [], acc, h => .done (by simp [cellref_place_l1])
  | c :: r, acc, h => by
    have i0 : idx (c :: r) 0 = some c := rfl
    have e : decide ((c :: r : Str) = []) = false := by simp
    cases hl : isLetter c with
    | false =>
      refine .done ?_
      simp only [cellref_place_l1, e, Bool.not_false, cond_true, i0, Option.bind_some, letter_eq, hl, cond_false]
      simp [hl]
    | true =>
      have c1 : cut (c :: r) 0 1 = some [c] := by
        have := cut_nat (xs := c :: r) (a := 0) (b := 1) (by omega) (by simp)
        simpa using this
      have c2 : cut (c :: r) 1 ((c :: r).length : Int) = some r := by
        have := cut_nat (xs := c :: r) (a := 1) (b := (c :: r).length) (by simp) (by simp)
        simpa using this
      have ih := place_loop1 z q r (acc ++ [c]) (by simp at h ⊢; omega)
      have e1 : (c :: r).dropWhile isLetter = r.dropWhile isLetter := by simp [hl]
      have e2 : acc ++ (c :: r).takeWhile isLetter = acc ++ [c] ++ r.takeWhile isLetter := by simp [hl]
      rw [e1, e2]
      refine .step ?_ ih
      have c3 : cat acc [c] = some (acc ++ [c]) := cat_ok (by simp at h ⊢; omega)
      simp only [cellref_place_l1, e, Bool.not_false, cond_true, i0, Option.bind_some, letter_eq, hl, c1, c2, c3]
theorem place_loop2 (z : Str × (Str × (Bool × (Bool × Unit)))) (a : Str) (q : Bool × (Bool × Unit)) : ∀ (s acc : Str), acc.length + s.length ≤ 1000 →
    Halts cellref_place_l2 s.length (s, (), (), z, (a, acc, q), ()) (s.dropWhile isDigit, (), (), z, (a, acc ++ s.takeWhile isDigit, q), ())
  | [], acc, h => .done (by simp [cellref_place_l2])
  | c :: r, acc, h => by
    have i0 : idx (c :: r) 0 = some c := rfl
    have e : decide ((c :: r : Str) = []) = false := by simp
    cases hl : isDigit c with
    | false =>
      refine .done ?_
      simp only [cellref_place_l2, e, Bool.not_false, cond_true, i0, Option.bind_some, digit_eq, hl, cond_false]
      simp [hl]
    | true =>
      have c1 : cut (c :: r) 0 1 = some [c] := by
        have := cut_nat (xs := c :: r) (a := 0) (b := 1) (by omega) (by simp)
        simpa using this
      have c2 : cut (c :: r) 1 ((c :: r).length : Int) = some r := by
        have := cut_nat (xs := c :: r) (a := 1) (b := (c :: r).length) (by simp) (by simp)
        simpa using this
      have ih := place_loop2 z a q r (acc ++ [c]) (by simp at h ⊢; omega)
      have e1 : (c :: r).dropWhile isDigit = r.dropWhile isDigit := by simp [hl]
      have e2 : acc ++ (c :: r).takeWhile isDigit = acc ++ [c] ++ r.takeWhile isDigit := by simp [hl]
      rw [e1, e2]
      refine .step ?_ ih
      have c3 : cat acc [c] = some (acc ++ [c]) := cat_ok (by simp at h ⊢; omega)
      simp only [cellref_place_l2, e, Bool.not_false, cond_true, i0, Option.bind_some, digit_eq, hl, c1, c2, c3]

theorem place_eq {s : Str} (hs : s.length ≤ 500) : cellref_place s = some ((sdL s, sdN s, sdC s, sdR s, ()), sdFine s, ()) := by
  have hl := sd_len s
  have h1 := stripD_len s
  have l1 := (place_loop1 ([], ([], (false, (false, ())))) ([], ((stripD s).2, (false, ()))) (stripD s).1 [] (by simp; omega)).loop (by omega)
  simp only [List.nil_append] at l1
  have l1' : loop cellref_place_l1 ((stripD s).1, (), (), ([], ([], (false, (false, ())))), ([], ([], ((stripD s).2, (false, ())))), ()) = some (sdU s, (), (), ([], ([], (false, (false, ())))), (sdL s, ([], ((stripD s).2, (false, ())))), ()) := l1
  have mid : (cond (decide (sdL s = []))
      (some (sdU s, (), (), ([], ([], (false, (false, ())))), (sdL s, ([], (false, ((stripD s).2, ())))), ()))
      (cond (!decide (sdU s = []))
      (some ((stripD (sdU s)).1, (), (), ([], ([], (false, (false, ())))), (sdL s, ([], ((stripD s).2, ((stripD (sdU s)).2, ())))), ()))
      (some (sdU s, (), (), ([], ([], (false, (false, ())))), (sdL s, ([], ((stripD s).2, (false, ())))), ()))) : Option (Str × (Unit × (Unit × ((Str × (Str × (Bool × (Bool × Unit)))) × ((Str × (Str × (Bool × (Bool × Unit)))) × Unit)))))) =
      some ((sdE s).1, (), (), ([], ([], (false, (false, ())))), (sdL s, ([], (sdC s, (sdR s, ())))), ()) := by
    by_cases e : sdL s = []
    · simp [e, sdE, sdC, sdR]
    · by_cases e' : sdU s = []
      · simp [e, e', sdE, sdC, sdR, stripD]
      · simp only [e, e', decide_false, cond_false, Bool.not_false, cond_true, sdE, if_false, sdC, sdR, Bool.true_and]
  have l2 := (place_loop2 ([], ([], (false, (false, ())))) (sdL s) (sdC s, (sdR s, ())) (sdE s).1 [] (by simp; omega)).loop (by omega)
  simp only [List.nil_append] at l2
  have l2' : loop cellref_place_l2 ((sdE s).1, (), (), ([], ([], (false, (false, ())))), (sdL s, ([], (sdC s, (sdR s, ())))), ()) = some (sdV s, (), (), ([], ([], (false, (false, ())))), (sdL s, (sdN s, (sdC s, (sdR s, ())))), ()) := l2
  simp only [cellref_place, stripD_eq, Option.bind_some, l1']
  rw [mid]
  simp only [Option.bind_some, l2', sHasPrefix]
  have b7 : decide (((sdL s).length : Int) ≤ 7) = decide ((sdL s).length ≤ 7) := by simp only [decide_eq_decide]; omega
  have b10 : decide (((sdN s).length : Int) ≤ 10) = decide ((sdN s).length ≤ 10) := by simp only [decide_eq_decide]; omega
  rw [b7, b10]
  simp only [sdFine]
  cases decide ((sdL s).length ≤ 7) <;> cases decide ((sdN s).length ≤ 10) <;> cases Lib.hasPrefix (sdN s) [48] <;> cases decide (sdN s = []) <;> cases decide (sdL s = []) <;> cases decide (sdV s = []) <;> simp
end Go.Proofs.YtjhcnnhkabhigaaGreatDoor

namespace Go.Proofs.YtjhcnnhkabhigaaGreatDoor
open Go Go.Fe

/-! ### The reference's sides -/
abbrev TakeS := Unit × (Unit × (Unit × ((Int × Unit) × ((Str × Unit) × Unit))))
abbrev TakeR := Unit × (Unit × ((Int × Unit) × ((Str × Unit) × Unit)))
/-- The loop of a closure that takes bytes. -/
theorem take_loop {f : TakeS → Option (TakeS ⊕ TakeR)} {s : Str} {p : UInt8 → Bool}
    (hf : ∀ i : Nat, f ((), (), (), ((i : Int), ()), (s, ()), ()) = some (if (s[i]?).any p = true then .inl ((), (), (), (IntKind.i64.wrap ((i : Int) + 1), ()), (s, ()), ()) else .inr ((), (), ((i : Int), ()), (s, ()), ()))) (hs : s.length < 1000000) :
    ∀ (r : Str) (i : Nat), s.drop i = r → i ≤ s.length → Halts f r.length ((), (), (), ((i : Int), ()), (s, ()), ()) ((), (), (((i + (r.takeWhile p).length : Nat) : Int), ()), (s, ()), ())
  | [], i, hd, hi => by
    have hl : s.length ≤ i := by
      have := congrArg List.length hd
      simp at this
      omega
    refine .done ?_
    rw [hf, List.getElem?_eq_none hl]
    simp
  | x :: r, i, hd, hi => by
    obtain ⟨hl, hx, hr⟩ := drop_eq hd
    cases hp : p x with
    | false =>
      refine .done ?_
      rw [hf, hx]
      simp [hp]
    | true =>
      have ih := take_loop hf hs r (i + 1) hr (by omega)
      have e : i + ((x :: r).takeWhile p).length = i + 1 + (r.takeWhile p).length := by simp [hp]; omega
      rw [e]
      refine .step ?_ ih
      rw [hf, hx, wrap_succ (by omega)]
      simp [hp]

theorem cut_take {s : Str} {p : UInt8 → Bool} {i : Nat} (hi : i ≤ s.length) : cut s (i : Int) ((i + ((s.drop i).takeWhile p).length : Nat) : Int) = some ((s.drop i).takeWhile p) := by
  have h1 := takeWhile_len p (s.drop i)
  rw [List.length_drop] at h1
  rw [cut_nat (by omega) (by omega), List.drop_take]
  congr 1
  rw [Nat.add_sub_cancel_left]
  have : ∀ l : Str, l.take (l.takeWhile p).length = l.takeWhile p := by
    intro l
    induction l with
    | nil => rfl
    | cons x r ih =>
      cases h : p x with
      | true => simp [h, ih]
      | false => simp [h]
  exact this _

def is36 (c : UInt8) : Bool := decide (c = 36)
theorem is36_eq (c : UInt8) : decide (ofByte c = 36) = is36 c := by
  have := byteIs c 36 (by omega)
  simp only [is36, decide_eq_decide]
  exact this

theorem take1 {s : Str} {i : Nat} (hi : i ≤ s.length) (hs : s.length < 1000000) : chanceryref2_readSide_1_readSide_2 (i : Int) s = some ((s.drop i).takeWhile is36, (), (), (((i + ((s.drop i).takeWhile is36).length : Nat) : Int), ()), (s, ()), ()) := by
  have h := take_loop (f := chanceryref2_readSide_1_readSide_2_l1) (s := s) (p := is36) (fun j => by
    by_cases hj : j < s.length
    · have hg : ((j : Int) < (s.length : Int)) := by omega
      simp only [chanceryref2_readSide_1_readSide_2_l1, hg, decide_true, cond_true, idx_lt hj, Option.bind_some, chanceryref2_readSide_2, is36_eq, List.getElem?_eq_getElem hj, Option.any_some]
      cases is36 s[j] <;> rfl
    · have hg : ¬ ((j : Int) < (s.length : Int)) := by omega
      simp only [chanceryref2_readSide_1_readSide_2_l1, hg, decide_false, cond_false, Option.bind_some, List.getElem?_eq_none (Nat.le_of_not_lt hj), Option.any_none]
      rfl) hs (s.drop i) i rfl hi
  simp only [chanceryref2_readSide_1_readSide_2]
  rw [h.loop (by rw [List.length_drop]; omega)]
  simp only [Option.bind_some, cut_take hi]
theorem take2 {s : Str} {i : Nat} (hi : i ≤ s.length) (hs : s.length < 1000000) : chanceryref2_readSide_1_Letter (i : Int) s = some ((s.drop i).takeWhile isLetter, (), (), (((i + ((s.drop i).takeWhile isLetter).length : Nat) : Int), ()), (s, ()), ()) := by
  have h := take_loop (f := chanceryref2_readSide_1_Letter_l1) (s := s) (p := isLetter) (fun j => by
    by_cases hj : j < s.length
    · have hg : ((j : Int) < (s.length : Int)) := by omega
      simp only [chanceryref2_readSide_1_Letter_l1, hg, decide_true, cond_true, idx_lt hj, Option.bind_some, rletter_eq, List.getElem?_eq_getElem hj, Option.any_some]
      cases isLetter s[j] <;> rfl
    · have hg : ¬ ((j : Int) < (s.length : Int)) := by omega
      simp only [chanceryref2_readSide_1_Letter_l1, hg, decide_false, cond_false, Option.bind_some, List.getElem?_eq_none (Nat.le_of_not_lt hj), Option.any_none]
      rfl) hs (s.drop i) i rfl hi
  simp only [chanceryref2_readSide_1_Letter]
  rw [h.loop (by rw [List.length_drop]; omega)]
  simp only [Option.bind_some, cut_take hi]
theorem take3 {s : Str} {i : Nat} (hi : i ≤ s.length) (hs : s.length < 1000000) : chanceryref2_readSide_1_Digit (i : Int) s = some ((s.drop i).takeWhile isDigit, (), (), (((i + ((s.drop i).takeWhile isDigit).length : Nat) : Int), ()), (s, ()), ()) := by
  have h := take_loop (f := chanceryref2_readSide_1_Digit_l1) (s := s) (p := isDigit) (fun j => by
    by_cases hj : j < s.length
    · have hg : ((j : Int) < (s.length : Int)) := by omega
      simp only [chanceryref2_readSide_1_Digit_l1, hg, decide_true, cond_true, idx_lt hj, Option.bind_some, rdigit_eq, List.getElem?_eq_getElem hj, Option.any_some]
      cases isDigit s[j] <;> rfl
    · have hg : ¬ ((j : Int) < (s.length : Int)) := by omega
      simp only [chanceryref2_readSide_1_Digit_l1, hg, decide_false, cond_false, Option.bind_some, List.getElem?_eq_none (Nat.le_of_not_lt hj), Option.any_none]
      rfl) hs (s.drop i) i rfl hi
  simp only [chanceryref2_readSide_1_Digit]
  rw [h.loop (by rw [List.length_drop]; omega)]
  simp only [Option.bind_some, cut_take hi]
theorem take4 {s : Str} {i : Nat} (hi : i ≤ s.length) (hs : s.length < 1000000) : chanceryref2_readSide_1_readSide_3 (i : Int) s = some ((s.drop i).takeWhile is36, (), (), (((i + ((s.drop i).takeWhile is36).length : Nat) : Int), ()), (s, ()), ()) := by
  have h := take_loop (f := chanceryref2_readSide_1_readSide_3_l1) (s := s) (p := is36) (fun j => by
    by_cases hj : j < s.length
    · have hg : ((j : Int) < (s.length : Int)) := by omega
      simp only [chanceryref2_readSide_1_readSide_3_l1, hg, decide_true, cond_true, idx_lt hj, Option.bind_some, chanceryref2_readSide_3, is36_eq, List.getElem?_eq_getElem hj, Option.any_some]
      cases is36 s[j] <;> rfl
    · have hg : ¬ ((j : Int) < (s.length : Int)) := by omega
      simp only [chanceryref2_readSide_1_readSide_3_l1, hg, decide_false, cond_false, Option.bind_some, List.getElem?_eq_none (Nat.le_of_not_lt hj), Option.any_none]
      rfl) hs (s.drop i) i rfl hi
  simp only [chanceryref2_readSide_1_readSide_3]
  rw [h.loop (by rw [List.length_drop]; omega)]
  simp only [Option.bind_some, cut_take hi]

/-! ### Decimal numerals -/
def dec (s : Str) : Nat := s.foldl (fun n c => 10 * n + (c.toNat - 48)) 0
theorem dec_snoc (s : Str) (c : UInt8) : dec (s ++ [c]) = 10 * dec s + (c.toNat - 48) := by simp [dec]
theorem dec_lt : ∀ (k : Nat) (s : Str), s.length = k → s.all isDigit = true → dec s + 1 ≤ 10 ^ k
  | 0, s, h, _ => by
    have : s = [] := List.eq_nil_of_length_eq_zero h
    subst this
    simp [dec]
  | k + 1, s, h, ha => by
    obtain ⟨t, c, rfl⟩ : ∃ t c, s = t ++ [c] := ⟨s.dropLast, s.getLast (by intro e; subst e; simp at h), (List.dropLast_concat_getLast _).symm⟩
    simp only [List.all_append, Bool.and_eq_true] at ha
    have h1 := dec_lt k t (by simpa using h) ha.1
    have h2 : isDigit c = true := by simpa using ha.2
    simp only [isDigit, decide_eq_true_eq] at h2
    rw [dec_snoc, Nat.pow_succ]
    omega
theorem dec_small {s : Str} (h : s.length ≤ 10) (ha : s.all isDigit = true) : dec s < 10000000000 := by
  have h1 := dec_lt _ s rfl ha
  have h2 : 10 ^ s.length ≤ 10 ^ 10 := Nat.pow_le_pow_right (by omega) h
  omega
theorem dec_take {s : Str} {i : Nat} (h : i < s.length) : dec (s.take (i + 1)) = 10 * dec (s.take i) + (s[i].toNat - 48) := by
  rw [List.take_succ_eq_append_getElem h, dec_snoc]

theorem parse_digits : ∀ (s : Str) (acc : Nat), s.all isDigit = true → (acc + 1) * 10 ^ s.length ≤ 10000000000 → Lib.parseUint10 acc s = .ok (s.foldl (fun n c => 10 * n + (c.toNat - 48)) acc)
  | [], acc, _, _ => rfl
  | c :: r, acc, ha, hb => by
    simp only [List.all_cons, Bool.and_eq_true] at ha
    have h1 := ha.1
    simp only [isDigit, decide_eq_true_eq] at h1
    have hp : 1 ≤ 10 ^ r.length := Nat.pow_pos (by omega)
    have hb' : (10 * acc + (c.toNat - 48) + 1) * 10 ^ r.length ≤ 10000000000 := by
      rw [List.length_cons, Nat.pow_succ] at hb
      have : (10 * acc + (c.toNat - 48) + 1) * 10 ^ r.length ≤ ((acc + 1) * 10) * 10 ^ r.length := Nat.mul_le_mul_right _ (by omega)
      have e : (acc + 1) * (10 ^ r.length * 10) = ((acc + 1) * 10) * 10 ^ r.length := by rw [Nat.mul_comm (10 ^ r.length) 10, Nat.mul_assoc]
      omega
    have hacc : 10 * acc + (c.toNat - 48) + 1 ≤ 10000000000 := Nat.le_trans (Nat.le_mul_of_pos_right _ hp) hb'
    have ih := parse_digits r (10 * acc + (c.toNat - 48)) ha.2 hb'
    simp only [Lib.parseUint10]
    rw [if_pos h1, if_neg (by omega), if_neg (by omega), show acc * 10 + (c.toNat - 48) = 10 * acc + (c.toNat - 48) by omega]
    exact ih

theorem sAtoi_digits {s : Str} (h0 : s ≠ []) (h : s.length ≤ 10) (ha : s.all isDigit = true) : sAtoi (no_index (s, ())) = some ((dec s : Int), false, ()) := by
  have hp : 10 ^ s.length ≤ 10 ^ 10 := Nat.pow_le_pow_right (by omega) h
  have hu := parse_digits s 0 ha (by omega)
  have hd := dec_small h ha
  have e : Lib.atoiAll s = .ok (dec s : Int) := by
    cases s with
    | nil => exact absurd rfl h0
    | cons c r =>
      have h1 : isDigit c = true := by simp only [List.all_cons, Bool.and_eq_true] at ha; exact ha.1
      simp only [isDigit, decide_eq_true_eq] at h1
      have n1 : ¬ c.toNat = 43 := by omega
      have n2 : ¬ c.toNat = 45 := by omega
      have n3 : ¬ 9223372036854775808 ≤ dec (c :: r) := by omega
      have hu' : Lib.parseUint10 0 (c :: r) = .ok (dec (c :: r)) := hu
      simp [Lib.atoiAll, n1, n2, Lib.parseMag, hu', n3]
  unfold sAtoi
  rw [if_pos (by show s.length ≤ 281474976710656; omega)]
  simp only [e]
end Go.Proofs.YtjhcnnhkabhigaaGreatDoor

namespace Go.Proofs.YtjhcnnhkabhigaaGreatDoor
open Go Go.Fe

theorem strip_cases (s : Str) : ((s.takeWhile is36).length = 0 ∧ stripD s = (s.dropWhile is36, false)) ∨ ((s.takeWhile is36).length = 1 ∧ stripD s = (s.dropWhile is36, true)) ∨ (2 ≤ (s.takeWhile is36).length ∧ ∃ r, stripD s = (36 :: r, true)) := by
  match s with
  | [] => exact .inl ⟨rfl, rfl⟩
  | x :: r =>
    by_cases hx : x = 36
    · subst hx
      match r with
      | [] => exact .inr (.inl ⟨rfl, rfl⟩)
      | y :: t =>
        by_cases hy : y = 36
        · subst hy
          exact .inr (.inr ⟨by simp [is36], _, rfl⟩)
        · exact .inr (.inl ⟨by simp [is36, hy], by simp [stripD, is36, hy]⟩)
    · exact .inl ⟨by simp [is36, hx], by simp [stripD, is36, hx]⟩

theorem all_takeWhile (p : UInt8 → Bool) : ∀ s : Str, (s.takeWhile p).all p = true
  | [] => rfl
  | x :: r => by
    cases h : p x with
    | true => simp only [List.takeWhile_cons, h, if_true, List.all_cons, all_takeWhile p r, Bool.and_self]
    | false => simp [h]
theorem drop_more (s : Str) (i : Nat) (p : UInt8 → Bool) : s.drop (i + ((s.drop i).takeWhile p).length) = (s.drop i).dropWhile p := by
  rw [← drop_takeWhile p (s.drop i), List.drop_drop]
theorem len_more {s : Str} {i : Nat} (p : UInt8 → Bool) (h : i ≤ s.length) : i + ((s.drop i).takeWhile p).length ≤ s.length := by
  have := takeWhile_len p (s.drop i)
  rw [List.length_drop] at this
  omega
theorem lt_drop {s : Str} {i : Nat} (h : i ≤ s.length) : ((i : Int) < (s.length : Int)) ↔ ¬ s.drop i = [] := by
  rw [List.drop_eq_nil_iff]
  omega

theorem dec_loop {D : Str} (hD : D.length ≤ 10) (ha : D.all isDigit = true) (z9 : Unit × (Unit × (Unit × (Unit × (Str × ((Str × Unit) × ((Int × (Int × (Bool × (Bool × Unit)))) × ((Int × (Int × (Bool × (Bool × Unit)))) × ((Int × Unit) × Unit))))))))) (hz : z9.2.2.2.2.1 = D)
    (u v : Int × (Int × (Bool × (Bool × Unit)))) : loop (chanceryref2_readSide_l1 z9) ((), (), 0, 0, u, v, ()) = some ((), (), (dec D : Int), u, v, ()) := by
  have hall := List.all_eq_true.1 ha
  have key : ∀ i, i < D.length → chanceryref2_readSide_l1 z9 ((), (), (dec (D.take i) : Int), (i : Int), u, v, ()) = some (.inl ((), (), (dec (D.take (i + 1)) : Int), ((i + 1 : Nat) : Int), u, v, ())) := fun i hi => by
    have hg : ((i : Int) < (D.length : Int)) := by omega
    have h1 : isDigit D[i] = true := hall _ (List.getElem_mem hi)
    simp only [isDigit, decide_eq_true_eq] at h1
    have hs := dec_small (s := D.take i) (by simp; omega) (by rw [List.all_eq_true]; exact fun x hx => hall x (List.mem_of_mem_take hx))
    rw [dec_take hi]
    generalize dec (D.take i) = m at *
    simp only [chanceryref2_readSide_l1, hz, hg, decide_true, cond_true, idx_lt hi, Option.bind_some, wrap_succ (i := i) (by omega), ofByte_eq]
    rw [wrap_u8i (by omega) (by omega), wrap_i64 (n := 10 * (m : Int)) (by omega) (by omega), wrap_i64 (n := ((D[i].toNat : Int) - 48)) (by omega) (by omega), wrap_i64 (by omega) (by omega)]
    have e : 10 * (m : Int) + ((D[i].toNat : Int) - 48) = ((10 * m + (D[i].toNat - 48) : Nat) : Int) := by omega
    rw [e]
  have he : chanceryref2_readSide_l1 z9 ((), (), (dec (D.take D.length) : Int), (D.length : Int), u, v, ()) = some (.inr ((), (), (dec D : Int), u, v, ())) := by
    simp [chanceryref2_readSide_l1, hz]
  have := (Halts.along (n := 0) (f := chanceryref2_readSide_l1 z9) (fun i : Nat => ((), (), (dec (D.take i) : Int), (i : Int), u, v, ())) (r := ((), (), (dec D : Int), u, v, ())) D.length key (.done he)).loop (by omega)
  exact this

/-- The row, or -1; the column, or -1. -/
def rowV (s : Str) : Int := if sdN s = [] then -1 else (dec (sdN s) : Int) - 1
def colV (s : Str) : Int := if sdL s = [] then -1 else (number (sdL s) : Int) - 1

theorem head48 {D : Str} (h : D ≠ []) : ∃ c, idx D 0 = some c ∧ decide (ofByte c = 48) = Lib.hasPrefix D [48] := by
  cases D with
  | nil => exact absurd rfl h
  | cons c r =>
    refine ⟨c, rfl, ?_⟩
    have := byteIs c 48 (by omega)
    have e : (48 : UInt8) = UInt8.ofNat 48 := rfl
    simp only [Lib.hasPrefix, List.isPrefixOf, Bool.and_true]
    by_cases hc : c = 48
    · subst hc; rfl
    · have h1 : ¬ ofByte c = 48 := fun h => hc (this.1 h)
      simp [h1, Ne.symm hc]

noncomputable def sideTail (A W : Str) (z9 : (Unit × (Unit × (Unit × (Unit × (Str × ((Str × Unit) × ((Int × (Int × (Bool × (Bool × Unit)))) × ((Int × (Int × (Bool × (Bool × Unit)))) × ((Int × Unit) × Unit)))))))))) : Option ((Int × (Int × (Bool × (Bool × Unit)))) × (Int × Unit)) :=
  ((cond (decide (1 < (A.length : Int)))
  (some ((), (), true, z9.2.2.2.2.2.2.1, z9.2.2.2.2.2.2.2.1, ()))
  (let v10 : Bool := (decide (z9.2.2.2.2.2.2.2.2.1.1 < (z9.2.2.2.2.2.1.1.length : Int)))
  cond v10
  (some ((), (), true, z9.2.2.2.2.2.2.1, z9.2.2.2.2.2.2.2.1, ()))
  (cond (decide (W = []))
  (let v11 : Bool := ((decide (z9.2.2.2.2.1 = [])))
  cond v11
  (some ((), (), true, z9.2.2.2.2.2.2.1, z9.2.2.2.2.2.2.2.1, ()))
  (cond ((decide (7 < (W.length : Int))))
  (some ((), (), true, z9.2.2.2.2.2.2.1, z9.2.2.2.2.2.2.2.1, ()))
  (cond ((decide (10 < (z9.2.2.2.2.1.length : Int))))
  (some ((), (), true, z9.2.2.2.2.2.2.1, z9.2.2.2.2.2.2.2.1, ()))
  (cond (!decide (z9.2.2.2.2.1 = []))
  ((idx z9.2.2.2.2.1 0).bind fun v12 =>
  let v13 : Bool := ((decide ((ofByte v12) = 48)))
  some ((), (), v13, z9.2.2.2.2.2.2.1, z9.2.2.2.2.2.2.2.1, ()))
  (some ((), (), false, z9.2.2.2.2.2.2.1, z9.2.2.2.2.2.2.2.1, ()))))))
  (cond (false)
  (some ((), (), true, z9.2.2.2.2.2.2.1, z9.2.2.2.2.2.2.2.1, ()))
  (cond ((decide (7 < (W.length : Int))))
  (some ((), (), true, z9.2.2.2.2.2.2.1, z9.2.2.2.2.2.2.2.1, ()))
  (cond ((decide (10 < (z9.2.2.2.2.1.length : Int))))
  (some ((), (), true, z9.2.2.2.2.2.2.1, z9.2.2.2.2.2.2.2.1, ()))
  (cond (!decide (z9.2.2.2.2.1 = []))
  ((idx z9.2.2.2.2.1 0).bind fun v14 =>
  let v15 : Bool := ((decide ((ofByte v14) = 48)))
  some ((), (), v15, z9.2.2.2.2.2.2.1, z9.2.2.2.2.2.2.2.1, ()))
  (some ((), (), false, z9.2.2.2.2.2.2.1, z9.2.2.2.2.2.2.2.1, ())))))))) : Option (Unit × (Unit × (Bool × ((Int × (Int × (Bool × (Bool × Unit)))) × ((Int × (Int × (Bool × (Bool × Unit)))) × Unit)))))).bind fun r16 =>
  cond r16.2.2.1
  (let v17 : (Int × (Int × (Bool × (Bool × Unit)))) := r16.2.2.2.2.1
  some (v17, 0, ()))
  ((cond (!decide (z9.2.2.2.2.1 = []))
  ((loop (chanceryref2_readSide_l1 z9) ((), (), 0, 0, r16.2.2.2.1, r16.2.2.2.2.1, ())).bind fun r20 =>
  some ((), (), r20.2.2.2.1, (IntKind.i64.wrap (r20.2.2.1 - 1), r20.2.2.2.2.1.2), ()))
  (some ((), (), r16.2.2.2.1, r16.2.2.2.2.1, ())) : Option (Unit × (Unit × ((Int × (Int × (Bool × (Bool × Unit)))) × ((Int × (Int × (Bool × (Bool × Unit)))) × Unit))))).bind fun r21 =>
  (cond (!decide (W = []))
  ((chanceryref2_Column W).bind fun v22 =>
  some ((), (), r21.2.2.1, (r21.2.2.2.1.1, (v22.1, r21.2.2.2.1.2.2)), ()))
  (some ((), (), r21.2.2.1, r21.2.2.2.1, ())) : Option (Unit × (Unit × ((Int × (Int × (Bool × (Bool × Unit)))) × ((Int × (Int × (Bool × (Bool × Unit)))) × Unit))))).bind fun r23 =>
  (cond (decide (1073741824 ≤ r23.2.2.2.1.1))
  (some ((), (), true, r23.2.2.1, r23.2.2.2.1, ()))
  (some ((), (), (decide (1073741824 ≤ r23.2.2.2.1.2.1)), r23.2.2.1, r23.2.2.2.1, ())) : Option (Unit × (Unit × (Bool × ((Int × (Int × (Bool × (Bool × Unit)))) × ((Int × (Int × (Bool × (Bool × Unit)))) × Unit)))))).bind fun r24 =>
  cond r24.2.2.1
  (let v25 : (Int × (Int × (Bool × (Bool × Unit)))) := r24.2.2.2.2.1
  some (v25, 2, ()))
  (let v26 : (Int × (Int × (Bool × (Bool × Unit)))) := r24.2.2.2.2.1
  some (v26, 1, ()))))

theorem readSide_def (a0 : Str) : chanceryref2_readSide a0 =
  ((chanceryref2_readSide_1_readSide_2 0 a0).bind fun v1 =>
  (chanceryref2_readSide_1_Letter v1.2.2.2.1.1 v1.2.2.2.2.1.1).bind fun v2 =>
  (cond (decide (v2.1 = []))
  ((chanceryref2_readSide_1_Digit v2.2.2.2.1.1 v2.2.2.2.2.1.1).bind fun v3 =>
  some (.inl ((), (), (), (), v3.1, v3.2.2.2.2.1, (0, (0, (false, (false, ())))), ((-1), ((-1), (decide ((v1.1.length : Int) = 1), (false, ())))), v3.2.2.2.1, ())))
  ((chanceryref2_readSide_1_readSide_3 v2.2.2.2.1.1 v2.2.2.2.2.1.1).bind fun v4 =>
  (chanceryref2_readSide_1_Digit v4.2.2.2.1.1 v4.2.2.2.2.1.1).bind fun v5 =>
  (cond (decide (1 < (v4.1.length : Int)))
  (some ((), (), (), (), true, v5.2.2.2.2.1, (0, (0, (false, (false, ())))), ((-1), ((-1), (false, (decide ((v1.1.length : Int) = 1), ())))), v5.2.2.2.1, ()))
  (cond (decide ((v4.1.length : Int) = 1))
  (some ((), (), (), (), ((decide (v5.1 = []))), v5.2.2.2.2.1, (0, (0, (false, (false, ())))), ((-1), ((-1), (false, (decide ((v1.1.length : Int) = 1), ())))), v5.2.2.2.1, ()))
  (some ((), (), (), (), false, v5.2.2.2.2.1, (0, (0, (false, (false, ())))), ((-1), ((-1), (false, (decide ((v1.1.length : Int) = 1), ())))), v5.2.2.2.1, ()))) : Option (Unit × (Unit × (Unit × (Unit × (Bool × ((Str × Unit) × ((Int × (Int × (Bool × (Bool × Unit)))) × ((Int × (Int × (Bool × (Bool × Unit)))) × ((Int × Unit) × Unit)))))))))).bind fun r6 =>
  cond r6.2.2.2.2.1
  (let v7 : (Int × (Int × (Bool × (Bool × Unit)))) := r6.2.2.2.2.2.2.2.1
  some (.inr ((), 0, v7, ())))
  (some (.inl ((), (), (), (), v5.1, r6.2.2.2.2.2.1, r6.2.2.2.2.2.2.1, (r6.2.2.2.2.2.2.2.1.1, (r6.2.2.2.2.2.2.2.1.2.1, (decide ((v4.1.length : Int) = 1), r6.2.2.2.2.2.2.2.1.2.2.2))), r6.2.2.2.2.2.2.2.2.1, ())))) : Option ((Unit × (Unit × (Unit × (Unit × (Str × ((Str × Unit) × ((Int × (Int × (Bool × (Bool × Unit)))) × ((Int × (Int × (Bool × (Bool × Unit)))) × ((Int × Unit) × Unit))))))))) ⊕ (Unit × (Int × ((Int × (Int × (Bool × (Bool × Unit)))) × Unit))))).bind fun r8 =>
  (match r8 with
  | .inl z9 => sideTail v1.1 v2.1 z9
  | .inr z27 => (some (z27.2.2.1, z27.2.1, ())))) := rfl

theorem sideTail_eq {s A W D : Str} {i : Nat} {ar ac : Bool} (x : Int × (Int × (Bool × (Bool × Unit)))) (hi : i ≤ s.length) (hW : W.all isLetter = true) (hD : D.all isDigit = true) :
    (((decide (1 < A.length) || (!decide (s.drop i = []) || ((decide (W = []) && decide (D = [])) || (decide (7 < W.length) || (decide (10 < D.length) || Lib.hasPrefix D [48]))))) = true →
      ∃ o, sideTail A W ((), (), (), (), D, (s, ()), x, (-1, -1, ar, ac, ()), ((i : Int), ()), ()) = some (o, 0, ())) ∧
    ((decide (1 < A.length) || (!decide (s.drop i = []) || ((decide (W = []) && decide (D = [])) || (decide (7 < W.length) || (decide (10 < D.length) || Lib.hasPrefix D [48]))))) = false →
      sideTail A W ((), (), (), (), D, (s, ()), x, (-1, -1, ar, ac, ()), ((i : Int), ()), ()) = some ((if D = [] then -1 else (dec D : Int) - 1, if W = [] then -1 else (number W : Int) - 1, ar, ac, ()),
        if 1073741824 ≤ (if D = [] then -1 else (dec D : Int) - 1) ∨ 1073741824 ≤ (if W = [] then -1 else (number W : Int) - 1) then 2 else 1, ()))) := by
  have u1 : decide ((1 : Int) < (A.length : Int)) = decide (1 < A.length) := by simp only [decide_eq_decide]; omega
  have u7 : decide ((7 : Int) < (W.length : Int)) = decide (7 < W.length) := by simp only [decide_eq_decide]; omega
  have u10 : decide ((10 : Int) < (D.length : Int)) = decide (10 < D.length) := by simp only [decide_eq_decide]; omega
  have ui : decide ((i : Int) < (s.length : Int)) = !decide (s.drop i = []) := by
    by_cases h : s.drop i = []
    · have := (not_congr (lt_drop hi)).2 (by simp [h])
      simp [h, this]
    · have := (lt_drop hi).2 h
      simp [h, this]
  have ci : ∀ (b : Bool) (y z : Option ((Int × (Int × (Bool × (Bool × Unit)))) × (Int × Unit))), b = true → cond b y z = y := fun b y z h => by rw [h]; rfl
  cases p1 : decide (1 < A.length) with
  | true => exact ⟨fun _ => ⟨_, by simp only [sideTail, u1, p1, cond_true, Option.bind_some]; rfl⟩, fun h => by simp at h⟩
  | false =>
  cases p2 : decide (s.drop i = []) with
  | false => exact ⟨fun _ => ⟨_, by simp only [sideTail, u1, p1, ui, p2, Bool.not_false, cond_true, cond_false, Option.bind_some]; rfl⟩, fun h => by simp at h⟩
  | true =>
  cases pW : decide (W = []) with
  | true =>
    have hW0 : W = [] := of_decide_eq_true pW
    cases pD : decide (D = []) with
    | true => exact ⟨fun _ => ⟨_, by simp only [sideTail, u1, p1, ui, p2, pW, pD, Bool.not_true, cond_true, cond_false, Option.bind_some]; rfl⟩, fun h => by simp at h⟩
    | false =>
    have hD0 : D ≠ [] := of_decide_eq_false pD
    have p7' : decide (7 < W.length) = false := by rw [hW0]; rfl
    have p7 : decide ((7 : Int) < (W.length : Int)) = false := by rw [u7, p7']
    cases p10 : decide (10 < D.length) with
    | true => exact ⟨fun _ => ⟨_, by simp only [sideTail, u1, p1, ui, p2, pW, pD, p7, u10, p10, Bool.not_true, cond_true, cond_false, Option.bind_some]; rfl⟩, fun h => by simp at h⟩
    | false =>
    obtain ⟨c, hc, hc48⟩ := head48 hD0
    have hlen : D.length ≤ 10 := by have := of_decide_eq_false p10; omega
    have hds := dec_small hlen hD
    have dl := dec_loop hlen hD ((), (), (), (), D, (s, ()), x, (-1, -1, ar, ac, ()), ((i : Int), ()), ()) rfl
    have wd := wrap_i64 (n := (dec D : Int) - 1) (by omega) (by omega)
    cases p48 : Lib.hasPrefix D [48] with
    | true =>
      rw [p48] at hc48
      exact ⟨fun _ => ⟨_, by simp only [sideTail, u1, p1, ui, p2, pW, pD, p7, u10, p10, hc, hc48, Bool.not_true, Bool.not_false, cond_true, cond_false, Option.bind_some]; rfl⟩, fun h => by simp at h⟩
    | false =>
      rw [p48] at hc48
      refine ⟨fun h => by simp [hW0] at h, fun _ => ?_⟩
      simp only [sideTail, u1, p1, ui, p2, u10, p10, hc, hc48, Bool.not_true, cond_true, cond_false, Option.bind_some, dl, wd, hD0, hW0, if_false, if_true, decide_true]
      by_cases g : 1073741824 ≤ (dec D : Int) - 1 <;> simp [g]
  | false =>
    have hW0 : W ≠ [] := of_decide_eq_false pW
    cases p7 : decide (7 < W.length) with
    | true => exact ⟨fun _ => ⟨_, by simp only [sideTail, u1, p1, ui, p2, pW, u7, p7, Bool.not_true, cond_true, cond_false, Option.bind_some]; rfl⟩, fun h => by simp at h⟩
    | false =>
    have hlW : W.length ≤ 7 := by have := of_decide_eq_false p7; omega
    have hcol := RColumn_eq hW0 hlW hW
    cases p10 : decide (10 < D.length) with
    | true => exact ⟨fun _ => ⟨_, by simp only [sideTail, u1, p1, ui, p2, pW, u7, p7, u10, p10, Bool.not_true, cond_true, cond_false, Option.bind_some]; rfl⟩, fun h => by simp at h⟩
    | false =>
    have hlen : D.length ≤ 10 := by have := of_decide_eq_false p10; omega
    have hds := dec_small hlen hD
    have dl := dec_loop hlen hD ((), (), (), (), D, (s, ()), x, (-1, -1, ar, ac, ()), ((i : Int), ()), ()) rfl
    have wd := wrap_i64 (n := (dec D : Int) - 1) (by omega) (by omega)
    cases pD : decide (D = []) with
    | true =>
      have hD0 : D = [] := of_decide_eq_true pD
      subst hD0
      refine ⟨fun h => by simp [Lib.hasPrefix, List.isPrefixOf] at h, fun _ => ?_⟩
      simp only [sideTail, u1, p1, ui, p2, u7, p7, u10, p10, Bool.not_true, cond_false, Option.bind_some, hcol, hW0, if_false, if_true]
      by_cases g : 1073741824 ≤ (number W : Int) - 1 <;> simp [g]
    | false =>
    have hD0 : D ≠ [] := of_decide_eq_false pD
    obtain ⟨c, hc, hc48⟩ := head48 hD0
    cases p48 : Lib.hasPrefix D [48] with
    | true =>
      rw [p48] at hc48
      exact ⟨fun _ => ⟨_, by simp only [sideTail, u1, p1, ui, p2, pW, pD, u7, p7, u10, p10, hc, hc48, Bool.not_true, Bool.not_false, cond_true, cond_false, Option.bind_some]; rfl⟩, fun h => by simp at h⟩
    | false =>
      rw [p48] at hc48
      refine ⟨fun h => by simp at h, fun _ => ?_⟩
      simp only [sideTail, u1, p1, ui, p2, u7, p7, u10, p10, hc, hc48, Bool.not_true, cond_false, Option.bind_some, dl, wd, hD0, hcol, hW0, if_false]
      by_cases g : 1073741824 ≤ (dec D : Int) - 1 <;> by_cases g' : 1073741824 ≤ (number W : Int) - 1 <;> simp [g, g']

theorem readSide_eq {s : Str} (hs : s.length ≤ 500) :
    (sdFine s = false → ∃ o, chanceryref2_readSide s = some (o, 0, ())) ∧
    (sdFine s = true → chanceryref2_readSide s = some ((rowV s, colV s, sdR s, sdC s, ()), if 1073741824 ≤ rowV s ∨ 1073741824 ≤ colV s then 2 else 1, ())) := by
  have hA : ∃ A, s.takeWhile is36 = A := ⟨_, rfl⟩
  obtain ⟨A, hA⟩ := hA
  have h1 := take1 (s := s) (i := 0) (by omega) (by omega)
  rw [List.drop_zero, hA, Nat.zero_add] at h1
  have hA1 : A.length ≤ s.length := by rw [← hA]; exact takeWhile_len _ _
  have d1 : s.drop A.length = s.dropWhile is36 := by rw [← hA]; exact drop_takeWhile _ _
  have h2 := take2 (s := s) (i := A.length) hA1 (by omega)
  rw [d1] at h2
  obtain ⟨W, hW⟩ : ∃ W, (s.dropWhile is36).takeWhile isLetter = W := ⟨_, rfl⟩
  rw [hW] at h2
  have hW1 : A.length + W.length ≤ s.length := by have := len_more isLetter hA1; rwa [d1, hW] at this
  have d2 : s.drop (A.length + W.length) = (s.dropWhile is36).dropWhile isLetter := by have := drop_more s A.length isLetter; rwa [d1, hW] at this
  have h3 := take3 (s := s) (i := A.length + W.length) hW1 (by omega)
  have h4 := take4 (s := s) (i := A.length + W.length) hW1 (by omega)
  obtain ⟨s2, hs2⟩ : ∃ s2, (s.dropWhile is36).dropWhile isLetter = s2 := ⟨_, rfl⟩
  rw [d2, hs2] at h3 h4
  rw [hs2] at d2
  have hWl : W.all isLetter = true := by rw [← hW]; exact all_takeWhile _ _
  have hd : ∀ r : Str, (36 :: r).takeWhile isLetter = [] ∧ (36 :: r).dropWhile isLetter = 36 :: r ∧ (36 :: r).takeWhile isDigit = [] ∧ (36 :: r).dropWhile isDigit = 36 :: r := fun r => ⟨rfl, rfl, rfl, rfl⟩
  have x0 : ((0 : Int), ((0 : Int), (false, (false, ())))) = (0, (0, (false, (false, ())))) := rfl
  rw [readSide_def, show (0 : Int) = ((0 : Nat) : Int) from rfl, h1]
  simp only [Option.bind_some, h2]
  -- behind the letters
  have i3 := len_more is36 hW1
  rw [d2] at i3
  obtain ⟨B, hB⟩ : ∃ B, s2.takeWhile is36 = B := ⟨_, rfl⟩
  obtain ⟨s3, hs3⟩ : ∃ s3, s2.dropWhile is36 = s3 := ⟨_, rfl⟩
  rw [hB] at i3 h4
  have h5 := take3 (s := s) (i := A.length + W.length + B.length) i3 (by omega)
  have d3 : s.drop (A.length + W.length + B.length) = s3 := by have := drop_more s (A.length + W.length) is36; rwa [d2, hB, hs3] at this
  rw [d3] at h5
  have i4 := len_more isDigit i3
  rw [d3] at i4
  have i4' := len_more isDigit hW1
  rw [d2] at i4'
  have d4 : s.drop (A.length + W.length + B.length + (s3.takeWhile isDigit).length) = s3.dropWhile isDigit := by have := drop_more s (A.length + W.length + B.length) isDigit; rwa [d3] at this
  have d4' : s.drop (A.length + W.length + (s2.takeWhile isDigit).length) = s2.dropWhile isDigit := by have := drop_more s (A.length + W.length) isDigit; rwa [d2] at this
  have t1 := sideTail_eq (A := A) (W := W) (D := s3.takeWhile isDigit) (ar := decide ((B.length : Int) = 1)) (ac := decide ((A.length : Int) = 1)) (0, (0, (false, (false, ())))) i4 hWl (all_takeWhile _ _)
  have t2 := sideTail_eq (A := A) (W := W) (D := s2.takeWhile isDigit) (ar := decide ((A.length : Int) = 1)) (ac := false) (0, (0, (false, (false, ())))) i4' hWl (all_takeWhile _ _)
  rw [d4] at t1
  rw [d4'] at t2
  have hAc : ∀ b : Bool, (b = true → A.length = 1) → (b = false → A.length = 0) → decide ((A.length : Int) = 1) = b := by
    intro b ht hf
    cases b with
    | true => rw [ht rfl]; rfl
    | false => rw [hf rfl]; rfl
  rcases Nat.lt_or_ge 1 A.length with hbig | hsmall
  · -- two marks
    have hst : ∃ r, stripD s = (36 :: r, true) := by
      rcases strip_cases s with ⟨h, _⟩ | ⟨h, _⟩ | ⟨_, h⟩
      · rw [hA] at h; omega
      · rw [hA] at h; omega
      · exact h
    obtain ⟨r, hst⟩ := hst
    have hL : sdL s = [] := by simp only [sdL, hst]; exact (hd r).1
    have hU : sdU s = 36 :: r := by simp only [sdU, hst]; exact (hd r).2.1
    have hE : sdE s = (36 :: r, true) := by simp only [sdE, hL, if_true, hU, hst]
    have hV : sdV s = 36 :: r := by simp only [sdV, hE]; exact (hd r).2.2.2
    have hf : sdFine s = false := by simp [sdFine, hV]
    refine ⟨fun _ => ?_, fun h => by rw [hf] at h; cases h⟩
    have hb : decide (1 < A.length) = true := decide_eq_true hbig
    cases pW : decide (W = []) with
    | true =>
      simp only [h3, Option.bind_some, cond_true]
      exact t2.1 (by rw [hb]; rfl)
    | false =>
      have tl := t1.1 (by rw [hb]; rfl)
      simp only [h4, Option.bind_some, cond_false, h5]
      by_cases b1 : 1 < B.length
      · have e1 : decide ((1 : Int) < (B.length : Int)) = true := by rw [decide_eq_true_eq]; omega
        simp only [e1, cond_true, Option.bind_some]
        exact ⟨_, rfl⟩
      · have e1 : decide ((1 : Int) < (B.length : Int)) = false := by rw [decide_eq_false_iff_not]; omega
        by_cases b2 : B.length = 1
        · have e2 : decide ((B.length : Int) = 1) = true := by rw [decide_eq_true_eq]; omega
          rw [e2] at tl
          cases pD : decide (s3.takeWhile isDigit = []) with
          | true => simp only [e1, e2, cond_true, cond_false, Option.bind_some]; exact ⟨_, rfl⟩
          | false => simp only [e1, e2, cond_true, cond_false, Option.bind_some]; exact tl
        · have e2 : decide ((B.length : Int) = 1) = false := by rw [decide_eq_false_iff_not]; omega
          rw [e2] at tl
          simp only [e1, e2, cond_false, Option.bind_some]
          exact tl
  · -- one mark or none
    have hst : stripD s = (s.dropWhile is36, decide ((A.length : Int) = 1)) := by
      rcases strip_cases s with ⟨h, h'⟩ | ⟨h, h'⟩ | ⟨h, _⟩
      · rw [hA] at h; rw [h', h]; rfl
      · rw [hA] at h; rw [h', h]; rfl
      · rw [hA] at h; omega
    have hL : sdL s = W := by simp only [sdL, hst]; exact hW
    have hU : sdU s = s2 := by simp only [sdU, hst]; exact hs2
    have hb : decide (1 < A.length) = false := decide_eq_false (by omega)
    cases pW : decide (W = []) with
    | true =>
      have hW0 : W = [] := of_decide_eq_true pW
      have hE : sdE s = (s2, decide ((A.length : Int) = 1)) := by simp only [sdE, hL, hW0, if_true, hU, hst]
      have hN : sdN s = s2.takeWhile isDigit := by simp only [sdN, hE]
      have hV : sdV s = s2.dropWhile isDigit := by simp only [sdV, hE]
      have hR : sdR s = decide ((A.length : Int) = 1) := by simp only [sdR, hE]
      have hC : sdC s = false := by simp [sdC, hL, hW0]
      have w7 : decide (7 < W.length) = false := by rw [hW0]; rfl
      have w7' : decide (W.length ≤ 7) = true := by rw [hW0]; rfl
      have n10 : decide (10 < (s2.takeWhile isDigit).length) = !decide ((s2.takeWhile isDigit).length ≤ 10) := by
        by_cases h : (s2.takeWhile isDigit).length ≤ 10
        · simp [h]
        · simp [h]; omega
      simp only [h3, Option.bind_some, cond_true]
      rw [hb, w7, n10, pW] at t2
      simp only [sdFine, hL, hN, hV, hR, pW, w7', rowV, colV, hC]
      constructor
      · intro hfine
        apply t2.1
        revert hfine
        cases decide (s2.dropWhile isDigit = []) <;> cases decide (s2.takeWhile isDigit = []) <;> cases decide ((s2.takeWhile isDigit).length ≤ 10) <;> cases Lib.hasPrefix (s2.takeWhile isDigit) [48] <;> simp
      · intro hfine
        apply t2.2
        revert hfine
        cases decide (s2.dropWhile isDigit = []) <;> cases decide (s2.takeWhile isDigit = []) <;> cases decide ((s2.takeWhile isDigit).length ≤ 10) <;> cases Lib.hasPrefix (s2.takeWhile isDigit) [48] <;> simp
    | false =>
      have hW0 : W ≠ [] := of_decide_eq_false pW
      have hC : sdC s = decide ((A.length : Int) = 1) := by simp [sdC, hL, hW0, hst]
      simp only [h4, Option.bind_some, cond_false, h5]
      rcases Nat.lt_or_ge 1 B.length with b1 | b1
      · have hst2 : ∃ r, stripD s2 = (36 :: r, true) := by
          rcases strip_cases s2 with ⟨h, _⟩ | ⟨h, _⟩ | ⟨_, h⟩
          · rw [hB] at h; omega
          · rw [hB] at h; omega
          · exact h
        obtain ⟨r, hst2⟩ := hst2
        have hE : sdE s = (36 :: r, true) := by simp only [sdE, hL, hW0, if_false, hU, hst2]
        have hV : sdV s = 36 :: r := by simp only [sdV, hE]; exact (hd r).2.2.2
        have hf : sdFine s = false := by simp [sdFine, hV]
        have e1 : decide ((1 : Int) < (B.length : Int)) = true := by rw [decide_eq_true_eq]; omega
        refine ⟨fun _ => ?_, fun h => by rw [hf] at h; cases h⟩
        simp only [e1, cond_true, Option.bind_some]
        exact ⟨_, rfl⟩
      · have e1 : decide ((1 : Int) < (B.length : Int)) = false := by rw [decide_eq_false_iff_not]; omega
        have hst2 : stripD s2 = (s3, decide ((B.length : Int) = 1)) := by
          rcases strip_cases s2 with ⟨h, h'⟩ | ⟨h, h'⟩ | ⟨h, _⟩
          · rw [hB] at h; rw [h', h, hs3]; rfl
          · rw [hB] at h; rw [h', h, hs3]; rfl
          · rw [hB] at h; omega
        have hE : sdE s = (s3, decide ((B.length : Int) = 1)) := by simp only [sdE, hL, hW0, if_false, hU, hst2]
        have hN : sdN s = s3.takeWhile isDigit := by simp only [sdN, hE]
        have hV : sdV s = s3.dropWhile isDigit := by simp only [sdV, hE]
        have hR : sdR s = decide ((B.length : Int) = 1) := by simp only [sdR, hE]
        have w7 : decide (7 < W.length) = !decide (W.length ≤ 7) := by
          by_cases h : W.length ≤ 7
          · simp [h]
          · simp [h]; omega
        have n10 : decide (10 < (s3.takeWhile isDigit).length) = !decide ((s3.takeWhile isDigit).length ≤ 10) := by
          by_cases h : (s3.takeWhile isDigit).length ≤ 10
          · simp [h]
          · simp [h]; omega
        rw [hb, w7, n10, pW] at t1
        simp only [sdFine, hL, hN, hV, hR, pW, rowV, colV, hC]
        by_cases b2 : B.length = 1
        · have e2 : decide ((B.length : Int) = 1) = true := by rw [decide_eq_true_eq]; omega
          rw [e2] at t1 ⊢
          cases pD : decide (s3.takeWhile isDigit = []) with
          | true =>
            simp only [e1, cond_true, cond_false, Option.bind_some]
            exact ⟨fun _ => ⟨_, rfl⟩, fun h => by simp at h⟩
          | false =>
            simp only [e1, cond_true, cond_false, Option.bind_some]
            rw [pD] at t1
            constructor
            · intro hfine
              apply t1.1
              revert hfine
              cases decide (s3.dropWhile isDigit = []) <;> cases decide (W.length ≤ 7) <;> cases decide ((s3.takeWhile isDigit).length ≤ 10) <;> cases Lib.hasPrefix (s3.takeWhile isDigit) [48] <;> simp
            · intro hfine
              apply t1.2
              revert hfine
              cases decide (s3.dropWhile isDigit = []) <;> cases decide (W.length ≤ 7) <;> cases decide ((s3.takeWhile isDigit).length ≤ 10) <;> cases Lib.hasPrefix (s3.takeWhile isDigit) [48] <;> simp
        · have e2 : decide ((B.length : Int) = 1) = false := by rw [decide_eq_false_iff_not]; omega
          rw [e2] at t1 ⊢
          simp only [e1, cond_false, Option.bind_some]
          constructor
          · intro hfine
            apply t1.1
            revert hfine
            cases decide (s3.dropWhile isDigit = []) <;> cases decide (W.length ≤ 7) <;> cases decide ((s3.takeWhile isDigit).length ≤ 10) <;> cases Lib.hasPrefix (s3.takeWhile isDigit) [48] <;> cases decide (s3.takeWhile isDigit = []) <;> simp
          · intro hfine
            apply t1.2
            revert hfine
            cases decide (s3.dropWhile isDigit = []) <;> cases decide (W.length ≤ 7) <;> cases decide ((s3.takeWhile isDigit).length ≤ 10) <;> cases Lib.hasPrefix (s3.takeWhile isDigit) [48] <;> cases decide (s3.takeWhile isDigit = []) <;> simp
end Go.Proofs.YtjhcnnhkabhigaaGreatDoor

namespace Go.Proofs.YtjhcnnhkabhigaaGreatDoor
open Go Go.Fe

/-! ### The reference's reader, in two parts -/
noncomputable def refHead (a0 : Str) : Option ((Unit × (Str × (Str × ((Str × (Int × (Int × (Int × (Int × (Int × (Bool × (Bool × (Bool × (Bool × Unit)))))))))) × Unit)))) ⊕ (Unit × (Int × ((Str × (Int × (Int × (Int × (Int × (Int × (Bool × (Bool × (Bool × (Bool × Unit)))))))))) × Unit)))) :=
  (cond (!decide (a0 = []))
  ((idx a0 0).bind fun v1 =>
  some ((), (decide ((ofByte v1) = 39)), ([], (0, (0, (0, (0, (0, (false, (false, (false, (false, ())))))))))), ()))
  (some ((), false, ([], (0, (0, (0, (0, (0, (false, (false, (false, (false, ())))))))))), ())) : Option (Unit × (Bool × ((Str × (Int × (Int × (Int × (Int × (Int × (Bool × (Bool × (Bool × (Bool × Unit)))))))))) × Unit)))).bind fun r2 =>
  cond r2.2.1
  ((loop (chanceryref2_ReadRef_l1 a0) ((), [], 1, r2.2.2.1, ())).bind fun r11 =>
  (cond (decide (r11.2.1 = []))
  (some ((), true, r11.2.2.2.1, ()))
  (let v12 : Bool := (decide ((a0.length : Int) ≤ (IntKind.i64.wrap (r11.2.2.1 + 1))))
  cond v12
  (some ((), true, r11.2.2.2.1, ()))
  ((idx a0 (IntKind.i64.wrap (r11.2.2.1 + 1))).bind fun v13 =>
  some ((), (!decide ((ofByte v13) = 33)), r11.2.2.2.1, ()))) : Option (Unit × (Bool × ((Str × (Int × (Int × (Int × (Int × (Int × (Bool × (Bool × (Bool × (Bool × Unit)))))))))) × Unit)))).bind fun r14 =>
  cond r14.2.1
  (some (.inr ((), 10, ([], (0, (0, (0, (0, (0, (false, (false, (false, (false, ())))))))))), ())))
  ((cut a0 (IntKind.i64.wrap (r11.2.2.1 + 2)) (a0.length : Int)).bind fun v15 =>
  some (.inl ((), r11.2.1, v15, r14.2.2.1, ()))))
  ((loop (chanceryref2_ReadRef_l2 a0) ((), [], a0, 0, r2.2.2.1, ())).bind fun r20 =>
  (match r20 with
  | .inl z21 => (some (.inl ((), z21.2.1, z21.2.2.1, z21.2.2.2.1, ())))
  | .inr z22 => (some (.inr ((), z22.2.1, z22.2.2.1, ())))))

noncomputable def refTail (z24 : (Unit × (Str × (Str × ((Str × (Int × (Int × (Int × (Int × (Int × (Bool × (Bool × (Bool × (Bool × Unit)))))))))) × Unit))))) : Option ((Str × (Int × (Int × (Int × (Int × (Int × (Bool × (Bool × (Bool × (Bool × Unit)))))))))) × (Int × Unit)) :=
  ((loop (chanceryref2_ReadRef_l3 z24) ((), z24.2.2.1, [], false, 0, z24.2.2.2.1, ())).bind fun r28 =>
  (chanceryref2_readSide r28.2.1).bind fun v29 =>
  (cond r28.2.2.2.1
  ((chanceryref2_readSide r28.2.2.1).bind fun v30 =>
  some ((), (), (), v30.2.1, r28.2.2.2.2.1, v29.1, v30.1, ()))
  (some ((), (), (), 1, r28.2.2.2.2.1, v29.1, v29.1, ())) : Option (Unit × (Unit × (Unit × (Int × ((Str × (Int × (Int × (Int × (Int × (Int × (Bool × (Bool × (Bool × (Bool × Unit)))))))))) × ((Int × (Int × (Bool × (Bool × Unit)))) × ((Int × (Int × (Bool × (Bool × Unit)))) × Unit)))))))).bind fun r31 =>
  (cond (decide (v29.2.1 = 0))
  (some ((), (), (), true, r31.2.2.2.2.1, r31.2.2.2.2.2.1, r31.2.2.2.2.2.2.1, ()))
  (cond ((decide (r31.2.2.2.1 = 0)))
  (some ((), (), (), true, r31.2.2.2.2.1, r31.2.2.2.2.2.1, r31.2.2.2.2.2.2.1, ()))
  (let v32 : Bool := (!((decide (r31.2.2.2.2.2.1.1 < 0)) == (decide (r31.2.2.2.2.2.2.1.1 < 0))))
  cond v32
  (some ((), (), (), true, r31.2.2.2.2.1, r31.2.2.2.2.2.1, r31.2.2.2.2.2.2.1, ()))
  (let v33 : Bool := (!((decide (r31.2.2.2.2.2.1.2.1 < 0)) == (decide (r31.2.2.2.2.2.2.1.2.1 < 0))))
  cond v33
  (some ((), (), (), true, r31.2.2.2.2.1, r31.2.2.2.2.2.1, r31.2.2.2.2.2.2.1, ()))
  (cond (!r28.2.2.2.1)
  (cond (decide (r31.2.2.2.2.2.1.1 < 0))
  (some ((), (), (), (true), r31.2.2.2.2.1, r31.2.2.2.2.2.1, r31.2.2.2.2.2.2.1, ()))
  (let v34 : Bool := ((decide (r31.2.2.2.2.2.1.2.1 < 0)))
  some ((), (), (), v34, r31.2.2.2.2.1, r31.2.2.2.2.2.1, r31.2.2.2.2.2.2.1, ())))
  (some ((), (), (), false, r31.2.2.2.2.1, r31.2.2.2.2.2.1, r31.2.2.2.2.2.2.1, ())))))) : Option (Unit × (Unit × (Unit × (Bool × ((Str × (Int × (Int × (Int × (Int × (Int × (Bool × (Bool × (Bool × (Bool × Unit)))))))))) × ((Int × (Int × (Bool × (Bool × Unit)))) × ((Int × (Int × (Bool × (Bool × Unit)))) × Unit)))))))).bind fun r35 =>
  cond r35.2.2.2.1
  (some (([], (0, (0, (0, (0, (0, (false, (false, (false, (false, ())))))))))), 10, ()))
  ((cond (decide (v29.2.1 = 2))
  (some ((), (), (), true, r35.2.2.2.2.1, r35.2.2.2.2.2.1, r35.2.2.2.2.2.2.1, ()))
  (some ((), (), (), (decide (r31.2.2.2.1 = 2)), r35.2.2.2.2.1, r35.2.2.2.2.2.1, r35.2.2.2.2.2.2.1, ())) : Option (Unit × (Unit × (Unit × (Bool × ((Str × (Int × (Int × (Int × (Int × (Int × (Bool × (Bool × (Bool × (Bool × Unit)))))))))) × ((Int × (Int × (Bool × (Bool × Unit)))) × ((Int × (Int × (Bool × (Bool × Unit)))) × Unit)))))))).bind fun r36 =>
  cond r36.2.2.2.1
  (some (([], (0, (0, (0, (0, (0, (false, (false, (false, (false, ())))))))))), 2, ()))
  (let v37 : (Str × (Int × (Int × (Int × (Int × (Int × (Bool × (Bool × (Bool × (Bool × Unit)))))))))) := (z24.2.1, 0, mx r36.2.2.2.2.2.1.1 0, mx r36.2.2.2.2.2.1.2.1 0, 0, 0, r36.2.2.2.2.2.1.2.2.1, r36.2.2.2.2.2.1.2.2.2.1, false, false, ())
  (cond (!r28.2.2.2.1)
  (some ((), (), (), r36.2.2.2.2.1, r36.2.2.2.2.2.2.1, v37, ()))
  (cond (decide (r36.2.2.2.2.2.1.1 < 0))
  (some ((), (), (), r36.2.2.2.2.1, r36.2.2.2.2.2.2.1, (v37.1, (3, v37.2.2)), ()))
  (cond (decide (r36.2.2.2.2.2.1.2.1 < 0))
  (some ((), (), (), r36.2.2.2.2.1, r36.2.2.2.2.2.2.1, (v37.1, (2, v37.2.2)), ()))
  (some ((), (), (), r36.2.2.2.2.1, r36.2.2.2.2.2.2.1, (v37.1, (1, v37.2.2)), ())))) : Option (Unit × (Unit × (Unit × ((Str × (Int × (Int × (Int × (Int × (Int × (Bool × (Bool × (Bool × (Bool × Unit)))))))))) × ((Int × (Int × (Bool × (Bool × Unit)))) × ((Str × (Int × (Int × (Int × (Int × (Int × (Bool × (Bool × (Bool × (Bool × Unit)))))))))) × Unit))))))).bind fun r38 =>
  (cond r28.2.2.2.1
  (let v39 : (Str × (Int × (Int × (Int × (Int × (Int × (Bool × (Bool × (Bool × (Bool × Unit)))))))))) := (r38.2.2.2.2.2.1.1, (r38.2.2.2.2.2.1.2.1, (r38.2.2.2.2.2.1.2.2.1, (r38.2.2.2.2.2.1.2.2.2.1, (mx r38.2.2.2.2.1.1 0, (mx r38.2.2.2.2.1.2.1 0, (r38.2.2.2.2.2.1.2.2.2.2.2.2.1, (r38.2.2.2.2.2.1.2.2.2.2.2.2.2.1, r38.2.2.2.2.1.2.2))))))))
  (chanceryref2_Sorted v39).bind fun v40 =>
  some ((), (), r38.2.2.2.1, v40.1, ()))
  (some ((), (), r38.2.2.2.1, r38.2.2.2.2.2.1, ())) : Option (Unit × (Unit × ((Str × (Int × (Int × (Int × (Int × (Int × (Bool × (Bool × (Bool × (Bool × Unit)))))))))) × ((Str × (Int × (Int × (Int × (Int × (Int × (Bool × (Bool × (Bool × (Bool × Unit)))))))))) × Unit))))).bind fun r41 =>
  let v42 : (Str × (Int × (Int × (Int × (Int × (Int × (Bool × (Bool × (Bool × (Bool × Unit)))))))))) := r41.2.2.2.1
  (chanceryref2_RefError v42).bind fun v43 =>
  cond (!decide (v43.1 = 0))
  (some (([], (0, (0, (0, (0, (0, (false, (false, (false, (false, ())))))))))), v43.1, ()))
  (let v44 : (Str × (Int × (Int × (Int × (Int × (Int × (Bool × (Bool × (Bool × (Bool × Unit)))))))))) := r41.2.2.2.1
  some (v44, 0, ())))))

theorem readRef_def (a0 : Str) : chanceryref2_ReadRef a0 =
  cond (decide (500 < (a0.length : Int)))
  (some (([], (0, (0, (0, (0, (0, (false, (false, (false, (false, ())))))))))), 3, ()))
  (cond (decide (a0 = [35, 82, 69, 70, 33]))
  (some (([], (4, (0, (0, (0, (0, (false, (false, (false, (false, ())))))))))), 0, ()))
  ((refHead a0).bind fun r23 =>
  (match r23 with
  | .inl z24 => refTail z24
  | .inr z45 => (some (z45.2.2.1, z45.2.1, ()))))) := rfl

theorem title_loop {s : Str} (hs : s.length ≤ 500) (z : RefD) : ∀ (n : Nat) (rem t : Str) (i : Nat), rem.length ≤ n → s.drop i = rem → i ≤ s.length → t.length ≤ i →
    ∃ j : Nat, Halts (chanceryref2_ReadRef_l1 s) n ((), t, (i : Int), z, ()) ((), t ++ (quoted rem).1, (j : Int), z, ()) ∧ (match (quoted rem).2 with
      | none => j = s.length
      | some q => j < s.length ∧ s.drop (j + 1) = q)
  | n, [], t, i, hn, hd, hi, ht => by
    have hl : s.length ≤ i := by
      have := congrArg List.length hd
      simp at this
      omega
    have hg : ¬ ((i : Int) < (s.length : Int)) := by omega
    refine ⟨i, .done ?_, by show i = s.length; omega⟩
    simp only [chanceryref2_ReadRef_l1, hg, decide_false, cond_false, Option.bind_some, quoted, List.append_nil]
  | 0, x :: r, t, i, hn, hd, hi, ht => by simp at hn
  | n + 1, x :: r, t, i, hn, hd, hi, ht => by
    obtain ⟨hl, hx, hr⟩ := drop_eq hd
    have hg : ((i : Int) < (s.length : Int)) := by omega
    have hix : idx s (i : Int) = some x := by rw [idx_nat, hx]
    have w1 := wrap_succ (i := i) (by omega)
    have w2 := wrap_succ (i := i + 1) (by omega)
    have c1 : cut s (i : Int) ((i + 1 : Nat) : Int) = some [x] := by
      rw [cut_nat (by omega) (by omega)]
      congr 1
      rw [List.take_succ_eq_append_getElem hl, List.drop_append_of_le_length (by simp; omega)]
      rw [List.getElem?_eq_getElem hl] at hx
      cases hx
      simp
    have c2 : cat t [x] = some (t ++ [x]) := cat_ok (by simp; omega)
    by_cases h39 : x = 39
    · subst h39
      have a39 : ofByte (39 : UInt8) = 39 := rfl
      match r, hr, hn, hd with
      | [], hr, hn, hd =>
        have hl2 : s.length ≤ i + 1 := by
          have := congrArg List.length hr
          simp at this
          omega
        have hg2 : ¬ (((i + 1 : Nat) : Int) < (s.length : Int)) := by omega
        refine ⟨i, .done ?_, ⟨hl, hr⟩⟩
        simp only [chanceryref2_ReadRef_l1, hg, decide_true, cond_true, hix, Option.bind_some, a39, Bool.not_true, cond_false, w1, hg2, decide_false]
        simp [quoted]
      | y :: r', hr, hn, hd =>
        obtain ⟨hl2, hy, hr'⟩ := drop_eq hr
        have hg2 : (((i + 1 : Nat) : Int) < (s.length : Int)) := by omega
        have hiy : idx s ((i + 1 : Nat) : Int) = some y := by rw [idx_nat, hy]
        by_cases hy39 : y = 39
        · subst hy39
          obtain ⟨j, ih, hj⟩ := title_loop hs z n r' (t ++ [39]) (i + 2) (by simp at hn; omega) hr' (by omega) (by simp; omega)
          have e : t ++ (quoted (39 :: 39 :: r')).1 = t ++ [39] ++ (quoted r').1 := by simp [quoted]
          refine ⟨j, ?_, by simpa [quoted] using hj⟩
          rw [e]
          refine .step ?_ ih
          simp only [chanceryref2_ReadRef_l1, hg, decide_true, cond_true, hix, Option.bind_some, a39, Bool.not_true, cond_false, w1, hg2, hiy, c1, c2, w2]
        · have ny : ¬ (ofByte y = 39) := by rw [byte39]; exact hy39
          refine ⟨i, .done ?_, by simp only [quoted, if_true, hy39, if_false]; exact ⟨hl, hr⟩⟩
          simp only [chanceryref2_ReadRef_l1, hg, decide_true, cond_true, hix, Option.bind_some, a39, Bool.not_true, cond_false, w1, hg2, hiy, ny, decide_false]
          simp [quoted, hy39]
    · have nx : ¬ (ofByte x = 39) := by rw [byte39]; exact h39
      obtain ⟨j, ih, hj⟩ := title_loop hs z n r (t ++ [x]) (i + 1) (by simp at hn; omega) hr (by omega) (by simp; omega)
      have e : t ++ (quoted (x :: r)).1 = t ++ [x] ++ (quoted r).1 ∧ (quoted (x :: r)).2 = (quoted r).2 := by
        match r with
        | [] => simp [quoted, h39]
        | y :: r' => simp [quoted, h39]
      refine ⟨j, ?_, by rw [e.2]; exact hj⟩
      rw [e.1]
      refine .step ?_ ih
      simp only [chanceryref2_ReadRef_l1, hg, decide_true, cond_true, hix, Option.bind_some, nx, decide_false, cond_false, Bool.not_false, w1, c1, c2]

/-- A division at a byte, by a loop. -/
theorem cut_parts {s : Str} {i : Nat} (h : i < s.length) : cut s 0 (i : Int) = some (s.take i) ∧ cut s ((i + 1 : Nat) : Int) (s.length : Int) = some (s.drop (i + 1)) := by
  constructor
  · have := cut_nat (xs := s) (a := 0) (b := i) (by omega) (by omega)
    simpa using this
  · rw [cut_nat (by omega) (by omega), List.take_length]

theorem bang_loop {s : Str} (hs : s.length ≤ 500) (z : RefD) : loop (chanceryref2_ReadRef_l2 s) ((), [], s, 0, z, ()) = some (
    if (cutB 33 s).2.2 = true then (if isPlain (cutB 33 s).1 = true then .inl ((), (cutB 33 s).1, (cutB 33 s).2.1, z, ()) else .inr ((), 10, Z0, ())) else .inl ((), [], s, z, ())) := by
  have key : ∀ i, i < s.length → (∀ j, j < i → (s[j]?).all (fun c => !decide (c = 33)) = true) → chanceryref2_ReadRef_l2 s ((), [], s, (i : Int), z, ()) =
      some (if (s[i]?).all (fun c => !decide (c = 33)) = true then .inl ((), [], s, ((i + 1 : Nat) : Int), z, ()) else .inr (if isPlain (s.take i) = true then .inl ((), s.take i, s.drop (i + 1), z, ()) else .inr ((), 10, Z0, ()))) := fun i hi _ => by
    have hg : ((i : Int) < (s.length : Int)) := by omega
    have hb := byteIs s[i] 33 (by omega)
    have hc := cut_parts hi
    have hp := RPlain_eq (s := s.take i) (by simp; omega)
    simp only [chanceryref2_ReadRef_l2, hg, decide_true, cond_true, idx_lt hi, Option.bind_some, wrap_succ (i := i) (by omega), hc, hp, List.getElem?_eq_getElem hi, Option.all_some]
    by_cases h : s[i] = 33
    · have : ofByte s[i] = 33 := hb.2 h
      simp only [decide_true, h]
      cases isPlain (s.take i) <;> rfl
    · have : ¬ ofByte s[i] = 33 := fun e => h (hb.1 e)
      simp only [this, decide_false, cond_false, h]
      rfl
  rcases Halts.scan (f := chanceryref2_ReadRef_l2 s) (fun i => ((), [], s, (i : Int), z, ())) (fun i => (s[i]?).all (fun c => !decide (c = 33))) s.length (r := .inl ((), [], s, z, ()))
    (fun i => if isPlain (s.take i) = true then .inl ((), s.take i, s.drop (i + 1), z, ()) else .inr ((), 10, Z0, ())) key (fun _ => by simp [chanceryref2_ReadRef_l2]) with ⟨h1, h2⟩ | ⟨i, hi, h1, h3, h2⟩
  · have hl := h2.loop (by omega)
    rw [show ((0 : Nat) : Int) = 0 from rfl] at hl
    rw [hl, cutB_none (c := 33) (s := s) (fun i hc => by
      have hi : i < s.length := by
        rcases Nat.lt_or_ge i s.length with h | h
        · exact h
        · rw [List.getElem?_eq_none h] at hc; cases hc
      have := h1 i hi
      rw [hc] at this
      simp at this)]
    simp
  · have hl := h2.loop (by omega)
    rw [show ((0 : Nat) : Int) = 0 from rfl] at hl
    have hc : s[i]? = some 33 := by
      rw [List.getElem?_eq_getElem hi] at h1 ⊢
      simpa using h1
    rw [hl, cutB_some (c := 33) hc (fun k hk e => by
      have := h3 k hk
      rw [e] at this
      simp at this)]
    simp

theorem colon_loop {s t : Str} (hs : s.length ≤ 500) (z z' : RefD) : loop (chanceryref2_ReadRef_l3 ((), t, s, z, ())) ((), s, [], false, 0, z', ()) = some ((), (cutB 58 s).1, (cutB 58 s).2.1, (cutB 58 s).2.2, z', ()) := by
  have key : ∀ i, i < s.length → (∀ j, j < i → (s[j]?).all (fun c => !decide (c = 58)) = true) → chanceryref2_ReadRef_l3 ((), t, s, z, ()) ((), s, [], false, (i : Int), z', ()) =
      some (if (s[i]?).all (fun c => !decide (c = 58)) = true then .inl ((), s, [], false, ((i + 1 : Nat) : Int), z', ()) else .inr ((), s.take i, s.drop (i + 1), true, z', ())) := fun i hi _ => by
    have hg : ((i : Int) < (s.length : Int)) := by omega
    have hb := byteIs s[i] 58 (by omega)
    have hc := cut_parts hi
    simp only [chanceryref2_ReadRef_l3, hg, decide_true, cond_true, idx_lt hi, Option.bind_some, wrap_succ (i := i) (by omega), hc, List.getElem?_eq_getElem hi, Option.all_some]
    by_cases h : s[i] = 58
    · have : ofByte s[i] = 58 := hb.2 h
      simp only [decide_true, h]
      rfl
    · have : ¬ ofByte s[i] = 58 := fun e => h (hb.1 e)
      simp only [this, decide_false, cond_false, h]
      rfl
  rcases Halts.scan (f := chanceryref2_ReadRef_l3 ((), t, s, z, ())) (fun i => ((), s, [], false, (i : Int), z', ())) (fun i => (s[i]?).all (fun c => !decide (c = 58))) s.length (r := ((), s, [], false, z', ()))
    (fun i => ((), s.take i, s.drop (i + 1), true, z', ())) key (fun _ => by simp [chanceryref2_ReadRef_l3]) with ⟨h1, h2⟩ | ⟨i, hi, h1, h3, h2⟩
  · have hl := h2.loop (by omega)
    rw [show ((0 : Nat) : Int) = 0 from rfl] at hl
    rw [hl, cutB_none (c := 58) (s := s) (fun i hc => by
      have hi : i < s.length := by
        rcases Nat.lt_or_ge i s.length with h | h
        · exact h
        · rw [List.getElem?_eq_none h] at hc; cases hc
      have := h1 i hi
      rw [hc] at this
      simp at this)]
  · have hl := h2.loop (by omega)
    rw [show ((0 : Nat) : Int) = 0 from rfl] at hl
    have hc : s[i]? = some 58 := by
      rw [List.getElem?_eq_getElem hi] at h1 ⊢
      simpa using h1
    rw [hl, cutB_some (c := 58) hc (fun k hk e => by
      have := h3 k hk
      rw [e] at this
      simp at this)]

theorem refHead_eq {s : Str} (hs : s.length ≤ 500) : refHead s = some (if (sheetOf s).2.2 = true then .inl ((), (sheetOf s).1, (sheetOf s).2.1, Z0, ()) else .inr ((), 10, Z0, ())) := by
  cases s with
  | nil =>
    have h := bang_loop (s := []) (by simp) Z0
    simp only [cutB] at h
    have h' : loop (chanceryref2_ReadRef_l2 []) ((), [], [], 0, ([], (0, (0, (0, (0, (0, (false, (false, (false, (false, ())))))))))), ()) = some (.inl ((), [], [], Z0, ())) := h
    simp only [refHead, decide_true, Bool.not_true, cond_false, Option.bind_some, h']
    rfl
  | cons x r =>
    have i0 : idx (x :: r) 0 = some x := rfl
    have e0 : decide ((x :: r : Str) = []) = false := by simp
    by_cases h39 : x = 39
    · subst h39
      have a39 : ofByte (39 : UInt8) = 39 := rfl
      obtain ⟨j, hj, hq⟩ := title_loop hs Z0 r.length r [] 1 (Nat.le_refl _) rfl (by simp) (by simp)
      have hl := hj.loop (by simp at hs; omega)
      rw [show ((1 : Nat) : Int) = 1 from rfl, List.nil_append] at hl
      have hl' : loop (chanceryref2_ReadRef_l1 (39 :: r)) ((), [], 1, ([], (0, (0, (0, (0, (0, (false, (false, (false, (false, ())))))))))), ()) = some ((), (quoted r).1, (j : Int), Z0, ()) := hl
      simp only [refHead, e0, Bool.not_false, cond_true, i0, Option.bind_some, a39, decide_true, hl', sheetOf, if_true]
      have hjs : (j : Int) < 1000 := by
        cases hh : (quoted r).2 with
        | none => rw [hh] at hq; simp only at hq; omega
        | some q => rw [hh] at hq; have := hq.1; omega
      have w1 := wrap_succ (i := j) (by omega)
      have w2 : IntKind.i64.wrap ((j : Int) + 2) = ((j + 2 : Nat) : Int) := by rw [wrap_i64 (by omega) (by omega)]; omega
      cases hh : (quoted r).2 with
      | none =>
        rw [hh] at hq
        simp only at hq
        have hle : ((39 :: r : Str).length : Int) ≤ ((j + 1 : Nat) : Int) := by omega
        cases ht : decide ((quoted r).1 = []) with
        | true => simp only [cond_true, Option.bind_some]; rfl
        | false => simp only [cond_false, w1, hle, decide_true, cond_true, Option.bind_some]; rfl
      | some q =>
        rw [hh] at hq
        simp only at hq
        cases ht : decide ((quoted r).1 = []) with
        | true =>
          have : (quoted r).1 = [] := of_decide_eq_true ht
          simp only [cond_true, Option.bind_some, this]
          simp
          rfl
        | false =>
          have hne : (quoted r).1 ≠ [] := of_decide_eq_false ht
          have hpos : decide (0 < (quoted r).1.length) = true := decide_eq_true (List.length_pos_iff.2 hne)
          cases q with
          | nil =>
            have hle : ((39 :: r : Str).length : Int) ≤ ((j + 1 : Nat) : Int) := by
              have := congrArg List.length hq.2
              rw [List.length_drop, List.length_nil] at this
              omega
            simp only [cond_false, w1, hle, decide_true, cond_true, Option.bind_some]
            rfl
          | cons y q' =>
            obtain ⟨hl2, hy, hr'⟩ := drop_eq hq.2
            have hle : ¬ ((39 :: r : Str).length : Int) ≤ ((j + 1 : Nat) : Int) := by omega
            have hiy : idx (39 :: r) ((j + 1 : Nat) : Int) = some y := by rw [idx_nat, hy]
            have hc : cut (39 :: r) ((j + 2 : Nat) : Int) ((39 :: r : Str).length : Int) = some q' := by rw [cut_nat (by omega) (by omega), List.take_length, hr']
            have hb := byteIs y 33 (by omega)
            simp only [cond_false, w1, hle, decide_false, hiy, Option.bind_some, w2, hc, hpos, Bool.and_true]
            by_cases h33 : y = 33
            · have h1 : ofByte y = 33 := hb.2 h33
              subst h33
              simp [h1, Lib.hasPrefix, Lib.trimPrefix, List.isPrefixOf, Z0]
            · have h1 : ¬ ofByte y = 33 := fun e => h33 (hb.1 e)
              simp [h1, Lib.hasPrefix, List.isPrefixOf, Ne.symm h33, Z0]
    · have nx : ¬ (ofByte x = 39) := by rw [byte39]; exact h39
      have h := bang_loop hs Z0
      have h' : loop (chanceryref2_ReadRef_l2 (x :: r)) ((), [], x :: r, 0, ([], (0, (0, (0, (0, (0, (false, (false, (false, (false, ())))))))))), ()) = _ := h
      simp only [refHead, e0, Bool.not_false, cond_true, i0, Option.bind_some, nx, decide_false, cond_false, h', sheetOf, h39, if_false]
      cases (cutB 33 (x :: r)).2.2 <;> cases isPlain (cutB 33 (x :: r)).1 <;> simp
end Go.Proofs.YtjhcnnhkabhigaaGreatDoor

namespace Go.Proofs.YtjhcnnhkabhigaaGreatDoor
open Go Go.Fe

theorem dec_pos {D : Str} (h0 : D ≠ []) (ha : D.all isDigit = true) (hp : Lib.hasPrefix D [48] = false) : 1 ≤ dec D := by
  have key : ∀ (r : Str) (n : Nat), 1 ≤ n → 1 ≤ r.foldl (fun n c => 10 * n + (c.toNat - 48)) n := by
    intro r
    induction r with
    | nil => intro n h; exact h
    | cons c r ih => intro n h; exact ih (10 * n + (c.toNat - 48)) (by omega)
  cases D with
  | nil => exact absurd rfl h0
  | cons c r =>
    simp only [List.all_cons, Bool.and_eq_true] at ha
    have h1 := ha.1
    simp only [isDigit, decide_eq_true_eq] at h1
    have h2 : c ≠ 48 := by
      intro e
      subst e
      simp [Lib.hasPrefix, List.isPrefixOf] at hp
    have h3 : c.toNat ≠ 48 := by
      intro e
      apply h2
      have : c.toNat = (48 : UInt8).toNat := by simp; omega
      exact UInt8.toNat.inj this
    exact key r (10 * 0 + (c.toNat - 48)) (by omega)

theorem fine_facts {s : Str} (h : sdFine s = true) : (sdL s).length ≤ 7 ∧ (sdN s).length ≤ 10 ∧ Lib.hasPrefix (sdN s) [48] = false := by
  simp only [sdFine, Bool.and_eq_true, decide_eq_true_eq, Bool.not_eq_true'] at h
  exact ⟨h.2.1, h.2.2.1, h.2.2.2.1⟩

def n0 (s : Str) : Int := if sdN s = [] then 0 else (dec (sdN s) : Int) - 1
def m0 (s : Str) : Int := if sdL s = [] then 0 else (number (sdL s) : Int) - 1
def over (s : Str) : Bool := decide (1073741824 ≤ rowV s) || decide (1073741824 ≤ colV s)

theorem side_facts {s : Str} (h : sdFine s = true) : decide (rowV s < 0) = decide (sdN s = []) ∧ decide (colV s < 0) = decide (sdL s = []) ∧ mx (rowV s) 0 = n0 s ∧ mx (colV s) 0 = m0 s := by
  obtain ⟨h1, h2, h3⟩ := fine_facts h
  have hL : (sdL s).all isLetter = true := all_takeWhile _ _
  have hN : (sdN s).all isDigit = true := all_takeWhile _ _
  refine ⟨?_, ?_, ?_, ?_⟩
  · by_cases e : sdN s = []
    · simp [rowV, e]
    · have := dec_pos e hN h3
      simp only [rowV, e, if_false, decide_false, decide_eq_false_iff_not]
      omega
  · by_cases e : sdL s = []
    · simp [colV, e]
    · have := number_pos e hL
      simp only [colV, e, if_false, decide_false, decide_eq_false_iff_not]
      omega
  · by_cases e : sdN s = []
    · simp [rowV, n0, e, mx]
    · have := dec_pos e hN h3
      simp only [rowV, n0, e, if_false, mx]
      split <;> omega
  · by_cases e : sdL s = []
    · simp [colV, m0, e, mx]
    · have := number_pos e hL
      simp only [colV, m0, e, if_false, mx]
      split <;> omega

theorem values_eq {s : Str} (h : sdFine s = true) : cellref_corner__values (sdL s, sdN s, sdC s, sdR s, ()) = some (cond (over s) (0, 0, 2, ()) (n0 s, m0 s, 0, ())) := by
  obtain ⟨h1, h2, h3⟩ := fine_facts h
  have hL : (sdL s).all isLetter = true := all_takeWhile _ _
  have hN : (sdN s).all isDigit = true := all_takeWhile _ _
  have hds := dec_small h2 hN
  have wd : IntKind.i64.wrap ((dec (sdN s) : Int) - 1) = (dec (sdN s) : Int) - 1 := wrap_i64 (by omega) (by omega)
  have hcol : sdL s ≠ [] → cellref_Column (sdL s) = some (if 1073741824 < number (sdL s) then (0, 2, ()) else ((number (sdL s) : Int) - 1, 0, ())) := fun e => by
    rw [Column_eq, if_neg (by simp [e, hL]; omega)]
  have big : (1073741824 ≤ (number (sdL s) : Int) - 1) ↔ 1073741824 < number (sdL s) := by omega
  by_cases eN : sdN s = [] <;> by_cases eL : sdL s = []
  · simp [cellref_corner__values, eN, eL, over, rowV, colV, n0, m0]
  · simp only [cellref_corner__values, eN, eL, decide_true, decide_false, Bool.not_true, Bool.not_false, cond_true, cond_false, Option.bind_some, hcol eL, over, rowV, colV, n0, m0, if_true, if_false, big]
    by_cases g : 1073741824 < number (sdL s) <;> simp [g]
  · simp only [cellref_corner__values, eN, eL, decide_true, decide_false, Bool.not_true, Bool.not_false, cond_true, cond_false, Option.bind_some, sAtoi_digits eN h2 hN, wd, over, rowV, colV, n0, m0, if_true, if_false]
    by_cases g : 1073741824 ≤ (dec (sdN s) : Int) - 1 <;> simp [g]
  · simp only [cellref_corner__values, eN, eL, decide_false, Bool.not_false, cond_true, Option.bind_some, sAtoi_digits eN h2 hN, wd, hcol eL, over, rowV, colV, n0, m0, if_false, big]
    by_cases g : 1073741824 < number (sdL s) <;> by_cases g' : 1073741824 ≤ (dec (sdN s) : Int) - 1 <;> simp [g, g']

/-- Rows, and columns, in order. -/
def sortR (x : RefD) : RefD :=
  let y : RefD := if x.2.2.2.2.1 < x.2.2.1 then (x.1, x.2.1, x.2.2.2.2.1, x.2.2.2.1, x.2.2.1, x.2.2.2.2.2.1, x.2.2.2.2.2.2.2.2.1, x.2.2.2.2.2.2.2.1, x.2.2.2.2.2.2.1, x.2.2.2.2.2.2.2.2.2.1, ()) else x
  if y.2.2.2.2.2.1 < y.2.2.2.1 then (y.1, y.2.1, y.2.2.1, y.2.2.2.2.2.1, y.2.2.2.2.1, y.2.2.2.1, y.2.2.2.2.2.2.1, y.2.2.2.2.2.2.2.2.2.1, y.2.2.2.2.2.2.2.2.1, y.2.2.2.2.2.2.2.1, ()) else y

theorem Sorted_eq (x : RefD) : chanceryref2_Sorted x = some (sortR x, ()) := by
  simp only [chanceryref2_Sorted, sortR]
  by_cases h : x.2.2.2.2.1 < x.2.2.1
  · by_cases h' : x.2.2.2.2.2.1 < x.2.2.2.1 <;> simp [h, h']
  · by_cases h' : x.2.2.2.2.2.1 < x.2.2.2.1 <;> simp [h, h']
theorem ordered_eq (x : RefD) : cellref_ordered x = some (cond (decide (x.2.1 = 0)) x (sortR x), ()) := by
  simp only [cellref_ordered, sortR]
  by_cases h0 : x.2.1 = 0
  · simp [h0]
  · by_cases h : x.2.2.2.2.1 < x.2.2.1
    · by_cases h' : x.2.2.2.2.2.1 < x.2.2.2.1 <;> simp [h0, h, h']
    · by_cases h' : x.2.2.2.2.2.1 < x.2.2.2.1 <;> simp [h0, h, h']

/-- The error of a reference, as one. -/
def errD (x : RefD) : Int := refErr x.1 x.2.1 x.2.2.1 x.2.2.2.1 x.2.2.2.2.1 x.2.2.2.2.2.1 x.2.2.2.2.2.2.1 x.2.2.2.2.2.2.2.1 x.2.2.2.2.2.2.2.2.1 x.2.2.2.2.2.2.2.2.2.1
theorem CheckD (x : RefD) : cellref_Check x = some (errD x, ()) := Check_eq _ _ _ _ _ _ _ _ _ _
theorem RefErrorD (x : RefD) : chanceryref2_RefError x = some (errD x, ()) := RefError_eq _ _ _ _ _ _ _ _ _ _

end Go.Proofs.YtjhcnnhkabhigaaGreatDoor

namespace Go.Proofs.YtjhcnnhkabhigaaGreatDoor
open Go Go.Fe

theorem errD_spec (x : RefD) {y : RefD × (Int × Unit)} (h : y = if errD x = 0 then (x, 0, ()) else (Z0, errD x, ())) : some y = some (if errD x = 0 then (x, 0, ()) else (Z0, errD x, ())) := by rw [h]

theorem last_p (x : RefD) : (cond (!decide (errD x = 0)) (some (([], (0, (0, (0, (0, (0, (false, (false, (false, (false, ())))))))))), errD x, ())) (some (x, 0, ())) : Option (RefD × (Int × Unit))) = some (cond (decide (errD x = 0)) x Z0, errD x, ()) := by
  cases h : decide (errD x = 0) with
  | true =>
    have : errD x = 0 := of_decide_eq_true h
    simp [this]
  | false => rfl

theorem sheetOf_len (s : Str) : (sheetOf s).2.1.length ≤ s.length := by
  cases s with
  | nil => simp [sheetOf]
  | cons x r =>
    simp only [sheetOf]
    split
    · have h := quoted_len r.length r (Nat.le_refl _)
      cases hq : (quoted r).2 with
      | none => simp
      | some q =>
        have h1 := h.2 q hq
        have h2 : (Lib.trimPrefix q [33]).length ≤ q.length := by
          unfold Lib.trimPrefix
          split
          · rw [List.length_drop]; omega
          · exact Nat.le_refl _
        simp only [List.length_cons]
        omega
    · have := cutB_len 33 (x :: r)
      split
      · exact Nat.le_refl _
      · exact this.2

theorem parse_eq (s : Str) : ∃ (x : RefD) (e : Int), cellref_Parse s = some (x, e, ()) ∧ chanceryref2_ReadRef s = some (x, e, ()) := by
  by_cases h5 : (500 : Int) < (s.length : Int)
  · exact ⟨_, _, by simp only [cellref_Parse, h5, decide_true, cond_true]; rfl, by simp only [readRef_def, h5, decide_true, cond_true]⟩
  by_cases hR : s = [35, 82, 69, 70, 33]
  · exact ⟨_, _, by simp only [cellref_Parse, hR, decide_true, cond_true]; rfl, by simp only [readRef_def, hR, decide_true, cond_true]; rfl⟩
  have hs : s.length ≤ 500 := by omega
  have hsh := sheet_eq hs hR
  have hhd := refHead_eq hs
  obtain ⟨t, ht⟩ : ∃ t, (sheetOf s).1 = t := ⟨_, rfl⟩
  obtain ⟨rest, hr⟩ : ∃ r, (sheetOf s).2.1 = r := ⟨_, rfl⟩
  obtain ⟨ok, hok⟩ : ∃ b, (sheetOf s).2.2 = b := ⟨_, rfl⟩
  rw [ht, hr, hok] at hsh hhd
  have hrl : rest.length ≤ 500 := by have := sheetOf_len s; rw [hr] at this; omega
  have hcut := strings_Cut_eq (s := rest) (c := 58) (by omega)
  have hcol := colon_loop (s := rest) (t := t) hrl Z0 Z0
  obtain ⟨hf, hl⟩ := cutB_len 58 rest
  obtain ⟨f, hf'⟩ : ∃ f, (cutB 58 rest).1 = f := ⟨_, rfl⟩
  obtain ⟨l, hl'⟩ : ∃ f, (cutB 58 rest).2.1 = f := ⟨_, rfl⟩
  obtain ⟨two, htwo⟩ : ∃ f, (cutB 58 rest).2.2 = f := ⟨_, rfl⟩
  rw [hf'] at hf
  rw [hl'] at hl
  rw [hf', hl', htwo] at hcut hcol
  have pf := place_eq (s := f) (by omega)
  have pl := place_eq (s := l) (by omega)
  have rf := readSide_eq (s := f) (by omega)
  have rl := readSide_eq (s := l) (by omega)
  have i0 : decide ((0 : Int) = 0) = true := rfl
  have i1 : decide ((1 : Int) = 0) = false := rfl
  have i2 : decide ((2 : Int) = 0) = false := rfl
  have i3 : decide ((1 : Int) = 2) = false := rfl
  have i4 : decide ((2 : Int) = 2) = true := rfl
  have i5 : decide ((0 : Int) = 2) = false := rfl
  have k2 : decide ((3 : Int) = 0) = false := rfl
  cases ok with
  | false =>
    simp only [Bool.false_eq_true, if_false] at hhd
    cases two with
    | false => exact ⟨_, _, by simp only [cellref_Parse, h5, hR, decide_false, cond_false, cond_true, hsh, Option.bind_some, hcut, pf, pl, Bool.not_false, cond_some', cond_pair, Bool.cond_self] <;> rfl, by simp only [readRef_def, h5, hR, decide_false, cond_false, hhd, Option.bind_some, refTail] <;> rfl⟩
    | true => exact ⟨_, _, by simp only [cellref_Parse, h5, hR, decide_false, cond_false, cond_true, hsh, Option.bind_some, hcut, pf, pl, Bool.not_false, cond_some', cond_pair, Bool.cond_self] <;> rfl, by simp only [readRef_def, h5, hR, decide_false, cond_false, hhd, Option.bind_some, refTail] <;> rfl⟩
  | true =>
  simp only [if_true] at hhd
  cases hfa : sdFine f with
  | false =>
    rw [hfa] at pf
    obtain ⟨o, ho⟩ := rf.1 hfa
    cases two with
    | false => exact ⟨_, _, by simp only [cellref_Parse, h5, hR, decide_false, cond_false, cond_true, hsh, Option.bind_some, hcut, pf, pl, Bool.not_true, Bool.not_false, cond_some', cond_pair, Bool.cond_self] <;> rfl, by simp only [readRef_def, h5, hR, decide_false, decide_true, cond_false, cond_true, hhd, Option.bind_some, refTail, hcol, Bool.not_false, ho] <;> rfl⟩
    | true =>
      cases hfb : sdFine l with
      | false =>
        obtain ⟨o', ho'⟩ := rl.1 hfb
        exact ⟨_, _, by simp only [cellref_Parse, h5, hR, decide_false, cond_false, cond_true, hsh, Option.bind_some, hcut, pf, pl, Bool.not_true, Bool.not_false, cond_some', cond_pair, Bool.cond_self] <;> rfl, by simp only [readRef_def, h5, hR, decide_false, decide_true, cond_false, cond_true, hhd, Option.bind_some, refTail, hcol, Bool.not_true, ho, ho'] <;> rfl⟩
      | true =>
        have ho' := rl.2 hfb
        exact ⟨_, _, by simp only [cellref_Parse, h5, hR, decide_false, cond_false, cond_true, hsh, Option.bind_some, hcut, pf, pl, Bool.not_true, Bool.not_false, cond_some', cond_pair, Bool.cond_self] <;> rfl, by simp only [readRef_def, h5, hR, decide_false, decide_true, cond_false, cond_true, hhd, Option.bind_some, refTail, hcol, Bool.not_true, ho, ho'] <;> rfl⟩
  | true =>
  rw [hfa] at pf
  have ho := rf.2 hfa
  have vf := values_eq hfa
  obtain ⟨s1, s2, s3, s4⟩ := side_facts hfa
  have code : ∀ x : Str, (if 1073741824 ≤ rowV x ∨ 1073741824 ≤ colV x then (2 : Int) else 1) = cond (over x) 2 1 := by
    intro x
    unfold over
    by_cases g : 1073741824 ≤ rowV x <;> by_cases g' : 1073741824 ≤ colV x <;> simp [g, g']
  rw [code] at ho
  have cz : ∀ b : Bool, decide ((cond b (2 : Int) 1) = 0) = false := by intro b; cases b <;> rfl
  have c2 : ∀ b : Bool, decide ((cond b (2 : Int) 1) = 2) = b := by intro b; cases b <;> rfl
  have ct : ∀ b : Bool, decide ((cond b (2 : Int) 0) = 0) = !b := by intro b; cases b <;> rfl
  cases two with
  | false =>
    cases e1 : decide (sdL f = []) with
    | true => exact ⟨_, _, by simp only [cellref_Parse, h5, hR, decide_false, cond_false, cond_true, hsh, Option.bind_some, hcut, pf, pl, Bool.not_true, Bool.not_false, cond_some', cond_pair, Bool.cond_self, e1] <;> rfl, by
        cases e2 : decide (sdN f = []) <;> simp only [readRef_def, h5, hR, decide_false, cond_false, cond_true, hhd, Option.bind_some, refTail, hcol, Bool.not_true, Bool.not_false, ho, s1, s2, e1, e2, i1, cz, beq_self_eq_true] <;> rfl⟩
    | false =>
    cases e2 : decide (sdN f = []) with
    | true => exact ⟨_, _, by simp only [cellref_Parse, h5, hR, decide_false, cond_false, cond_true, hsh, Option.bind_some, hcut, pf, pl, Bool.not_true, Bool.not_false, cond_some', cond_pair, Bool.cond_self, e1, e2, beq_self_eq_true] <;> rfl, by simp only [readRef_def, h5, hR, decide_false, cond_false, cond_true, hhd, Option.bind_some, refTail, hcol, Bool.not_true, Bool.not_false, ho, s1, s2, e1, e2, i1, cz, beq_self_eq_true] <;> rfl⟩
    | false =>
    cases ov : over f with
    | true =>
      rw [ov] at vf ho
      exact ⟨_, _, by simp only [cellref_Parse, h5, hR, decide_false, cond_false, cond_true, hsh, Option.bind_some, hcut, pf, pl, Bool.not_true, Bool.not_false, cond_some', cond_pair, Bool.cond_self, e1, e2, beq_self_eq_true, vf, i2] <;> rfl, by simp only [readRef_def, h5, hR, decide_false, decide_true, cond_false, cond_true, hhd, Option.bind_some, refTail, hcol, Bool.not_true, Bool.not_false, ho, s1, s2, e1, e2, i1, i2, beq_self_eq_true] <;> rfl⟩
    | false =>
      rw [ov] at vf ho
      exact ⟨_, _, by simp only [cellref_Parse, h5, hR, decide_false, decide_true, cond_false, cond_true, hsh, Option.bind_some, hcut, pf, pl, Bool.not_true, Bool.not_false, cond_some', cond_pair, Bool.cond_self, e1, e2, beq_self_eq_true, vf, ordered_eq, CheckD] <;> rfl, by simp only [readRef_def, h5, hR, decide_false, cond_false, cond_true, hhd, Option.bind_some, refTail, hcol, Bool.not_true, Bool.not_false, ho, s1, s2, s3, s4, e1, e2, i1, i3, beq_self_eq_true, RefErrorD, cond_some', cond_pair, Bool.cond_self] <;> rfl⟩
  | true =>
  cases hfb : sdFine l with
  | false =>
    rw [hfb] at pl
    obtain ⟨o', ho'⟩ := rl.1 hfb
    exact ⟨_, _, by simp only [cellref_Parse, h5, hR, decide_false, cond_false, cond_true, hsh, Option.bind_some, hcut, pf, pl, Bool.not_true, Bool.not_false, cond_some', cond_pair, Bool.cond_self] <;> rfl, by simp only [readRef_def, h5, hR, decide_false, decide_true, cond_false, cond_true, hhd, Option.bind_some, refTail, hcol, Bool.not_true, ho, ho', cz] <;> rfl⟩
  | true =>
  rw [hfb] at pl
  have ho' := rl.2 hfb
  have vl := values_eq hfb
  obtain ⟨q1, q2, q3, q4⟩ := side_facts hfb
  rw [code] at ho'
  cases m1 : (decide (sdL f = []) == decide (sdL l = [])) with
  | false =>
    exact ⟨_, _, by simp only [cellref_Parse, h5, hR, decide_false, cond_false, cond_true, hsh, Option.bind_some, hcut, pf, pl, Bool.not_true, Bool.not_false, cond_some', cond_pair, Bool.cond_self, m1] <;> rfl, by
      cases m2 : (decide (sdN f = []) == decide (sdN l = [])) <;> simp only [readRef_def, h5, hR, decide_false, cond_false, cond_true, hhd, Option.bind_some, refTail, hcol, Bool.not_true, Bool.not_false, ho, ho', s1, s2, q1, q2, cz, m1, m2] <;> rfl⟩
  | true =>
  cases m2 : (decide (sdN f = []) == decide (sdN l = [])) with
  | false => exact ⟨_, _, by simp only [cellref_Parse, h5, hR, decide_false, cond_false, cond_true, hsh, Option.bind_some, hcut, pf, pl, Bool.not_true, Bool.not_false, cond_some', cond_pair, Bool.cond_self, m1, m2] <;> rfl, by simp only [readRef_def, h5, hR, decide_false, cond_false, cond_true, hhd, Option.bind_some, refTail, hcol, Bool.not_true, Bool.not_false, ho, ho', s1, s2, q1, q2, cz, m1, m2] <;> rfl⟩
  | true =>
  cases ov : over f with
  | true =>
    rw [ov] at vf ho
    exact ⟨_, _, by simp only [cellref_Parse, h5, hR, decide_false, cond_false, cond_true, hsh, Option.bind_some, hcut, pf, pl, Bool.not_true, Bool.not_false, cond_some', cond_pair, Bool.cond_self, m1, m2, vf, i2] <;> rfl, by simp only [readRef_def, h5, hR, decide_false, decide_true, cond_false, cond_true, hhd, Option.bind_some, refTail, hcol, Bool.not_true, ho, ho', s1, s2, q1, q2, i2, cz, m1, m2] <;> rfl⟩
  | false =>
  rw [ov] at vf ho
  cases ov2 : over l with
  | true =>
    rw [ov2] at vl ho'
    exact ⟨_, _, by simp only [cellref_Parse, h5, hR, decide_false, decide_true, cond_false, cond_true, hsh, Option.bind_some, hcut, pf, pl, Bool.not_true, Bool.not_false, cond_some', cond_pair, Bool.cond_self, m1, m2, vf, vl, i2] <;> rfl, by simp only [readRef_def, h5, hR, decide_false, decide_true, cond_false, cond_true, hhd, Option.bind_some, refTail, hcol, Bool.not_true, ho, ho', s1, s2, q1, q2, i1, i2, i3, m1, m2] <;> rfl⟩
  | false =>
  rw [ov2] at vl ho'
  have e4 : decide (sdN l = []) = decide (sdN f = []) := (beq_iff_eq.1 m2).symm
  have e3 : decide (sdL l = []) = decide (sdL f = []) := (beq_iff_eq.1 m1).symm
  cases e1 : decide (sdL f = []) <;> cases e2 : decide (sdN f = []) <;> rw [e1] at e3 <;> rw [e2] at e4
  · exact ⟨_, _, by simp only [cellref_Parse, h5, hR, decide_false, decide_true, cond_false, cond_true, hsh, Option.bind_some, hcut, pf, pl, Bool.not_true, Bool.not_false, cond_some', cond_pair, Bool.cond_self, vf, vl, i1, e1, e2, e3, e4, beq_self_eq_true, ordered_eq, CheckD] <;> rfl, by simp only [readRef_def, h5, hR, decide_false, cond_false, cond_true, hhd, Option.bind_some, refTail, hcol, Bool.not_true, ho, ho', s1, s2, s3, s4, q1, q2, q3, q4, i1, i3, e1, e2, e3, e4, beq_self_eq_true, Sorted_eq, RefErrorD, cond_some', cond_pair, Bool.cond_self] <;> rfl⟩
  · exact ⟨_, _, by simp only [cellref_Parse, h5, hR, decide_false, decide_true, cond_false, cond_true, hsh, Option.bind_some, hcut, pf, pl, Bool.not_true, Bool.not_false, cond_some', cond_pair, Bool.cond_self, vf, vl, k2, e1, e2, e3, e4, beq_self_eq_true, ordered_eq, CheckD] <;> rfl, by simp only [readRef_def, h5, hR, decide_false, cond_false, cond_true, hhd, Option.bind_some, refTail, hcol, Bool.not_true, ho, ho', s1, s2, s3, s4, q1, q2, q3, q4, i1, i3, e1, e2, e3, e4, beq_self_eq_true, Sorted_eq, RefErrorD, cond_some', cond_pair, Bool.cond_self] <;> rfl⟩
  · exact ⟨_, _, by simp only [cellref_Parse, h5, hR, decide_false, decide_true, cond_false, cond_true, hsh, Option.bind_some, hcut, pf, pl, Bool.not_true, Bool.not_false, cond_some', cond_pair, Bool.cond_self, vf, vl, i2, e1, e2, e3, e4, beq_self_eq_true, ordered_eq, CheckD] <;> rfl, by simp only [readRef_def, h5, hR, decide_false, cond_false, cond_true, hhd, Option.bind_some, refTail, hcol, Bool.not_true, ho, ho', s1, s2, s3, s4, q1, q2, q3, q4, i1, i3, e1, e2, e3, e4, beq_self_eq_true, Sorted_eq, RefErrorD, cond_some', cond_pair, Bool.cond_self] <;> rfl⟩
  · exact ⟨_, _, by simp only [cellref_Parse, h5, hR, decide_false, decide_true, cond_false, cond_true, hsh, Option.bind_some, hcut, pf, pl, Bool.not_true, Bool.not_false, cond_some', cond_pair, Bool.cond_self, vf, vl, k2, e1, e2, e3, e4, beq_self_eq_true, ordered_eq, CheckD] <;> rfl, by simp only [readRef_def, h5, hR, decide_false, cond_false, cond_true, hhd, Option.bind_some, refTail, hcol, Bool.not_true, ho, ho', s1, s2, s3, s4, q1, q2, q3, q4, i1, i3, e1, e2, e3, e4, beq_self_eq_true, Sorted_eq, RefErrorD, cond_some', cond_pair, Bool.cond_self] <;> rfl⟩

/-- A reference that is gone. -/
def Gone : RefD := ([], 4, 0, 0, 0, 0, false, false, false, false, ())

theorem refErr_zero {s : Str} {k r c r2 c2 : Int} {ar ac ar2 ac2 : Bool} (h1 : 0 ≤ k ∧ k ≤ 4) (h2 : nameErr s = 0) (h3 : badForm s k r c r2 c2 ar ac ar2 ac2 = false) (h4 : ins r = true) (h5 : ins c = true) (h6 : ins r2 = true) (h7 : ins c2 = true)
    (h8 : k = 0 ∨ r ≤ r2 ∧ c ≤ c2) : refErr s k r c r2 c2 ar ac ar2 ac2 = 0 := by
  unfold refErr
  rw [if_neg (by omega), if_neg (by simp [h2]), h3, h4, h5, h6, h7]
  rcases h8 with h8 | h8
  · simp [h8]
  · have e1 : ¬r2 < r := by omega
    have e2 : ¬c2 < c := by omega
    simp [e1, e2]
theorem gone_valid : errD Gone = 0 := rfl

end Go.Proofs.YtjhcnnhkabhigaaGreatDoor

