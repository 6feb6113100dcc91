import Derived.Test.YtfbnnjmhlkafiaaDoorLawF
namespace Go.Proofs.YtfbnnjmhlkafiaaDoor
open Go Go.Fe

/-! ### A string divided at a byte -/
def cutB (c : UInt8) : Str → Str × Str × Bool
  | [] => ([], [], false)
  | x :: r => if x = c then ([], r, true) else (x :: (cutB c r).1, (cutB c r).2.1, (cutB c r).2.2)

theorem cutB_none {c : UInt8} : ∀ {s : Str}, (∀ i : Nat, s[i]? ≠ some c) → cutB c s = (s, [], false)
  | [], _ => rfl
  | x :: r, h => by
    have h0 : x ≠ c := by simpa using h 0
    have ih := cutB_none (c := c) (s := r) (fun i => by simpa using h (i + 1))
    simp [cutB, h0, ih]
theorem cutB_some {c : UInt8} : ∀ {s : Str} {i : Nat}, s[i]? = some c → (∀ k : Nat, k < i → s[k]? ≠ some c) → cutB c s = (s.take i, s.drop (i + 1), true)
  | [], i, h, _ => by simp at h
  | x :: r, 0, h, _ => by
    have : x = c := by simpa using h
    simp [cutB, this]
  | x :: r, i + 1, h, hk => by
    have h0 : x ≠ c := by simpa using hk 0 (by omega)
    have ih := cutB_some (c := c) (s := r) (i := i) (by simpa using h) (fun k hk' => by simpa using hk (k + 1) (by omega))
    simp [cutB, h0, ih]
theorem cutB_len (c : UInt8) : ∀ s : Str, (cutB c s).1.length ≤ s.length ∧ (cutB c s).2.1.length ≤ s.length
  | [] => by simp [cutB]
  | x :: r => by
    have := cutB_len c r
    simp only [cutB]
    split <;> simp <;> omega

theorem strings_Cut_eq {s : Str} {c : UInt8} (h : s.length < 1099511627776) : strings_Cut s [c] = some ((cutB c s).1, (cutB c s).2.1, (cutB c s).2.2, ()) := by
  have hs : sIndex (s, [c], ()) = some (Lib.indexByte s c, ()) := rfl
  simp only [strings_Cut, stringslite_Cut, hs, Option.bind_some]
  by_cases hi : Lib.indexByte s c = -1
  · have hn := Lib.indexByte_none hi
    have hneg : ¬ (0 : Int) ≤ Lib.indexByte s c := by omega
    simp [hneg, cutB_none hn]
  · have hge := Lib.indexByte_ge s c
    obtain ⟨i, hi'⟩ : ∃ i : Nat, Lib.indexByte s c = i := ⟨(Lib.indexByte s c).toNat, by omega⟩
    obtain ⟨h1, h2⟩ := Lib.indexByte_some hi'
    have hil : i < s.length := by
      rcases Nat.lt_or_ge i s.length with h | h
      · exact h
      · rw [List.getElem?_eq_none h] at h1; cases h1
    have w : IntKind.i64.wrap ((i : Int) + (([c] : Str).length : Int)) = ((i + 1 : Nat) : Int) := wrap_succ (by omega)
    have c1 : cut s 0 (i : Int) = some (s.take i) := by
      have := cut_nat (xs := s) (a := 0) (b := i) (by omega) (by omega)
      simpa using this
    have c2 : cut s ((i + 1 : Nat) : Int) (s.length : Int) = some (s.drop (i + 1)) := by
      rw [cut_nat (by omega) (by omega), List.take_length]
    have hp : (0 : Int) ≤ (i : Int) := by omega
    simp only [hi', hp, decide_true, cond_true, w, c1, c2, Option.bind_some, cutB_some h1 h2]

/-! ### Names between apostrophes -/
/-- Behind the first apostrophe: the name, and what follows the last apostrophe, if it is there. -/
def quoted : Str → Str × Option Str
  | [] => ([], none)
  | [x] => if x = 39 then ([], some []) else ([x], none)
  | x :: y :: r => if x = 39 then (if y = 39 then (39 :: (quoted r).1, (quoted r).2) else ([], some (y :: r))) else (x :: (quoted (y :: r)).1, (quoted (y :: r)).2)

theorem quoted_len : ∀ (n : Nat) (s : Str), s.length ≤ n → (quoted s).1.length ≤ s.length ∧ ∀ r, (quoted s).2 = some r → r.length ≤ s.length
  | _, [], _ => by simp [quoted]
  | _, [x], _ => by simp only [quoted]; split <;> simp
  | 0, x :: y :: r, h => by simp at h
  | n + 1, x :: y :: r, h => by
    have h1 := quoted_len n r (by simp at h; omega)
    have h2 := quoted_len n (y :: r) (by simp at h ⊢; omega)
    simp only [quoted]
    split
    · split
      · refine ⟨by simp; omega, fun q hq => ?_⟩
        have := h1.2 q hq
        simp; omega
      · refine ⟨by simp, fun q hq => ?_⟩
        simp at hq
        subst hq
        simp
    · refine ⟨by simpa using h2.1, fun q hq => ?_⟩
      have := h2.2 q hq
      simp at this ⊢
      omega

theorem byte39 (c : UInt8) : (ofByte c = 39) ↔ c = 39 := by
  rw [ofByte_eq]
  constructor
  · intro h
    have : c.toNat = (39 : UInt8).toNat := by simp; omega
    exact UInt8.toNat.inj this
  · intro h; rw [h]; rfl
theorem byteIs (c : UInt8) (n : Nat) (h : n < 256) : (ofByte c = (n : Int)) ↔ c = UInt8.ofNat n := by
  rw [ofByte_eq]
  constructor
  · intro hc
    have : c.toNat = (UInt8.ofNat n).toNat := by rw [ofNat_toNat h]; omega
    exact UInt8.toNat.inj this
  · intro hc; rw [hc, ofNat_toNat h]

theorem drop_eq {s : Str} {i : Nat} {x : UInt8} {r : Str} (h : s.drop i = x :: r) : i < s.length ∧ s[i]? = some x ∧ s.drop (i + 1) = r := by
  have hl : i < s.length := by
    rcases Nat.lt_or_ge i s.length with h' | h'
    · exact h'
    · rw [List.drop_eq_nil_of_le h'] at h; cases h
  rw [List.drop_eq_getElem_cons hl] at h
  cases h
  exact ⟨hl, List.getElem?_eq_getElem hl, rfl⟩

/-- What the program makes of a name between apostrophes. -/
def sheetEnd (t : Str) (q : Str × Option Str) : Unit ⊕ (Str × (Str × (Bool × Unit))) :=
  match q.2 with
  | none => .inl ()
  | some r => .inr (t ++ q.1, Lib.trimPrefix r [33], Lib.hasPrefix r [33] && decide (0 < (t ++ q.1).length), ())

theorem bytesStr_strBytes (s : Str) : bytesStr (s.map fun c => (c.toNat : Int)) = s := by
  simp only [bytesStr, List.map_map]
  have : (byteOfInt ∘ fun c : UInt8 => (c.toNat : Int)) = id := by
    funext c
    simp [byteOfInt]
  rw [this, List.map_id]

theorem sheet_loop {s : Str} (hs : s.length ≤ 500) : ∀ (n : Nat) (rem t : Str) (i : Nat), rem.length ≤ n → s.drop i = rem → i ≤ s.length → t.length ≤ i →
    Halts (cellref_sheet_l1458 s) n ((), (i : Int), ((), ((), ())), t.map (fun c => (c.toNat : Int)), ()) (sheetEnd t (quoted rem))
  | n, [], t, i, hn, hd, hi, ht => by
    have hl : s.length ≤ i := by
      have := congrArg List.length hd
      simp at this
      omega
    refine .done ?_
    have hg : ¬ ((i : Int) < (s.length : Int)) := by omega
    simp only [cellref_sheet_l1458, hg, decide_false, cond_false]
    rfl
  | 0, x :: r, t, i, hn, hd, hi, ht => by simp at hn
  | n + 1, x :: r, t, i, hn, hd, hi, ht => by
    obtain ⟨hl, hx, hr⟩ := drop_eq hd
    have hg : ((i : Int) < (s.length : Int)) := by omega
    have hix : idx s (i : Int) = some x := by rw [idx_nat, hx]
    have w1 := wrap_succ (i := i) (by omega)
    have w2 := wrap_succ (i := i + 1) (by omega)
    have hrl : r.length ≤ s.length := by rw [← hr]; simp
    have wr : ∀ (b : Nat), _strings_Builder__WriteByte (b : Int) (t.map fun c => (c.toNat : Int)) = some (false, (), ((), ((), ())), (t.map fun c => (c.toNat : Int)) ++ [(b : Int)], ()) := fun b => by
      simp only [_strings_Builder__WriteByte]
      rw [cat_ok (by simp; omega)]
      rfl
    have tl : ∀ c : UInt8, (t.map fun c => (c.toNat : Int)) ++ [(c.toNat : Int)] = (t ++ [c]).map fun c => (c.toNat : Int) := fun c => by simp
    by_cases h39 : x = 39
    · subst h39
      have a39 : ofByte (39 : UInt8) = 39 := rfl
      match r, hr, hn, hrl, hd with
      | [], hr, hn, hrl, hd =>
        have hl2 : s.length ≤ i + 1 := by
          have := congrArg List.length hr
          simp at this
          omega
        have hg2 : ¬ (((i + 1 : Nat) : Int) < (s.length : Int)) := by omega
        have c2 : cut s ((i + 1 : Nat) : Int) (s.length : Int) = some [] := by
          rw [cut_nat (by omega) (by omega), List.take_length, hr]
        have cp : sCutPrefix (([] : Str), [33], ()) = some ([], false, ()) := rfl
        refine .done ?_
        simp only [cellref_sheet_l1458, hg, decide_true, cond_true, hix, Option.bind_some, a39, Bool.not_true, cond_false, w1, hg2, decide_false, c2, cp]
        rw [chk_of (by simp [lim]; omega)]
        simp only [Option.bind_some, bytesStr_strBytes]
        simp [sheetEnd, quoted, Lib.trimPrefix, Lib.hasPrefix]
      | y :: r', hr, hn, hrl, hd =>
        obtain ⟨hl2, hy, hr'⟩ := drop_eq hr
        have hg2 : (((i + 1 : Nat) : Int) < (s.length : Int)) := by omega
        have hiy : idx s ((i + 1 : Nat) : Int) = some y := by rw [idx_nat, hy]
        by_cases hy39 : y = 39
        · subst hy39
          have ih := sheet_loop hs n r' (t ++ [39]) (i + 2) (by simp at hn; omega) hr' (by omega) (by simp; omega)
          have e : sheetEnd t (quoted (39 :: 39 :: r')) = sheetEnd (t ++ [39]) (quoted r') := by
            simp only [quoted, if_true, sheetEnd]
            cases (quoted r').2 <;> simp
          rw [e]
          refine .step ?_ ih
          have w39 := wr 39
          rw [show ((39 : Nat) : Int) = 39 from rfl] at w39
          have t39 := tl 39
          rw [show (((39 : UInt8).toNat : Nat) : Int) = 39 from rfl] at t39
          simp only [cellref_sheet_l1458, hg, decide_true, cond_true, hix, Option.bind_some, a39, Bool.not_true, cond_false, w1, hg2, hiy, w39, w2, t39]
        · have ny : ¬ (ofByte y = 39) := by rw [byte39]; exact hy39
          have c2 : cut s ((i + 1 : Nat) : Int) (s.length : Int) = some (y :: r') := by
            rw [cut_nat (by omega) (by omega), List.take_length, hr]
          refine .done ?_
          simp only [cellref_sheet_l1458, hg, decide_true, cond_true, hix, Option.bind_some, a39, Bool.not_true, cond_false, w1, hg2, hiy, ny, decide_false, c2, sCutPrefix]
          rw [chk_of (by simp [lim]; omega)]
          simp only [Option.bind_some, bytesStr_strBytes, _strings_Builder__Len]
          cases hp : Lib.hasPrefix (y :: r') [33] <;> simp [sheetEnd, quoted, hy39, hp]
    · have nx : ¬ (ofByte x = 39) := by rw [byte39]; exact h39
      have ih := sheet_loop hs n r (t ++ [x]) (i + 1) (by simp at hn; omega) hr (by omega) (by simp; omega)
      have e : sheetEnd t (quoted (x :: r)) = sheetEnd (t ++ [x]) (quoted r) := by
        match r with
        | [] => simp [quoted, h39, sheetEnd]
        | y :: r' =>
          simp only [quoted, h39, if_false, sheetEnd]
          cases (quoted (y :: r')).2 <;> simp
      rw [e]
      refine .step ?_ ih
      have wx : _strings_Builder__WriteByte (ofByte x) (t.map fun c => (c.toNat : Int)) = some (false, (), ((), ((), ())), (t ++ [x]).map (fun c => (c.toNat : Int)), ()) := by rw [← tl x]; exact wr x.toNat
      simp only [cellref_sheet_l1458, hg, decide_true, cond_true, hix, Option.bind_some, nx, decide_false, Bool.not_false, wx, w1]

/-- The sheet's name, the rest, and whether the form is right. -/
def sheetOf (s : Str) : Str × Str × Bool :=
  match s with
  | [] => ([], [], true)
  | x :: r => if x = 39 then (match (quoted r).2 with
      | none => ([], [], false)
      | some q => ((quoted r).1, Lib.trimPrefix q [33], Lib.hasPrefix q [33] && decide (0 < (quoted r).1.length)))
    else if (cutB 33 s).2.2 = false then ([], s, true) else ((cutB 33 s).1, (cutB 33 s).2.1, isPlain (cutB 33 s).1)

theorem sheet_eq {s : Str} (hs : s.length ≤ 500) (hne : s ≠ [35, 82, 69, 70, 33]) : cellref_sheet s = some ((sheetOf s).1, (sheetOf s).2.1, (sheetOf s).2.2, ()) := by
  have hcut := strings_Cut_eq (s := s) (c := 33) (by omega)
  have hlen := cutB_len 33 s
  cases s with
  | nil => simp [cellref_sheet, sHasPrefix, Lib.hasPrefix, hcut, sheetOf, cutB]
  | cons x r =>
    by_cases h39 : x = 39
    · subst h39
      have := sheet_loop hs r.length r [] 1 (Nat.le_refl _) rfl (by simp) (by simp)
      have hl := this.loop (by simp at hs; omega)
      rw [show ((1 : Nat) : Int) = 1 from rfl] at hl
      simp only [List.map_nil] at hl
      have hp : sHasPrefix ((39 : UInt8) :: r, [39], ()) = some (true, ()) := by simp [sHasPrefix, Lib.hasPrefix]
      simp only [cellref_sheet, hp, Option.bind_some, Bool.not_true, cond_false, hl]
      simp only [sheetEnd, sheetOf, if_true, List.nil_append]
      cases (quoted r).2 <;> rfl
    · have hp : sHasPrefix (x :: r, [39], ()) = some (false, ()) := by simp [sHasPrefix, Lib.hasPrefix, List.isPrefixOf, Ne.symm h39]
      have hpl := Plain_eq (s := (cutB 33 (x :: r)).1) (by omega)
      simp only [cellref_sheet, hp, Option.bind_some, Bool.not_false, cond_true, hcut, hpl, hne, decide_false]
      simp only [sheetOf, h39, if_false]
      cases (cutB 33 (x :: r)).2.2 <;> simp

end Go.Proofs.YtfbnnjmhlkafiaaDoor
