/- What the matching of pieces computes, in plain words: runL, and the word sRun. -/
import Derived.Test.YthkpkdaeblgbdaaDoorFeLib
import Derived.Test.YthkpkdaeblgbdaaDoorFeTop
namespace Go.Fe
open Go
open Classical

abbrev Piece := Int × (Bool × (Bool × Unit))
def pMany (l : List Piece) (k : Nat) : Bool := match l[k]? with | some p => p.2.2.1 | none => false
def pOne (l : List Piece) (k : Nat) : Bool := match l[k]? with | some p => p.2.1 | none => false
def pChr (l : List Piece) (k : Nat) : Int := match l[k]? with | some p => p.1 | none => 0

/-- The places behind sequences that can be empty, up to place m. -/
def closK (l : List Piece) (S : Nat → Prop) (m : Nat) (j : Nat) : Prop := ∃ i, i ≤ j ∧ S i ∧ ∀ k, i ≤ k → k < j → k < m ∧ pMany l k = true
theorem closK_zero (l : List Piece) (S : Nat → Prop) (j : Nat) : closK l S 0 j ↔ S j := by
  constructor
  · rintro ⟨i, hi, hs, h⟩
    rcases Nat.lt_or_ge i j with h' | h'
    · have := (h i (Nat.le_refl _) h').1
      omega
    · obtain rfl : i = j := by omega
      exact hs
  · intro h
    exact ⟨j, Nat.le_refl _, h, fun k h1 h2 => by omega⟩
theorem closK_yes {l : List Piece} {S : Nat → Prop} {m : Nat} (h : closK l S m m) (hm : pMany l m = true) (j : Nat) : closK l S (m + 1) j ↔ (j = m + 1 ∨ closK l S m j) := by
  constructor
  · rintro ⟨i, hi, hs, hk⟩
    by_cases e : j = m + 1
    · exact .inl e
    · refine .inr ⟨i, hi, hs, fun k h1 h2 => ⟨?_, (hk k h1 h2).2⟩⟩
      have h3 := (hk k h1 h2).1
      rcases Nat.lt_or_ge k m with h | h
      · exact h
      · have := (hk (j - 1) (by omega) (by omega)).1
        omega
  · rintro (rfl | ⟨i, hi, hs, hk⟩)
    · obtain ⟨i, hi, hs, hk⟩ := h
      refine ⟨i, by omega, hs, fun k h1 h2 => ⟨h2, ?_⟩⟩
      rcases Nat.lt_or_ge k m with h | h
      · exact (hk k h1 h).2
      · obtain rfl : k = m := by omega
        exact hm
    · exact ⟨i, hi, hs, fun k h1 h2 => ⟨by have := (hk k h1 h2).1; omega, (hk k h1 h2).2⟩⟩
theorem closK_no {l : List Piece} {S : Nat → Prop} {m : Nat} (h : ¬ closK l S m m ∨ pMany l m = false) (j : Nat) : closK l S (m + 1) j ↔ closK l S m j := by
  constructor
  · rintro ⟨i, hi, hs, hk⟩
    refine ⟨i, hi, hs, fun k h1 h2 => ⟨?_, (hk k h1 h2).2⟩⟩
    have h3 := (hk k h1 h2).1
    rcases Nat.lt_or_ge k m with h' | h'
    · exact h'
    · obtain rfl : k = m := by omega
      rcases h with h | h
      · exact absurd ⟨i, h1, hs, fun k' h4 h5 => ⟨h5, (hk k' h4 (by omega)).2⟩⟩ h
      · rw [(hk k h1 h2).2] at h
        cases h
  · rintro ⟨i, hi, hs, hk⟩
    exact ⟨i, hi, hs, fun k h1 h2 => ⟨by have := (hk k h1 h2).1; omega, (hk k h1 h2).2⟩⟩
/-- The place that a place leads to by a character. -/
def pNext (l : List Piece) (c : Int) (k : Nat) : Option Nat := if k < l.length then (if pMany l k = true then some k else if pOne l k = true ∨ pChr l k = c then some (k + 1) else none) else none
def nextS (l : List Piece) (c : Int) (S : Nat → Prop) (j : Nat) : Prop := ∃ k, k ≤ l.length ∧ S k ∧ pNext l c k = some j
/-- The characters as the program reads them: a byte that is none is negative. -/
def chrOf (s : Str) : Int := if runeOf s = (65533, 1) then RowKit.wrap32 (-RowKit.wrap32 (ofByte (s.getD 0 0))) else ((runeOf s).1 : Nat)
noncomputable def runL (l : List Piece) (whole : Bool) : Nat → Str → (Nat → Prop) → Bool
  | 0, _, _ => false
  | n + 1, s, S => if S l.length ∧ (whole = false ∨ s = []) then true else if s = [] then false else runL l whole n (s.drop (runeOf s).2) (closK l (nextS l (chrOf s) S) l.length)
theorem runL_empty {l : List Piece} {whole : Bool} : ∀ {n : Nat} {s : Str} {S : Nat → Prop}, (∀ k, k ≤ l.length → ¬ S k) → runL l whole n s S = false
  | 0, _, _, _ => rfl
  | n + 1, s, S, h => by
    unfold runL
    rw [if_neg (fun h' => h _ (Nat.le_refl _) h'.1)]
    split
    · rfl
    · exact runL_empty (fun k _ ⟨i, _, ⟨j, hj, hs, _⟩, _⟩ => h j hj hs)
theorem runL_fuel {l : List Piece} {whole : Bool} (hr : ∀ s : Str, s ≠ [] → 1 ≤ (runeOf s).2) : ∀ (n m : Nat) (s : Str) (S : Nat → Prop), s.length < n → s.length < m → runL l whole n s S = runL l whole m s S
  | 0, _, _, _, h, _ => by omega
  | _, 0, _, _, _, h => by omega
  | n + 1, m + 1, s, S, h1, h2 => by
    unfold runL
    split
    · rfl
    · split
      · rfl
      · rename_i hs
        have := hr s hs
        have := List.length_pos_iff.2 hs
        exact runL_fuel hr n m _ _ (by rw [List.length_drop]; omega) (by rw [List.length_drop]; omega)
theorem tset {l : List Piece} {c : Int} {S left : Nat → Prop} {k : Nat} (hk : k ≤ l.length) (hS : S k) (j : Nat) :
    (∃ i, i ≤ l.length ∧ S i ∧ ¬ (left i ∧ i ≠ k) ∧ pNext l c i = some j) ↔ (pNext l c k = some j ∨ ∃ i, i ≤ l.length ∧ S i ∧ ¬ left i ∧ pNext l c i = some j) := by
  constructor
  · rintro ⟨i, h1, h2, h3, h4⟩
    by_cases e : i = k
    · subst e
      exact .inl h4
    · exact .inr ⟨i, h1, h2, fun h => h3 ⟨h, e⟩, h4⟩
  · rintro (h | ⟨i, h1, h2, h3, h4⟩)
    · exact ⟨k, hk, hS, fun h' => h'.2 rfl, h⟩
    · exact ⟨i, h1, h2, fun h => h3 h.1, h4⟩
theorem tset_some {l : List Piece} {c : Int} {S left : Nat → Prop} {k x : Nat} (hp : pNext l c k = some x) (hk : k ≤ l.length) (hS : S k) (j : Nat) :
    (j = x ∨ ∃ i, i ≤ l.length ∧ S i ∧ ¬ left i ∧ pNext l c i = some j) ↔ (∃ i, i ≤ l.length ∧ S i ∧ ¬ (left i ∧ i ≠ k) ∧ pNext l c i = some j) := by
  rw [tset hk hS, hp]
  simp [eq_comm]
theorem tset_none {l : List Piece} {c : Int} {S left : Nat → Prop} {k : Nat} (hp : pNext l c k = none) (hk : k ≤ l.length) (hS : S k) (j : Nat) :
    (∃ i, i ≤ l.length ∧ S i ∧ ¬ left i ∧ pNext l c i = some j) ↔ (∃ i, i ≤ l.length ∧ S i ∧ ¬ (left i ∧ i ≠ k) ∧ pNext l c i = some j) := by
  rw [tset hk hS, hp]
  simp
theorem pNext_many {l : List Piece} {c : Int} {k : Nat} (hk : k < l.length) (h : pMany l k = true) : pNext l c k = some k := by
  unfold pNext
  rw [if_pos hk, if_pos h]
theorem pNext_one {l : List Piece} {c : Int} {k : Nat} (hk : k < l.length) (h : pMany l k = false) (h2 : pOne l k = true ∨ pChr l k = c) : pNext l c k = some (k + 1) := by
  unfold pNext
  rw [if_pos hk, if_neg (by simp [h]), if_pos h2]
theorem pNext_no {l : List Piece} {c : Int} {k : Nat} (h : pMany l k = false) (h2 : pOne l k = false) (h3 : ¬ pChr l k = c) : pNext l c k = none := by
  unfold pNext
  split
  · rw [if_neg (by simp [h]), if_neg (by simp [h2, h3])]
  · rfl
theorem runL_step {l : List Piece} {whole : Bool} {c : UInt8} {u : Str} {S : Nat → Prop} (h : ¬ (S l.length ∧ whole = false)) :
    runL l whole ((c :: u).length + 1) (c :: u) S = runL l whole (c :: u).length ((c :: u).drop (runeOf (c :: u)).2) (closK l (nextS l (chrOf (c :: u)) S) l.length) := by
  conv => lhs; unfold runL
  rw [if_neg (fun h' => h ⟨h'.1, h'.2.resolve_right (by simp)⟩), if_neg (by simp)]
abbrev PieceT : Ty := .pair (.int .i32) (.pair .bool (.pair .bool .unit))
/-- The matching of pieces, out of the word for the lower case. -/
noncomputable def sRun (lw : Str → Option (Str × Unit)) (x : Tys.den [.sl PieceT, .str, .bool]) : Option (Tys.den [.bool]) :=
  if x.1.length ≤ 100000 then (lw x.2.1).bind fun t => if t.1.length ≤ 1000000000 then some (runL x.1 x.2.2.1 (t.1.length + 1) t.1 (closK x.1 (fun k => k = 0) x.1.length), ()) else none else none
end Go.Fe
