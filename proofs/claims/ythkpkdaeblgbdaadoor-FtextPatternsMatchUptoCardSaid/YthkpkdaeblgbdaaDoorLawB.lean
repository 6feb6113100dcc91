/- The characters of a text: as strings and as codes; the pieces of a pattern. -/
import Derived.Test.YthkpkdaeblgbdaaDoorLawA
namespace Go.Proofs.YthkpkdaeblgbdaaDoor
open Go Go.Fe

/-! ### Characters and their codes -/
def ch (s : Str) : Str := s.take (runeOf s).2
theorem wrap32_id {x : Int} (h : -2147483648 ≤ x) (h' : x < 2147483648) : RowKit.wrap32 x = x := by
  unfold RowKit.wrap32
  omega
theorem chr_cases {s : Str} (h : s ≠ []) :
    ((runeOf s).2 = 1 ∧ 128 ≤ at0 s 0 ∧ chrOf s = -(at0 s 0 : Int)) ∨ ((runeOf s).2 = 1 ∧ at0 s 0 < 128 ∧ chrOf s = (at0 s 0 : Int)) ∨
    ((runeOf s).2 = 2 ∧ at0 s 0 / 32 = 6 ∧ at0 s 1 / 64 = 2 ∧ 128 ≤ at0 s 0 % 32 * 64 + at0 s 1 % 64 ∧ chrOf s = ((at0 s 0 % 32 * 64 + at0 s 1 % 64 : Nat) : Int)) ∨
    ((runeOf s).2 = 3 ∧ at0 s 0 / 16 = 14 ∧ at0 s 1 / 64 = 2 ∧ at0 s 2 / 64 = 2 ∧ 2048 ≤ at0 s 0 % 16 * 4096 + at0 s 1 % 64 * 64 + at0 s 2 % 64 ∧ chrOf s = ((at0 s 0 % 16 * 4096 + at0 s 1 % 64 * 64 + at0 s 2 % 64 : Nat) : Int)) ∨
    ((runeOf s).2 = 4 ∧ at0 s 0 / 8 = 30 ∧ at0 s 1 / 64 = 2 ∧ at0 s 2 / 64 = 2 ∧ at0 s 3 / 64 = 2 ∧ 65536 ≤ at0 s 0 % 8 * 262144 + at0 s 1 % 64 * 4096 + at0 s 2 % 64 * 64 + at0 s 3 % 64 ∧
      chrOf s = ((at0 s 0 % 8 * 262144 + at0 s 1 % 64 * 4096 + at0 s 2 % 64 * 64 + at0 s 3 % 64 : Nat) : Int)) := by
  have h0 := at0_lt s 0
  have hw : RowKit.wrap32 (-RowKit.wrap32 (ofByte (s.getD 0 0))) = -(at0 s 0 : Int) := by
    have : ofByte (s.getD 0 0) = (at0 s 0 : Int) := rfl
    rw [this, wrap32_id (x := (at0 s 0 : Int)) (by omega) (by omega), wrap32_id (x := -(at0 s 0 : Int)) (by omega) (by omega)]
  unfold chrOf
  rw [hw, runeOf_eq h]
  unfold Lib.decodeN
  by_cases a : at0 s 0 < 128
  · rw [if_pos a, if_neg (by simp; omega)]
    exact .inr (.inl ⟨rfl, a, rfl⟩)
  rw [if_neg a]
  split
  · split
    · rw [if_neg (by simp)]
      exact .inr (.inr (.inl ⟨rfl, by omega, by omega, by omega, rfl⟩))
    · exact .inl ⟨rfl, by omega, if_pos rfl⟩
  split
  · split
    · rw [if_neg (by simp)]
      exact .inr (.inr (.inr (.inl ⟨rfl, by omega, by omega, by omega, by omega, rfl⟩)))
    · exact .inl ⟨rfl, by omega, if_pos rfl⟩
  split
  · split
    · rw [if_neg (by simp)]
      exact .inr (.inr (.inr (.inr ⟨rfl, by omega, by omega, by omega, by omega, by omega, rfl⟩)))
    · exact .inl ⟨rfl, by omega, if_pos rfl⟩
  · exact .inl ⟨rfl, by omega, if_pos rfl⟩
theorem take_at0 {s t : Str} {n : Nat} (hs : n ≤ s.length) (ht : n ≤ t.length) (h : ∀ i, i < n → at0 s i = at0 t i) : s.take n = t.take n := by
  apply List.ext_getElem?
  intro i
  rw [List.getElem?_take, List.getElem?_take]
  split
  · rename_i hi
    have := h i hi
    unfold at0 at this
    rw [List.getD_eq_getElem?_getD, List.getD_eq_getElem?_getD, List.getElem?_eq_getElem (by omega), List.getElem?_eq_getElem (by omega)] at this
    rw [List.getElem?_eq_getElem (by omega), List.getElem?_eq_getElem (by omega)]
    exact congrArg some (UInt8.toNat_inj.1 this)
  · rfl
theorem at0_take {s t : Str} {n : Nat} (h : s.take n = t.take n) (i : Nat) (hi : i < n) : at0 s i = at0 t i := by
  have := congrArg (fun l : Str => l[i]?) h
  simp only [List.getElem?_take, if_pos hi] at this
  unfold at0
  rw [List.getD_eq_getElem?_getD, List.getD_eq_getElem?_getD, this]
theorem chr_inj {s t : Str} (hs : s ≠ []) (ht : t ≠ []) : chrOf s = chrOf t ↔ ch s = ch t := by
  have ns := rune_n hs
  have nt := rune_n ht
  have cs := chr_cases hs
  have ct := chr_cases ht
  have a0 := at0_lt s 0
  have b0 := at0_lt t 0
  have a1 := at0_lt s 1
  have b1 := at0_lt t 1
  have a2 := at0_lt s 2
  have b2 := at0_lt t 2
  have a3 := at0_lt s 3
  have b3 := at0_lt t 3
  unfold ch
  constructor
  · intro h
    have e : (runeOf s).2 = (runeOf t).2 ∧ at0 s 0 = at0 t 0 ∧ ((runeOf s).2 ≤ 1 ∨ at0 s 1 = at0 t 1) ∧ ((runeOf s).2 ≤ 2 ∨ at0 s 2 = at0 t 2) ∧ ((runeOf s).2 ≤ 3 ∨ at0 s 3 = at0 t 3) ∧ (runeOf s).2 ≤ 4 := by
      rcases cs with ⟨n1, c⟩ | ⟨n1, c⟩ | ⟨n1, c⟩ | ⟨n1, c⟩ | ⟨n1, c⟩ <;> rcases ct with ⟨n2, d⟩ | ⟨n2, d⟩ | ⟨n2, d⟩ | ⟨n2, d⟩ | ⟨n2, d⟩ <;> rw [n1, n2] <;> omega
    obtain ⟨e1, e2, e3, e4, e5, e6⟩ := e
    rw [← e1]
    refine take_at0 (by omega) (by omega) fun i hi => ?_
    obtain rfl | rfl | rfl | rfl : i = 0 ∨ i = 1 ∨ i = 2 ∨ i = 3 := by omega
    all_goals omega
  · intro h
    have e1 : (runeOf s).2 = (runeOf t).2 := by
      have := congrArg List.length h
      rw [List.length_take, List.length_take] at this
      omega
    rw [← e1] at h
    have g := at0_take h
    have g0 := g 0 (by omega)
    rcases cs with ⟨n1, c⟩ | ⟨n1, c⟩ | ⟨n1, c⟩ | ⟨n1, c⟩ | ⟨n1, c⟩ <;> rcases ct with ⟨n2, d⟩ | ⟨n2, d⟩ | ⟨n2, d⟩ | ⟨n2, d⟩ | ⟨n2, d⟩ <;> first
      | (exfalso; omega)
      | (have g1 := g 1 (by omega)
         have g2 := g 2 (by omega)
         have g3 := g 3 (by omega)
         rw [c.2.2.2.2.2, d.2.2.2.2.2, g0, g1, g2, g3])
      | (have g1 := g 1 (by omega)
         have g2 := g 2 (by omega)
         rw [c.2.2.2.2, d.2.2.2.2, g0, g1, g2])
      | (have g1 := g 1 (by omega)
         rw [c.2.2.2, d.2.2.2, g0, g1])
      | rw [c.2, d.2, g0]
theorem chr_ascii {s : Str} (h : s ≠ []) {k : Nat} (hk : k < 128) : chrOf s = (k : Int) ↔ at0 s 0 = k := by
  have a0 := at0_lt s 0
  have a1 := at0_lt s 1
  rcases chr_cases h with c | c | c | c | c <;> constructor <;> intro e <;> omega
theorem ascii_n {s : Str} (h : s ≠ []) {k : Nat} (hk : k < 128) (hs : chrOf s = (k : Int)) : (runeOf s).2 = 1 := by
  have a0 := at0_lt s 0
  have a1 := at0_lt s 1
  rcases chr_cases h with c | c | c | c | c <;> omega
theorem ch_ascii {s : Str} (h : s ≠ []) {k : Nat} (hk : k < 128) : ch s = [UInt8.ofNat k] ↔ chrOf s = (k : Int) := by
  have e0 : at0 [UInt8.ofNat k] 0 = k := by
    show (UInt8.ofNat k).toNat = k
    rw [UInt8.toNat_ofNat']
    omega
  have e : chrOf [UInt8.ofNat k] = (k : Int) := (chr_ascii (by simp) hk).2 e0
  have e2 : ch [UInt8.ofNat k] = [UInt8.ofNat k] := by
    unfold ch
    rw [ascii_n (by simp) hk e]
    rfl
  rw [← e, chr_inj h (by simp), e2]

/-! ### A text's characters -/
/-- What is left of the text at each of its characters. -/
def sufs : Nat → Str → List Str
  | 0, _ => []
  | n + 1, s => if s = [] then [] else s :: sufs n (s.drop (runeOf s).2)
theorem sufs_ne : ∀ (n : Nat) (s : Str), ∀ e ∈ sufs n s, e ≠ []
  | 0, _, e, h => by simp [sufs] at h
  | n + 1, s, e, h => by
    unfold sufs at h
    split at h
    · simp at h
    · rcases List.mem_cons.1 h with rfl | h
      · assumption
      · exact sufs_ne n _ e h
theorem sufs_len : ∀ (n : Nat) (s : Str), (sufs n s).length ≤ s.length
  | 0, _ => Nat.zero_le _
  | n + 1, s => by
    unfold sufs
    split
    · exact Nat.zero_le _
    · rename_i h
      have := sufs_len n (s.drop (runeOf s).2)
      have h1 := rune_n h
      rw [List.length_drop] at this
      rw [List.length_cons]
      omega
theorem sufs_fuel : ∀ (n m : Nat) (s : Str), s.length ≤ n → s.length ≤ m → sufs n s = sufs m s
  | 0, m, s, h, _ => by
    have : s = [] := List.eq_nil_of_length_eq_zero (by omega)
    subst this
    cases m <;> simp [sufs]
  | n + 1, 0, s, _, h => by
    have : s = [] := List.eq_nil_of_length_eq_zero (by omega)
    subst this
    simp [sufs]
  | n + 1, m + 1, s, h1, h2 => by
    unfold sufs
    split
    · rfl
    · rename_i h
      have h3 := rune_n h
      rw [sufs_fuel n m _ (by rw [List.length_drop]; omega) (by rw [List.length_drop]; omega)]

/-! ### The pieces of a pattern -/
def pcs : List Int → List Piece
  | [] => []
  | [c] => [(c, decide (c = 63), decide (c = 42), ())]
  | c :: d :: r => if c = 126 ∧ (d = 63 ∨ d = 42 ∨ d = 126) then (d, false, false, ()) :: pcs r else (c, decide (c = 63), decide (c = 42), ()) :: pcs (d :: r)
end Go.Proofs.YthkpkdaeblgbdaaDoor
