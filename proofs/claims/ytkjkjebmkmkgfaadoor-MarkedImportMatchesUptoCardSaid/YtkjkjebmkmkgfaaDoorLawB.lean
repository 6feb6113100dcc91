/- The characters of a line; the attributes of the next one; marks that turn attributes on and off. -/
import Derived.Test.YtkjkjebmkmkgfaaDoorLawA
namespace Go.Proofs.YtkjkjebmkmkgfaaDoor
open Go Go.Fe

theorem wsuc {i : Nat} (h : i < 9223372036854775807) : IntKind.i64.wrap ((i : Int) + 1) = ((i + 1 : Nat) : Int) := by
  rw [wrap_i64 (by omega) (by omega)]; rfl
theorem pChar_eq (c : Int) : flow_Char c = some (okC c, ()) := by
  unfold flow_Char okC
  by_cases h1 : c = 9
  · simp [h1]
  by_cases h2 : c = 10
  · simp [h2]
  by_cases h3 : 32 ≤ c <;> by_cases h4 : c < 127 <;> by_cases h5 : 160 ≤ c <;> by_cases h6 : c < 55296 <;> by_cases h7 : 57343 < c <;> by_cases h8 : c ≤ 1114111 <;> simp [h1, h2, h3, h4, h5, h6, h7, h8] <;> omega

/-! ### Characters -/
/-- The first character is none that a text can have. -/
def badC (s : Str) : Bool := decide (runeOf s = (65533, 1)) || !okC ((runeOf s).1 : Nat)
def codeC (s : Str) : Int := if badC s = true then 63 else ((runeOf s).1 : Nat)
/-- A character with a \ ahead of it. -/
def escS (s : Str) : Bool := decide (at0 s 0 = 92) && decide (1 < s.length)
def hdS (s : Str) : Str := if escS s = true then s.drop 1 else s
def szS (s : Str) : Nat := (if escS s = true then 1 else 0) + (runeOf (hdS s)).2
def tk (s : Str) : TA4 := (codeC (hdS s), (szS s : Int), escS s, badC (hdS s), ())
def nx (s : Str) : Str := s.drop (szS s)
theorem hdS_ne {s : Str} (h : s ≠ []) : hdS s ≠ [] := by
  unfold hdS
  split
  · rename_i he
    unfold escS at he
    simp only [Bool.and_eq_true, decide_eq_true_eq] at he
    intro e
    have := congrArg List.length e
    rw [List.length_drop, List.length_nil] at this
    omega
  · exact h
theorem szS_bounds {s : Str} (h : s ≠ []) : 1 ≤ szS s ∧ szS s ≤ s.length := by
  have hr := rune_n (hdS_ne h)
  unfold szS
  unfold hdS at hr ⊢
  split
  · rename_i he
    unfold escS at he
    simp only [Bool.and_eq_true, decide_eq_true_eq] at he
    rw [if_pos (by unfold escS; simp [he])] at hr
    rw [List.length_drop] at hr
    omega
  · rename_i he
    rw [if_neg he] at hr
    omega
theorem nx_eq {s : Str} : nx s = (hdS s).drop (runeOf (hdS s)).2 := by
  unfold nx szS
  by_cases h : escS s = true
  · have : hdS s = s.drop 1 := if_pos h
    rw [if_pos h, this, List.drop_drop]
  · have : hdS s = s := if_neg h
    rw [if_neg h, this, Nat.zero_add]
/-- What is left at each token. -/
def tsuf : Nat → Str → List Str
  | 0, _ => []
  | n + 1, s => if s = [] then [] else s :: tsuf n (nx s)
theorem tsuf_fuel : ∀ (n m : Nat) (s : Str), s.length ≤ n → s.length ≤ m → tsuf n s = tsuf m s
  | 0, m, s, h, _ => by
    have : s = [] := List.eq_nil_of_length_eq_zero (by omega)
    subst this
    cases m <;> simp [tsuf]
  | n + 1, 0, s, _, h => by
    have : s = [] := List.eq_nil_of_length_eq_zero (by omega)
    subst this
    simp [tsuf]
  | n + 1, m + 1, s, h1, h2 => by
    unfold tsuf
    split
    · rfl
    · rename_i h
      have h3 := szS_bounds h
      rw [tsuf_fuel n m _ (by unfold nx; rw [List.length_drop]; omega) (by unfold nx; rw [List.length_drop]; omega)]
def toks (s : Str) : List Str := tsuf s.length s
theorem toks_nil : toks [] = [] := rfl
theorem toks_cons {s : Str} (h : s ≠ []) : toks s = s :: toks (nx s) := by
  have hl := List.length_pos_iff.2 h
  have h3 := szS_bounds h
  unfold toks
  rw [tsuf_fuel s.length ((s.length - 1) + 1) s (Nat.le_refl _) (by omega), tsuf, if_neg h, tsuf_fuel (s.length - 1) (nx s).length _ (by unfold nx; rw [List.length_drop]; omega) (Nat.le_refl _)]
theorem toks_len : ∀ (n : Nat) (s : Str), s.length ≤ n → (toks s).length ≤ s.length
  | 0, s, h => by
    have : s = [] := List.eq_nil_of_length_eq_zero (by omega)
    subst this
    exact Nat.le_refl _
  | n + 1, s, h => by
    by_cases hs : s = []
    · subst hs; exact Nat.le_refl _
    · have h3 := szS_bounds hs
      have := toks_len n (nx s) (by unfold nx; rw [List.length_drop]; omega)
      rw [toks_cons hs, List.length_cons]
      unfold nx at this ⊢
      rw [List.length_drop] at this
      omega

/-! ### The attributes of the next character -/
def aOn (n : Str) : TA11 := (n, [111, 110], ())
def attrsOf (b i s f : Bool) (link : Str) : List TA11 :=
  (if b = true then [aOn [98, 111, 108, 100]] else []) ++ (if f = true then [aOn [102, 105, 120, 101, 100]] else []) ++ (if i = true then [aOn [105, 116, 97, 108, 105, 99]] else []) ++
    (if link = [] then [] else [([108, 105, 110, 107], link, ())]) ++ (if s = true then [aOn [115, 116, 114, 105, 107, 101]] else [])
theorem attrs_nil (o : TA5) (l : TA3) (b i s f : Bool) : marked_reader__attrs (o, l, [b, i, s, f], [], ()) = some ((), attrsOf b i s f [], ()) := by
  cases b <;> cases i <;> cases s <;> cases f <;> kernel_rfl
theorem attrs_link (o : TA5) (l : TA3) (b i s f : Bool) (c : UInt8) (u : Str) : marked_reader__attrs (o, l, [b, i, s, f], c :: u, ()) = some ((), attrsOf b i s f (c :: u), ()) := by
  cases b <;> cases i <;> cases s <;> cases f <;> kernel_rfl
theorem attrs_eq (o : TA5) (l : TA3) (b i s f : Bool) (link : Str) : marked_reader__attrs (o, l, [b, i, s, f], link, ()) = some ((), attrsOf b i s f link, ()) := by
  cases link with
  | nil => exact attrs_nil o l b i s f
  | cons c u => exact attrs_link o l b i s f c u
end Go.Proofs.YtkjkjebmkmkgfaaDoor
