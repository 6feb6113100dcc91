import Derived.Test.YtfbnnjmhlkafiaaGreatDoorLawK
namespace Go.Proofs.YtfbnnjmhlkafiaaGreatDoor
open Go Go.Fe

/-! ### Lower letters -/
def lowC (c : UInt8) : UInt8 := if 65 ≤ c.toNat ∧ c.toNat ≤ 90 then UInt8.ofNat (c.toNat + 32) else c
def lowS (s : Str) : Str := s.map lowC
theorem low_step {s : Str} {i : Nat} (hi : i < s.length) (hl : s.length < 1000000000) : chanceryref2_Lower_l1 s (lowS (s.take i), (i : Int), ()) = some (.inl (lowS (s.take (i + 1)), ((i + 1 : Nat) : Int), ())) := by
  have g : (i : Int) < (s.length : Int) := by omega
  have hb := byte_lt s[i]
  have e : lowS (s.take (i + 1)) = lowS (s.take i) ++ [lowC s[i]] := by
    unfold lowS
    rw [List.take_succ_eq_append_getElem hi, List.map_append]
    rfl
  have hc : cat (lowS (s.take i)) [lowC s[i]] = some (lowS (s.take i) ++ [lowC s[i]]) := cat_ok (by
    have : (lowS (s.take i)).length = (s.take i).length := List.length_map ..
    rw [this, List.length_take, List.length_cons, List.length_nil]
    omega)
  rw [e]
  have w := wsucc (show i < 9223372036854775807 by omega)
  by_cases h : 65 ≤ s[i].toNat ∧ s[i].toNat ≤ 90
  · have a1 : (65 : Int) ≤ ofByte s[i] := by rw [ofByte_eq]; omega
    have a2 : ofByte s[i] ≤ 90 := by rw [ofByte_eq]; omega
    have a3 : IntKind.u8.wrap (ofByte s[i] + 32) = ((s[i].toNat + 32 : Nat) : Int) := by rw [ofByte_eq, wrap_u8i (by omega) (by omega)]; omega
    have a4 : bytesStr [((s[i].toNat + 32 : Nat) : Int)] = [lowC s[i]] := by rw [bytesStr_one, lowC, if_pos h]
    simp only [chanceryref2_Lower_l1, g, decide_true, cond_true, idx_lt hi, Option.bind_some, a1, a2, a3, a4, hc, w]
  · have a4 : bytesStr [ofByte s[i]] = [lowC s[i]] := by rw [lowC, if_neg h, ofByte_eq, bytesStr_one]; simp
    by_cases h1 : 65 ≤ s[i].toNat
    · have a1 : (65 : Int) ≤ ofByte s[i] := by rw [ofByte_eq]; omega
      have a2 : ¬ofByte s[i] ≤ 90 := by rw [ofByte_eq]; omega
      simp only [chanceryref2_Lower_l1, g, decide_true, decide_false, cond_true, cond_false, idx_lt hi, Option.bind_some, a1, a2, a4, hc, w]
    · have a1 : ¬(65 : Int) ≤ ofByte s[i] := by rw [ofByte_eq]; omega
      simp only [chanceryref2_Lower_l1, g, decide_true, decide_false, cond_true, cond_false, idx_lt hi, Option.bind_some, a1, a4, hc, w]
theorem Lower_eq {s : Str} (hl : s.length < 1000000000) : chanceryref2_Lower s = some (lowS s, ()) := by
  have hl' : Halts (chanceryref2_Lower_l1 s) (0 + s.length) (lowS (s.take 0), ((0 : Nat) : Int), ()) (lowS (s.take s.length), ()) := by
    refine Halts.along (fun i => (lowS (s.take i), (i : Int), ())) s.length (fun i hi => low_step hi hl) (.done ?_)
    simp only [chanceryref2_Lower_l1, Int.lt_irrefl, decide_false, cond_false]
  have hr := hl'.loop (by omega)
  unfold chanceryref2_Lower
  rw [List.take_length] at hr
  erw [hr]
  rfl

/-! ### Texts that are alike but for the case of letters -/
def isAscii (c : UInt8) : Bool := decide (c.toNat < 128)
theorem foldEq_low {x y : UInt8} : Lib.foldEq x y = decide (lowC x = lowC y) := by
  have hx := byte_lt x
  have hy := byte_lt y
  have inj : ∀ a b : UInt8, a = b ↔ a.toNat = b.toNat := fun a b => UInt8.toNat_inj.symm
  unfold Lib.foldEq lowC
  rw [decide_eq_decide]
  by_cases h1 : 65 ≤ x.toNat ∧ x.toNat ≤ 90 <;> by_cases h2 : 65 ≤ y.toNat ∧ y.toNat ≤ 90
  · rw [if_pos h1, if_pos h2, inj, ofNat_toNat (by omega), ofNat_toNat (by omega)]
    omega
  · rw [if_pos h1, if_neg h2, inj, ofNat_toNat (by omega)]
    omega
  · rw [if_neg h1, if_pos h2, inj, ofNat_toNat (by omega)]
    omega
  · rw [if_neg h1, if_neg h2, inj]
    omega
theorem fold_low : ∀ s t : Str, Lib.equalFold s t = decide (lowS s = lowS t)
  | [], [] => rfl
  | [], _ :: _ => by simp [Lib.equalFold, lowS]
  | _ :: _, [] => by simp [Lib.equalFold, lowS]
  | x :: s, y :: t => by
    have ih := fold_low s t
    unfold lowS at ih
    simp only [Lib.equalFold, ih, foldEq_low, lowS, List.map_cons, List.cons.injEq, Bool.decide_and]
theorem wordly_ascii (c : UInt8) (h : isWordly c = true) : isAscii c = true := by
  unfold isWordly isCorner isLetter isDigit at h
  simp only [Bool.or_eq_true, decide_eq_true_eq] at h
  unfold isAscii
  rw [decide_eq_true_eq]
  rcases h with (h | h | h) | h | h
  · omega
  · omega
  · rw [h]; decide
  · rw [h]; decide
  · rw [h]; decide
theorem all_ascii {p : UInt8 → Bool} (hp : ∀ c, p c = true → isAscii c = true) {s : Str} (h : s.all p = true) : s.all (fun c => decide (c.toNat < 128)) = true :=
  List.all_eq_true.2 (fun c hc => hp c (List.all_eq_true.1 h c hc))
theorem nameP_ascii {s : Str} (h : nameP s = true) : s.all (fun c => decide (c.toNat < 128)) = true := by
  cases s with
  | nil => cases h
  | cons c r =>
    unfold nameP at h
    rw [Bool.and_eq_true] at h
    refine all_ascii (p := isNameC) (fun c hc => wordly_ascii c ?_) h.2
    rw [nameC_split, Bool.and_eq_true] at hc
    exact hc.1
theorem EqualFold_eq {s t : Str} (hs : s.length ≤ 1000) (h1 : s.all isWordly = true) (h2 : nameP t = true) : sEqualFold (no_index (s, t, ())) = some (decide (lowS s = lowS t), ()) := by
  have e1 : s.all (fun c => decide (c.toNat < 128)) = true := all_ascii wordly_ascii h1
  unfold sEqualFold
  rw [if_pos ⟨by dsimp only; omega, e1, nameP_ascii h2⟩, fold_low]

/-! ### A name takes another's place -/
/-- How much of a token is its name. -/
def nlen (t : Tok) : Nat := if t.1 = 7 then (Lib.indexByte t.2.1 91).toNat else t.2.1.length
def newN (old new : Str) (t : Tok) : Str :=
  if (t.1 = 5 ∨ t.1 = 7) ∧ lowS (t.2.1.take (nlen t)) = lowS old then new ++ t.2.1.drop (nlen t) else t.2.1
theorem newN_len {old new : Str} {t : Tok} (h : Good 400 t) : (newN old new t).length ≤ new.length + 400 := by
  have := h.1
  unfold newN
  split
  · rw [List.length_append, List.length_drop]; omega
  · omega
def accN (old new : Str) (a : List Tok) (i : Nat) : Str := 61 :: ((a.take i).map (newN old new)).flatten
theorem accN_succ (old new : Str) {a : List Tok} {i : Nat} (h : i < a.length) : accN old new a (i + 1) = accN old new a i ++ newN old new a[i] := by
  unfold accN
  rw [List.take_succ_eq_append_getElem h, List.map_append, List.flatten_append]
  simp only [List.map_cons, List.map_nil, List.flatten_cons, List.flatten_nil, List.append_nil, List.cons_append]
theorem accN_len {old new : Str} (hn : new.length ≤ 2000000) {a : List Tok} (hg : ∀ t ∈ a, Good 400 t) : ∀ i, i ≤ a.length → (accN old new a i).length ≤ 1 + 2000400 * i
  | 0, _ => Nat.le_refl 1
  | i + 1, h => by
    have := accN_len (old := old) hn hg i (by omega)
    have h2 := newN_len (old := old) (new := new) (hg a[i] (List.getElem_mem _))
    rw [accN_succ old new (by omega), List.length_append]
    omega
theorem writeN {acc t : Str} (h : acc.length + t.length ≤ 60000000000) : _strings_Builder__WriteString t (strBytes acc) = some ((t.length : Int), false, (), ((), ((), ())), strBytes (acc ++ t), ()) := by
  unfold _strings_Builder__WriteString
  rw [cat_ok (by simp [strBytes]; omega), Option.bind_some, strBytes_app]
end Go.Proofs.YtfbnnjmhlkafiaaGreatDoor
