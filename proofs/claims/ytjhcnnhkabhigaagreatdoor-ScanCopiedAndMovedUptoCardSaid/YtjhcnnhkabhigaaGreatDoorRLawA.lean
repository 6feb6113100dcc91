import Derived.Test.YtjhcnnhkabhigaaGreatDoorRLaw2
namespace Go.Proofs.YtjhcnnhkabhigaaGreatDoor
open Go Go.Fe

/-! ### Runs of bytes -/
/-- How many bytes at the beginning a test lets through. -/
def runP (p : UInt8 → Bool) (s : Str) : Nat := (s.takeWhile p).length
theorem runP_le (p : UInt8 → Bool) (s : Str) : runP p s ≤ s.length := (List.takeWhile_prefix p).length_le
theorem runP_is {p : UInt8 → Bool} : ∀ {s : Str} {i : Nat}, i ≤ s.length → (∀ j (h : j < s.length), j < i → p s[j] = true) → (∀ h : i < s.length, p s[i] = false) → runP p s = i
  | [], i, hi, _, _ => by simp [runP] at hi ⊢; omega
  | c :: r, 0, _, _, h2 => by
    have := h2 (by simp)
    simp only [List.getElem_cons_zero] at this
    simp [runP, this]
  | c :: r, i + 1, hi, h1, h2 => by
    have h0 := h1 0 (by simp) (by omega)
    simp only [List.getElem_cons_zero] at h0
    have ih := runP_is (p := p) (s := r) (i := i) (by simpa using hi) (fun j h hj => by
      have := h1 (j + 1) (by simpa using h) (by omega)
      simpa using this) (fun h => by
      have := h2 (by simpa using h)
      simpa using this)
    unfold runP at ih ⊢
    simp [h0, ih]
theorem runP_pos {p : UInt8 → Bool} {c : UInt8} {r : Str} (h : p c = true) : 0 < runP p (c :: r) := by simp [runP, h]
theorem runP_zero {p : UInt8 → Bool} {c : UInt8} {r : Str} (h : p c = false) : runP p (c :: r) = 0 := by simp [runP, h]
theorem runP_nil {p : UInt8 → Bool} : runP p [] = 0 := rfl

theorem run_gen {s : Str} (hl : s.length < 1099511627776) (p : UInt8 → Bool) {R : Type} (F : (Unit × (Int × Unit)) → Option ((Unit × (Int × Unit)) ⊕ R)) (q : Nat → R) (r : R)
    (h1 : ∀ i (h : i < s.length), p s[i] = true → F ((), (i : Int), ()) = some (.inl ((), ((i + 1 : Nat) : Int), ())))
    (h2 : ∀ i (h : i < s.length), p s[i] = false → F ((), (i : Int), ()) = some (.inr (q i)))
    (h3 : F ((), (s.length : Int), ()) = some (.inr r)) : loop F ((), 0, ()) = some (if runP p s < s.length then q (runP p s) else r) := by
  have key := Halts.all (f := F) (fun i => ((), (i : Int), ())) (fun i => p (s.getD i 0)) s.length (r := r) (q := q)
    (fun i hi hp => h1 i hi (by simpa [List.getD, hi] using hp)) (fun i hi hp => h2 i hi (by simpa [List.getD, hi] using hp)) h3
  rcases key with ⟨g1, g2⟩ | ⟨i, g1, g2, g3, g4⟩
  · have : runP p s = s.length := runP_is (Nat.le_refl _) (fun j h _ => by simpa [List.getD, h] using g1 j h) (fun h => by omega)
    rw [this, if_neg (by omega)]
    exact g2.loop hl
  · have : runP p s = i := runP_is (by omega) (fun j h hj => by simpa [List.getD, h] using g3 j hj) (fun h => by simpa [List.getD, h] using g2)
    rw [this, if_pos g1]
    exact g4.loop (by omega)

theorem wnat {n : Nat} (h : n < 9223372036854775808) : IntKind.i64.wrap (n : Int) = (n : Int) := wrap_i64 (by omega) (by omega)
theorem wsucc {i : Nat} (h : i < 9223372036854775807) : IntKind.i64.wrap ((i : Int) + 1) = ((i + 1 : Nat) : Int) := by rw [wrap_i64 (by omega) (by omega)]; omega
theorem wadd {a b : Nat} (h : a + b < 9223372036854775808) : IntKind.i64.wrap ((a : Int) + (b : Int)) = ((a + b : Nat) : Int) := by rw [wrap_i64 (by omega) (by omega)]; omega

/-! ### Kinds of bytes -/
def isCorner (c : UInt8) : Bool := isLetter c || (isDigit c || decide (c = 36))
def isWordly (c : UInt8) : Bool := isCorner c || (decide (c = 95) || decide (c = 46))
def isBlank (c : UInt8) : Bool := decide (c = 32) || decide (c = 9)
theorem byte_dec (c : UInt8) (n : Nat) (h : n < 256) : decide (ofByte c = (n : Int)) = decide (c = UInt8.ofNat n) := by
  rw [decide_eq_decide]
  exact byteIs c n h
theorem fletter_eq (c : UInt8) : fscan_letter (ofByte c) = some (isLetter c, ()) := letter_eq c
theorem fdigit_eq (c : UInt8) : fscan_digit (ofByte c) = some (isDigit c, ()) := digit_eq c
theorem corner_eq (c : UInt8) : fscan_corner (ofByte c) = some (isCorner c, ()) := by
  have h := byte_dec c 36 (by omega)
  have h' : decide (ofByte c = 36) = decide (c = 36) := h
  simp only [fscan_corner, fletter_eq, fdigit_eq, Option.bind_some, h', isCorner]
  cases isLetter c <;> cases isDigit c <;> simp
theorem rcorner_eq (c : UInt8) : chanceryref2_refByte (ofByte c) = some (isCorner c, ()) := corner_eq c
theorem wordly_eq (c : UInt8) : fscan_wordly (ofByte c) = some (isWordly c, ()) := by
  have h1 : decide (ofByte c = 95) = decide (c = 95) := byte_dec c 95 (by omega)
  have h2 : decide (ofByte c = 46) = decide (c = 46) := byte_dec c 46 (by omega)
  simp only [fscan_wordly, corner_eq, Option.bind_some, h1, h2, isWordly]
  cases isCorner c <;> cases decide (c = 95) <;> simp
theorem rwordly_eq (c : UInt8) : chanceryref2_wordToken_1 (ofByte c) = some (isWordly c, ()) := wordly_eq c
theorem blank_eq (c : UInt8) : fscan_next_1 (ofByte c) = some (isBlank c, ()) := by
  have h1 : decide (ofByte c = 32) = decide (c = 32) := byte_dec c 32 (by omega)
  have h2 : decide (ofByte c = 9) = decide (c = 9) := byte_dec c 9 (by omega)
  simp only [fscan_next_1, h1, h2, isBlank]
  cases decide (c = 32) <;> simp
theorem rblank_eq (c : UInt8) : chanceryref2_Token_1 (ofByte c) = some (isBlank c, ()) := blank_eq c

theorem run_next_1_eq {s : Str} (h : s.length < 1099511627776) : fscan_run_next_1 s = some ((runP isBlank s : Int), ()) := by
  have := run_gen h isBlank (fscan_run_next_1_l1 s) (fun i => ((i : Int), ())) ((s.length : Int), ())
    (fun i hi hp => by
      have c : (i : Int) < (s.length : Int) := by omega
      simp only [fscan_run_next_1_l1, c, decide_true, cond_true, idx_lt hi, Option.bind_some, blank_eq, hp, wsucc (show i < 9223372036854775807 by omega)])
    (fun i hi hp => by
      have c : (i : Int) < (s.length : Int) := by omega
      simp only [fscan_run_next_1_l1, c, decide_true, cond_true, idx_lt hi, Option.bind_some, blank_eq, hp, cond_false])
    (by simp [fscan_run_next_1_l1])
  simp only [fscan_run_next_1, this, Option.bind_some]
  have := runP_le isBlank s
  split
  · rfl
  · rw [show runP isBlank s = s.length by omega]
theorem run_corner_eq {s : Str} (h : s.length < 1099511627776) : fscan_run_corner s = some ((runP isCorner s : Int), ()) := by
  have := run_gen h isCorner (fscan_run_corner_l1 s) (fun i => ((i : Int), ())) ((s.length : Int), ())
    (fun i hi hp => by
      have c : (i : Int) < (s.length : Int) := by omega
      simp only [fscan_run_corner_l1, c, decide_true, cond_true, idx_lt hi, Option.bind_some, corner_eq, hp, wsucc (show i < 9223372036854775807 by omega)])
    (fun i hi hp => by
      have c : (i : Int) < (s.length : Int) := by omega
      simp only [fscan_run_corner_l1, c, decide_true, cond_true, idx_lt hi, Option.bind_some, corner_eq, hp, cond_false])
    (by simp [fscan_run_corner_l1])
  simp only [fscan_run_corner, this, Option.bind_some]
  have := runP_le isCorner s
  split
  · rfl
  · rw [show runP isCorner s = s.length by omega]
theorem run_digit_eq {s : Str} (h : s.length < 1099511627776) : fscan_run_digit s = some ((runP isDigit s : Int), ()) := by
  have := run_gen h isDigit (fscan_run_digit_l1 s) (fun i => ((i : Int), ())) ((s.length : Int), ())
    (fun i hi hp => by
      have c : (i : Int) < (s.length : Int) := by omega
      simp only [fscan_run_digit_l1, c, decide_true, cond_true, idx_lt hi, Option.bind_some, fdigit_eq, hp, wsucc (show i < 9223372036854775807 by omega)])
    (fun i hi hp => by
      have c : (i : Int) < (s.length : Int) := by omega
      simp only [fscan_run_digit_l1, c, decide_true, cond_true, idx_lt hi, Option.bind_some, fdigit_eq, hp, cond_false])
    (by simp [fscan_run_digit_l1])
  simp only [fscan_run_digit, this, Option.bind_some]
  have := runP_le isDigit s
  split
  · rfl
  · rw [show runP isDigit s = s.length by omega]
theorem run_wordly_eq {s : Str} (h : s.length < 1099511627776) : fscan_run_wordly s = some ((runP isWordly s : Int), ()) := by
  have := run_gen h isWordly (fscan_run_wordly_l1 s) (fun i => ((i : Int), ())) ((s.length : Int), ())
    (fun i hi hp => by
      have c : (i : Int) < (s.length : Int) := by omega
      simp only [fscan_run_wordly_l1, c, decide_true, cond_true, idx_lt hi, Option.bind_some, wordly_eq, hp, wsucc (show i < 9223372036854775807 by omega)])
    (fun i hi hp => by
      have c : (i : Int) < (s.length : Int) := by omega
      simp only [fscan_run_wordly_l1, c, decide_true, cond_true, idx_lt hi, Option.bind_some, wordly_eq, hp, cond_false])
    (by simp [fscan_run_wordly_l1])
  simp only [fscan_run_wordly, this, Option.bind_some]
  have := runP_le isWordly s
  split
  · rfl
  · rw [show runP isWordly s = s.length by omega]
theorem span_Token_1_eq {s : Str} (h : s.length < 1099511627776) : chanceryref2_span_Token_1 s = some ((runP isBlank s : Int), ()) := by
  have := run_gen h isBlank (chanceryref2_span_Token_1_l1 s) (fun i => .inr ((i : Int), ())) (.inl ())
    (fun i hi hp => by
      have c : (i : Int) < (s.length : Int) := by omega
      simp only [chanceryref2_span_Token_1_l1, c, decide_true, cond_true, idx_lt hi, Option.bind_some, rblank_eq, hp, Bool.not_true, cond_false, wsucc (show i < 9223372036854775807 by omega)])
    (fun i hi hp => by
      have c : (i : Int) < (s.length : Int) := by omega
      simp only [chanceryref2_span_Token_1_l1, c, decide_true, cond_true, idx_lt hi, Option.bind_some, rblank_eq, hp, Bool.not_false])
    (by simp [chanceryref2_span_Token_1_l1])
  simp only [chanceryref2_span_Token_1, this, Option.bind_some]
  have hle := runP_le isBlank s
  by_cases hlt : runP isBlank s < s.length
  · rw [if_pos hlt]
  · rw [if_neg hlt, show runP isBlank s = s.length by omega]
theorem span_refByte_eq {s : Str} (h : s.length < 1099511627776) : chanceryref2_span_refByte s = some ((runP isCorner s : Int), ()) := by
  have := run_gen h isCorner (chanceryref2_span_refByte_l1 s) (fun i => .inr ((i : Int), ())) (.inl ())
    (fun i hi hp => by
      have c : (i : Int) < (s.length : Int) := by omega
      simp only [chanceryref2_span_refByte_l1, c, decide_true, cond_true, idx_lt hi, Option.bind_some, rcorner_eq, hp, Bool.not_true, cond_false, wsucc (show i < 9223372036854775807 by omega)])
    (fun i hi hp => by
      have c : (i : Int) < (s.length : Int) := by omega
      simp only [chanceryref2_span_refByte_l1, c, decide_true, cond_true, idx_lt hi, Option.bind_some, rcorner_eq, hp, Bool.not_false])
    (by simp [chanceryref2_span_refByte_l1])
  simp only [chanceryref2_span_refByte, this, Option.bind_some]
  have hle := runP_le isCorner s
  by_cases hlt : runP isCorner s < s.length
  · rw [if_pos hlt]
  · rw [if_neg hlt, show runP isCorner s = s.length by omega]
theorem span_Digit_eq {s : Str} (h : s.length < 1099511627776) : chanceryref2_span_Digit s = some ((runP isDigit s : Int), ()) := by
  have := run_gen h isDigit (chanceryref2_span_Digit_l1 s) (fun i => .inr ((i : Int), ())) (.inl ())
    (fun i hi hp => by
      have c : (i : Int) < (s.length : Int) := by omega
      simp only [chanceryref2_span_Digit_l1, c, decide_true, cond_true, idx_lt hi, Option.bind_some, rdigit_eq, hp, Bool.not_true, cond_false, wsucc (show i < 9223372036854775807 by omega)])
    (fun i hi hp => by
      have c : (i : Int) < (s.length : Int) := by omega
      simp only [chanceryref2_span_Digit_l1, c, decide_true, cond_true, idx_lt hi, Option.bind_some, rdigit_eq, hp, Bool.not_false])
    (by simp [chanceryref2_span_Digit_l1])
  simp only [chanceryref2_span_Digit, this, Option.bind_some]
  have hle := runP_le isDigit s
  by_cases hlt : runP isDigit s < s.length
  · rw [if_pos hlt]
  · rw [if_neg hlt, show runP isDigit s = s.length by omega]
theorem span_wordToken_1_eq {s : Str} (h : s.length < 1099511627776) : chanceryref2_span_wordToken_1 s = some ((runP isWordly s : Int), ()) := by
  have := run_gen h isWordly (chanceryref2_span_wordToken_1_l1 s) (fun i => .inr ((i : Int), ())) (.inl ())
    (fun i hi hp => by
      have c : (i : Int) < (s.length : Int) := by omega
      simp only [chanceryref2_span_wordToken_1_l1, c, decide_true, cond_true, idx_lt hi, Option.bind_some, rwordly_eq, hp, Bool.not_true, cond_false, wsucc (show i < 9223372036854775807 by omega)])
    (fun i hi hp => by
      have c : (i : Int) < (s.length : Int) := by omega
      simp only [chanceryref2_span_wordToken_1_l1, c, decide_true, cond_true, idx_lt hi, Option.bind_some, rwordly_eq, hp, Bool.not_false])
    (by simp [chanceryref2_span_wordToken_1_l1])
  simp only [chanceryref2_span_wordToken_1, this, Option.bind_some]
  have hle := runP_le isWordly s
  by_cases hlt : runP isWordly s < s.length
  · rw [if_pos hlt]
  · rw [if_neg hlt, show runP isWordly s = s.length by omega]

/-! ### References -/
/-- What the text of a reference comes to. -/
noncomputable def parseD (s : Str) : RefD × Int := match cellref_Parse s with
  | some x => (x.1, x.2.1)
  | none => (Z0, 0)
theorem Parse_is (s : Str) : cellref_Parse s = some ((parseD s).1, (parseD s).2, ()) := by
  obtain ⟨x, e, h1, h2⟩ := parse_eq s
  rw [parseD, h1]
theorem ReadRef_is (s : Str) : chanceryref2_ReadRef s = some ((parseD s).1, (parseD s).2, ()) := by
  obtain ⟨x, e, h1, h2⟩ := parse_eq s
  rw [parseD, h1, h2]
noncomputable def isR (s : Str) : Bool := decide ((parseD s).2 = 0)
theorem isRef_eq (s : Str) : fscan_isRef s = some (isR s, ()) := by simp only [fscan_isRef, Parse_is, Option.bind_some, isR]
theorem risRef_eq (s : Str) : chanceryref2_isRef s = some (isR s, ()) := by simp only [chanceryref2_isRef, ReadRef_is, Option.bind_some, isR]

theorem idx_get {s : Str} {i : Nat} (h : i < s.length) : idx s (i : Int) = some (s.getD i 0) := by rw [idx_lt h]; simp [List.getD, h]
theorem cut_from {s : Str} {i : Nat} (h : i ≤ s.length) : cut s (i : Int) (s.length : Int) = some (s.drop i) := by rw [cut_nat h (Nat.le_refl _), List.take_length]
theorem cut_to {s : Str} {i : Nat} (h : i ≤ s.length) : cut s 0 (i : Int) = some (s.take i) := by
  have := cut_nat (xs := s) (a := 0) (b := i) (by omega) h
  simpa using this

/-- The length of a second side, with its colon. -/
def side2 (s : Str) (n : Nat) : Nat := n + 1 + runP isCorner (s.drop (n + 1))
noncomputable def areaP (s : Str) (n : Nat) : Nat :=
  if n < s.length ∧ s.getD n 0 = 58 ∧ isR (s.take (side2 s n)) = true then side2 s n else if isR (s.take n) = true then n else 0
theorem side2_le {s : Str} {n : Nat} (h : n < s.length) : side2 s n ≤ s.length := by
  have := runP_le isCorner (s.drop (n + 1))
  simp at this
  unfold side2
  omega
theorem areaP_le {s : Str} {n : Nat} (h : n ≤ s.length) : areaP s n ≤ s.length := by
  unfold areaP
  split
  · rename_i g; exact side2_le g.1
  · split <;> omega

theorem colon_eq {s : Str} {n : Nat} : ((cond (decide ((n : Int) < (s.length : Int)))
  ((idx s (n : Int)).bind fun v1 =>
  some ((decide ((ofByte v1) = 58)), ()))
  (some (false, ())) : Option (Bool × Unit))) = some (decide (n < s.length ∧ s.getD n 0 = 58), ()) := by
  by_cases h : n < s.length
  · have c : (n : Int) < (s.length : Int) := by omega
    have h2 : decide (ofByte (s.getD n 0) = 58) = decide (s.getD n 0 = 58) := byte_dec _ 58 (by omega)
    simp only [c, decide_true, cond_true, idx_get h, Option.bind_some, h2, h, true_and]
  · have c : ¬(n : Int) < (s.length : Int) := by omega
    simp only [c, decide_false, cond_false, h, false_and]

theorem second_eq {s : Str} (hs : s.length ≤ 1000000) {n : Nat} (h : n < s.length) : IntKind.i64.wrap (IntKind.i64.wrap ((n : Int) + 1) + (runP isCorner (s.drop (n + 1)) : Int)) = (side2 s n : Int) := by
  have := side2_le h
  rw [wsucc (by omega), wadd (by unfold side2 at this; omega)]
  rfl

theorem area_eq {s : Str} (hs : s.length ≤ 1000000) {n : Nat} (hn : n ≤ s.length) : fscan_area s (n : Int) = some ((areaP s n : Int), ()) := by
  simp only [fscan_area, colon_eq, Option.bind_some]
  by_cases h : n < s.length ∧ s.getD n 0 = 58
  · have hd : ((s.drop (n + 1)).length) < 1099511627776 := by simp; omega
    have w := wsucc (show n < 9223372036854775807 by omega)
    have w2 := second_eq hs h.1
    rw [w] at w2
    simp only [h, and_self, decide_true, cond_true, w, cut_from (show n + 1 ≤ s.length by omega), Option.bind_some, run_corner_eq hd, w2, cut_to (side2_le h.1), isRef_eq]
    by_cases g : isR (s.take (side2 s n)) = true
    · simp only [g, cond_true, Option.bind_some, areaP, h, and_self, if_true]
    · simp only [g, cond_false, Option.bind_some, cut_to hn, areaP]
      cases isR (s.take n) <;> simp
  · simp only [h, decide_false, cond_false, Option.bind_some, cut_to hn, isRef_eq, areaP]
    rw [if_neg (fun g => h ⟨g.1, g.2.1⟩)]
    cases isR (s.take n) <;> simp
theorem longRef_eq {s : Str} (hs : s.length ≤ 1000000) {n : Nat} (hn : n ≤ s.length) : chanceryref2_longRef s (n : Int) = some ((areaP s n : Int), ()) := by
  simp only [chanceryref2_longRef, colon_eq, Option.bind_some]
  by_cases h : n < s.length ∧ s.getD n 0 = 58
  · have hd : ((s.drop (n + 1)).length) < 1099511627776 := by simp; omega
    have w := wsucc (show n < 9223372036854775807 by omega)
    have w2 := second_eq hs h.1
    rw [w] at w2
    simp only [h, and_self, decide_true, cond_true, w, cut_from (show n + 1 ≤ s.length by omega), Option.bind_some, span_refByte_eq hd, w2, cut_to (side2_le h.1), risRef_eq]
    by_cases g : isR (s.take (side2 s n)) = true
    · simp only [g, cond_true, Option.bind_some, areaP, h, and_self, if_true]
    · simp only [g, cond_false, Option.bind_some, cut_to hn, areaP]
      cases isR (s.take n) <;> simp
  · simp only [h, decide_false, cond_false, Option.bind_some, cut_to hn, risRef_eq, areaP]
    rw [if_neg (fun g => h ⟨g.1, g.2.1⟩)]
    cases isR (s.take n) <;> simp

noncomputable def sheetedP (s : Str) (n : Nat) : Nat := if n < s.length ∧ s.getD n 0 = 33 then areaP s (side2 s n) else 0
theorem sheetedP_le {s : Str} {n : Nat} : sheetedP s n ≤ s.length := by
  unfold sheetedP
  split
  · rename_i g; exact areaP_le (side2_le g.1)
  · omega
theorem sheeted_eq {s : Str} (hs : s.length ≤ 1000000) (n : Nat) (hn : n ≤ 1000000) : fscan_sheeted s (n : Int) = some ((sheetedP s n : Int), ()) := by
  by_cases h : n < s.length
  · have c : ¬(s.length : Int) ≤ (n : Int) := by omega
    have h2 : decide (ofByte (s.getD n 0) = 33) = decide (s.getD n 0 = 33) := byte_dec _ 33 (by omega)
    simp only [fscan_sheeted, c, decide_false, cond_false, idx_get h, Option.bind_some, h2]
    by_cases g : s.getD n 0 = 33
    · have hd : ((s.drop (n + 1)).length) < 1099511627776 := by simp; omega
      have w := wsucc (show n < 9223372036854775807 by omega)
      have w2 := second_eq hs h
      rw [w] at w2
      simp only [g, decide_true, Bool.not_true, cond_false, w, cut_from (show n + 1 ≤ s.length by omega), Option.bind_some, run_corner_eq hd, w2, area_eq hs (side2_le h), sheetedP, h, and_self, if_true]
    · simp only [g, decide_false, Bool.not_false, cond_true, sheetedP, and_false, if_false]
      rfl
  · have c : (s.length : Int) ≤ (n : Int) := by omega
    simp only [fscan_sheeted, c, decide_true, cond_true, Option.bind_some, sheetedP, h, false_and, if_false]
    rfl
end Go.Proofs.YtjhcnnhkabhigaaGreatDoor
