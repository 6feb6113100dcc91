import Derived.Test.YtjhcnnhkabhigaaGreatDoorRLawA
namespace Go.Proofs.YtjhcnnhkabhigaaGreatDoor
open Go Go.Fe

theorem ofByte_inj (a b : UInt8) : decide (ofByte a = ofByte b) = decide (a = b) := by
  rw [decide_eq_decide, ofByte_eq, ofByte_eq]
  constructor
  · intro h
    exact UInt8.toNat_inj.1 (by omega)
  · rintro rfl; rfl

/-! ### Texts between marks -/
def quoP (m : UInt8) (s : Str) : Nat → Nat → Nat
  | 0, _ => 0
  | f + 1, i => if i < s.length then if s.getD i 0 = m then (if i + 1 < s.length ∧ s.getD (i + 1) 0 = m then quoP m s f (i + 2) else i + 1) else quoP m s f (i + 1) else 0
theorem quoP_le (m : UInt8) (s : Str) : ∀ f i, quoP m s f i ≤ s.length
  | 0, _ => by simp [quoP]
  | f + 1, i => by
    rw [quoP]
    split
    · split
      · split
        · exact quoP_le m s f _
        · omega
      · exact quoP_le m s f _
    · omega

theorem quoted_loop {s : Str} (hs : s.length ≤ 1000000) (m : UInt8) : ∀ f i, s.length ≤ i + f → i ≤ 1000002 → Halts (fscan_quoted_l1 s (ofByte m)) f ((i : Int), ()) (if quoP m s f i = 0 then .inl () else .inr ((quoP m s f i : Int), ()))
  | 0, i, h, _ => by
    refine .done ?_
    have c : ¬(i : Int) < (s.length : Int) := by omega
    simp only [fscan_quoted_l1, c, decide_false, cond_false, quoP, if_true]
  | f + 1, i, h, hi => by
    rw [quoP]
    by_cases hlt : i < s.length
    · have c : (i : Int) < (s.length : Int) := by omega
      rw [if_pos hlt]
      have e1 := ofByte_inj (s.getD i 0) m
      by_cases h1 : s.getD i 0 = m
      · rw [if_pos h1]
        have w1 := wsucc (show i < 9223372036854775807 by omega)
        by_cases h2 : i + 1 < s.length ∧ s.getD (i + 1) 0 = m
        · rw [if_pos h2]
          have ih := quoted_loop hs m f (i + 2) (by omega) (by omega)
          refine .step ?_ ih
          have c2 : ((i + 1 : Nat) : Int) < (s.length : Int) := by omega
          have w2 := wsucc (show i + 1 < 9223372036854775807 by omega)
          have e2 := ofByte_inj (s.getD (i + 1) 0) m
          rw [decide_eq_true h1] at e1
          rw [decide_eq_true h2.2] at e2
          simp only [fscan_quoted_l1, c, decide_true, cond_true, idx_get hlt, Option.bind_some, e1, Bool.not_true, cond_false, w1, c2, idx_get h2.1, e2, w2]
        · rw [if_neg h2]
          refine .done ?_
          rw [if_neg (by omega)]
          rw [decide_eq_true h1] at e1
          by_cases h3 : i + 1 < s.length
          · have c2 : ((i + 1 : Nat) : Int) < (s.length : Int) := by omega
            have e2 := ofByte_inj (s.getD (i + 1) 0) m
            rw [decide_eq_false (fun h => h2 ⟨h3, h⟩)] at e2
            simp only [fscan_quoted_l1, c, decide_true, cond_true, idx_get hlt, Option.bind_some, e1, Bool.not_true, cond_false, w1, c2, idx_get h3, e2]
          · have c2 : ¬((i + 1 : Nat) : Int) < (s.length : Int) := by omega
            simp only [fscan_quoted_l1, c, decide_true, cond_true, idx_get hlt, Option.bind_some, e1, Bool.not_true, cond_false, w1, c2, decide_false]
      · rw [if_neg h1]
        rw [decide_eq_false h1] at e1
        refine .step ?_ (quoted_loop hs m f (i + 1) (by omega) (by omega))
        simp only [fscan_quoted_l1, c, decide_true, cond_true, idx_get hlt, Option.bind_some, e1, Bool.not_false, wsucc (show i < 9223372036854775807 by omega)]
    · rw [if_neg hlt]
      refine .done ?_
      have c : ¬(i : Int) < (s.length : Int) := by omega
      simp only [fscan_quoted_l1, c, decide_false, cond_false, if_true]
theorem quoted_eq {s : Str} (hs : s.length ≤ 1000000) (m : UInt8) : fscan_quoted s (ofByte m) = some ((quoP m s s.length 1 : Int), ()) := by
  have := (quoted_loop hs m s.length 1 (by omega) (by omega)).loop (by omega)
  simp only [fscan_quoted]
  rw [show (1 : Int) = ((1 : Nat) : Int) from rfl, this]
  by_cases h : quoP m s s.length 1 = 0
  · simp [h]
  · simp [h]

theorem closing_loop {s : Str} (hs : s.length ≤ 1000000) (h0 : 0 < s.length) : ∀ f i, s.length ≤ i + f → i ≤ 1000002 → Halts (chanceryref2_closing_l1 s) f ((i : Int), ()) (if quoP (s.getD 0 0) s f i = 0 then .inl () else .inr ((quoP (s.getD 0 0) s f i : Int), ()))
  | 0, i, h, _ => by
    refine .done ?_
    have c : ¬(i : Int) < (s.length : Int) := by omega
    simp only [chanceryref2_closing_l1, c, decide_false, cond_false, quoP, if_true]
  | f + 1, i, h, hi => by
    have i0 : idx s 0 = some (s.getD 0 0) := idx_get (i := 0) h0
    rw [quoP]
    by_cases hlt : i < s.length
    · have c : (i : Int) < (s.length : Int) := by omega
      rw [if_pos hlt]
      have e1 := ofByte_inj (s.getD i 0) (s.getD 0 0)
      by_cases h1 : s.getD i 0 = s.getD 0 0
      · rw [if_pos h1]
        have w1 := wsucc (show i < 9223372036854775807 by omega)
        by_cases h2 : i + 1 < s.length ∧ s.getD (i + 1) 0 = s.getD 0 0
        · rw [if_pos h2]
          have ih := closing_loop hs h0 f (i + 2) (by omega) (by omega)
          refine .step ?_ ih
          have c2 : ¬((i + 1 : Nat) : Int) = (s.length : Int) := by omega
          have w2 := wsucc (show i + 1 < 9223372036854775807 by omega)
          have e2 := ofByte_inj (s.getD (i + 1) 0) (s.getD 0 0)
          rw [decide_eq_true h1] at e1
          rw [decide_eq_true h2.2] at e2
          simp only [chanceryref2_closing_l1, c, decide_true, cond_true, idx_get hlt, i0, Option.bind_some, e1, w1, c2, decide_false, cond_false, idx_get h2.1, e2, Bool.not_true, w2]
        · rw [if_neg h2]
          refine .done ?_
          rw [if_neg (by omega)]
          rw [decide_eq_true h1] at e1
          by_cases h3 : i + 1 < s.length
          · have c2 : ¬((i + 1 : Nat) : Int) = (s.length : Int) := by omega
            have e2 := ofByte_inj (s.getD (i + 1) 0) (s.getD 0 0)
            rw [decide_eq_false (fun h => h2 ⟨h3, h⟩)] at e2
            simp only [chanceryref2_closing_l1, c, decide_true, cond_true, idx_get hlt, i0, Option.bind_some, e1, w1, c2, decide_false, cond_false, idx_get h3, e2, Bool.not_false]
          · have c2 : ((i + 1 : Nat) : Int) = (s.length : Int) := by omega
            simp only [chanceryref2_closing_l1, c, decide_true, cond_true, idx_get hlt, i0, Option.bind_some, e1, w1, c2]
      · rw [if_neg h1]
        rw [decide_eq_false h1] at e1
        refine .step ?_ (closing_loop hs h0 f (i + 1) (by omega) (by omega))
        simp only [chanceryref2_closing_l1, c, decide_true, cond_true, idx_get hlt, i0, Option.bind_some, e1, cond_false, wsucc (show i < 9223372036854775807 by omega)]
    · rw [if_neg hlt]
      refine .done ?_
      have c : ¬(i : Int) < (s.length : Int) := by omega
      simp only [chanceryref2_closing_l1, c, decide_false, cond_false, if_true]
theorem closing_eq {s : Str} (hs : s.length ≤ 1000000) (h0 : 0 < s.length) : chanceryref2_closing s = some ((quoP (s.getD 0 0) s s.length 1 : Int), ()) := by
  have := (closing_loop hs h0 s.length 1 (by omega) (by omega)).loop (by omega)
  simp only [chanceryref2_closing]
  rw [show (1 : Int) = ((1 : Nat) : Int) from rfl, this]
  by_cases h : quoP (s.getD 0 0) s s.length 1 = 0
  · rw [if_pos h, h]
    rfl
  · rw [if_neg h]
    rfl

/-! ### Brackets -/
def depthP (d : Int) (c : UInt8) : Int := if c = 91 then d + 1 else if c = 93 then d - 1 else d
def brkP (s : Str) : Nat → Int → Nat → Nat
  | 0, _, _ => 0
  | f + 1, d, i => if i < s.length then if depthP d (s.getD i 0) = 0 then i + 1 else brkP s f (depthP d (s.getD i 0)) (i + 1) else 0
theorem brkP_le (s : Str) : ∀ f d i, brkP s f d i ≤ s.length
  | 0, _, _ => by simp [brkP]
  | f + 1, d, i => by
    rw [brkP]
    split
    · split
      · omega
      · exact brkP_le s f _ _
    · omega
theorem depth_step {d : Int} {c : UInt8} (h1 : -2000000 ≤ d) (h2 : d ≤ 2000000) : ((cond (decide ((ofByte c) = 91))
  (some (IntKind.i64.wrap (d + 1), ()))
  (cond (decide ((ofByte c) = 93))
  (some (IntKind.i64.wrap (d - 1), ()))
  (some (d, ()))) : Option (Int × Unit))) = some (depthP d c, ()) := by
  have e1 : decide (ofByte c = 91) = decide (c = 91) := byte_dec c 91 (by omega)
  have e2 : decide (ofByte c = 93) = decide (c = 93) := byte_dec c 93 (by omega)
  have w1 : IntKind.i64.wrap (d + 1) = d + 1 := wrap_i64 (by omega) (by omega)
  have w2 : IntKind.i64.wrap (d - 1) = d - 1 := wrap_i64 (by omega) (by omega)
  unfold depthP
  rw [e1, e2, w1, w2]
  by_cases h : c = 91
  · simp [h]
  · by_cases h' : c = 93 <;> simp [h, h']
theorem depth_abs {d : Int} {c : UInt8} : d - 1 ≤ depthP d c ∧ depthP d c ≤ d + 1 := by
  unfold depthP
  split
  · omega
  · split <;> omega

theorem brackets_loop {s : Str} (hs : s.length ≤ 1000000) : ∀ f (d : Int) i, s.length ≤ i + f → -(i : Int) ≤ d → d ≤ i → i ≤ s.length → Halts (fscan_brackets_l1 s) f (d, (i : Int), ()) (if brkP s f d i = 0 then .inl () else .inr ((brkP s f d i : Int), ()))
  | 0, d, i, h, _, _, _ => by
    refine .done ?_
    have c : ¬(i : Int) < (s.length : Int) := by omega
    simp only [fscan_brackets_l1, c, decide_false, cond_false, brkP, if_true]
  | f + 1, d, i, h, h1, h2, h3 => by
    rw [brkP]
    by_cases hlt : i < s.length
    · have c : (i : Int) < (s.length : Int) := by omega
      rw [if_pos hlt]
      have hd := depth_step (d := d) (c := s.getD i 0) (by omega) (by omega)
      have ha := depth_abs (d := d) (c := s.getD i 0)
      by_cases h0 : depthP d (s.getD i 0) = 0
      · rw [if_pos h0]
        refine .done ?_
        rw [if_neg (by omega)]
        simp only [fscan_brackets_l1, c, decide_true, cond_true, idx_get hlt, Option.bind_some, hd, h0, wsucc (show i < 9223372036854775807 by omega)]
      · rw [if_neg h0]
        refine .step ?_ (brackets_loop hs f _ (i + 1) (by omega) (by omega) (by omega) (by omega))
        simp only [fscan_brackets_l1, c, decide_true, cond_true, idx_get hlt, Option.bind_some, hd, h0, decide_false, cond_false, wsucc (show i < 9223372036854775807 by omega)]
    · rw [if_neg hlt]
      refine .done ?_
      have c : ¬(i : Int) < (s.length : Int) := by omega
      simp only [fscan_brackets_l1, c, decide_false, cond_false, if_true]
theorem brackets_eq {s : Str} (hs : s.length ≤ 1000000) : fscan_brackets s = some ((brkP s s.length 0 0 : Int), ()) := by
  have := (brackets_loop hs s.length 0 0 (by omega) (by omega) (by omega) (by omega)).loop (by omega)
  simp only [fscan_brackets]
  rw [show ((0 : Nat) : Int) = 0 from rfl] at this
  rw [this]
  by_cases h : brkP s s.length 0 0 = 0
  · simp [h]
  · simp [h]

theorem rbrackets_loop {s : Str} (hs : s.length ≤ 1000000) {n : Nat} (hn : n ≤ 1000000) : ∀ f (d : Int) i, s.length ≤ i + f → -(i : Int) ≤ d → d ≤ i → i ≤ s.length → Halts (chanceryref2_wordToken_l1 s ((n : Int), ())) f (d, (i : Int), ()) (if brkP s f d i = 0 then .inl () else .inr (7, ((n + brkP s f d i : Nat) : Int), ()))
  | 0, d, i, h, _, _, _ => by
    refine .done ?_
    have c : ¬(i : Int) < (s.length : Int) := by omega
    simp only [chanceryref2_wordToken_l1, c, decide_false, cond_false, brkP, if_true]
  | f + 1, d, i, h, h1, h2, h3 => by
    rw [brkP]
    by_cases hlt : i < s.length
    · have c : (i : Int) < (s.length : Int) := by omega
      rw [if_pos hlt]
      have e1 : decide (ofByte (s.getD i 0) = 91) = decide (s.getD i 0 = 91) := byte_dec _ 91 (by omega)
      have e2 : decide (ofByte (s.getD i 0) = 93) = decide (s.getD i 0 = 93) := byte_dec _ 93 (by omega)
      have w1 : IntKind.i64.wrap (d + 1) = d + 1 := wrap_i64 (by omega) (by omega)
      have w2 : IntKind.i64.wrap (d - 1) = d - 1 := wrap_i64 (by omega) (by omega)
      have w3 : IntKind.i64.wrap (IntKind.i64.wrap ((n : Int) + (i : Int)) + 1) = ((n + (i + 1) : Nat) : Int) := by rw [wadd (by omega), wsucc (by omega), Nat.add_assoc]
      have hd : ((cond (decide (s.getD i 0 = 91))
  (some (d + 1, ()))
  (some (d, ())) : Option (Int × Unit)).bind fun r16 => ((cond (decide (s.getD i 0 = 93))
  (some (IntKind.i64.wrap (r16.1 - 1), ()))
  (some r16)) : Option (Int × Unit))) = some (depthP d (s.getD i 0), ()) := by
        unfold depthP
        by_cases g : s.getD i 0 = 91
        · rw [if_pos g, g]
          rfl
        · by_cases g' : s.getD i 0 = 93
          · rw [if_neg g, if_pos g', g']
            simp only [show decide ((93 : UInt8) = 91) = false from by decide, decide_true, cond_true, cond_false, Option.bind_some, w2]
          · simp only [g, g', decide_false, cond_false, Option.bind_some, if_false]
      have ha := depth_abs (d := d) (c := s.getD i 0)
      have hpre : ∀ X : Int × Unit → Option ((Int × (Int × Unit)) ⊕ (Unit ⊕ (Int × (Int × Unit)))), (((cond (decide (s.getD i 0 = 91))
  (some (d + 1, ()))
  (some (d, ())) : Option (Int × Unit)).bind fun r16 => (((cond (decide (s.getD i 0 = 93))
  (some (IntKind.i64.wrap (r16.1 - 1), ()))
  (some r16)) : Option (Int × Unit)).bind X))) = X (depthP d (s.getD i 0), ()) := fun X => by
        rw [← Option.bind_assoc, hd]
        rfl
      by_cases h0 : depthP d (s.getD i 0) = 0
      · rw [if_pos h0]
        refine .done ?_
        rw [if_neg (by omega)]
        simp only [chanceryref2_wordToken_l1, c, decide_true, cond_true, idx_get hlt, Option.bind_some, e1, e2, w1]
        rw [hpre]
        simp only [h0, decide_true, cond_true, w3]
      · rw [if_neg h0]
        refine .step ?_ (rbrackets_loop hs hn f _ (i + 1) (by omega) (by omega) (by omega) (by omega))
        simp only [chanceryref2_wordToken_l1, c, decide_true, cond_true, idx_get hlt, Option.bind_some, e1, e2, w1]
        rw [hpre]
        simp only [h0, decide_false, cond_false, wsucc (show i < 9223372036854775807 by omega)]
    · rw [if_neg hlt]
      refine .done ?_
      have c : ¬(i : Int) < (s.length : Int) := by omega
      simp only [chanceryref2_wordToken_l1, c, decide_false, cond_false, if_true]

/-! ### Prefixes, places of bytes -/
theorem Has_eq (s p : Str) : chanceryref2_Has s p = some (Lib.hasPrefix s p, ()) := by
  have h := Lib.hasPrefix_of_take s p
  by_cases hl : p.length ≤ s.length
  · have c : (p.length : Int) ≤ (s.length : Int) := by omega
    simp only [chanceryref2_Has, c, decide_true, cond_true, cut_to hl, Option.bind_some]
    rw [← h]
    simp [hl]
    by_cases g : s.take p.length = p <;> simp [g]
  · have c : ¬(p.length : Int) ≤ (s.length : Int) := by omega
    simp only [chanceryref2_Has, c, decide_false, cond_false]
    rw [← h]
    simp [hl]
theorem HasPrefix_eq (s p : Str) : sHasPrefix (s, p, ()) = some (Lib.hasPrefix s p, ()) := rfl

theorem indexByte_at {c : UInt8} : ∀ {s : Str} {i : Nat}, s[i]? = some c → (∀ k, k < i → s[k]? ≠ some c) → Lib.indexByte s c = (i : Int)
  | [], i, h, _ => by simp at h
  | x :: r, 0, h, _ => by
    simp only [List.getElem?_cons_zero, Option.some.injEq] at h
    subst h
    exact indexByte_hit x r
  | x :: r, i + 1, h, hk => by
    have h0 : x ≠ c := fun e => hk 0 (by omega) (by simp [e])
    exact indexByte_miss h0 (indexByte_at (by simpa using h) (fun k hk' => by
      have := hk (k + 1) (by omega)
      simpa using this))
theorem indexByte_no {c : UInt8} : ∀ {s : Str}, (∀ k : Nat, s[k]? ≠ some c) → Lib.indexByte s c = -1
  | [], _ => rfl
  | x :: r, h => by
    have h0 : x ≠ c := fun e => h 0 (by simp [e])
    have ih := indexByte_no (c := c) (s := r) (fun k => by
      have := h (k + 1)
      simpa using this)
    simp only [Lib.indexByte, ih, beq_eq_false_iff_ne.2 h0, Bool.false_eq_true, if_false]
    rfl
theorem Index_eq {s : Str} (hs : s.length < 1099511627776) (c : UInt8) : chanceryref2_Index s (ofByte c) = some (Lib.indexByte s c, ()) := by
  have key := Halts.all (f := chanceryref2_Index_l1 s (ofByte c)) (fun i => ((i : Int), ())) (fun i => !decide (s.getD i 0 = c)) s.length (r := .inl ()) (q := fun i => .inr ((i : Int), ())) (fun i hi hp => by
      have g : (i : Int) < (s.length : Int) := by omega
      have e := ofByte_inj (s.getD i 0) c
      rw [show decide (s.getD i 0 = c) = false by simpa using hp] at e
      simp only [chanceryref2_Index_l1, g, decide_true, cond_true, idx_get hi, Option.bind_some, e, cond_false, wsucc (show i < 9223372036854775807 by omega)]) (fun i hi hp => by
      have g : (i : Int) < (s.length : Int) := by omega
      have e := ofByte_inj (s.getD i 0) c
      rw [show decide (s.getD i 0 = c) = true by simpa using hp] at e
      simp only [chanceryref2_Index_l1, g, decide_true, cond_true, idx_get hi, Option.bind_some, e]) (by simp [chanceryref2_Index_l1])
  simp only [chanceryref2_Index]
  rcases key with ⟨g1, g2⟩ | ⟨i, g1, g2, g3, g4⟩
  · have := g2.loop hs
    rw [show ((0 : Nat) : Int) = 0 from rfl] at this
    rw [this, indexByte_no (c := c) (s := s) (fun k hk => by
      have hk' : k < s.length := (List.getElem?_eq_some_iff.1 hk).1
      have := g1 k hk'
      simp [List.getD, hk] at this)]
    rfl
  · have := g4.loop (by omega)
    rw [show ((0 : Nat) : Int) = 0 from rfl] at this
    have hi : s[i]? = some c := by
      simp [List.getD, g1] at g2
      rw [List.getElem?_eq_getElem g1, g2]
    rw [this, indexByte_at hi (fun k hk hkc => by
      have := g3 k hk
      simp [List.getD, hkc] at this)]
    rfl
end Go.Proofs.YtjhcnnhkabhigaaGreatDoor
