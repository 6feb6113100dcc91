import Derived.Test.YtfbnnjmhlkafiaaGreatDoorLawI
namespace Go.Proofs.YtfbnnjmhlkafiaaGreatDoor
open Go Go.Fe


section
variable {adj : RefD → RefD} {o0 o1 : Str}
theorem rename_step (hv : ∀ r, errD r = 0 → errD (adj r) = 0) (ha : ∀ r, errD r = 0 → fscan_Rename_1 r o0 o1 = some (adj r, (), (), (o0, ()), (o1, ()), ()))
    {a : List Tok} {x : Int × (Int × Unit)} (hl : a.length ≤ 400) (hg : ∀ t ∈ a, Good 400 t) {i : Nat} (hi : i < a.length) :
    fscan_replaced_Rename_1_l1 (a, x) (U2, (), (i : Int), (o0, ()), (o1, ()), U2, strBytes (accS adj a i), ()) = some (.inl (U2, (), ((i + 1 : Nat) : Int), (o0, ()), (o1, ()), U2, strBytes (accS adj a (i + 1)), ())) := by
  have c : (i : Int) < (a.length : Int) := by omega
  have w := wsucc (show i < 9223372036854775807 by omega)
  have hG := hg a[i] (List.getElem_mem _)
  have hL := accS_len hv hg i (by omega)
  have hN := newT_len hv hG
  rw [accS_succ adj hi]
  unfold newT at hN ⊢
  by_cases h4 : (a[i]).1 = 4
  · have hr := isR_valid (hG.2.1 h4)
    rw [if_pos h4] at hN ⊢
    by_cases hb : Ty.beq RT (adj (parseD (a[i]).2.1).1) (parseD (a[i]).2.1).1 = true
    · rw [if_pos hb] at hN ⊢
      simp only [fscan_replaced_Rename_1_l1, c, decide_true, cond_true, idx_lt hi, Option.bind_some, h4, Parse_is, ha _ hr, hb, Bool.not_true, cond_false, write_eq (acc := accS adj a i) (t := (a[i]).2.1) (by omega), w]
    · rw [if_neg hb] at hN ⊢
      have hb' : Ty.beq RT (adj (parseD (a[i]).2.1).1) (parseD (a[i]).2.1).1 = false := by simpa using hb
      simp only [fscan_replaced_Rename_1_l1, c, decide_true, cond_true, idx_lt hi, Option.bind_some, h4, Parse_is, ha _ hr, hb', Bool.not_false, PrintD (hv _ hr), write_eq (acc := accS adj a i) (t := textD (adj (parseD (a[i]).2.1).1)) (by omega), w]
  · rw [if_neg h4] at hN ⊢
    simp only [fscan_replaced_Rename_1_l1, c, decide_true, cond_true, idx_lt hi, Option.bind_some, h4, decide_false, cond_false, write_eq (acc := accS adj a i) (t := (a[i]).2.1) (by omega), w]
theorem rrename_step (hv : ∀ r, errD r = 0 → errD (adj r) = 0) (ha : ∀ r, errD r = 0 → chancerylaw2_ScanRenames_1 r o0 o1 = some (adj r, (), (), (o0, ()), (o1, ()), ()))
    {a : List Tok} {x : Int × Unit} (hl : a.length ≤ 400) (hg : ∀ t ∈ a, Good 400 t) {i : Nat} (hi : i < a.length) :
    chanceryref2_Rewritten_ScanRenames_1_l1 (a, x) (U2, accS adj a i, (i : Int), (o0, ()), (o1, ()), ()) = some (.inl (U2, accS adj a (i + 1), ((i + 1 : Nat) : Int), (o0, ()), (o1, ()), ())) := by
  have c : (i : Int) < (a.length : Int) := by omega
  have w := wsucc (show i < 9223372036854775807 by omega)
  have hG := hg a[i] (List.getElem_mem _)
  have hL := accS_len hv hg i (by omega)
  have hN := newT_len hv hG
  rw [accS_succ adj hi]
  unfold newT at hN ⊢
  by_cases h4 : (a[i]).1 = 4
  · have hr := isR_valid (hG.2.1 h4)
    rw [if_pos h4] at hN ⊢
    by_cases hb : Ty.beq RT (adj (parseD (a[i]).2.1).1) (parseD (a[i]).2.1).1 = true
    · rw [if_pos hb] at hN ⊢
      simp only [chanceryref2_Rewritten_ScanRenames_1_l1, c, decide_true, cond_true, idx_lt hi, Option.bind_some, h4, ReadRef_is, ha _ hr, hb, Bool.not_true, cond_false, cat_ok (xs := accS adj a i) (ys := (a[i]).2.1) (by omega), w]
    · rw [if_neg hb] at hN ⊢
      have hb' : Ty.beq RT (adj (parseD (a[i]).2.1).1) (parseD (a[i]).2.1).1 = false := by simpa using hb
      simp only [chanceryref2_Rewritten_ScanRenames_1_l1, c, decide_true, cond_true, idx_lt hi, Option.bind_some, h4, ReadRef_is, ha _ hr, hb', Bool.not_false, RefTextD (hv _ hr), cat_ok (xs := accS adj a i) (ys := textD (adj (parseD (a[i]).2.1).1)) (by omega), w]
  · rw [if_neg h4] at hN ⊢
    simp only [chanceryref2_Rewritten_ScanRenames_1_l1, c, decide_true, cond_true, idx_lt hi, Option.bind_some, h4, decide_false, cond_false, cat_ok (xs := accS adj a i) (ys := (a[i]).2.1) (by omega), w]

/-- Both rewrite a formula to the same. -/
theorem rename_both (hv : ∀ r, errD r = 0 → errD (adj r) = 0) (ha : ∀ r, errD r = 0 → fscan_Rename_1 r o0 o1 = some (adj r, (), (), (o0, ()), (o1, ()), ()))
    (hb : ∀ r, errD r = 0 → chancerylaw2_ScanRenames_1 r o0 o1 = some (adj r, (), (), (o0, ()), (o1, ()), ()))
    {s : Str} (hs : s.length ≤ 400) : ∃ t : Str, fscan_replaced_Rename_1 s o0 o1 = some (t, U2, (o0, ()), (o1, ()), ()) ∧ chanceryref2_Rewritten_ScanRenames_1 s o0 o1 = some (t, U2, (o0, ()), (o1, ()), ()) := by
  rcases Scan_bothG (s := s) (by omega) with ⟨a, ⟨q0, qg⟩, q1, q2⟩ | ⟨j, q1, q2⟩
  · have hg : ∀ t ∈ a, Good 400 t := fun t ht => ⟨by have := (qg t ht).1; omega, (qg t ht).2⟩
    refine ⟨accS adj a a.length, ?_, ?_⟩
    · have hl : Halts (fscan_replaced_Rename_1_l1 (a, 0, 0, ())) (0 + a.length) (U2, (), ((0 : Nat) : Int), (o0, ()), (o1, ()), U2, strBytes (accS adj a 0), ()) (U2, (), (o0, ()), (o1, ()), U2, strBytes (accS adj a a.length), ()) := by
        refine Halts.along (fun i => (U2, (), (i : Int), (o0, ()), (o1, ()), U2, strBytes (accS adj a i), ())) a.length (fun i hi => rename_step hv ha (by omega) hg hi) (.done ?_)
        simp only [fscan_replaced_Rename_1_l1, Int.lt_irrefl, decide_false, cond_false]
      have hr := hl.loop (by omega)
      have hL := accS_len hv hg a.length (by omega)
      have hk : decide ((strBytes (accS adj a a.length)).length ≤ lim) = true := decide_eq_true (by
        have : (strBytes (accS adj a a.length)).length = (accS adj a a.length).length := by simp [strBytes]
        unfold lim
        omega)
      have hw : _strings_Builder__WriteByte 61 [] = some (false, (), U2, [61], ()) := rfl
      unfold fscan_replaced_Rename_1
      rw [q1, Option.bind_some]
      dsimp only
      rw [decide_eq_true rfl, Bool.not_true, cond_false, hw, Option.bind_some]
      dsimp only
      erw [hr]
      rw [Option.bind_some]
      dsimp only
      rw [hk, chk_t, Option.bind_some]
      exact congrArg (fun z => some (z, _)) (bytesStr_strBytes _)
    · have hl : Halts (chanceryref2_Rewritten_ScanRenames_1_l1 (a, -1, ())) (0 + a.length) (U2, accS adj a 0, ((0 : Nat) : Int), (o0, ()), (o1, ()), ()) (U2, accS adj a a.length, (o0, ()), (o1, ()), ()) := by
        refine Halts.along (fun i => (U2, accS adj a i, (i : Int), (o0, ()), (o1, ()), ())) a.length (fun i hi => rrename_step hv hb (by omega) hg hi) (.done ?_)
        simp only [chanceryref2_Rewritten_ScanRenames_1_l1, Int.lt_irrefl, decide_false, cond_false]
      have hr := hl.loop (by omega)
      have c : ¬(0 : Int) ≤ -1 := by omega
      unfold chanceryref2_Rewritten_ScanRenames_1
      rw [q2, Option.bind_some]
      dsimp only
      rw [decide_eq_false c, cond_false]
      erw [hr]
      rfl
  · refine ⟨s, ?_, ?_⟩
    · unfold fscan_replaced_Rename_1
      rw [q1]
      rfl
    · have c : (0 : Int) ≤ (j : Int) := by omega
      unfold chanceryref2_Rewritten_ScanRenames_1
      rw [q2, Option.bind_some]
      dsimp only
      rw [decide_eq_true c]
      rfl
end

def adjN (o0 o1 : Str) (r : RefD) : RefD := if r.1 = o0 then (o1, r.2) else r
theorem adjN_valid {o0 o1 : Str} (h0 : o0 ≠ []) (h1 : nameErr o1 = 0) : ∀ r, errD r = 0 → errD (adjN o0 o1 r) = 0 := by
  intro r h
  unfold adjN
  split
  · rename_i g
    obtain ⟨h1', h2, h3, h4, h5, h6, h7, h8, h9⟩ := valid (s := r.1) (k := r.2.1) (r := r.2.2.1) (c := r.2.2.2.1) (r2 := r.2.2.2.2.1) (c2 := r.2.2.2.2.2.1) h
    have i1 : ins r.2.2.1 = true := decide_eq_true h5
    have i2 : ins r.2.2.2.1 = true := decide_eq_true h6
    have i3 : ins r.2.2.2.2.1 = true := decide_eq_true h7
    have i4 : ins r.2.2.2.2.2.1 = true := decide_eq_true h8
    have hk : r.2.1 ≠ 4 := by
      intro e
      simp [badForm, e] at h4
      exact h0 (g ▸ h4.1.1.1.1.1.1.1.1)
    refine refErr_zero (by dsimp only; omega) h1 ?_ i1 i2 i3 i4 (by dsimp only; exact h9)
    unfold badForm at h4 ⊢
    dsimp only
    rw [decide_eq_false hk, Bool.false_and, Bool.or_false] at h4 ⊢
    exact h4
  · exact h
theorem adjN_p {o0 o1 : Str} : ∀ r, errD r = 0 → fscan_Rename_1 r o0 o1 = some (adjN o0 o1 r, (), (), (o0, ()), (o1, ()), ()) := by
  intro r _
  unfold fscan_Rename_1 adjN
  by_cases g : r.1 = o0
  · simp only [decide_eq_true g, cond_true, Option.bind_some, if_pos g]
  · simp only [decide_eq_false g, cond_false, Option.bind_some, if_neg g]
theorem adjN_r {o0 o1 : Str} : ∀ r, errD r = 0 → chancerylaw2_ScanRenames_1 r o0 o1 = some (adjN o0 o1 r, (), (), (o0, ()), (o1, ()), ()) := by
  intro r _
  unfold chancerylaw2_ScanRenames_1 adjN
  by_cases g : r.1 = o0
  · simp only [decide_eq_true g, cond_true, Option.bind_some, if_pos g]
  · simp only [decide_eq_false g, cond_false, Option.bind_some, if_neg g]
end Go.Proofs.YtfbnnjmhlkafiaaGreatDoor

namespace Go.Proofs.YtfbnnjmhlkafiaaGreatDoor
open Go Go.Fe

/-! ### Names -/
def isNameC (c : UInt8) : Bool := isLetter c || (isDigit c || (decide (c = 95) || decide (c = 46)))
def nameP (s : Str) : Bool := match s with
  | [] => false
  | c :: r => (isLetter c || decide (c = 95)) && (c :: r).all isNameC
theorem nameC_eq (c : UInt8) : chanceryref2_NameForm_1 (ofByte c) = some (isNameC c, ()) := by
  have e1 : decide (ofByte c = 95) = decide (c = 95) := byte_dec c 95 (by omega)
  have e2 : decide (ofByte c = 46) = decide (c = 46) := byte_dec c 46 (by omega)
  simp only [chanceryref2_NameForm_1, rletter_eq, rdigit_eq, Option.bind_some, e1, e2, isNameC]
  cases isLetter c <;> cases isDigit c <;> cases decide (c = 95) <;> rfl
theorem all_nameC {s : Str} (h : s.length < 1099511627776) : chanceryref2_All_NameForm_1 s = some (s.all isNameC, ()) := by
  have key := Halts.all (f := chanceryref2_All_NameForm_1_l1 s) (fun i => ((), (i : Int), ())) (fun i => isNameC (s.getD i 0)) s.length (r := .inl ()) (q := fun _ => .inr (false, ())) (fun i hi hp => by
      have g : (i : Int) < (s.length : Int) := by omega
      simp only [chanceryref2_All_NameForm_1_l1, g, decide_true, cond_true, idx_get hi, Option.bind_some, nameC_eq, hp, Bool.not_true, cond_false, wsucc (show i < 9223372036854775807 by omega)]) (fun i hi hp => by
      have g : (i : Int) < (s.length : Int) := by omega
      simp only [chanceryref2_All_NameForm_1_l1, g, decide_true, cond_true, idx_get hi, Option.bind_some, nameC_eq, hp, Bool.not_false, cond_true]) (by simp [chanceryref2_All_NameForm_1_l1])
  simp only [chanceryref2_All_NameForm_1]
  rcases key with ⟨g1, g2⟩ | ⟨i, g1, g2, g3, g4⟩
  · have := g2.loop h
    rw [show ((0 : Nat) : Int) = 0 from rfl] at this
    rw [this]
    have e : s.all isNameC = true := List.all_eq_true.2 (fun c hc => by
      obtain ⟨i, hi, rfl⟩ := List.getElem_of_mem hc
      have := g1 i hi
      simpa [List.getD, hi] using this)
    rw [e]
    rfl
  · have := g4.loop (by omega)
    rw [show ((0 : Nat) : Int) = 0 from rfl] at this
    rw [this]
    have e : s.all isNameC = false := by
      cases h : s.all isNameC with
      | false => rfl
      | true =>
        have := List.all_eq_true.1 h s[i] (List.getElem_mem _)
        simp [List.getD, g1] at g2
        rw [g2] at this
        cases this
    rw [e]
    rfl
theorem NameForm_eq {s : Str} (h : s.length < 1099511627776) : chanceryref2_NameForm s = some (nameP s, ()) := by
  cases s with
  | nil => rfl
  | cons c r =>
    have hx : idx (c :: r) 0 = some c := rfl
    have e1 : decide (ofByte c = 95) = decide (c = 95) := byte_dec c 95 (by omega)
    unfold chanceryref2_NameForm nameP
    rw [decide_eq_false (by simp), cond_false, hx, Option.bind_some, rletter_eq, Option.bind_some]
    dsimp only
    rw [Option.bind_some, e1, all_nameC h]
    cases isLetter c <;> cases decide (c = 95) <;> rfl
theorem idx_mem {c : UInt8} : ∀ {s : Str}, c ∈ s → ∃ i : Nat, Lib.indexByte s c = (i : Int)
  | [], h => by cases h
  | x :: r, h => by
    by_cases e : x = c
    · subst e
      exact ⟨0, indexByte_hit x r⟩
    · rcases List.mem_cons.1 h with h | h
      · exact absurd h.symm e
      · obtain ⟨i, hi⟩ := idx_mem h
        exact ⟨i + 1, indexByte_miss e hi⟩
theorem dollar_mem (s : Str) : dollarP s = decide (36 ∈ s) := by
  unfold dollarP
  by_cases h : (36 : UInt8) ∈ s
  · obtain ⟨i, hi⟩ := idx_mem h
    rw [hi, decide_eq_true h, decide_eq_true (by omega)]
  · rw [indexByte_no (fun k hk => h (List.mem_of_getElem? hk)), decide_eq_false h]
    rfl
theorem nameC_split (c : UInt8) : isNameC c = (isWordly c && !decide (c = 36)) := by
  unfold isNameC isWordly isCorner
  by_cases h : c = 36
  · subst h
    decide
  · rw [decide_eq_false h]
    cases isLetter c <;> cases isDigit c <;> cases decide (c = 95) <;> cases decide (c = 46) <;> rfl
theorem all_split : ∀ s : Str, s.all isNameC = (s.all isWordly && !decide (36 ∈ s))
  | [] => by simp
  | c :: r => by
    rw [List.all_cons, List.all_cons, all_split r, nameC_split]
    by_cases h : c = 36
    · subst h
      simp
    · have e : decide (36 ∈ c :: r) = decide (36 ∈ r) := by
        rw [decide_eq_decide, List.mem_cons]
        exact ⟨fun g => g.resolve_left (fun g => h g.symm), .inr⟩
      rw [decide_eq_false h, e]
      cases isWordly c <;> simp
theorem run_full (p : UInt8 → Bool) : ∀ s : Str, decide (((runP p s : Nat) : Int) = (s.length : Int)) = s.all p
  | [] => rfl
  | c :: r => by
    have ih := run_full p r
    unfold runP at ih ⊢
    rw [List.takeWhile_cons, List.all_cons]
    cases p c with
    | true =>
      rw [Bool.true_and, ← ih, decide_eq_decide]
      simp
    | false =>
      simp
      omega
theorem first_split (c : UInt8) (h : isNameC c = true) : (isLetter c || decide (c = 95)) = (!isDigit c && !decide (c = 46)) := by
  revert h
  unfold isNameC
  have hd : c = 95 → isDigit c = false := fun h => by rw [h]; rfl
  have hd2 : c = 46 → isDigit c = false := fun h => by rw [h]; rfl
  have hl : isLetter c = true → isDigit c = false := fun h => by
    unfold isLetter at h
    unfold isDigit
    rw [decide_eq_true_eq] at h
    exact decide_eq_false (by omega)
  have hl2 : c = 46 → isLetter c = false := fun h => by rw [h]; rfl
  have hl3 : c = 46 → decide (c = 95) = false := fun h => by rw [h]; rfl
  by_cases e1 : c = 46
  · rw [hl2 e1, hl3 e1, hd2 e1, decide_eq_true e1]
    intro _; rfl
  · rw [decide_eq_false e1]
    cases h1 : isLetter c with
    | true => rw [hl h1]; intro _; simp
    | false =>
      by_cases e2 : c = 95
      · rw [hd e2, decide_eq_true e2]; intro _; rfl
      · rw [decide_eq_false e2]
        cases isDigit c <;> simp
theorem named_eq {s : Str} (h : s.length < 1099511627776) : fscan_named s = some (nameP s && !isR s, ()) := by
  cases s with
  | nil => rfl
  | cons c r =>
    have hx : idx (c :: r) 0 = some c := rfl
    have e1 : decide (ofByte c = 46) = decide (c = 46) := byte_dec c 46 (by omega)
    have hC : strings_Contains (c :: r) [36] = some (dollarP (c :: r), ()) := rfl
    unfold fscan_named nameP
    rw [decide_eq_false (by simp), Bool.not_false, cond_true, hx, Option.bind_some, fdigit_eq, Option.bind_some]
    dsimp only
    rw [Option.bind_some, e1, run_wordly_eq h, Option.bind_some]
    dsimp only
    rw [run_full, hC, Option.bind_some, isRef_eq, Option.bind_some]
    dsimp only
    rw [dollar_mem, all_split]
    cases hw : (c :: r).all isWordly with
    | false => cases isDigit c <;> cases decide (c = 46) <;> simp
    | true =>
      cases hd : decide (36 ∈ c :: r) with
      | true => cases isDigit c <;> cases decide (c = 46) <;> simp
      | false =>
        have hn : isNameC c = true := by
          have := all_split (c :: r)
          rw [hw, hd] at this
          exact List.all_eq_true.1 this c (List.mem_cons_self ..)
        rw [first_split c hn]
        cases isDigit c <;> cases decide (c = 46) <;> simp
end Go.Proofs.YtfbnnjmhlkafiaaGreatDoor
