import Derived.Test.YtjhcnnhkabhigaaGreatDoorRLawJ
import Derived.Test.YtjhcnnhkabhigaaGreatDoorRLawL
namespace Go.Proofs.YtjhcnnhkabhigaaGreatDoor
open Go Go.Fe
/-! ### Formulas rewritten: both ways write the same -/
abbrev U5 : Unit × (Unit × (Unit × (Unit × (Unit × Unit)))) := ((), (), (), (), (), ())
section
variable {adj : RefD → RefD} {o0 o1 : Int}
theorem copied_step (hv : ∀ r, errD r = 0 → errD (adj r) = 0) (ha : ∀ r, errD r = 0 → fscan_Copied_1 r o0 o1 = some (adj r, (), (), (o0, ()), (o1, ()), ()))
    {a : List Tok} {x : Int × (Int × Unit)} (hl : a.length ≤ 400) (hg : ∀ t ∈ a, Good 400 t) {i : Nat} (hi : i < a.length) :
    fscan_replaced_Copied_1_l1 (a, x) (U2, (), (i : Int), (o0, ()), (o1, ()), U2, strBytes (accS adj a i), ()) = some (.inl (U2, (), ((i + 1 : Nat) : Int), (o0, ()), (o1, ()), U2, strBytes (accS adj a (i + 1)), ())) := by
  have c : (i : Int) < (a.length : Int) := by omega
  have w := wsucc (show i < 9223372036854775807 by omega)
  have hG := hg a[i] (List.getElem_mem _)
  have hL := accS_len hv hg i (by omega)
  have hN := newT_len hv hG
  rw [accS_succ adj hi]
  unfold newT at hN ⊢
  by_cases h4 : (a[i]).1 = 4
  · have hr := isR_valid (hG.2.1 h4)
    rw [if_pos h4] at hN ⊢
    by_cases hb : Ty.beq RT (adj (parseD (a[i]).2.1).1) (parseD (a[i]).2.1).1 = true
    · rw [if_pos hb] at hN ⊢
      simp only [fscan_replaced_Copied_1_l1, c, decide_true, cond_true, idx_lt hi, Option.bind_some, h4, Parse_is, ha _ hr, hb, Bool.not_true, cond_false, write_eq (acc := accS adj a i) (t := (a[i]).2.1) (by omega), w]
    · rw [if_neg hb] at hN ⊢
      have hb' : Ty.beq RT (adj (parseD (a[i]).2.1).1) (parseD (a[i]).2.1).1 = false := by simpa using hb
      simp only [fscan_replaced_Copied_1_l1, c, decide_true, cond_true, idx_lt hi, Option.bind_some, h4, Parse_is, ha _ hr, hb', Bool.not_false, PrintD (hv _ hr), write_eq (acc := accS adj a i) (t := textD (adj (parseD (a[i]).2.1).1)) (by omega), w]
  · rw [if_neg h4] at hN ⊢
    simp only [fscan_replaced_Copied_1_l1, c, decide_true, cond_true, idx_lt hi, Option.bind_some, h4, decide_false, cond_false, write_eq (acc := accS adj a i) (t := (a[i]).2.1) (by omega), w]
theorem rcopied_step (hv : ∀ r, errD r = 0 → errD (adj r) = 0) (ha : ∀ r, errD r = 0 → chancerylaw2_ScanCopiedAndMoved_1 r o0 o1 = some (adj r, (), (), (o0, ()), (o1, ()), ()))
    {a : List Tok} {x : Int × Unit} (hl : a.length ≤ 400) (hg : ∀ t ∈ a, Good 400 t) {i : Nat} (hi : i < a.length) :
    chanceryref2_Rewritten_ScanCopiedAndMoved_1_l1 (a, x) (U2, accS adj a i, (i : Int), (o0, ()), (o1, ()), ()) = some (.inl (U2, accS adj a (i + 1), ((i + 1 : Nat) : Int), (o0, ()), (o1, ()), ())) := by
  have c : (i : Int) < (a.length : Int) := by omega
  have w := wsucc (show i < 9223372036854775807 by omega)
  have hG := hg a[i] (List.getElem_mem _)
  have hL := accS_len hv hg i (by omega)
  have hN := newT_len hv hG
  rw [accS_succ adj hi]
  unfold newT at hN ⊢
  by_cases h4 : (a[i]).1 = 4
  · have hr := isR_valid (hG.2.1 h4)
    rw [if_pos h4] at hN ⊢
    by_cases hb : Ty.beq RT (adj (parseD (a[i]).2.1).1) (parseD (a[i]).2.1).1 = true
    · rw [if_pos hb] at hN ⊢
      simp only [chanceryref2_Rewritten_ScanCopiedAndMoved_1_l1, c, decide_true, cond_true, idx_lt hi, Option.bind_some, h4, ReadRef_is, ha _ hr, hb, Bool.not_true, cond_false, cat_ok (xs := accS adj a i) (ys := (a[i]).2.1) (by omega), w]
    · rw [if_neg hb] at hN ⊢
      have hb' : Ty.beq RT (adj (parseD (a[i]).2.1).1) (parseD (a[i]).2.1).1 = false := by simpa using hb
      simp only [chanceryref2_Rewritten_ScanCopiedAndMoved_1_l1, c, decide_true, cond_true, idx_lt hi, Option.bind_some, h4, ReadRef_is, ha _ hr, hb', Bool.not_false, RefTextD (hv _ hr), cat_ok (xs := accS adj a i) (ys := textD (adj (parseD (a[i]).2.1).1)) (by omega), w]
  · rw [if_neg h4] at hN ⊢
    simp only [chanceryref2_Rewritten_ScanCopiedAndMoved_1_l1, c, decide_true, cond_true, idx_lt hi, Option.bind_some, h4, decide_false, cond_false, cat_ok (xs := accS adj a i) (ys := (a[i]).2.1) (by omega), w]

/-- Both rewrite a formula to the same. -/
theorem copied_both (hv : ∀ r, errD r = 0 → errD (adj r) = 0) (ha : ∀ r, errD r = 0 → fscan_Copied_1 r o0 o1 = some (adj r, (), (), (o0, ()), (o1, ()), ()))
    (hb : ∀ r, errD r = 0 → chancerylaw2_ScanCopiedAndMoved_1 r o0 o1 = some (adj r, (), (), (o0, ()), (o1, ()), ()))
    {s : Str} (hs : s.length ≤ 400) : ∃ t : Str, fscan_replaced_Copied_1 s o0 o1 = some (t, U2, (o0, ()), (o1, ()), ()) ∧ chanceryref2_Rewritten_ScanCopiedAndMoved_1 s o0 o1 = some (t, U2, (o0, ()), (o1, ()), ()) := by
  rcases Scan_bothG (s := s) (by omega) with ⟨a, ⟨q0, qg⟩, q1, q2⟩ | ⟨j, q1, q2⟩
  · have hg : ∀ t ∈ a, Good 400 t := fun t ht => ⟨by have := (qg t ht).1; omega, (qg t ht).2⟩
    refine ⟨accS adj a a.length, ?_, ?_⟩
    · have hl : Halts (fscan_replaced_Copied_1_l1 (a, 0, 0, ())) (0 + a.length) (U2, (), ((0 : Nat) : Int), (o0, ()), (o1, ()), U2, strBytes (accS adj a 0), ()) (U2, (), (o0, ()), (o1, ()), U2, strBytes (accS adj a a.length), ()) := by
        refine Halts.along (fun i => (U2, (), (i : Int), (o0, ()), (o1, ()), U2, strBytes (accS adj a i), ())) a.length (fun i hi => copied_step hv ha (by omega) hg hi) (.done ?_)
        simp only [fscan_replaced_Copied_1_l1, Int.lt_irrefl, decide_false, cond_false]
      have hr := hl.loop (by omega)
      have hL := accS_len hv hg a.length (by omega)
      have hk : decide ((strBytes (accS adj a a.length)).length ≤ lim) = true := decide_eq_true (by
        have : (strBytes (accS adj a a.length)).length = (accS adj a a.length).length := by simp [strBytes]
        unfold lim
        omega)
      have hw : _strings_Builder__WriteByte 61 [] = some (false, (), U2, [61], ()) := rfl
      unfold fscan_replaced_Copied_1
      rw [q1, Option.bind_some]
      dsimp only
      rw [decide_eq_true rfl, Bool.not_true, cond_false, hw, Option.bind_some]
      dsimp only
      erw [hr]
      rw [Option.bind_some]
      dsimp only
      rw [hk, chk_t, Option.bind_some]
      exact congrArg (fun z => some (z, _)) (bytesStr_strBytes _)
    · have hl : Halts (chanceryref2_Rewritten_ScanCopiedAndMoved_1_l1 (a, -1, ())) (0 + a.length) (U2, accS adj a 0, ((0 : Nat) : Int), (o0, ()), (o1, ()), ()) (U2, accS adj a a.length, (o0, ()), (o1, ()), ()) := by
        refine Halts.along (fun i => (U2, accS adj a i, (i : Int), (o0, ()), (o1, ()), ())) a.length (fun i hi => rcopied_step hv hb (by omega) hg hi) (.done ?_)
        simp only [chanceryref2_Rewritten_ScanCopiedAndMoved_1_l1, Int.lt_irrefl, decide_false, cond_false]
      have hr := hl.loop (by omega)
      have c : ¬(0 : Int) ≤ -1 := by omega
      unfold chanceryref2_Rewritten_ScanCopiedAndMoved_1
      rw [q2, Option.bind_some]
      dsimp only
      rw [decide_eq_false c, cond_false]
      erw [hr]
      rfl
  · refine ⟨s, ?_, ?_⟩
    · unfold fscan_replaced_Copied_1
      rw [q1]
      rfl
    · have c : (0 : Int) ≤ (j : Int) := by omega
      unfold chanceryref2_Rewritten_ScanCopiedAndMoved_1
      rw [q2, Option.bind_some]
      dsimp only
      rw [decide_eq_true c]
      rfl
end

section
variable {adj : RefD → RefD} {o0 : Str} {o1 : Bool} {m0 m1 m2 m3 o3 o4 : Int}
theorem moved_step (hv : ∀ r, errD r = 0 → errD (adj r) = 0) (ha : ∀ r, errD r = 0 → fscan_Moved_1 r o0 o1 m0 m1 m2 m3 o3 o4 = some (adj r, (), (), (), (), (), (o0, ()), (o1, ()), (m0, (m1, (m2, (m3, ())))), (o3, ()), (o4, ()), ()))
    {a : List Tok} {x : Int × (Int × Unit)} (hl : a.length ≤ 400) (hg : ∀ t ∈ a, Good 400 t) {i : Nat} (hi : i < a.length) :
    fscan_replaced_Moved_1_l1 (a, x) (U5, (), (i : Int), (o0, ()), (o1, ()), (m0, (m1, (m2, (m3, ())))), (o3, ()), (o4, ()), U2, strBytes (accS adj a i), ()) = some (.inl (U5, (), ((i + 1 : Nat) : Int), (o0, ()), (o1, ()), (m0, (m1, (m2, (m3, ())))), (o3, ()), (o4, ()), U2, strBytes (accS adj a (i + 1)), ())) := by
  have c : (i : Int) < (a.length : Int) := by omega
  have w := wsucc (show i < 9223372036854775807 by omega)
  have hG := hg a[i] (List.getElem_mem _)
  have hL := accS_len hv hg i (by omega)
  have hN := newT_len hv hG
  rw [accS_succ adj hi]
  unfold newT at hN ⊢
  by_cases h4 : (a[i]).1 = 4
  · have hr := isR_valid (hG.2.1 h4)
    rw [if_pos h4] at hN ⊢
    by_cases hb : Ty.beq RT (adj (parseD (a[i]).2.1).1) (parseD (a[i]).2.1).1 = true
    · rw [if_pos hb] at hN ⊢
      simp only [fscan_replaced_Moved_1_l1, c, decide_true, cond_true, idx_lt hi, Option.bind_some, h4, Parse_is, ha _ hr, hb, Bool.not_true, cond_false, write_eq (acc := accS adj a i) (t := (a[i]).2.1) (by omega), w]
    · rw [if_neg hb] at hN ⊢
      have hb' : Ty.beq RT (adj (parseD (a[i]).2.1).1) (parseD (a[i]).2.1).1 = false := by simpa using hb
      simp only [fscan_replaced_Moved_1_l1, c, decide_true, cond_true, idx_lt hi, Option.bind_some, h4, Parse_is, ha _ hr, hb', Bool.not_false, PrintD (hv _ hr), write_eq (acc := accS adj a i) (t := textD (adj (parseD (a[i]).2.1).1)) (by omega), w]
  · rw [if_neg h4] at hN ⊢
    simp only [fscan_replaced_Moved_1_l1, c, decide_true, cond_true, idx_lt hi, Option.bind_some, h4, decide_false, cond_false, write_eq (acc := accS adj a i) (t := (a[i]).2.1) (by omega), w]
theorem rmoved_step (hv : ∀ r, errD r = 0 → errD (adj r) = 0) (ha : ∀ r, errD r = 0 → chancerylaw2_ScanCopiedAndMoved_2 r o0 o1 m0 m1 m2 m3 o3 o4 = some (adj r, (), (), (), (), (), (o0, ()), (o1, ()), (m0, (m1, (m2, (m3, ())))), (o3, ()), (o4, ()), ()))
    {a : List Tok} {x : Int × Unit} (hl : a.length ≤ 400) (hg : ∀ t ∈ a, Good 400 t) {i : Nat} (hi : i < a.length) :
    chanceryref2_Rewritten_ScanCopiedAndMoved_2_l1 (a, x) (U5, accS adj a i, (i : Int), (o0, ()), (o1, ()), (m0, (m1, (m2, (m3, ())))), (o3, ()), (o4, ()), ()) = some (.inl (U5, accS adj a (i + 1), ((i + 1 : Nat) : Int), (o0, ()), (o1, ()), (m0, (m1, (m2, (m3, ())))), (o3, ()), (o4, ()), ())) := by
  have c : (i : Int) < (a.length : Int) := by omega
  have w := wsucc (show i < 9223372036854775807 by omega)
  have hG := hg a[i] (List.getElem_mem _)
  have hL := accS_len hv hg i (by omega)
  have hN := newT_len hv hG
  rw [accS_succ adj hi]
  unfold newT at hN ⊢
  by_cases h4 : (a[i]).1 = 4
  · have hr := isR_valid (hG.2.1 h4)
    rw [if_pos h4] at hN ⊢
    by_cases hb : Ty.beq RT (adj (parseD (a[i]).2.1).1) (parseD (a[i]).2.1).1 = true
    · rw [if_pos hb] at hN ⊢
      simp only [chanceryref2_Rewritten_ScanCopiedAndMoved_2_l1, c, decide_true, cond_true, idx_lt hi, Option.bind_some, h4, ReadRef_is, ha _ hr, hb, Bool.not_true, cond_false, cat_ok (xs := accS adj a i) (ys := (a[i]).2.1) (by omega), w]
    · rw [if_neg hb] at hN ⊢
      have hb' : Ty.beq RT (adj (parseD (a[i]).2.1).1) (parseD (a[i]).2.1).1 = false := by simpa using hb
      simp only [chanceryref2_Rewritten_ScanCopiedAndMoved_2_l1, c, decide_true, cond_true, idx_lt hi, Option.bind_some, h4, ReadRef_is, ha _ hr, hb', Bool.not_false, RefTextD (hv _ hr), cat_ok (xs := accS adj a i) (ys := textD (adj (parseD (a[i]).2.1).1)) (by omega), w]
  · rw [if_neg h4] at hN ⊢
    simp only [chanceryref2_Rewritten_ScanCopiedAndMoved_2_l1, c, decide_true, cond_true, idx_lt hi, Option.bind_some, h4, decide_false, cond_false, cat_ok (xs := accS adj a i) (ys := (a[i]).2.1) (by omega), w]

/-- Both rewrite a formula to the same. -/
theorem moved_both (hv : ∀ r, errD r = 0 → errD (adj r) = 0) (ha : ∀ r, errD r = 0 → fscan_Moved_1 r o0 o1 m0 m1 m2 m3 o3 o4 = some (adj r, (), (), (), (), (), (o0, ()), (o1, ()), (m0, (m1, (m2, (m3, ())))), (o3, ()), (o4, ()), ()))
    (hb : ∀ r, errD r = 0 → chancerylaw2_ScanCopiedAndMoved_2 r o0 o1 m0 m1 m2 m3 o3 o4 = some (adj r, (), (), (), (), (), (o0, ()), (o1, ()), (m0, (m1, (m2, (m3, ())))), (o3, ()), (o4, ()), ()))
    {s : Str} (hs : s.length ≤ 400) : ∃ t : Str, fscan_replaced_Moved_1 s o0 o1 m0 m1 m2 m3 o3 o4 = some (t, U5, (o0, ()), (o1, ()), (m0, (m1, (m2, (m3, ())))), (o3, ()), (o4, ()), ()) ∧ chanceryref2_Rewritten_ScanCopiedAndMoved_2 s o0 o1 m0 m1 m2 m3 o3 o4 = some (t, U5, (o0, ()), (o1, ()), (m0, (m1, (m2, (m3, ())))), (o3, ()), (o4, ()), ()) := by
  rcases Scan_bothG (s := s) (by omega) with ⟨a, ⟨q0, qg⟩, q1, q2⟩ | ⟨j, q1, q2⟩
  · have hg : ∀ t ∈ a, Good 400 t := fun t ht => ⟨by have := (qg t ht).1; omega, (qg t ht).2⟩
    refine ⟨accS adj a a.length, ?_, ?_⟩
    · have hl : Halts (fscan_replaced_Moved_1_l1 (a, 0, 0, ())) (0 + a.length) (U5, (), ((0 : Nat) : Int), (o0, ()), (o1, ()), (m0, (m1, (m2, (m3, ())))), (o3, ()), (o4, ()), U2, strBytes (accS adj a 0), ()) (U5, (), (o0, ()), (o1, ()), (m0, (m1, (m2, (m3, ())))), (o3, ()), (o4, ()), U2, strBytes (accS adj a a.length), ()) := by
        refine Halts.along (fun i => (U5, (), (i : Int), (o0, ()), (o1, ()), (m0, (m1, (m2, (m3, ())))), (o3, ()), (o4, ()), U2, strBytes (accS adj a i), ())) a.length (fun i hi => moved_step hv ha (by omega) hg hi) (.done ?_)
        simp only [fscan_replaced_Moved_1_l1, Int.lt_irrefl, decide_false, cond_false]
      have hr := hl.loop (by omega)
      have hL := accS_len hv hg a.length (by omega)
      have hk : decide ((strBytes (accS adj a a.length)).length ≤ lim) = true := decide_eq_true (by
        have : (strBytes (accS adj a a.length)).length = (accS adj a a.length).length := by simp [strBytes]
        unfold lim
        omega)
      have hw : _strings_Builder__WriteByte 61 [] = some (false, (), U2, [61], ()) := rfl
      unfold fscan_replaced_Moved_1
      rw [q1, Option.bind_some]
      dsimp only
      rw [decide_eq_true rfl, Bool.not_true, cond_false, hw, Option.bind_some]
      dsimp only
      erw [hr]
      rw [Option.bind_some]
      dsimp only
      rw [hk, chk_t, Option.bind_some]
      exact congrArg (fun z => some (z, _)) (bytesStr_strBytes _)
    · have hl : Halts (chanceryref2_Rewritten_ScanCopiedAndMoved_2_l1 (a, -1, ())) (0 + a.length) (U5, accS adj a 0, ((0 : Nat) : Int), (o0, ()), (o1, ()), (m0, (m1, (m2, (m3, ())))), (o3, ()), (o4, ()), ()) (U5, accS adj a a.length, (o0, ()), (o1, ()), (m0, (m1, (m2, (m3, ())))), (o3, ()), (o4, ()), ()) := by
        refine Halts.along (fun i => (U5, accS adj a i, (i : Int), (o0, ()), (o1, ()), (m0, (m1, (m2, (m3, ())))), (o3, ()), (o4, ()), ())) a.length (fun i hi => rmoved_step hv hb (by omega) hg hi) (.done ?_)
        simp only [chanceryref2_Rewritten_ScanCopiedAndMoved_2_l1, Int.lt_irrefl, decide_false, cond_false]
      have hr := hl.loop (by omega)
      have c : ¬(0 : Int) ≤ -1 := by omega
      unfold chanceryref2_Rewritten_ScanCopiedAndMoved_2
      rw [q2, Option.bind_some]
      dsimp only
      rw [decide_eq_false c, cond_false]
      erw [hr]
      rfl
  · refine ⟨s, ?_, ?_⟩
    · unfold fscan_replaced_Moved_1
      rw [q1]
      rfl
    · have c : (0 : Int) ≤ (j : Int) := by omega
      unfold chanceryref2_Rewritten_ScanCopiedAndMoved_2
      rw [q2, Option.bind_some]
      dsimp only
      rw [decide_eq_true c]
      rfl
end

end Go.Proofs.YtjhcnnhkabhigaaGreatDoor
