import Derived.Test.YtfbnnjmhlkafiaaGreatDoorLawI
namespace Go.Proofs.YtfbnnjmhlkafiaaGreatDoor
open Go Go.Fe

set_option quotPrecheck false
local notation "RT" => (Ty.pair Ty.str (Ty.pair (Ty.int IntKind.i64) (Ty.pair (Ty.int IntKind.i64) (Ty.pair (Ty.int IntKind.i64) (Ty.pair (Ty.int IntKind.i64) (Ty.pair (Ty.int IntKind.i64) (Ty.pair Ty.bool (Ty.pair Ty.bool (Ty.pair Ty.bool (Ty.pair Ty.bool Ty.unit))))))))))
section
variable {adj : RefD → RefD} {o0 o1 : Str}
theorem rename_step (hv : ∀ r, errD r = 0 → errD (adj r) = 0) (ha : ∀ r, errD r = 0 → fscan_Rename_1 r o0 o1 = some (adj r, (), (), (o0, ()), (o1, ()), ()))
    {a : List Tok} {x : Int × (Int × Unit)} (hl : a.length ≤ 400) (hg : ∀ t ∈ a, Good 400 t) {i : Nat} (hi : i < a.length) :
    fscan_replaced_Rename_1_l1 (a, x) (U2, (), (i : Int), (o0, ()), (o1, ()), U2, strBytes (accS adj a i), ()) = some (.inl (U2, (), ((i + 1 : Nat) : Int), (o0, ()), (o1, ()), U2, strBytes (accS adj a (i + 1)), ())) := by
  have c : (i : Int) < (a.length : Int) := by omega
  have w := wsucc (show i < 9223372036854775807 by omega)
  have hG := hg a[i] (List.getElem_mem _)
  have hL := accS_len hv hg i (by omega)
  have hN := newT_len hv hG
  rw [accS_succ adj hi]
  unfold newT at hN ⊢
  by_cases h4 : (a[i]).1 = 4
  · have hr := isR_valid (hG.2.1 h4)
    rw [if_pos h4] at hN ⊢
    by_cases hb : Ty.beq RT (adj (parseD (a[i]).2.1).1) (parseD (a[i]).2.1).1 = true
    · rw [if_pos hb] at hN ⊢
      simp only [fscan_replaced_Rename_1_l1, c, decide_true, cond_true, idx_lt hi, Option.bind_some, h4, Parse_is, ha _ hr, hb, Bool.not_true, cond_false, write_eq (acc := accS adj a i) (t := (a[i]).2.1) (by omega), w]
    · rw [if_neg hb] at hN ⊢
      have hb' : Ty.beq RT (adj (parseD (a[i]).2.1).1) (parseD (a[i]).2.1).1 = false := by simpa using hb
      simp only [fscan_replaced_Rename_1_l1, c, decide_true, cond_true, idx_lt hi, Option.bind_some, h4, Parse_is, ha _ hr, hb', Bool.not_false, PrintD (hv _ hr), write_eq (acc := accS adj a i) (t := textD (adj (parseD (a[i]).2.1).1)) (by omega), w]
  · rw [if_neg h4] at hN ⊢
    simp only [fscan_replaced_Rename_1_l1, c, decide_true, cond_true, idx_lt hi, Option.bind_some, h4, decide_false, cond_false, write_eq (acc := accS adj a i) (t := (a[i]).2.1) (by omega), w]
theorem rrename_step (hv : ∀ r, errD r = 0 → errD (adj r) = 0) (ha : ∀ r, errD r = 0 → chancerylaw2_ScanRenames_1 r o0 o1 = some (adj r, (), (), (o0, ()), (o1, ()), ()))
    {a : List Tok} {x : Int × Unit} (hl : a.length ≤ 400) (hg : ∀ t ∈ a, Good 400 t) {i : Nat} (hi : i < a.length) :
    chanceryref2_Rewritten_ScanRenames_1_l1 (a, x) (U2, accS adj a i, (i : Int), (o0, ()), (o1, ()), ()) = some (.inl (U2, accS adj a (i + 1), ((i + 1 : Nat) : Int), (o0, ()), (o1, ()), ())) := by
  have c : (i : Int) < (a.length : Int) := by omega
  have w := wsucc (show i < 9223372036854775807 by omega)
  have hG := hg a[i] (List.getElem_mem _)
  have hL := accS_len hv hg i (by omega)
  have hN := newT_len hv hG
  rw [accS_succ adj hi]
  unfold newT at hN ⊢
  by_cases h4 : (a[i]).1 = 4
  · have hr := isR_valid (hG.2.1 h4)
    rw [if_pos h4] at hN ⊢
    by_cases hb : Ty.beq RT (adj (parseD (a[i]).2.1).1) (parseD (a[i]).2.1).1 = true
    · rw [if_pos hb] at hN ⊢
      simp only [chanceryref2_Rewritten_ScanRenames_1_l1, c, decide_true, cond_true, idx_lt hi, Option.bind_some, h4, ReadRef_is, ha _ hr, hb, Bool.not_true, cond_false, cat_ok (xs := accS adj a i) (ys := (a[i]).2.1) (by omega), w]
    · rw [if_neg hb] at hN ⊢
      have hb' : Ty.beq RT (adj (parseD (a[i]).2.1).1) (parseD (a[i]).2.1).1 = false := by simpa using hb
      simp only [chanceryref2_Rewritten_ScanRenames_1_l1, c, decide_true, cond_true, idx_lt hi, Option.bind_some, h4, ReadRef_is, ha _ hr, hb', Bool.not_false, RefTextD (hv _ hr), cat_ok (xs := accS adj a i) (ys := textD (adj (parseD (a[i]).2.1).1)) (by omega), w]
  · rw [if_neg h4] at hN ⊢
    simp only [chanceryref2_Rewritten_ScanRenames_1_l1, c, decide_true, cond_true, idx_lt hi, Option.bind_some, h4, decide_false, cond_false, cat_ok (xs := accS adj a i) (ys := (a[i]).2.1) (by omega), w]

/-- Both rewrite a formula to the same. -/
theorem rename_both (hv : ∀ r, errD r = 0 → errD (adj r) = 0) (ha : ∀ r, errD r = 0 → fscan_Rename_1 r o0 o1 = some (adj r, (), (), (o0, ()), (o1, ()), ()))
    (hb : ∀ r, errD r = 0 → chancerylaw2_ScanRenames_1 r o0 o1 = some (adj r, (), (), (o0, ()), (o1, ()), ()))
    {s : Str} (hs : s.length ≤ 400) : ∃ t : Str, fscan_replaced_Rename_1 s o0 o1 = some (t, U2, (o0, ()), (o1, ()), ()) ∧ chanceryref2_Rewritten_ScanRenames_1 s o0 o1 = some (t, U2, (o0, ()), (o1, ()), ()) := by
  rcases Scan_bothG (s := s) (by omega) with ⟨a, ⟨q0, qg⟩, q1, q2⟩ | ⟨j, q1, q2⟩
  · have hg : ∀ t ∈ a, Good 400 t := fun t ht => ⟨by have := (qg t ht).1; omega, (qg t ht).2⟩
    refine ⟨accS adj a a.length, ?_, ?_⟩
    · have hl : Halts (fscan_replaced_Rename_1_l1 (a, 0, 0, ())) (0 + a.length) (U2, (), ((0 : Nat) : Int), (o0, ()), (o1, ()), U2, strBytes (accS adj a 0), ()) (U2, (), (o0, ()), (o1, ()), U2, strBytes (accS adj a a.length), ()) := by
        refine Halts.along (fun i => (U2, (), (i : Int), (o0, ()), (o1, ()), U2, strBytes (accS adj a i), ())) a.length (fun i hi => rename_step hv ha (by omega) hg hi) (.done ?_)
        simp only [fscan_replaced_Rename_1_l1, Int.lt_irrefl, decide_false, cond_false]
      have hr := hl.loop (by omega)
      have hL := accS_len hv hg a.length (by omega)
      have hk : decide ((strBytes (accS adj a a.length)).length ≤ lim) = true := decide_eq_true (by
        have : (strBytes (accS adj a a.length)).length = (accS adj a a.length).length := by simp [strBytes]
        unfold lim
        omega)
      have hw : _strings_Builder__WriteByte 61 [] = some (false, (), U2, [61], ()) := rfl
      unfold fscan_replaced_Rename_1
      rw [q1, Option.bind_some]
      dsimp only
      rw [decide_eq_true rfl, Bool.not_true, cond_false, hw, Option.bind_some]
      dsimp only
      erw [hr]
      rw [Option.bind_some]
      dsimp only
      rw [hk, chk_t, Option.bind_some]
      exact congrArg (fun z => some (z, _)) (bytesStr_strBytes _)
    · have hl : Halts (chanceryref2_Rewritten_ScanRenames_1_l1 (a, -1, ())) (0 + a.length) (U2, accS adj a 0, ((0 : Nat) : Int), (o0, ()), (o1, ()), ()) (U2, accS adj a a.length, (o0, ()), (o1, ()), ()) := by
        refine Halts.along (fun i => (U2, accS adj a i, (i : Int), (o0, ()), (o1, ()), ())) a.length (fun i hi => rrename_step hv hb (by omega) hg hi) (.done ?_)
        simp only [chanceryref2_Rewritten_ScanRenames_1_l1, Int.lt_irrefl, decide_false, cond_false]
      have hr := hl.loop (by omega)
      have c : ¬(0 : Int) ≤ -1 := by omega
      unfold chanceryref2_Rewritten_ScanRenames_1
      rw [q2, Option.bind_some]
      dsimp only
      rw [decide_eq_false c, cond_false]
      erw [hr]
      rfl
  · refine ⟨s, ?_, ?_⟩
    · unfold fscan_replaced_Rename_1
      rw [q1]
      rfl
    · have c : (0 : Int) ≤ (j : Int) := by omega
      unfold chanceryref2_Rewritten_ScanRenames_1
      rw [q2, Option.bind_some]
      dsimp only
      rw [decide_eq_true c]
      rfl
end

def adjN (o0 o1 : Str) (r : RefD) : RefD := if r.1 = o0 then (o1, r.2) else r
theorem adjN_valid {o0 o1 : Str} (h0 : o0 ≠ []) (h1 : nameErr o1 = 0) : ∀ r, errD r = 0 → errD (adjN o0 o1 r) = 0 := by
  intro r h
  unfold adjN
  split
  · rename_i g
    obtain ⟨h1', h2, h3, h4, h5, h6, h7, h8, h9⟩ := valid (s := r.1) (k := r.2.1) (r := r.2.2.1) (c := r.2.2.2.1) (r2 := r.2.2.2.2.1) (c2 := r.2.2.2.2.2.1) h
    have i1 : ins r.2.2.1 = true := decide_eq_true h5
    have i2 : ins r.2.2.2.1 = true := decide_eq_true h6
    have i3 : ins r.2.2.2.2.1 = true := decide_eq_true h7
    have i4 : ins r.2.2.2.2.2.1 = true := decide_eq_true h8
    have hk : r.2.1 ≠ 4 := by
      intro e
      simp [badForm, e] at h4
      exact h0 (g ▸ h4.1.1.1.1.1.1.1.1)
    refine refErr_zero (by dsimp only; omega) h1 ?_ i1 i2 i3 i4 (by dsimp only; exact h9)
    unfold badForm at h4 ⊢
    dsimp only
    rw [decide_eq_false hk, Bool.false_and, Bool.or_false] at h4 ⊢
    exact h4
  · exact h
theorem adjN_p {o0 o1 : Str} : ∀ r, errD r = 0 → fscan_Rename_1 r o0 o1 = some (adjN o0 o1 r, (), (), (o0, ()), (o1, ()), ()) := by
  intro r _
  unfold fscan_Rename_1 adjN
  by_cases g : r.1 = o0
  · simp only [decide_eq_true g, cond_true, Option.bind_some, if_pos g]
  · simp only [decide_eq_false g, cond_false, Option.bind_some, if_neg g]
theorem adjN_r {o0 o1 : Str} : ∀ r, errD r = 0 → chancerylaw2_ScanRenames_1 r o0 o1 = some (adjN o0 o1 r, (), (), (o0, ()), (o1, ()), ()) := by
  intro r _
  unfold chancerylaw2_ScanRenames_1 adjN
  by_cases g : r.1 = o0
  · simp only [decide_eq_true g, cond_true, Option.bind_some, if_pos g]
  · simp only [decide_eq_false g, cond_false, Option.bind_some, if_neg g]
end Go.Proofs.YtfbnnjmhlkafiaaGreatDoor
