import Derived.Test.YtfbnnjmhlkafiaaGreatDoorLawH
namespace Go.Proofs.YtfbnnjmhlkafiaaGreatDoor
open Go Go.Fe

abbrev RT : Ty := (Ty.pair Ty.str (Ty.pair (Ty.int IntKind.i64) (Ty.pair (Ty.int IntKind.i64) (Ty.pair (Ty.int IntKind.i64) (Ty.pair (Ty.int IntKind.i64) (Ty.pair (Ty.int IntKind.i64) (Ty.pair Ty.bool (Ty.pair Ty.bool (Ty.pair Ty.bool (Ty.pair Ty.bool Ty.unit))))))))))
/-! ### The text of a reference -/
def textD (x : RefD) : Str := refText x.1 x.2.1 x.2.2.1.toNat x.2.2.2.1.toNat x.2.2.2.2.1.toNat x.2.2.2.2.2.1.toNat x.2.2.2.2.2.2.1 x.2.2.2.2.2.2.2.1 x.2.2.2.2.2.2.2.2.1 x.2.2.2.2.2.2.2.2.2.1
theorem PrintD {x : RefD} (h : errD x = 0) : cellref_Print x = some (textD x, 0, ()) :=
  (Print_eq x.1 x.2.1 x.2.2.1 x.2.2.2.1 x.2.2.2.2.1 x.2.2.2.2.2.1 x.2.2.2.2.2.2.1 x.2.2.2.2.2.2.2.1 x.2.2.2.2.2.2.2.2.1 x.2.2.2.2.2.2.2.2.2.1).trans (congrArg some (if_pos h))
theorem RefTextD {x : RefD} (h : errD x = 0) : chanceryref2_RefText x = some (textD x, ()) := RefText_eq (s := x.1) (k := x.2.1) (r := x.2.2.1) (c := x.2.2.2.1) (r2 := x.2.2.2.2.1) (c2 := x.2.2.2.2.2.1) h
theorem textD_len {x : RefD} (h : errD x = 0) : (textD x).length ≤ 1000 := by
  obtain ⟨h1, h2, h3, h4, h5, h6, h7, h8, h9⟩ := valid (s := x.1) (k := x.2.1) (r := x.2.2.1) (c := x.2.2.2.1) (r2 := x.2.2.2.2.1) (c2 := x.2.2.2.2.2.1) h
  have hs := name_small h3
  have ht := sheetText_len x.1
  have l1 := rowText_len (n := x.2.2.1.toNat) x.2.2.2.2.2.2.1 (by omega)
  have l2 := rowText_len (n := x.2.2.2.2.1.toNat) x.2.2.2.2.2.2.2.2.1 (by omega)
  have l3 := colText_len (n := x.2.2.2.1.toNat) x.2.2.2.2.2.2.2.1 (by omega)
  have l4 := colText_len (n := x.2.2.2.2.2.1.toNat) x.2.2.2.2.2.2.2.2.2.1 (by omega)
  unfold textD refText
  split
  · simp only [List.length_append]; omega
  · split
    · simp only [List.length_append, List.length_cons, List.length_nil]; omega
    · split
      · simp only [List.length_append, List.length_cons, List.length_nil]; omega
      · split
        · simp only [List.length_append, List.length_cons, List.length_nil]; omega
        · simp only [List.length_cons, List.length_nil]; omega

/-! ### Rewriting the references of a formula -/
noncomputable def newT (adj : RefD → RefD) (t : Tok) : Str :=
  if t.1 = 4 then (if Ty.beq RT (adj (parseD t.2.1).1) (parseD t.2.1).1 = true then t.2.1 else textD (adj (parseD t.2.1).1)) else t.2.1
theorem newT_len {adj : RefD → RefD} (hv : ∀ r, errD r = 0 → errD (adj r) = 0) {t : Tok} (h : Good 400 t) : (newT adj t).length ≤ 1000 := by
  unfold newT
  split
  · rename_i h4
    split
    · have := h.1; omega
    · exact textD_len (hv _ (isR_valid (h.2.1 h4)))
  · have := h.1; omega
noncomputable def accS (adj : RefD → RefD) (a : List Tok) (i : Nat) : Str := 61 :: ((a.take i).map (newT adj)).flatten
theorem accS_succ (adj : RefD → RefD) {a : List Tok} {i : Nat} (h : i < a.length) : accS adj a (i + 1) = accS adj a i ++ newT adj a[i] := by
  unfold accS
  rw [List.take_succ_eq_append_getElem h, List.map_append, List.flatten_append]
  simp only [List.map_cons, List.map_nil, List.flatten_cons, List.flatten_nil, List.append_nil, List.cons_append]
theorem accS_len {adj : RefD → RefD} (hv : ∀ r, errD r = 0 → errD (adj r) = 0) {a : List Tok} (hg : ∀ t ∈ a, Good 400 t) : ∀ i, i ≤ a.length → (accS adj a i).length ≤ 1 + 1000 * i
  | 0, _ => Nat.le_refl 1
  | i + 1, h => by
    have := accS_len hv hg i (by omega)
    have h2 := newT_len hv (hg a[i] (List.getElem_mem _))
    rw [accS_succ adj (by omega), List.length_append]
    omega
theorem strBytes_app (x y : Str) : strBytes (x ++ y) = strBytes x ++ strBytes y := by simp [strBytes]
theorem write_eq {acc t : Str} (h : acc.length + t.length ≤ 1000000) : _strings_Builder__WriteString t (strBytes acc) = some ((t.length : Int), false, (), ((), ((), ())), strBytes (acc ++ t), ()) := by
  unfold _strings_Builder__WriteString
  rw [cat_ok (by simp [strBytes]; omega), Option.bind_some, strBytes_app]

abbrev U4 : Unit × (Unit × (Unit × (Unit × Unit))) := ((), ((), ((), ((), ()))))
abbrev U2 : Unit × (Unit × Unit) := ((), ((), ()))
section
variable {adj : RefD → RefD} {o0 : Str} {o1 : Bool} {o2 o3 : Steps}
theorem adjust_step (hv : ∀ r, errD r = 0 → errD (adj r) = 0) (ha : ∀ r, errD r = 0 → fscan_Adjust_1 r o0 o1 o2 o3 = some (adj r, (), (), (), (), (o0, ()), (o1, ()), (o2, ()), (o3, ()), ()))
    {a : List Tok} {x : Int × (Int × Unit)} (hl : a.length ≤ 400) (hg : ∀ t ∈ a, Good 400 t) {i : Nat} (hi : i < a.length) :
    fscan_replaced_Adjust_1_l1 (a, x) (U4, (), (i : Int), (o0, ()), (o1, ()), (o2, ()), (o3, ()), U2, strBytes (accS adj a i), ()) = some (.inl (U4, (), ((i + 1 : Nat) : Int), (o0, ()), (o1, ()), (o2, ()), (o3, ()), U2, strBytes (accS adj a (i + 1)), ())) := by
  have c : (i : Int) < (a.length : Int) := by omega
  have w := wsucc (show i < 9223372036854775807 by omega)
  have hG := hg a[i] (List.getElem_mem _)
  have hL := accS_len hv hg i (by omega)
  have hN := newT_len hv hG
  rw [accS_succ adj hi]
  unfold newT at hN ⊢
  by_cases h4 : (a[i]).1 = 4
  · have hr := isR_valid (hG.2.1 h4)
    rw [if_pos h4] at hN ⊢
    by_cases hb : Ty.beq RT (adj (parseD (a[i]).2.1).1) (parseD (a[i]).2.1).1 = true
    · rw [if_pos hb] at hN ⊢
      simp only [fscan_replaced_Adjust_1_l1, c, decide_true, cond_true, idx_lt hi, Option.bind_some, h4, Parse_is, ha _ hr, hb, Bool.not_true, cond_false, write_eq (acc := accS adj a i) (t := (a[i]).2.1) (by omega), w]
    · rw [if_neg hb] at hN ⊢
      have hb' : Ty.beq RT (adj (parseD (a[i]).2.1).1) (parseD (a[i]).2.1).1 = false := by simpa using hb
      simp only [fscan_replaced_Adjust_1_l1, c, decide_true, cond_true, idx_lt hi, Option.bind_some, h4, Parse_is, ha _ hr, hb', Bool.not_false, PrintD (hv _ hr), write_eq (acc := accS adj a i) (t := textD (adj (parseD (a[i]).2.1).1)) (by omega), w]
  · rw [if_neg h4] at hN ⊢
    simp only [fscan_replaced_Adjust_1_l1, c, decide_true, cond_true, idx_lt hi, Option.bind_some, h4, decide_false, cond_false, write_eq (acc := accS adj a i) (t := (a[i]).2.1) (by omega), w]
theorem radjust_step (hv : ∀ r, errD r = 0 → errD (adj r) = 0) (ha : ∀ r, errD r = 0 → chanceryref2_Adjusted_1 r o0 o1 o2 o3 = some (adj r, (), (), (), (), (o0, ()), (o1, ()), (o2, ()), (o3, ()), ()))
    {a : List Tok} {x : Int × Unit} (hl : a.length ≤ 400) (hg : ∀ t ∈ a, Good 400 t) {i : Nat} (hi : i < a.length) :
    chanceryref2_Rewritten_Adjusted_1_l1 (a, x) (U4, accS adj a i, (i : Int), (o0, ()), (o1, ()), (o2, ()), (o3, ()), ()) = some (.inl (U4, accS adj a (i + 1), ((i + 1 : Nat) : Int), (o0, ()), (o1, ()), (o2, ()), (o3, ()), ())) := by
  have c : (i : Int) < (a.length : Int) := by omega
  have w := wsucc (show i < 9223372036854775807 by omega)
  have hG := hg a[i] (List.getElem_mem _)
  have hL := accS_len hv hg i (by omega)
  have hN := newT_len hv hG
  rw [accS_succ adj hi]
  unfold newT at hN ⊢
  by_cases h4 : (a[i]).1 = 4
  · have hr := isR_valid (hG.2.1 h4)
    rw [if_pos h4] at hN ⊢
    by_cases hb : Ty.beq RT (adj (parseD (a[i]).2.1).1) (parseD (a[i]).2.1).1 = true
    · rw [if_pos hb] at hN ⊢
      simp only [chanceryref2_Rewritten_Adjusted_1_l1, c, decide_true, cond_true, idx_lt hi, Option.bind_some, h4, ReadRef_is, ha _ hr, hb, Bool.not_true, cond_false, cat_ok (xs := accS adj a i) (ys := (a[i]).2.1) (by omega), w]
    · rw [if_neg hb] at hN ⊢
      have hb' : Ty.beq RT (adj (parseD (a[i]).2.1).1) (parseD (a[i]).2.1).1 = false := by simpa using hb
      simp only [chanceryref2_Rewritten_Adjusted_1_l1, c, decide_true, cond_true, idx_lt hi, Option.bind_some, h4, ReadRef_is, ha _ hr, hb', Bool.not_false, RefTextD (hv _ hr), cat_ok (xs := accS adj a i) (ys := textD (adj (parseD (a[i]).2.1).1)) (by omega), w]
  · rw [if_neg h4] at hN ⊢
    simp only [chanceryref2_Rewritten_Adjusted_1_l1, c, decide_true, cond_true, idx_lt hi, Option.bind_some, h4, decide_false, cond_false, cat_ok (xs := accS adj a i) (ys := (a[i]).2.1) (by omega), w]

/-- Both rewrite a formula to the same. -/
theorem adjust_both (hv : ∀ r, errD r = 0 → errD (adj r) = 0) (ha : ∀ r, errD r = 0 → fscan_Adjust_1 r o0 o1 o2 o3 = some (adj r, (), (), (), (), (o0, ()), (o1, ()), (o2, ()), (o3, ()), ()))
    (hb : ∀ r, errD r = 0 → chanceryref2_Adjusted_1 r o0 o1 o2 o3 = some (adj r, (), (), (), (), (o0, ()), (o1, ()), (o2, ()), (o3, ()), ()))
    {s : Str} (hs : s.length ≤ 400) : ∃ t : Str, fscan_replaced_Adjust_1 s o0 o1 o2 o3 = some (t, U4, (o0, ()), (o1, ()), (o2, ()), (o3, ()), ()) ∧ chanceryref2_Rewritten_Adjusted_1 s o0 o1 o2 o3 = some (t, U4, (o0, ()), (o1, ()), (o2, ()), (o3, ()), ()) := by
  rcases Scan_bothG (s := s) (by omega) with ⟨a, ⟨q0, qg⟩, q1, q2⟩ | ⟨j, q1, q2⟩
  · have hg : ∀ t ∈ a, Good 400 t := fun t ht => ⟨by have := (qg t ht).1; omega, (qg t ht).2⟩
    refine ⟨accS adj a a.length, ?_, ?_⟩
    · have hl : Halts (fscan_replaced_Adjust_1_l1 (a, 0, 0, ())) (0 + a.length) (U4, (), ((0 : Nat) : Int), (o0, ()), (o1, ()), (o2, ()), (o3, ()), U2, strBytes (accS adj a 0), ()) (U4, (), (o0, ()), (o1, ()), (o2, ()), (o3, ()), U2, strBytes (accS adj a a.length), ()) := by
        refine Halts.along (fun i => (U4, (), (i : Int), (o0, ()), (o1, ()), (o2, ()), (o3, ()), U2, strBytes (accS adj a i), ())) a.length (fun i hi => adjust_step hv ha (by omega) hg hi) (.done ?_)
        simp only [fscan_replaced_Adjust_1_l1, Int.lt_irrefl, decide_false, cond_false]
      have hr := hl.loop (by omega)
      have hL := accS_len hv hg a.length (by omega)
      have hk : decide ((strBytes (accS adj a a.length)).length ≤ lim) = true := decide_eq_true (by
        have : (strBytes (accS adj a a.length)).length = (accS adj a a.length).length := by simp [strBytes]
        unfold lim
        omega)
      have hw : _strings_Builder__WriteByte 61 [] = some (false, (), U2, [61], ()) := rfl
      unfold fscan_replaced_Adjust_1
      rw [q1, Option.bind_some]
      dsimp only
      rw [decide_eq_true rfl, Bool.not_true, cond_false, hw, Option.bind_some]
      dsimp only
      erw [hr]
      rw [Option.bind_some]
      dsimp only
      rw [hk, chk_t, Option.bind_some]
      exact congrArg (fun z => some (z, _)) (bytesStr_strBytes _)
    · have hl : Halts (chanceryref2_Rewritten_Adjusted_1_l1 (a, -1, ())) (0 + a.length) (U4, accS adj a 0, ((0 : Nat) : Int), (o0, ()), (o1, ()), (o2, ()), (o3, ()), ()) (U4, accS adj a a.length, (o0, ()), (o1, ()), (o2, ()), (o3, ()), ()) := by
        refine Halts.along (fun i => (U4, accS adj a i, (i : Int), (o0, ()), (o1, ()), (o2, ()), (o3, ()), ())) a.length (fun i hi => radjust_step hv hb (by omega) hg hi) (.done ?_)
        simp only [chanceryref2_Rewritten_Adjusted_1_l1, Int.lt_irrefl, decide_false, cond_false]
      have hr := hl.loop (by omega)
      have c : ¬(0 : Int) ≤ -1 := by omega
      unfold chanceryref2_Rewritten_Adjusted_1
      rw [q2, Option.bind_some]
      dsimp only
      rw [decide_eq_false c, cond_false]
      erw [hr]
      rfl
  · refine ⟨s, ?_, ?_⟩
    · unfold fscan_replaced_Adjust_1
      rw [q1]
      rfl
    · have c : (0 : Int) ≤ (j : Int) := by omega
      unfold chanceryref2_Rewritten_Adjusted_1
      rw [q2, Option.bind_some]
      dsimp only
      rw [decide_eq_true c]
      rfl
end
end Go.Proofs.YtfbnnjmhlkafiaaGreatDoor
