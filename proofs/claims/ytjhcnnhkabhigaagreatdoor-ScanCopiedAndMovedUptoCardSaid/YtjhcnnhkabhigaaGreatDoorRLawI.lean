import Derived.Test.YtjhcnnhkabhigaaGreatDoorRLawH
namespace Go.Proofs.YtjhcnnhkabhigaaGreatDoor
open Go Go.Fe

abbrev RT : Ty := (Ty.pair Ty.str (Ty.pair (Ty.int IntKind.i64) (Ty.pair (Ty.int IntKind.i64) (Ty.pair (Ty.int IntKind.i64) (Ty.pair (Ty.int IntKind.i64) (Ty.pair (Ty.int IntKind.i64) (Ty.pair Ty.bool (Ty.pair Ty.bool (Ty.pair Ty.bool (Ty.pair Ty.bool Ty.unit))))))))))
/-! ### The text of a reference -/
def textD (x : RefD) : Str := refText x.1 x.2.1 x.2.2.1.toNat x.2.2.2.1.toNat x.2.2.2.2.1.toNat x.2.2.2.2.2.1.toNat x.2.2.2.2.2.2.1 x.2.2.2.2.2.2.2.1 x.2.2.2.2.2.2.2.2.1 x.2.2.2.2.2.2.2.2.2.1
theorem PrintD {x : RefD} (h : errD x = 0) : cellref_Print x = some (textD x, 0, ()) :=
  (Print_eq x.1 x.2.1 x.2.2.1 x.2.2.2.1 x.2.2.2.2.1 x.2.2.2.2.2.1 x.2.2.2.2.2.2.1 x.2.2.2.2.2.2.2.1 x.2.2.2.2.2.2.2.2.1 x.2.2.2.2.2.2.2.2.2.1).trans (congrArg some (if_pos h))
theorem RefTextD {x : RefD} (h : errD x = 0) : chanceryref2_RefText x = some (textD x, ()) := RefText_eq (s := x.1) (k := x.2.1) (r := x.2.2.1) (c := x.2.2.2.1) (r2 := x.2.2.2.2.1) (c2 := x.2.2.2.2.2.1) h
theorem textD_len {x : RefD} (h : errD x = 0) : (textD x).length ≤ 1000 := by
  obtain ⟨h1, h2, h3, h4, h5, h6, h7, h8, h9⟩ := valid (s := x.1) (k := x.2.1) (r := x.2.2.1) (c := x.2.2.2.1) (r2 := x.2.2.2.2.1) (c2 := x.2.2.2.2.2.1) h
  have hs := name_small h3
  have ht := sheetText_len x.1
  have l1 := rowText_len (n := x.2.2.1.toNat) x.2.2.2.2.2.2.1 (by omega)
  have l2 := rowText_len (n := x.2.2.2.2.1.toNat) x.2.2.2.2.2.2.2.2.1 (by omega)
  have l3 := colText_len (n := x.2.2.2.1.toNat) x.2.2.2.2.2.2.2.1 (by omega)
  have l4 := colText_len (n := x.2.2.2.2.2.1.toNat) x.2.2.2.2.2.2.2.2.2.1 (by omega)
  unfold textD refText
  split
  · simp only [List.length_append]; omega
  · split
    · simp only [List.length_append, List.length_cons, List.length_nil]; omega
    · split
      · simp only [List.length_append, List.length_cons, List.length_nil]; omega
      · split
        · simp only [List.length_append, List.length_cons, List.length_nil]; omega
        · simp only [List.length_cons, List.length_nil]; omega

/-! ### Rewriting the references of a formula -/
noncomputable def newT (adj : RefD → RefD) (t : Tok) : Str :=
  if t.1 = 4 then (if Ty.beq RT (adj (parseD t.2.1).1) (parseD t.2.1).1 = true then t.2.1 else textD (adj (parseD t.2.1).1)) else t.2.1
theorem newT_len {adj : RefD → RefD} (hv : ∀ r, errD r = 0 → errD (adj r) = 0) {t : Tok} (h : Good 400 t) : (newT adj t).length ≤ 1000 := by
  unfold newT
  split
  · rename_i h4
    split
    · have := h.1; omega
    · exact textD_len (hv _ (isR_valid (h.2.1 h4)))
  · have := h.1; omega
noncomputable def accS (adj : RefD → RefD) (a : List Tok) (i : Nat) : Str := 61 :: ((a.take i).map (newT adj)).flatten
theorem accS_succ (adj : RefD → RefD) {a : List Tok} {i : Nat} (h : i < a.length) : accS adj a (i + 1) = accS adj a i ++ newT adj a[i] := by
  unfold accS
  rw [List.take_succ_eq_append_getElem h, List.map_append, List.flatten_append]
  simp only [List.map_cons, List.map_nil, List.flatten_cons, List.flatten_nil, List.append_nil, List.cons_append]
theorem accS_len {adj : RefD → RefD} (hv : ∀ r, errD r = 0 → errD (adj r) = 0) {a : List Tok} (hg : ∀ t ∈ a, Good 400 t) : ∀ i, i ≤ a.length → (accS adj a i).length ≤ 1 + 1000 * i
  | 0, _ => Nat.le_refl 1
  | i + 1, h => by
    have := accS_len hv hg i (by omega)
    have h2 := newT_len hv (hg a[i] (List.getElem_mem _))
    rw [accS_succ adj (by omega), List.length_append]
    omega
theorem strBytes_app (x y : Str) : strBytes (x ++ y) = strBytes x ++ strBytes y := by simp [strBytes]
theorem write_eq {acc t : Str} (h : acc.length + t.length ≤ 1000000) : _strings_Builder__WriteString t (strBytes acc) = some ((t.length : Int), false, (), ((), ((), ())), strBytes (acc ++ t), ()) := by
  unfold _strings_Builder__WriteString
  rw [cat_ok (by simp [strBytes]; omega), Option.bind_some, strBytes_app]

abbrev U4 : Unit × (Unit × (Unit × (Unit × Unit))) := ((), ((), ((), ((), ()))))
abbrev U2 : Unit × (Unit × Unit) := ((), ((), ()))
end Go.Proofs.YtjhcnnhkabhigaaGreatDoor
