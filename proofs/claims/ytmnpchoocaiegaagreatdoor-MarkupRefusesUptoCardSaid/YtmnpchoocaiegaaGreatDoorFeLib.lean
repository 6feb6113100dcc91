/- Functions of Go's library, off the shelf. -/
import Derived.Test.YtmnpchoocaiegaaGreatDoorFeBld
import Derived.Lib.Strings
import Derived.Lib.Bytealg
import Derived.Lib.IndexMore
import Derived.Lib.AtoiAll
import Derived.Lib.ItoaNum
import Derived.Lib.Replace
import Derived.Lib.Repeat
import Derived.Lib.Fold
import Derived.Lib.LaidTab
import Derived.Lib.ConvBytes
import Derived.Lib.Small
import Derived.Shelf.Unicode.DecodeSlow
import Derived.Below
import Derived.Sort.Grow
namespace Go.Fe
open Go Go.RowKit

theorem rv_str {F : Froz} {s : Str} {v : Value} : RepV F .str s v ↔ v = .string ⟨s.toArray⟩ := by simp [RepV, RepT, pack, Ty.agg]
theorem rv_int {F : Froz} {k : IntKind} {n : Int} {v : Value} : RepV F (.int k) n v ↔ v = .int k n := by simp [RepV, RepT, pack, Ty.agg]
theorem rv_bool {F : Froz} {b : Bool} {v : Value} : RepV F .bool b v ↔ v = .bool b := by simp [RepV, RepT, pack, Ty.agg]
theorem rv_err {F : Froz} {b : Bool} {v : Value} : RepV F .err b v ↔ ErrV b v := by
  rw [← rep_val (κ := fun _ => none) (s := []), rep_err]
theorem ra_nil {F : Froz} {x : Tys.den []} {vs : List Value} : RepA F [] x vs ↔ vs = [] := by simp [RepA]
theorem ra_cons {F : Froz} {t : Ty} {r : List Ty} {x : Tys.den (t :: r)} {vs : List Value} : RepA F (t :: r) x vs ↔ ∃ v q, vs = v :: q ∧ RepV F t x.1 v ∧ RepA F r x.2 q := by simp only [RepA]
theorem ra1 {F : Froz} {t : Ty} {x : t.den} {v : Value} (h : RepV F t x v) : RepA F [t] (x, ()) [v] := ra_cons.2 ⟨v, [], rfl, h, ra_nil.2 rfl⟩
theorem ra2 {F : Froz} {t u : Ty} {x : t.den} {y : u.den} {v w : Value} (h : RepV F t x v) (h' : RepV F u y w) : RepA F [t, u] (x, y, ()) [v, w] := ra_cons.2 ⟨v, [w], rfl, h, ra1 h'⟩

theorem sameOld_below {w w' : World} (h : Below w.heap.size w w') : SameOld w w' := ⟨h.size, h.block, h.os, h.output⟩

section
variable {P : Program} {glob : Glob} {i : Nat}

/-- A function of two texts. -/
theorem ok_ss {r : List Ty} (f : Str → Str → Option (Tys.den r)) (h : ∀ (s p : ByteArray) (y : Tys.den r) (F : Froz) (w : World), GlobF glob F → (∀ b o, F b = some o → w.heap[b]? = some o) → f s.data.toList p.data.toList = some y →
      Calls P i #[.string s, .string p] w fun e w' => (∃ us, e = .returned (resV us) ∧ RepA F r y us) ∧ SameOld w w') :
    FnOK P glob i (shelfSem [.str, .str] r fun x => f x.1 x.2.1) := fn_shelf (fun F w x y vs hF hG hf hr => by
  obtain ⟨v1, q1, rfl, h1, hr⟩ := ra_cons.1 hr
  obtain ⟨v2, q2, rfl, h2, hr⟩ := ra_cons.1 hr
  have := ra_nil.1 hr
  subst this
  have := rv_str.1 h1; subst this
  have := rv_str.1 h2; subst this
  exact h _ _ y F w hG hF hf)

/-- A function of a text. -/
theorem ok_s {r : List Ty} (f : Str → Option (Tys.den r)) (h : ∀ (s : ByteArray) (y : Tys.den r) (F : Froz) (w : World), GlobF glob F → (∀ b o, F b = some o → w.heap[b]? = some o) → f s.data.toList = some y →
      Calls P i #[.string s] w fun e w' => (∃ us, e = .returned (resV us) ∧ RepA F r y us) ∧ SameOld w w') :
    FnOK P glob i (shelfSem [.str] r fun x => f x.1) := fn_shelf (fun F w x y vs hF hG hf hr => by
  obtain ⟨v1, q1, rfl, h1, hr⟩ := ra_cons.1 hr
  have := ra_nil.1 hr
  subst this
  have := rv_str.1 h1; subst this
  exact h _ y F w hG hF hf)

def sHasPrefix (x : Tys.den [.str, .str]) : Option (Tys.den [.bool]) := some (Lib.hasPrefix x.1 x.2.1, ())
theorem okHasPrefix (h : ∀ (s p : ByteArray) (w : World), Calls P i #[.string s, .string p] w fun e w' => e = .returned (.bool (Lib.hasPrefix s.data.toList p.data.toList)) ∧ w' = w) : FnOK P glob i (shelfSem [.str, .str] [.bool] sHasPrefix) :=
  by
    refine ok_ss (r := [.bool]) (fun s p => some (Lib.hasPrefix s p, ())) ?_
    intro s p y F w _ _ hf
    cases hf
    exact (h s p w).mono fun e w' ⟨he, hw⟩ => ⟨⟨[_], he, ra1 (rv_bool.2 rfl)⟩, by rw [hw]; exact sameOld_refl w⟩

def sHasSuffix (x : Tys.den [.str, .str]) : Option (Tys.den [.bool]) := if x.1.length ≤ 9223372036854775807 then some (Lib.hasSuffix x.1 x.2.1, ()) else none
theorem okHasSuffix (h : ∀ (s p : ByteArray) (w : World), s.size ≤ 9223372036854775807 → Calls P i #[.string s, .string p] w fun e w' => e = .returned (.bool (Lib.hasSuffix s.data.toList p.data.toList)) ∧ w' = w) : FnOK P glob i (shelfSem [.str, .str] [.bool] sHasSuffix) :=
  by
    refine ok_ss (r := [.bool]) (fun s p => if s.length ≤ 9223372036854775807 then some (Lib.hasSuffix s p, ()) else none) ?_
    intro s p y F w _ _ hf
    split at hf
    · rename_i hl
      cases hf
      exact (h s p w (by rw [Lib.size_eq]; exact hl)).mono fun e w' ⟨he, hw⟩ => ⟨⟨[_], he, ra1 (rv_bool.2 rfl)⟩, by rw [hw]; exact sameOld_refl w⟩
    · cases hf

def sCutPrefix (x : Tys.den [.str, .str]) : Option (Tys.den [.str, .bool]) := some (Lib.trimPrefix x.1 x.2.1, Lib.hasPrefix x.1 x.2.1, ())
theorem okCutPrefix (h : ∀ (s p : ByteArray) (w : World), Calls P i #[.string s, .string p] w fun e w' => e = .returned (.tuple #[.string ⟨(Lib.trimPrefix s.data.toList p.data.toList).toArray⟩, .bool (Lib.hasPrefix s.data.toList p.data.toList)]) ∧ w' = w) :
    FnOK P glob i (shelfSem [.str, .str] [.str, .bool] sCutPrefix) :=
  by
    refine ok_ss (r := [.str, .bool]) (fun s p => some (Lib.trimPrefix s p, Lib.hasPrefix s p, ())) ?_
    intro s p y F w _ _ hf
    cases hf
    exact (h s p w).mono fun e w' ⟨he, hw⟩ => ⟨⟨[_, _], he, ra2 (rv_str.2 rfl) (rv_bool.2 rfl)⟩, by rw [hw]; exact sameOld_refl w⟩

def sTrimPrefix (x : Tys.den [.str, .str]) : Option (Tys.den [.str]) := some (Lib.trimPrefix x.1 x.2.1, ())
theorem okTrimPrefix (h : ∀ (s p : ByteArray) (w : World), Calls P i #[.string s, .string p] w fun e w' => e = .returned (.string ⟨(Lib.trimPrefix s.data.toList p.data.toList).toArray⟩) ∧ w' = w) : FnOK P glob i (shelfSem [.str, .str] [.str] sTrimPrefix) :=
  by
    refine ok_ss (r := [.str]) (fun s p => some (Lib.trimPrefix s p, ())) ?_
    intro s p y F w _ _ hf
    cases hf
    exact (h s p w).mono fun e w' ⟨he, hw⟩ => ⟨⟨[_], he, ra1 (rv_str.2 rfl)⟩, by rw [hw]; exact sameOld_refl w⟩

/-- Index at one byte. -/
def sIndex (x : Tys.den [.str, .str]) : Option (Tys.den [.int .i64]) := match x.2.1 with
  | [c] => some (Lib.indexByte x.1 c, ())
  | _ => none
theorem okIndex (h : ∀ (s : ByteArray) (c : UInt8) (w : World), Calls P i #[.string s, .string ⟨#[c]⟩] w fun e w' => e = .returned (.int .i64 (Lib.indexByte s.data.toList c)) ∧ w' = w) : FnOK P glob i (shelfSem [.str, .str] [.int .i64] sIndex) :=
  by
    refine ok_ss (r := [.int .i64]) (fun s p => match p with | [c] => some (Lib.indexByte s c, ()) | _ => none) ?_
    intro s p y F w _ _ hf
    split at hf
    · rename_i c hp
      cases hf
      obtain ⟨⟨l⟩⟩ := p
      simp only at hp
      subst hp
      exact (h s c w).mono fun e w' ⟨he, hw⟩ => ⟨⟨[_], he, ra1 (rv_int.2 rfl)⟩, by rw [hw]; exact sameOld_refl w⟩
    · cases hf

/-- Index of a byte. -/
def sIndexByte (x : Tys.den [.str, .int .u8]) : Option (Tys.den [.int .i64]) := some (Lib.indexByte x.1 (byteOfInt x.2.1), ())
theorem okIndexByte (h : ∀ (s : ByteArray) (c : Int) (w : World), Calls P i #[.string s, .int .u8 c] w fun e w' => e = .returned (.int .i64 (Lib.indexByte s.data.toList c.toNat.toUInt8)) ∧ w' = w) : FnOK P glob i (shelfSem [.str, .int .u8] [.int .i64] sIndexByte) :=
  fn_shelf (fun F w x y vs hF hG hf hr => by
    obtain ⟨v1, q1, rfl, h1, hr⟩ := ra_cons.1 hr
    obtain ⟨v2, q2, rfl, h2, hr⟩ := ra_cons.1 hr
    have := ra_nil.1 hr
    subst this
    have := rv_str.1 h1; subst this
    have := rv_int.1 h2; subst this
    cases hf
    exact (h ⟨x.1.toArray⟩ x.2.1 w).mono fun e w' ⟨he, hw⟩ => ⟨⟨[_], he, ra1 (rv_int.2 rfl)⟩, by rw [hw]; exact sameOld_refl w⟩)

def sAtoi (x : Tys.den [.str]) : Option (Tys.den [.int .i64, .err]) := if x.1.length ≤ 281474976710656 then match Lib.atoiAll x.1 with
  | .ok v => some (v, false, ())
  | .range => some (Lib.atoiSat x.1, true, ())
  | _ => some (0, true, ()) else none
theorem okAtoi {g1 g2 Te Tn T5 : Nat} (hg1 : glob g1 = some ⟨.err, some true⟩) (hg2 : glob g2 = some ⟨.err, some true⟩)
    (h0 : ∀ (s : ByteArray) (_ : s.size ≤ 9223372036854775806) (v : Int) (_ : Lib.atoiAll s.data.toList = .ok v) (w : World), Calls P i #[.string s] w fun e w' => e = .returned (.tuple #[.int .i64 v, .nilIface]) ∧ (w' = w ∨ ∃ t, w' = Lib.bytesWorld w T5 t))
    (h1 : ∀ (s : ByteArray) (_ : s.size ≤ 281474976710656) (_ : Lib.atoiAll s.data.toList = Lib.atoiAll []) (ev : Value) (w : World) (_ : w.cell? ⟨g1, 0, none⟩ = some ev) (_ : ev = .nilIface ∨ ∃ te pe, ev = .iface te pe),
      Calls P i #[.string s] w fun e w' => ∃ N, e = .returned (.tuple #[.int .i64 (0), .iface Te (.pointer (some ⟨N, 0, none⟩))]) ∧ w.heap.size ≤ N ∧ w'.heap[N]? = some (.cells #[.string ⟨#[65, 116, 111, 105]⟩, .string s, ev] Tn (0, 0)) ∧ Below w.heap.size w w')
    (h2 : ∀ (s : ByteArray) (_ : s.size ≤ 281474976710656) (_ : Lib.atoiAll s.data.toList = .range) (ev : Value) (w : World) (_ : w.cell? ⟨g2, 0, none⟩ = some ev) (_ : ev = .nilIface ∨ ∃ te pe, ev = .iface te pe),
      Calls P i #[.string s] w fun e w' => ∃ N, e = .returned (.tuple #[.int .i64 (Lib.atoiSat s.data.toList), .iface Te (.pointer (some ⟨N, 0, none⟩))]) ∧ w.heap.size ≤ N ∧ w'.heap[N]? = some (.cells #[.string ⟨#[65, 116, 111, 105]⟩, .string s, ev] Tn (0, 0)) ∧ Below w.heap.size w w') :
    FnOK P glob i (shelfSem [.str] [.int .i64, .err] sAtoi) :=
  ok_s (fun s => sAtoi (s, ())) (fun s y F w hG hF hf => by
    have cell : ∀ {g : Nat}, glob g = some ⟨.err, some true⟩ → ∃ te pe, w.cell? ⟨g, 0, none⟩ = some (.iface te pe) := fun {g} hg => by
      obtain ⟨c, T, fr, x, hFg, hrep, hx, _⟩ := hG g _ hg
      rw [hx true rfl] at hrep
      simp only [RepT] at hrep
      obtain ⟨v, hv, te, pe, rfl⟩ := hrep
      refine ⟨te, pe, ?_⟩
      rw [cell_at (hF _ _ hFg), ← Array.getElem?_toList]
      have := congrArg (fun l => l[0]?) hv
      simpa [Ty.size] using this
    unfold sAtoi at hf
    split at hf
    · rename_i hl
      have hs : s.size ≤ 281474976710656 := by rw [Lib.size_eq]; exact hl
      split at hf
      · rename_i v hv
        cases hf
        refine (h0 s (by omega) v hv w).mono fun e w' ⟨he, hw⟩ => ⟨⟨[_, _], he, ra2 (rv_int.2 rfl) (rv_err.2 rfl)⟩, ?_⟩
        rcases hw with rfl | ⟨t, rfl⟩
        · exact sameOld_refl _
        · unfold Lib.bytesWorld
          have := freeze_chg (m := (Lib.bytesCells w T5 t).size) (push_chg (w := w) (o := .cells (Lib.bytesCells w T5 t) T5) (d := w.drawn + 1))
          exact ⟨this.size, fun b hb => this.same b (by omega) hb, this.rest⟩
      · rename_i hv
        cases hf
        obtain ⟨te, pe, hc⟩ := cell hg2
        refine (h2 s hs hv _ w hc (.inr ⟨te, pe, rfl⟩)).mono fun e w' ⟨N, he, _, _, hb⟩ => ⟨⟨[_, _], he, ra2 (rv_int.2 rfl) (rv_err.2 ⟨_, _, rfl⟩)⟩, sameOld_below hb⟩
      · rename_i hv hv'
        cases hf
        have hv : Lib.atoiAll s.data.toList = Lib.atoiAll [] := by
          cases hx : Lib.atoiAll s.data.toList with
          | ok v => exact absurd hx (hv v)
          | range => exact absurd hx hv'
          | _ => rfl
        obtain ⟨te, pe, hc⟩ := cell hg1
        refine (h1 s hs hv _ w hc (.inr ⟨te, pe, rfl⟩)).mono fun e w' ⟨N, he, _, _, hb⟩ => ⟨⟨[_, _], he, ra2 (rv_int.2 rfl) (rv_err.2 ⟨_, _, rfl⟩)⟩, sameOld_below hb⟩
    · cases hf)

def sItoa (x : Tys.den [.int .i64]) : Option (Tys.den [.str]) := if -9223372036854775808 ≤ x.1 ∧ x.1 ≤ 9223372036854775807 then some (Lib.itoa x.1, ()) else none
theorem okItoa {g : Nat} (hg : glob g = some ⟨.arr 20 (.int .u64), some Lib.pow10Tab⟩) (hn : P.globalNamed "internal/strconv.uint64pow10" = some g)
    (h : ∀ (n : Int) (_ : -9223372036854775808 ≤ n) (_ : n ≤ 9223372036854775807) (w : World) (_ : Lib.TabIs P w "internal/strconv.uint64pow10" .u64 Lib.pow10Tab), Calls P i #[.int .i64 n] w fun e w' => e = .returned (.string ⟨(Lib.itoa n).toArray⟩) ∧ ∃ k os, w' = Sort.grow (w.drewN k) os) :
    FnOK P glob i (shelfSem [.int .i64] [.str] sItoa) := fn_shelf (fun F w x y vs hF hG hf hr => by
  obtain ⟨v1, q1, rfl, h1, hr⟩ := ra_cons.1 hr
  have := ra_nil.1 hr
  subst this
  have := rv_int.1 h1; subst this
  unfold sItoa at hf
  split at hf
  · rename_i hb
    cases hf
    refine (h x.1 hb.1 hb.2 w ?_).mono fun e w' ⟨he, k, os, hw⟩ => ⟨⟨[_], he, ra1 (rv_str.2 rfl)⟩, ?_⟩
    · obtain ⟨c, T, fr, z, hFg, hrep, hx, hsz⟩ := hG g _ hg
      rw [hx _ rfl] at hrep
      have hh := hF _ _ hFg
      unfold Lib.TabIs World.var?
      simp only [hn, Option.bind_some, hh, Option.some.injEq]
      simp only [RepT] at hrep
      obtain ⟨hl, hcl, hel⟩ := hrep
      simp only [Ty.size, Nat.mul_one] at hl hcl hel hsz
      apply Array.ext'
      apply List.ext_getElem?
      intro j
      by_cases hj : j < 20
      · have := hel j (by rw [Lib.pow10Tab_length]; exact hj)
        have h2 := congrArg (fun l => l[0]?) this
        simp only [List.drop_zero, List.getElem?_take, List.getElem?_drop, Nat.add_zero] at h2
        rw [if_pos (by omega), if_pos (by omega)] at h2
        rw [h2]
        simp [List.getElem?_eq_getElem (show j < Lib.pow10Tab.length by rw [Lib.pow10Tab_length]; exact hj)]
      · rw [List.getElem?_eq_none (by simp; omega), List.getElem?_eq_none (by simp [Lib.pow10Tab_length]; omega)]
    · subst hw
      refine ⟨by simp [Sort.grow], fun b hb => ?_, rfl, rfl⟩
      simp only [Sort.grow]
      rw [Array.getElem?_append_left (by simpa using hb)]
      rfl
  · cases hf)

/-- A function that no run of the laws' functions comes to. -/
def sNever (l r : List Ty) (_ : Tys.den l) : Option (Tys.den r) := none
theorem okNever {l r : List Ty} : FnOK P glob i (shelfSem l r (sNever l r)) := fn_shelf (fun _ _ _ _ _ _ _ hf _ => by cases hf)

/-- The first character of a text, and its length. -/
def runeOf (s : Str) : Nat × Nat := Lib.decodeGo ⟨s.toArray⟩
def runeFirst : List Int := (List.range 256).map fun i => (Lib.firstT i : Int)
def runeAccept : List (Int × (Int × Unit)) := (List.range 16).map fun i => ((Lib.accLo i : Int), (Lib.accHi i : Int), ())
def sRune (x : Tys.den [.str]) : Option (Tys.den [.int .i32, .int .i64]) := some ((runeOf x.1).1, (runeOf x.1).2, ())
theorem rune_tabs {g3 g4 : Nat} {F : Froz} {w : World} (hg3 : glob g3 = some ⟨.arr 256 (.int .u8), some runeFirst⟩) (hg4 : glob g4 = some ⟨.arr 16 (.pair (.int .u8) (.pair (.int .u8) .unit)), some runeAccept⟩) (hF : ∀ b o, F b = some o → w.heap[b]? = some o) (hG : GlobF glob F) : Lib.Utf8Tabs g3 g4 w := by
  refine ⟨fun c hc => ?_, fun j hj => ?_⟩
  · obtain ⟨b, T, fr, x, hFg, hrep, hx, _⟩ := hG g3 _ hg3
    rw [hx _ rfl] at hrep
    rw [cell_at (hF _ _ hFg)]
    simp only [RepT] at hrep
    obtain ⟨_, _, hel⟩ := hrep
    have h2 := hel c (by simpa [runeFirst] using hc)
    simp only [Ty.size, Nat.mul_one, List.drop_zero] at h2
    have h3 := congrArg (fun l => l[0]?) h2
    simp only [List.getElem?_take, List.getElem?_drop, Nat.add_zero] at h3
    rw [if_pos (by omega), if_pos (by omega)] at h3
    rw [Array.getElem?_toList] at h3
    rw [h3]
    simp [runeFirst]
  · obtain ⟨b, T, fr, x, hFg, hrep, hx, _⟩ := hG g4 _ hg4
    rw [hx _ rfl] at hrep
    rw [cell_at (hF _ _ hFg), cell_at (hF _ _ hFg)]
    simp only [RepT] at hrep
    obtain ⟨_, _, hel⟩ := hrep
    obtain ⟨c1, c2, h2, h3, d1, d2, h4, h5, h6⟩ := hel j (by simpa [runeAccept] using hj)
    subst h3 h6
    rw [h4, h5] at h2
    simp only [Ty.size, List.drop_zero] at h2
    have g0 := congrArg (fun l => l[0]?) h2
    have g1 := congrArg (fun l => l[1]?) h2
    simp only [List.getElem?_take, List.getElem?_drop, Nat.add_zero] at g0 g1
    rw [if_pos (by omega), if_pos (by omega)] at g0 g1
    rw [Array.getElem?_toList] at g0 g1
    rw [Nat.mul_comm 2 j]
    constructor
    · rw [show j * 2 = j * (1 + (1 + 0)) by omega, g0]
      simp [runeAccept]
    · rw [show j * 2 = j * (1 + (1 + 0)) by omega, g1]
      simp [runeAccept]
theorem okRune {g3 g4 : Nat} (hg3 : glob g3 = some ⟨.arr 256 (.int .u8), some runeFirst⟩) (hg4 : glob g4 = some ⟨.arr 16 (.pair (.int .u8) (.pair (.int .u8) .unit)), some runeAccept⟩)
    (h : ∀ (s : ByteArray) (w : World) (_ : Lib.Utf8Tabs g3 g4 w), Calls P i #[.string s] w fun e w' => e = .returned (.tuple #[.int .i32 (Lib.decodeGo s).1, .int .i64 (Lib.decodeGo s).2]) ∧ Below w.heap.size w w') :
    FnOK P glob i (shelfSem [.str] [.int .i32, .int .i64] sRune) :=
  ok_s (r := [.int .i32, .int .i64]) (fun s => some ((runeOf s).1, (runeOf s).2, ())) (fun s y F w hG hF hf => by
    cases hf
    exact (h s w (rune_tabs hg3 hg4 hF hG)).mono fun e w' ⟨he, hw⟩ => ⟨⟨[_, _], he, ra2 (rv_int.2 rfl) (rv_int.2 rfl)⟩, sameOld_below hw⟩)

/-- Count of one byte. -/
def sCount (x : Tys.den [.str, .str]) : Option (Tys.den [.int .i64]) := match x.2.1 with
  | [c] => some (Lib.countByte x.1 c, ())
  | _ => none
theorem okCount (h : ∀ (s : ByteArray) (c : UInt8) (w : World), Calls P i #[.string s, .string ⟨#[c]⟩] w fun e w' => e = .returned (.int .i64 (Lib.countByte s.data.toList c)) ∧ w' = w) : FnOK P glob i (shelfSem [.str, .str] [.int .i64] sCount) :=
  by
    refine ok_ss (r := [.int .i64]) (fun s p => match p with | [c] => some (Lib.countByte s c, ()) | _ => none) ?_
    intro s p y F w _ _ hf
    split at hf
    · rename_i c hp
      cases hf
      obtain ⟨⟨l⟩⟩ := p
      simp only at hp
      subst hp
      exact (h s c w).mono fun e w' ⟨he, hw⟩ => ⟨⟨[_], he, ra1 (rv_int.2 rfl)⟩, by rw [hw]; exact sameOld_refl w⟩
    · cases hf

def sTrimSuffix (x : Tys.den [.str, .str]) : Option (Tys.den [.str]) := if x.1.length ≤ 9223372036854775807 then some (Lib.trimSuffix x.1 x.2.1, ()) else none
theorem okTrimSuffix (h : ∀ (s p : ByteArray) (w : World), s.size ≤ 9223372036854775807 → Calls P i #[.string s, .string p] w fun e w' => e = .returned (.string ⟨(Lib.trimSuffix s.data.toList p.data.toList).toArray⟩) ∧ w' = w) :
    FnOK P glob i (shelfSem [.str, .str] [.str] sTrimSuffix) :=
  by
    refine ok_ss (r := [.str]) (fun s p => if s.length ≤ 9223372036854775807 then some (Lib.trimSuffix s p, ()) else none) ?_
    intro s p y F w _ _ hf
    split at hf
    · rename_i hl
      cases hf
      exact (h s p w (by rw [Lib.size_eq]; exact hl)).mono fun e w' ⟨he, hw⟩ => ⟨⟨[_], he, ra1 (rv_str.2 rfl)⟩, by rw [hw]; exact sameOld_refl w⟩
    · cases hf
end
end Go.Fe
