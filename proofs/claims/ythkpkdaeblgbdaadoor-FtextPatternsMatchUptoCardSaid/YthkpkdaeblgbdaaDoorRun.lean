/- The contract of the program's matching of pieces (a set of numbers kept in a map, ranged over in any order), by hand. -/
import Derived.Test.YthkpkdaeblgbdaaDoorSet
import Derived.Test.YthkpkdaeblgbdaaDoorRunL
import Derived.Maps.AppendAt
import Derived.Lib.DecodeN
import Derived.Test.YthkpkdaeblgbdaaDoorProg
namespace Go.Proofs
open Go Go.RowKit Go.Fe Go.Maps
open Classical
set_option maxRecDepth 100000

/-- The pieces lie in memory. -/
def Tryd.PAt (l : List Piece) (a : Option Addr) (b off : Nat) (w : World) : Prop :=
  l.length ≤ 68719476736 ∧ (a = some ⟨b, off, none⟩ ∨ l = []) ∧ b < w.heap.size ∧ ∀ k, k < l.length → w.cell? ⟨b, off + k * 3, none⟩ = some (.int .i32 (pChr l k)) ∧ w.cell? ⟨b, off + k * 3 + 1, none⟩ = some (.bool (pOne l k)) ∧ w.cell? ⟨b, off + k * 3 + 2, none⟩ = some (.bool (pMany l k))
theorem Tryd.PAt.kept {l : List Piece} {a : Option Addr} {b off : Nat} {w w' : World} (h : Tryd.PAt l a b off w) (hg : Below w.heap.size w w') : Tryd.PAt l a b off w' :=
  ⟨h.1, h.2.1, Nat.lt_of_lt_of_le h.2.2.1 hg.size, fun k hk => ⟨(hg.cell (p := ⟨b, off + k * 3, none⟩) h.2.2.1).trans (h.2.2.2 k hk).1, (hg.cell (p := ⟨b, off + k * 3 + 1, none⟩) h.2.2.1).trans (h.2.2.2 k hk).2.1, (hg.cell (p := ⟨b, off + k * 3 + 2, none⟩) h.2.2.1).trans (h.2.2.2 k hk).2.2⟩⟩
theorem Tryd.PAt.addr {l : List Piece} {a : Option Addr} {cap b off : Nat} {w : World} (h : Tryd.PAt l a b off w) {k : Nat} (hk : k < l.length) (w' : World) :
    (Instr.indexAt 24 (.slice a l.length cap) (.int .i64 (k : Int))).run Tryd.prog w' = .ok (.pointer (some ⟨b, off + k * 3, none⟩)) w' := by
  rcases h.2.1 with rfl | rfl
  · have := indexAt_slice (P := Tryd.prog) (w := w') (T := 24) (E := 35) (e := .pair (.int .i32) (.pair .bool (.pair .bool .unit))) Tryd.underlying24 (by kernel_rfl) (b := b) (off := off) (m := l.length) (cap := cap) (k := .i64) (i := (k : Int)) (by omega) (by omega)
    simpa [Ty.size] using this
  · simp at hk
theorem Tryd.zero4 (w : World) : (zeroValue 4).run Tryd.prog w = .ok (.bool false) w := by kernel_rfl

theorem Tryd.closure_any (l : List Piece) (a : Option Addr) (cap b off B n : Nat) (S : Nat → Prop) (w : World) (hP : Tryd.PAt l a b off w) (hb : b ≠ B) (hn : n + l.length < 9000000000000000000) (hS : IsSet Tryd.prog 3 4 w B n l.length S) :
    Calls Tryd.prog 12 #[.slice a l.length cap, .map (some B)] w fun e w' => e = .returned (.map (some B)) ∧ IsSet Tryd.prog 3 4 w' B (n + l.length) l.length (closK l S l.length) ∧ w.grownBy w' (some B) := by
  have hl := hP.1
  go_enter Tryd.func12, Tryd.ntmps12
  go_wp2
  go_loopw [8] (fun i wr => ∃ k : Nat, k ≤ l.length ∧ i = .int .i64 k ∧ IsSet Tryd.prog 3 4 wr B (n + k) l.length (closK l S k) ∧ w.grownBy wr (some B))
    (fun i _ => l.length - (intOf i).toNat)
  case atStart => exact ⟨0, Nat.zero_le _, rfl, hS.congr (fun k _ => (closK_zero l S k).symm), World.grownBy.refl _ _⟩
  case round =>
    obtain ⟨k, hk, rfl, hset, hg⟩ := hrel
    by_cases hlt : k < l.length
    · have hixk := fun w' => hP.addr (cap := cap) hlt w'
      have hcell : wr.cell? ⟨b, off + k * 3 + 2, none⟩ = some (.bool (pMany l k)) := by
        have e := (hP.2.2.2 k hlt).2.2
        have e2 : wr.heap[b]? = w.heap[b]? := hg.block b hP.2.2.1 (fun e => hb (Option.some.inj e))
        unfold World.cell? at e ⊢
        rw [← e2] at e
        exact e
      have hlk := hset.look Tryd.underlying3 Tryd.underlying4 Tryd.underlying30 (by omega) (Tryd.zero4 _) hk
      obtain ⟨w2, hput, hset2, hg2⟩ := hset.put Tryd.underlying3 Tryd.underlying4 Tryd.underlying30 (by omega) (by unfold maxLen; omega) (k := k + 1) hlt
      rw [show ((k + 1 : Nat) : Int) = (k : Int) + 1 from rfl] at hput
      go_wp2
      · have h1 : closK l S k k := by assumption
        have h2 : pMany l k = true := by assumption
        go_roundw
        case rel => exact ⟨k + 1, hlt, rfl, hset2.congr (fun j _ => (closK_yes h1 h2 j).symm), hg.trans hg2⟩
        case measure => simp [intOf]; omega
      · have h2 : pMany l k = false := by assumption
        go_roundw
        case rel => exact ⟨k + 1, hlt, rfl, (hset.mono (Nat.le_succ _)).congr (fun j _ => (closK_no (.inr h2) j).symm), hg⟩
        case measure => simp [intOf]; omega
      · have h1 : ¬ closK l S k k := by assumption
        go_roundw
        case rel => exact ⟨k + 1, hlt, rfl, (hset.mono (Nat.le_succ _)).congr (fun j _ => (closK_no (.inl h1) j).symm), hg⟩
        case measure => simp [intOf]; omega
    · obtain rfl : k = l.length := by omega
      go_wp2
      go_ret
      exact ⟨rfl, hset, hg⟩

/-! ### Calls by contract -/
theorem Tryd.calls_of_ok {P : Program} {glob : Glob} {i : Nat} {sem : C → List C → Option CRes} (h : FnOK P glob i sem) {args res : C} {α : Type} {m : Option α} {r : α → Out} {x : α} (hs : sem args [] = some (.mk 0 m r)) (hm : m = some x) (hr : r x = ⟨res, [], []⟩)
    {F : Froz} {w : World} {vals : List Value} (hF : ∀ b o, F b = some o → w.heap[b]? = some o) (hG : GlobF glob F) (hrep : RepL F (fun _ => none) [] args vals) (hrefs : args.refs = []) :
    Calls P i vals.toArray w fun e w' => (∃ v F' κ, e = .returned v ∧ RepC F' κ [] res v) ∧ SameOld w w' := by
  have hI : Inv 0 ⟨w, mayOf [] (fun _ => none), F⟩ F (fun _ => none) (ost 0 []) act0 w := by
    constructor
    · rfl
    · rfl
    · exact hF
    · intro k c hk; simp [ost, St.get] at hk
    · intro o c hk; simp [ost, St.get] at hk
    · intro o c b p q hk; simp [ost, St.get] at hk
    · intro o c b p q o' c' p' q' hk; simp [ost, St.get] at hk
    · intro k c hk; simp [ost, St.get] at hk
    · exact ⟨Nat.le_refl _, fun _ _ _ => rfl, rfl, rfl⟩
    · intro b o hb; exact .inl hb
  refine (h args [] α 0 m r x hs hm F (fun _ => none) w vals hG hI hrep (by simp [hrefs])).mono fun e w' ⟨v, F', κ', he, _, hI', hrc, _⟩ => ⟨⟨v, F', κ', he, ?_⟩, ⟨hI'.kept.size, fun b hb => hI'.kept.same b hb (fun hm => ?_), hI'.kept.rest⟩⟩
  · rw [hr] at hrc
    exact hrc
  · obtain ⟨i, c, p, q, hc, _⟩ := hm
    simp at hc

theorem _root_.Go.Fe.SameOld.grown {w w1 w2 : World} {row : Option Nat} (h : SameOld w w1) (hg : w1.grownBy w2 row) (hr : ∀ r, row = some r → w.heap.size ≤ r) : SameOld w w2 :=
  ⟨Nat.le_trans h.size hg.size, fun b hb => (hg.block b (Nat.lt_of_lt_of_le hb h.size) (fun e => by have := hr b e.symm; omega)).trans (h.same b hb), ⟨hg.os.trans h.rest.1, hg.output.trans h.rest.2⟩⟩
theorem _root_.Go.Fe.SameOld.trans {w w1 w2 : World} (h : SameOld w w1) (h' : SameOld w1 w2) : SameOld w w2 :=
  ⟨Nat.le_trans h.size h'.size, fun b hb => (h'.same b (Nat.lt_of_lt_of_le hb h.size)).trans (h.same b hb), ⟨h'.rest.1.trans h.rest.1, h'.rest.2.trans h.rest.2⟩⟩
theorem Tryd.setOld {w w' : World} {b n L : Nat} {S : Nat → Prop} (h : IsSet Tryd.prog 3 4 w b n L S) (hg : SameOld w w') : IsSet Tryd.prog 3 4 w' b n L S := by
  obtain ⟨D, ⟨es, clock, hb, r⟩, hD⟩ := h
  exact ⟨D, ⟨es, clock, (hg.same b (Array.getElem?_eq_some_iff.1 hb).1).trans hb, r⟩, hD⟩
theorem Tryd.PAt.old {l : List Piece} {a : Option Addr} {b off : Nat} {w w' : World} (h : Tryd.PAt l a b off w) (hg : SameOld w w') : Tryd.PAt l a b off w' := by
  have e : ∀ i, w'.cell? ⟨b, i, none⟩ = w.cell? ⟨b, i, none⟩ := fun i => by unfold World.cell?; rw [hg.same b h.2.2.1]
  exact ⟨h.1, h.2.1, Nat.lt_of_lt_of_le h.2.2.1 hg.size, fun k hk => ⟨(e _).trans (h.2.2.2 k hk).1, (e _).trans (h.2.2.2 k hk).2.1, (e _).trans (h.2.2.2 k hk).2.2⟩⟩

theorem runeOf_at {s : Str} (h : s ≠ []) : runeOf s = Lib.decodeN s.length (s.getD 0 0).toNat (s.getD 1 0).toNat (s.getD 2 0).toNat (s.getD 3 0).toNat := by
  have hz : (⟨s.toArray⟩ : ByteArray).size ≠ 0 := fun e => h (List.eq_nil_of_length_eq_zero e)
  have g : ∀ i, (ByteArray.get! ⟨s.toArray⟩ i).toNat = (s.getD i 0).toNat := fun i => by
    unfold ByteArray.get!
    simp only [List.getElem!_toArray]
    rw [List.getD_eq_getElem?_getD]
    simp
    cases s[i]? <;> rfl
  unfold runeOf Lib.decodeGo
  rw [if_neg hz, Lib.decode_at]
  simp only [g, Nat.zero_add, Nat.sub_zero]
  rfl
theorem rune_n' {s : Str} (h : s ≠ []) : 1 ≤ (runeOf s).2 ∧ (runeOf s).2 ≤ s.length ∧ (runeOf s).1 ≤ 1114111 := by
  rw [runeOf_at h]
  have hl : 0 < s.length := List.length_pos_iff.2 h
  unfold Lib.decodeN
  repeat' split
  all_goals (simp only; omega)
theorem chr_bad {s : Str} (h1 : (((runeOf s).1 : Nat) : Int) = 65533) (h2 : ((((runeOf s).2 : Nat) : Int) == 1) = true) : runeOf s = (65533, 1) := by
  have h3 : (((runeOf s).2 : Nat) : Int) = 1 := by simpa using h2
  exact Prod.ext (by simp only; omega) (by simp only; omega)
theorem chr_good {s : Str} (h2 : ((((runeOf s).2 : Nat) : Int) == 1) = false) : ¬ runeOf s = (65533, 1) := by
  intro h
  rw [h] at h2
  simp at h2
theorem chr_good' {s : Str} (h2 : ¬ (((runeOf s).1 : Nat) : Int) = 65533) : ¬ runeOf s = (65533, 1) := by
  intro h
  rw [h] at h2
  simp at h2
theorem Tryd.str_ne (c : UInt8) (u : Str) : (⟨(c :: u).toArray⟩ : ByteArray).toList.isEmpty = false := by
  rw [ByteArray.toList_eq]
  rfl
theorem Tryd.underlyings9 : Tryd.prog.underlying 9 = some .string := Tryd.underlying9
theorem Tryd.slice_str (u : Str) (n : Nat) (hn : n ≤ u.length) (w : World) : (Instr.sliceAt 9 (.string ⟨u.toArray⟩) (some (.int .i64 (n : Int))) none none).run Tryd.prog w = .ok (.string ⟨(u.drop n).toArray⟩) w := by
  have hs : (⟨u.toArray⟩ : ByteArray).size = u.length := by simp [ByteArray.size]
  have h2 : (n : Int) ≤ (u.length : Int) := by omega
  simp only [Instr.sliceAt, Instr.slice, Instr.sliceBounds, Instr.sliceBound, asIntOf, Sem.run_bind, underlying_run Tryd.underlying9, Result.andThen_ok, Sem.run_pure, hs, Int.natCast_nonneg, h2, and_self, if_true, Option.isSome_none, Bool.false_eq_true, if_false, extract_mk, Int.toNat_natCast, List.take_length]
theorem Tryd.index_str (c : UInt8) (u : Str) (w : World) : (Instr.index 9 (.string ⟨(c :: u).toArray⟩) (.int .i64 0)).run Tryd.prog w = .ok (.int .u8 (ofByte c)) w := by
  have hb : (⟨(c :: u).toArray⟩ : ByteArray)[0]? = some c := by
    rw [getElem?_pos _ _ (by show 0 < (⟨(c :: u).toArray⟩ : ByteArray).size; simp [ByteArray.size])]
    rfl
  simp only [Instr.index, asIntOf, Sem.run_bind, Sem.run_pure, Result.andThen_ok, underlying_run Tryd.underlying9, Int.le_refl, if_true, Int.toNat_zero, hb]
  rfl

def Tryd.strLen : Value → Nat
  | .string x => x.size
  | _ => 0
set_option maxHeartbeats 4000000 in
theorem Tryd.run_any (l : List Piece) (a : Option Addr) (cap b off : Nat) (s t : Str) (whole : Bool) (w : World) (hP : Tryd.PAt l a b off w) (hl : l.length ≤ 100000) (ht : t.length ≤ 1000000000)
    (hLow : ∀ w', SameOld w w' → Calls Tryd.prog 11 #[.string ⟨s.toArray⟩] w' fun e w2 => e = .returned (.string ⟨t.toArray⟩) ∧ SameOld w' w2)
    (hRune : ∀ (u : Str) w', SameOld w w' → Calls Tryd.prog 13 #[.string ⟨u.toArray⟩] w' fun e w2 => e = .returned (.tuple #[.int .i32 ((runeOf u).1 : Nat), .int .i64 ((runeOf u).2 : Nat)]) ∧ SameOld w' w2) :
    Calls Tryd.prog 6 #[.slice a l.length cap, .string ⟨s.toArray⟩, .bool whole] w fun e w' => e = .returned (.bool (runL l whole (t.length + 1) t (closK l (fun k => k = 0) l.length))) ∧ SameOld w w' := by
  have hmm := @run_makeMap Tryd.prog
  go_enter Tryd.func6, Tryd.ntmps6
  go_wp2_with (first | (go_at_call 11; refine (hLow _ ⟨Nat.le_refl _, fun _ _ => rfl, rfl, rfl⟩).mono ?_; rintro e w1 ⟨rfl, hw1⟩) | fail)
  obtain ⟨w2, hput, hset2, hg2⟩ := (IsSet.made (P := Tryd.prog) (K := 3) (E := 4) Tryd.underlying3 Tryd.underlying30 (w := w1) l.length).put Tryd.underlying3 Tryd.underlying4 Tryd.underlying30 (by omega) (by unfold maxLen; omega) (k := 0) (Nat.zero_le _)
  rw [show ((0 : Nat) : Int) = 0 from rfl] at hput
  have hg1 : w1.grownBy (w1.alloc (.map #[] 0)) none := World.grownBy_alloc _ _ _
  have o2 : SameOld w w2 := (hw1.grown hg1 (fun _ e => by cases e)).grown hg2 (fun r e => by cases e; exact hw1.size)
  have hBb : b ≠ w1.heap.size := by have := hP.2.2.1; have := hw1.size; omega
  rw [hput]
  simp only [Result.andThen]
  go_wp2_with (first | (go_at_call 12; refine (Tryd.closure_any l a cap b off w1.heap.size 1 _ _ (hP.old o2) hBb (by omega) hset2).mono ?_; rintro e w3 ⟨rfl, hset3, hg3⟩) | fail)
  have o3 : SameOld w w3 := o2.grown hg3 (fun r e => by cases e; exact hw1.size)
  have hset3 := hset3.congr (S' := closK l (fun k => k = 0) l.length) (fun k _ => by simp)
  have hB3 : w.heap.size ≤ w1.heap.size := hw1.size
  generalize w1.heap.size = B at *
  go_loopw [1, 7] (fun v1 v7 wr => ∃ (u : Str) (B n : Nat) (S : Nat → Prop), v1 = .string ⟨u.toArray⟩ ∧ v7 = .map (some B) ∧ w.heap.size ≤ B ∧ IsSet Tryd.prog 3 4 wr B n l.length S ∧ SameOld w wr ∧ u.length ≤ t.length ∧ n + u.length * l.length ≤ 1 + l.length + t.length * l.length ∧
      runL l whole (t.length + 1) t (closK l (fun k => k = 0) l.length) = runL l whole (u.length + 1) u S)
    (fun v1 _ _ => Tryd.strLen v1)
  case atStart => exact ⟨t, B, _, _, rfl, rfl, hB3, hset3, o3, Nat.le_refl _, by omega, rfl⟩
  case round =>
    obtain ⟨u, B, n, S, rfl, rfl, hB, hset, ho, hul, hnb, hgoal⟩ := hrel
    have hPr := hP.old ho
    have hnl : u.length * l.length ≤ 1000000000 * 100000 := Nat.mul_le_mul (by omega) hl
    have htl : t.length * l.length ≤ 1000000000 * 100000 := Nat.mul_le_mul ht hl
    have hlk := hset.look Tryd.underlying3 Tryd.underlying4 Tryd.underlying30 (by omega) (Tryd.zero4 _) (Nat.le_refl _)
    obtain ⟨m, hlen, hmn, hm0⟩ := hset.len Tryd.underlying3 Tryd.underlying30 3
    cases u with
    | nil =>
      go_wp2
      · have h1 : S l.length := by assumption
        go_ret
        exact ⟨by rw [hgoal]; simp [runL, h1], ho⟩
      · have h1 : S l.length := by assumption
        go_ret
        exact ⟨by rw [hgoal]; simp [runL, h1], ho⟩
      · have h1 : ¬ S l.length := by assumption
        go_ret
        exact ⟨by rw [hgoal]; simp [runL, h1], ho⟩
    | cons c0 u' =>
      obtain ⟨hn1, hn2, _⟩ := rune_n' (s := c0 :: u') (by simp)
      have hix := Tryd.index_str c0 u'
      have hsl := Tryd.slice_str (c0 :: u') _ hn2
      have hne : (⟨(c0 :: u').toArray⟩ : ByteArray).toList.isEmpty = false := Tryd.str_ne c0 u'
      have hsz : (⟨(c0 :: u').toArray⟩ : ByteArray).size = (c0 :: u').length := by simp [ByteArray.size]
      have hrn := hRune (c0 :: u') wr ho
      have hchr : chrOf (c0 :: u') = if runeOf (c0 :: u') = (65533, 1) then wrap32 (-wrap32 (ofByte c0)) else ((runeOf (c0 :: u')).1 : Nat) := rfl
      generalize hsb : (⟨(c0 :: u').toArray⟩ : ByteArray) = sb at *
      obtain ⟨c, hc⟩ : ∃ c, chrOf (c0 :: u') = c := ⟨_, rfl⟩
      rw [hc] at hchr
      go_wp2_with (first | (go_at_call 13; refine hrn.mono ?_; rintro e w1 ⟨rfl, hw1⟩) | (at_range; refine wpList_range_set Tryd.underlying3 Tryd.underlying4 Tryd.underlying30 _ rfl _ rfl rfl ((Tryd.setOld hset hw1).kept (World.grownBy_alloc _ _ none) (by simp)) ?_; intro w0 hin0 hg0 hs0) | fail)
      all_goals first
        | (go_ret
           have h0 : (((m : Nat) : Int) == 0) = true := by assumption
           have h0 : m = 0 := by simpa using h0
           exact ⟨by rw [hgoal, runL_empty (hm0 h0)]; rfl, ho⟩)
        | (go_ret
           have h1 : S l.length := by assumption
           have h2 : ¬ whole = true := by assumption
           exact ⟨by rw [hgoal]; simp [runL, h1, h2], ho⟩)
        | skip
      all_goals
        have hnr : ¬ (S l.length ∧ whole = false) := by
          rintro ⟨h1, h2⟩
          first
            | exact absurd h1 (by assumption)
            | (have h3 : whole = true := by assumption
               rw [h2] at h3
               cases h3)
        have hstep : runL l whole ((c0 :: u').length + 1) (c0 :: u') S = runL l whole (c0 :: u').length ((c0 :: u').drop (runeOf (c0 :: u')).2) (closK l (nextS l c S) l.length) := by rw [← hc]; exact runL_step hnr
      all_goals try (have h3 : whole = true := by assumption
                     subst h3)
      all_goals first
        | rw [show (wrap32 (-wrap32 (ofByte c0)) : Int) = c from by rw [hchr, if_pos (chr_bad (by assumption) (by assumption))]]
        | rw [show (65533 : Int) = c from by rw [hchr, if_neg (chr_good (by assumption))]; exact Eq.symm (by assumption)]
        | rw [show (((runeOf (c0 :: u')).1 : Nat) : Int) = c from by rw [hchr, if_neg (chr_good' (by assumption))]]
      all_goals clear hchr hrn
      all_goals try (rename (((runeOf (c0 :: u')).1 : Nat) : Int) = 65533 => hx1; clear hx1)
      all_goals try (rename ((((runeOf (c0 :: u')).2 : Nat) : Int) == 1) = true => hx1; clear hx1)
      all_goals try (rename ((((runeOf (c0 :: u')).2 : Nat) : Int) == 1) = false => hx1; clear hx1)
      all_goals
        have hBlt : B < w1.heap.size := Nat.lt_of_lt_of_le hset.lt hw1.size
        have hw1s : w.heap.size ≤ w1.heap.size := Nat.le_trans ho.size hw1.size
        have hbR : b ≠ w1.heap.size := by have := hP.2.2.1; omega
        have e1 : (w1.alloc (Obj.map #[] 0)).heap.size = w1.heap.size + 1 := by simp
        have oA : SameOld w (w1.alloc (.map #[] 0)) := (ho.trans hw1).grown (World.grownBy_alloc w1 _ none) (fun _ e => by cases e)
        have o0 : SameOld w w0 := oA.grown hg0 (fun _ e => by cases e)
        have hnx0 : IsSet Tryd.prog 3 4 w0 w1.heap.size 0 l.length (fun _ => False) := (IsSet.made Tryd.underlying3 Tryd.underlying30 l.length).kept hg0 (by simp)
        go_frame
        rw [e1] at hin0 hs0 ⊢
        clear hg0 hs0 oA e1 hset3 hset2 hput hg1 hg2 hg3 o2 o3
        generalize w1.heap.size = R at *
        go_loopw [11] (fun _ wr => ∃ (left : Nat → Prop) (cnt nn : Nat), InSet Tryd.prog 3 4 wr B (R + 1) n l.length S left cnt ∧ IsSet Tryd.prog 3 4 wr R nn l.length (fun j => ∃ k, k ≤ l.length ∧ S k ∧ ¬ left k ∧ pNext l c k = some j) ∧ nn + cnt ≤ n ∧ SameOld w wr)
          (fun _ wr => wr.rangeLeft B (R + 1))
        case atStart => exact ⟨S, n, 0, hin0, hnx0.congr (fun j _ => ⟨fun h => h.elim, fun ⟨k, _, h1, h2, _⟩ => absurd h1 h2⟩), by omega, o0⟩
        case round =>
          obtain ⟨left, cnt, nn, hin, hnx, hcnt, hoi⟩ := hrel
          go_wp2_with (first | (at_next; refine wpList_next_set Tryd.underlying3 Tryd.underlying4 Tryd.underlying30 _ rfl _ rfl (by omega) rfl hin ?_ ?_) | fail)
          · intro hno
            have hnx' := hnx.congr (S' := nextS l c S) (fun j _ => ⟨fun ⟨k, h1, h2, _, h4⟩ => ⟨k, h1, h2, h4⟩, fun ⟨k, h1, h2, h4⟩ => ⟨k, h1, h2, hno k h1, h4⟩⟩)
            go_wp2_with (first | (go_at_call 12; refine (Tryd.closure_any l a cap b off R nn _ _ (hP.old hoi) hbR (by omega) hnx').mono ?_; rintro e w3 ⟨rfl, hset3, hg3⟩) | fail)
            go_roundw
            case rel =>
              have hd : ((c0 :: u').drop (runeOf (c0 :: u')).2).length = (c0 :: u').length - (runeOf (c0 :: u')).2 := List.length_drop ..
              have hm : ((c0 :: u').drop (runeOf (c0 :: u')).2).length * l.length + l.length ≤ (c0 :: u').length * l.length := by
                have : (((c0 :: u').drop (runeOf (c0 :: u')).2).length + 1) * l.length ≤ (c0 :: u').length * l.length := Nat.mul_le_mul_right _ (by omega)
                rwa [Nat.succ_mul] at this
              refine ⟨(c0 :: u').drop (runeOf (c0 :: u')).2, R, nn + l.length, _, rfl, rfl, hw1s, hset3, hoi.grown hg3 (fun r e => by cases e; exact hw1s), by omega, by omega, ?_⟩
              rw [hgoal, hstep, runL_fuel (fun s h => (rune_n' h).1) _ (((c0 :: u').drop (runeOf (c0 :: u')).2).length + 1) _ _ (by omega) (by omega)]
            case measure =>
              show (⟨((c0 :: u').drop (runeOf (c0 :: u')).2).toArray⟩ : ByteArray).size < sb.size
              rw [hsz, show (⟨((c0 :: u').drop (runeOf (c0 :: u')).2).toArray⟩ : ByteArray).size = ((c0 :: u').drop (runeOf (c0 :: u')).2).length from by simp [ByteArray.size], List.length_drop]
              omega
          · intro k w4 cnt' hk hSk hlk' hin' hclt hmeas hg4 hs4 hen
            have hnx4 := hnx.kept hg4 (by simp)
            have o4 := hoi.grown hg4 (fun r e => by cases e; omega)
            by_cases hkl : k < l.length
            · have hixk := fun w' => hP.addr (cap := cap) hkl w'
              obtain ⟨q1, q2, q3⟩ := (hP.old o4).2.2.2 k hkl
              obtain ⟨w5, hput5, hset5, hg5⟩ := hnx4.put Tryd.underlying3 Tryd.underlying4 Tryd.underlying30 (by omega) (by unfold maxLen; omega) hk
              obtain ⟨w6, hput6, hset6, hg6⟩ := hnx4.put Tryd.underlying3 Tryd.underlying4 Tryd.underlying30 (by omega) (by unfold maxLen; omega) (k := k + 1) hkl
              rw [show ((k + 1 : Nat) : Int) = (k : Int) + 1 from rfl] at hput6
              go_wp2
              all_goals
                have hbr1 : some B ≠ some R := by simp; omega
                have hbr2 : some (R + 1) ≠ some R := by simp
              · have hp : pNext l c k = some k := pNext_many hkl (by assumption)
                go_roundw
                case rel => exact ⟨_, cnt', nn + 1, hin'.kept hg5 hbr1 hbr2, hset5.congr (fun j _ => tset_some hp hk hSk j), by omega, o4.grown hg5 (fun r e => by cases e; exact hw1s)⟩
                case measure =>
                  show w5.rangeLeft B (R + 1) < wr.rangeLeft B (R + 1)
                  rw [hin'.left_kept hg5 hbr1 hbr2]
                  exact hmeas
              · have hp : pNext l c k = some (k + 1) := pNext_one hkl (by assumption) (.inl (by assumption))
                go_roundw
                case rel => exact ⟨_, cnt', nn + 1, hin'.kept hg6 hbr1 hbr2, hset6.congr (fun j _ => tset_some hp hk hSk j), by omega, o4.grown hg6 (fun r e => by cases e; exact hw1s)⟩
                case measure =>
                  show w6.rangeLeft B (R + 1) < wr.rangeLeft B (R + 1)
                  rw [hin'.left_kept hg6 hbr1 hbr2]
                  exact hmeas
              · have hp : pNext l c k = some (k + 1) := pNext_one hkl (by assumption) (.inr (by simpa using (show (pChr l k == c) = true from by assumption)))
                go_roundw
                case rel => exact ⟨_, cnt', nn + 1, hin'.kept hg6 hbr1 hbr2, hset6.congr (fun j _ => tset_some hp hk hSk j), by omega, o4.grown hg6 (fun r e => by cases e; exact hw1s)⟩
                case measure =>
                  show w6.rangeLeft B (R + 1) < wr.rangeLeft B (R + 1)
                  rw [hin'.left_kept hg6 hbr1 hbr2]
                  exact hmeas
              · have hp : pNext l c k = none := pNext_no (by assumption) (by simpa using (show ¬ pOne l k = true from by assumption)) (by simpa using (show (pChr l k == c) = false from by assumption))
                go_roundw
                case rel => exact ⟨_, cnt', nn, hin', hnx4.congr (fun j _ => tset_none hp hk hSk j), by omega, o4⟩
                case measure => exact hmeas
            · obtain rfl : k = l.length := by omega
              have hp : pNext l c l.length = none := by unfold pNext; rw [if_neg (Nat.lt_irrefl _)]
              go_wp2
              go_roundw
              case rel => exact ⟨_, cnt', nn, hin', hnx4.congr (fun j _ => tset_none hp hk hSk j), by omega, o4⟩
              case measure => exact hmeas
end Go.Proofs
