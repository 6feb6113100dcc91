/- The contract of the program's natural numbers' text (a range over slices.Backward), by hand: the word sNatText. -/
import Derived.RangeFuncWrites
import Derived.Lib.ItoaNum
import Derived.Sort.Grow
import Derived.Deep.Draws
import Derived.WalkKit
import Derived.BigRegion
import Derived.Lib.Builder
import Derived.Lib.AppendStr
import Derived.Lib.Strings
import Derived.Lib.Slices
import Derived.Lib.UnsafeStr
import Derived.RangeFuncBox
import Derived.RangeFuncNested
import Derived.RangeFuncBound
import Derived.RangeFuncCalls
import Derived.RangeFuncLeaves
import Derived.Shelf.Abstract
import Derived.Shelf.RegionOpen
import Derived.OwnWalkIn
import Derived.TacticsInMore
import Derived.LoopNIn
import Derived.LoopIn
import Derived.Test.YtmbejoibeninmaaGreatDoorProg
import Derived.Test.YtmbejoibeninmaaGreatDoorFeBld
import Derived.Test.YtmbejoibeninmaaGreatDoorShelf
import Derived.Test.YtmbejoibeninmaaGreatDoorFeLib
namespace Go.Proofs
open Go Go.RowKit
set_option maxRecDepth 100000
theorem Tryz.natUsed (b : Nat) (w : World) (h0 : w.cell? ⟨b, 0, none⟩ = some (.pointer (some ⟨b, 0, none⟩))) :
  Calls Tryz.prog 236 #[.pointer (some ⟨b, 0, none⟩)] w fun e w' => e = .returned (.tuple #[]) /\ w' = w := by
 obtain ⟨j, hj, _⟩ := Option.map_eq_some_iff.1 (show (Tryz.prog.info? 195).map (·.size) = some 2 by kernel_rfl)
 go_enter Tryz.func236, Tryz.ntmps236
 go_wp2
 rw [Lib.run_neq_ptr_same w _ Tryz.underlying193 hj]
 go_wp2
 go_end0
 exact ⟨rfl, rfl⟩
theorem Tryz.natFresh (b : Nat) (w : World) (h0 : w.cell? ⟨b, 0, none⟩ = some (.pointer none)) (hsh : w.shape? b = some (195, 2)) (hfz : w.frozen? ⟨b, 0, none⟩ = false) :
  Calls Tryz.prog 236 #[.pointer (some ⟨b, 0, none⟩)] w fun e w' => e = .returned (.tuple #[]) /\ w' = w.setCell ⟨b, 0, none⟩ (.pointer (some ⟨b, 0, none⟩)) := by
 obtain ⟨j, hj, hjs⟩ := Option.map_eq_some_iff.1 (show (Tryz.prog.info? 195).map (·.size) = some 2 by kernel_rfl)
 have hlies : liesAt Tryz.prog Tryz.prog.depth 195 (2 / Tryz.prog.cellsOf 195) 0 195 1 = true := by kernel_rfl
 go_enter Tryz.func236, Tryz.ntmps236
 go_wp2
 rw [Lib.run_to_unsafe w ⟨b, 0, none⟩ Tryz.underlying193 Tryz.underlying230 hj (by rw [hjs]; decide) hsh (Nat.zero_lt_succ 1)]
 simp only [Result.andThen]
 rw [Oper.upon_value]
 go_wp2
 rw [run_callFunc_extern Tryz.func251 (by kernel_rfl) (by kernel_rfl) (by kernel_rfl) (e := Extern.AbiNoEscape.same) (by kernel_rfl)]
 rw [Lib.run_noEscape]
 simp only [Result.andThen]
 rw [Oper.upon_value]
 go_wp2
 rw [Lib.run_from_unsafe w ⟨b, 0, none⟩ Tryz.underlying230 Tryz.underlying193 hj hsh hlies]
 simp only [Result.andThen]
 rw [Oper.upon_value]
 go_wp2
 go_end0
 exact ⟨rfl, rfl⟩
theorem Tryz.natCheck (B b : Nat) (bs : List Value) (w : World) (h : Lib.IsBuilder 195 5 B b bs w) :
  Calls Tryz.prog 236 #[.pointer (some ⟨b, 0, none⟩)] w fun e w' => e = .returned (.tuple #[]) /\ (Lib.BuilderAt 195 5 B b (.pointer (some ⟨b, 0, none⟩)) bs w' /\ Below B w w') := by
 rcases h with h | h
 ·refine (Tryz.natFresh b w h.cell0 h.shape h.frozen0).mono ?_
  rintro e w' ⟨rfl, rfl⟩
  exact ⟨rfl, h.used _, (Below.refl B w).setCell (p := ⟨b, 0, none⟩) h.1 _⟩
 ·refine (Tryz.natUsed b w h.cell0).mono ?_
  rintro e w' ⟨rfl, rfl⟩
  exact ⟨rfl, h, Below.refl _ _⟩
def Tryz.BB (B b : Nat) (bs : List Value) (w : World) : Prop := b < B /\ B <= w.heap.size /\ ∃ p v, (p = .pointer none \/ p = .pointer (some ⟨b, 0, none⟩)) /\ w.heap[b]? = some (.cells #[p, v] 195 (0, 0)) /\ w.ownsRow B 5 1 v bs.length bs
def Tryz.KB (B b : Nat) (A W : World) : Prop := (∀ k, k < B -> k ≠ b -> W.heap[k]? = A.heap[k]?) /\ Below b A W /\ KeepsOthers A W
theorem Tryz.KB.refl (B b : Nat) (A : World) : Tryz.KB B b A A := ⟨fun _ _ _ => rfl, Below.refl _ _, KeepsOthers.refl _⟩
theorem Tryz.KB.trans {B b : Nat} {A C D : World} (h : Tryz.KB B b A C) (k : Tryz.KB B b C D) : Tryz.KB B b A D := ⟨fun i hi hb => (k.1 i hi hb).trans (h.1 i hi hb), h.2.1.trans k.2.1, h.2.2.trans k.2.2⟩
theorem Tryz.ownsRow_mono {w : World} {B b : Nat} {e : TypeId} {s : Nat} {v : Value} {n : Nat} {xs : List Value} (h : w.ownsRow B e s v n xs) (hb : b <= B) : w.ownsRow b e s v n xs :=
 ⟨h.1, h.2.imp id fun ⟨g, cap, cur, h1, h2, r⟩ => ⟨g, cap, cur, h1, Nat.le_trans hb h2, r⟩⟩
theorem Tryz.natCheck2 (B b : Nat) (bs : List Value) (w : World) (h : Tryz.BB B b bs w) :
  Calls Tryz.prog 236 #[.pointer (some ⟨b, 0, none⟩)] w fun e w' => e = .returned (.tuple #[]) /\ Tryz.KB B b w w' /\ B <= w'.heap.size /\ ∃ v, w'.heap[b]? = some (.cells #[.pointer (some ⟨b, 0, none⟩), v] 195 (0, 0)) /\ w'.ownsRow B 5 1 v bs.length bs := by
 obtain ⟨hlt, hBw, p, v, hp, hb, hown⟩ := h
 have hown' := Tryz.ownsRow_mono hown (Nat.le_of_lt hlt)
 have hat : Lib.BuilderAt 195 5 b b p bs w := ⟨Nat.le_refl _, v, hb, hown', Lib.ownBlock_ne hown' hb (by decide)⟩
 rcases hp with rfl | rfl
 ·refine (Tryz.natFresh b w hat.cell0 hat.shape hat.frozen0).mono ?_
  rintro e w' ⟨rfl, rfl⟩
  refine ⟨rfl, ⟨fun k _ hk => Below.heap_setCell _ _ _ _ hk, (Below.refl b w).setCell (p := ⟨b, 0, none⟩) (Nat.le_refl _) _, KeepsOthers.setCell _ _ _⟩, by simpa [World.setCell] using hBw, v, ?_, ownsRow_setCell_below hown (a := ⟨b, 0, none⟩) hlt _⟩
  simp [World.setCell, Array.getElem?_modify, hb]
 ·refine (Tryz.natUsed b w hat.cell0).mono ?_
  rintro e w' ⟨rfl, rfl⟩
  exact ⟨rfl, Tryz.KB.refl _ _ _, hBw, v, hb, hown⟩
set_option maxHeartbeats 2000000 in
theorem Tryz.natWrite (B b : Nat) (bs : List Value) (s : ByteArray) (w : World) (h : Tryz.BB B b bs w) (hlen : bs.length + s.size <= 140737488355328) :
  Calls Tryz.prog 210 #[.pointer (some ⟨b, 0, none⟩), .string s] w fun e w' => e = .returned (.tuple #[.int .i64 s.size, .nilIface]) /\ Tryz.BB B b (bs ++ Lib.strCells s) w' /\ Tryz.KB B b w w' := by
 obtain ⟨i0, hi, hz0, hz1, hz2⟩ := info_parts (show (Tryz.prog.info? 5).map (fun i => (i.zero, i.size, i.bytes)) = some (some (.int .u8 0), 1, 1) by kernel_rfl)
 have hbB := h.1
 go_enter Tryz.func210, Tryz.ntmps210
 go_wp2_with (go_at_call 236; refine (Tryz.natCheck2 B b bs _ h).mono ?_)
 rintro e w1 ⟨rfl, hk1, hB1, v, hbk, hown⟩
 have hne : v.ownBlock ≠ some b := Lib.ownBlock_ne hown hbk (by decide)
 have c0 : w1.cell? ⟨b, 0, none⟩ = some (.pointer (some ⟨b, 0, none⟩)) := by rw [Lib.cell_of_heap hbk]; rfl
 have c1 : w1.cell? ⟨b, 1, none⟩ = some v := by rw [Lib.cell_of_heap hbk]; rfl
 go_wp2_with (at_builtin; refine Lib.wpList_append_own_string _ rfl _ _ 103 9 rfl B 5 i0 Tryz.underlying103 Tryz.underlying9 hi hz0 hz1 hz2 _ _ _ rfl hown s rfl ?c3 ?c4 ?c5 ?_)
 case c3 => unfold maxLen; omega
 case c4 => omega
 case c5 => exact hB1
 intro v' w2 hown' hgrow _
 have hlt : b < w1.heap.size := by omega
 have hb2 : w2.heap[b]? = some (.cells #[.pointer (some ⟨b, 0, none⟩), v] 195 (0, 0)) := by
  rw [hgrow.block b hlt (fun e => hne e.symm)]
  exact hbk
 have d0 : w2.cell? ⟨b, 0, none⟩ = some (.pointer (some ⟨b, 0, none⟩)) := by rw [Lib.cell_of_heap hb2]; rfl
 have d1 : w2.cell? ⟨b, 1, none⟩ = some v := by rw [Lib.cell_of_heap hb2]; rfl
 have f1 : w2.frozen? ⟨b, 1, none⟩ = false := Lib.frozen_of_heap hb2 1
 obtain ⟨ao, n', cap, rfl⟩ : ∃ ao n' cap, v' = .slice ao n' cap := by
  rcases hown'.2 with ⟨hv, _⟩ | ⟨g, cap, cur, hv, _⟩
  ·exact ⟨_, _, _, hv⟩
  ·exact ⟨_, _, _, hv⟩
 have hsz : w1.heap.size <= w2.heap.size := hgrow.size
 go_wp2
 go_ret2
 refine ⟨rfl, ⟨hbB, by simp [World.setCell]; omega, .pointer (some ⟨b, 0, none⟩), .slice ao n' cap, .inr rfl, ?_, ?_⟩, ?_⟩
 ·simp [World.setCell, Array.getElem?_modify, hb2]
 ·have := ownsRow_setCell_below hown' (a := ⟨b, 1, none⟩) hbB (.slice ao n' cap)
  simpa [Lib.strCells_length] using this
 ·refine hk1.trans ⟨fun k hk hkb => ?_, ((Below.refl b w1).grown hgrow (by omega) (fun k hk => ?_)).setCell (p := ⟨b, 1, none⟩) (Nat.le_refl _) _,
   (KeepsOthers.of_grownBy hgrow (fun j o e ho => ?_)).trans (KeepsOthers.setCell _ _ _)⟩
  ·rw [Below.heap_setCell _ _ _ _ hkb]
   refine hgrow.block k (by omega) (fun e => ?_)
   have := (hown.lt k e.symm).1
   omega
  ·have := (hown.lt k hk).1
   omega
  ·rcases hown.2 with ⟨rfl, _⟩ | ⟨g, cap', cur, rfl, _, hg, _⟩
   ·cases e
   ·cases e
    rw [hg] at ho
    cases ho
    rfl
theorem Tryz.grow_by (w : World) (k : Nat) (os : Array Obj) : w.grownBy (Go.Sort.grow (w.drewN k) os) none :=
 ⟨rfl, rfl, rfl, by simp [Go.Sort.grow], fun j hj _ => by
  simp only [Go.Sort.grow]
  rw [Array.getElem?_append_left (by simpa using hj)]
  rfl⟩
theorem Tryz.BB.kept {B b : Nat} {bs : List Value} {w w' : World} {row : Option Nat} (h : Tryz.BB B b bs w) (hg : w.grownBy w' row) (hr : ∀ r, row = some r -> B <= r /\ ∃ o : Obj, w.heap[r]? = some o /\ o.isCells = false) : Tryz.BB B b bs w' := by
 obtain ⟨h1, h2, p, v, hp, hb, hown⟩ := h
 refine ⟨h1, Nat.le_trans h2 hg.size, p, v, hp, ?_, hown.kept hg ?_⟩
 ·rw [hg.block b (by omega) (fun e => by have := (hr b e.symm).1; omega)]
  exact hb
 ·rcases hown.2 with ⟨rfl, _⟩ | ⟨g, cap, cur, rfl, hBg, hgc, _⟩
  ·exact .inl rfl
  ·refine .inr fun e => ?_
   obtain ⟨_, o, ho, hc⟩ := hr g e.symm
   rw [hgc] at ho
   cases ho
   cases hc
theorem Tryz.KB.grow {B b : Nat} (w : World) (hB : B <= w.heap.size) (hb : b < B) (k : Nat) (os : Array Obj) : Tryz.KB B b w (Go.Sort.grow (w.drewN k) os) :=
 ⟨fun j hj _ => (Tryz.grow_by w k os).block j (by omega) (by simp), (Below.refl b w).grown (Tryz.grow_by w k os) (by omega) (fun _ e => by cases e), KeepsOthers.of_grownBy (Tryz.grow_by w k os) (fun _ _ e => by cases e)⟩
end Go.Proofs
namespace Go.Proofs
open Go Go.RowKit
set_option maxRecDepth 100000
set_option maxHeartbeats 2000000 in
theorem Tryz.natStr (b : Nat) (v pv : Value) (a : Option Addr) (n cap : Nat) (s : ByteArray) (w w2 : World) (hv : v = .slice a n cap) (hc : w.cell? ⟨b, 1, none⟩ = some v)
  (h1 : (Builtin.unsafeSliceData_ #[103] 218 #[v]).run Tryz.prog w.drew = .ok pv w.drew) (h2 : (Builtin.unsafeString_ #[218, 3] 9 #[pv, .int .i64 n]).run Tryz.prog w.drew = .ok (.string s) w2) :
  Calls Tryz.prog 212 #[.pointer (some ⟨b, 0, none⟩)] w fun e w' => e = .returned (.string s) /\ w' = w2 := by
 subst hv
 have hc : w.drew.cell? ⟨b, 1, none⟩ = some (.slice a n cap) := hc
 have mixed : Tryz.prog.follows .mixedOrders = true := by kernel_rfl
 go_enter Tryz.func212, Tryz.ntmps212
 go_wp2
 go_region
 all_goals (go_wp2; go_ret; exact ⟨rfl, rfl⟩)
theorem Tryz.natString (B b : Nat) (l : List UInt8) (h0 : l ≠ []) (hl : l.length <= 100000000000000) (w : World) (h : Tryz.BB B b (Lib.byteCells l) w) :
  Calls Tryz.prog 212 #[.pointer (some ⟨b, 0, none⟩)] w fun e w' => e = .returned (.string ⟨l.toArray⟩) /\ Tryz.KB B b w w' := by
 obtain ⟨hlt, hBw, p, v, _, hb, hown⟩ := h
 rw [Lib.byteCells_length] at hown
 have hl0 : l.length ≠ 0 := by simpa using h0
 rcases hown.2 with ⟨_, hz⟩ | ⟨g, cap, cur, rfl, hBg, hgc, hn, hcm, hcs, htake⟩
 ·exact absurd hz hl0
 have hc1 : w.cell? ⟨b, 1, none⟩ = some (.slice (some ⟨g, 0, none⟩) l.length cap) := by rw [Lib.cell_of_heap hb]; rfl
 have hgd : w.drew.heap[g]? = some (.cells cur 5 (0, 0)) := hgc
 have hrun := Go.Fe.unsafeString_run (P := Tryz.prog) (w := w.drew) 218 3 9 Tryz.underlying218 (by kernel_rfl) (g := g) (p := 0) hgd (l.map fun c => (c.toNat : Int)) (by simpa using h0) (by simp; omega) (by simp; omega) (by
  intro j x hj
  rw [Nat.zero_add, <- Array.getElem?_toList]
  have h2 := congrArg (fun z => z[j]?) htake
  simp only [Nat.mul_one, List.getElem?_take, Lib.byteCells, List.getElem?_map] at h2 hj
  have hjl : j < l.length := by
   rcases Nat.lt_or_ge j l.length with h | h
   ·exact h
   ·simp [List.getElem?_eq_none h] at hj
  rw [if_pos hjl] at h2
  rw [h2]
  simp [List.getElem?_eq_getElem hjl] at hj ⊢
  exact hj)
 rw [List.length_map] at hrun
 have hs : (Go.Fe.bytesStr (l.map fun c => (c.toNat : Int))) = l := by
  unfold Go.Fe.bytesStr
  rw [List.map_map]
  have : (Go.Fe.byteOfInt ∘ fun c : UInt8 => (c.toNat : Int)) = id := by
   funext c
   simp [Go.Fe.byteOfInt]
  rw [this, List.map_id]
 rw [hs] at hrun
 refine (Tryz.natStr b _ _ _ _ _ _ w _ rfl hc1 ?h1 hrun).mono fun e w' ⟨he, hw⟩ => ⟨he, ?_⟩
 case h1 => exact Lib.run_unsafeSliceData_row _ _ _ _ _ _ (by omega)
 subst hw
 have hch := Go.Fe.freeze_chg2 (w := w.drew) (b := g) (p := 0) (m := l.length)
 have hgrow : w.grownBy (w.drew.freeze ⟨g, 0, none⟩ l.length) (some g) := by
  refine ⟨hch.rest.1, ?_, hch.rest.2, hch.size, fun k hk hne => hch.same k (fun e => hne (by rw [e])) hk⟩
  unfold World.freeze
  split <;> rfl
 have hg2 : g < w.heap.size := by
  rcases Nat.lt_or_ge g w.heap.size with h' | h'
  ·exact h'
  ·rw [Array.getElem?_eq_none h'] at hgc
   cases hgc
 refine ⟨fun k hk _ => hgrow.block k (by omega) (fun e => by cases e; omega), (Below.refl b w).grown hgrow (by omega) (fun k e => by cases e; omega), KeepsOthers.of_grownBy hgrow (fun j o e ho => ?_)⟩
 cases e
 rw [hgc] at ho
 cases ho
 rfl
end Go.Proofs
namespace Go.Proofs
open Go.RowKit Go.Shelf
attribute [local go_sem] Oper.semAt_some
def Tryz.upto {α : Type} (f : Nat -> α) (k : Nat) : List α := (List.range k).map f
theorem Tryz.upto_succ {α : Type} (f : Nat -> α) (k : Nat) : Tryz.upto f (k + 1) = Tryz.upto f k ++ [f k] := by simp [Tryz.upto, List.range_succ]
theorem Tryz.upto_length {α : Type} (f : Nat -> α) (k : Nat) : (Tryz.upto f k).length = k := by simp [Tryz.upto]
def Tryz.KeepB (b c : Nat) (A B : World) : Prop := B.heap[b]? = A.heap[b]? /\ B.heap[c]? = A.heap[c]?
theorem Tryz.KeepB.refl (b c : Nat) (A : World) : Tryz.KeepB b c A A := ⟨rfl, rfl⟩
theorem Tryz.KeepB.trans {b c : Nat} {A B C : World} (h : Tryz.KeepB b c A B) (k : Tryz.KeepB b c B C) : Tryz.KeepB b c A C := ⟨k.1.trans h.1, k.2.trans h.2⟩
theorem Tryz.cell_eq {A B : World} {p : Addr} (h : B.heap[p.block]? = A.heap[p.block]?) : B.cell? p = A.cell? p := by unfold World.cell?; rw [h]
set_option maxRecDepth 100000 in
set_option maxHeartbeats 2000000 in
theorem Tryz.back1_in {α : Type} (encs : α -> Array Value) (g : Nat -> α) (F : Fence) (n : Nat) (h8 : F.fn 238) (hro : F.round = none) (hn : 1 <= n) (l Bs b off len cap : Nat) (zs : List Int) (hreach : len * 8 <= 140737488351232) (hg : ∀ k, k < len -> encs (g k) = #[.int .i64 ((len - 1 - k : Nat) : Int), .int .u32 (zs[len - 1 - k]?.getD 0)]) (J Jx : List α -> World -> Prop)
  (hY : ∀ pre x W, J pre W -> pre.length < len -> YieldAt F (n - 1) Tryz.prog l (encs x) W fun e W' =>
   (e = .returned (.bool true) /\ J (pre ++ [x]) W' /\ Tryz.KeepB b Bs W W') \/ (e = .returned (.bool false) /\ Jx (pre ++ [x]) W'))
  (W : World) (hBs : W.cell? ⟨Bs, 0, none⟩ = some (.slice (some ⟨b, off, none⟩) len cap)) (hc : ∀ j, j < len -> W.cell? ⟨b, off + j, none⟩ = some (.int .u32 (zs[j]?.getD 0))) (h0 : J [] W) :
  CallsIn F n Tryz.prog 238 #[.func (.yield l) #[] #[], .pointer (some ⟨Bs, 0, none⟩)] W fun e W' => (∃ v, e = .returned v) /\
   ((∃ ys, ys = Tryz.upto g len /\ J ys W') \/ (∃ pre, (∃ k, k <= len /\ pre = Tryz.upto g k) /\ Jx pre W')) := by
 refine callsIn_of_wp Tryz.func238 rfl h8 ?_ hro
 simp only [Tryz.ntmps238, List.size_toArray, List.length_cons, List.length_nil, Nat.reduceAdd, Nat.reduceSub, Array.replicate_succ, Array.replicate_zero, List.push_toArray, List.append_toArray, List.nil_append, List.cons_append]
 gi_wp2
 gi_loopw [3] (fun i wr => ∃ k : Nat, k <= len /\ i = .int .i64 ((len : Int) - 1 - k) /\ J (Tryz.upto g k) wr /\ Tryz.KeepB b Bs W wr)
  (fun i _ => (intOf i + 1).toNat)
 case atStart => exact ⟨0, Nat.zero_le _, by simp, h0, Tryz.KeepB.refl _ _ _⟩
 case round =>
  obtain ⟨k, hk, rfl, hJs, hnx⟩ := hrel
  by_cases hlt : k < len
  ·have hidx : (len : Int) - 1 - k = ((len - 1 - k : Nat) : Int) := by omega
   rw [hidx] at *
   have hcx' : wr.cell? ⟨b, off + (len - 1 - k), none⟩ = some (.int .u32 (zs[len - 1 - k]?.getD 0)) := (Tryz.cell_eq (p := ⟨b, off + (len - 1 - k), none⟩) hnx.1).trans (hc _ (by omega))
   have hBs' : wr.cell? ⟨Bs, 0, none⟩ = some (.slice (some ⟨b, off, none⟩) len cap) := (Tryz.cell_eq (p := ⟨Bs, 0, none⟩) hnx.2).trans hBs
   obtain ⟨fn, tmps, assign, body, hy, hR⟩ := hY _ (g k) wr hJs (by rw [Tryz.upto_length]; exact hlt)
   rw [hg k hlt] at hy
   have hlt' : len - 1 - k < len := by omega
   generalize hm : len - 1 - k = m at *
   gi_wp2
   refine hR.mono ?_
   rintro e W3 (⟨rfl, hJ3, hk3⟩ | ⟨rfl, hJx3⟩)
   ·gi_wp2
    go_roundw
    case rel => exact ⟨k + 1, by omega, by congr 1; omega, by rw [Tryz.upto_succ]; exact hJ3, hnx.trans hk3⟩
    case measure => simp [intOf]
   ·gi_wp2
    refine bodyPost_ret (results_none rfl _ _ _) rfl ?_
    exact ⟨⟨_, rfl⟩, .inr ⟨_, ⟨k + 1, by omega, by rw [Tryz.upto_succ]⟩, hJx3⟩⟩
  ·obtain rfl : k = len := by omega
   gi_wp2
   go_end0
   exact ⟨⟨_, rfl⟩, .inl ⟨_, rfl, hJs⟩⟩
set_option maxHeartbeats 1000000 in
theorem Tryz.back_in (F : Fence) (n : Nat) (h6 : F.fn 214) (hro : F.round = none) (a : Option Addr) (len cap : Nat) (w : World) :
  CallsIn F n Tryz.prog 214 #[.slice a len cap] w fun e w' => e = .returned (.func (.func 238) #[] #[.pointer (some ⟨w.heap.size, 0, none⟩)]) /\ w' = w.alloc (.cells #[.slice a len cap] 129) := by
 refine callsIn_of_wp Tryz.func214 rfl h6 ?_ hro
 simp only [Tryz.ntmps214, List.size_toArray, List.length_cons, List.length_nil, Nat.reduceAdd, Nat.reduceSub, Array.replicate_succ, Array.replicate_zero, List.push_toArray, List.append_toArray, List.nil_append, List.cons_append]
 gi_wp2
 go_ret
 exact ⟨rfl, rfl⟩
theorem Tryz.back_stops {α : Type} (encs : α -> Array Value) (g : Nat -> α) (F : Fence) (n : Nat) (h8 : F.fn 238) (hro : F.round = none) (hn : 1 <= n) (Bs b off len cap : Nat) (zs : List Int) (hreach : len * 8 <= 140737488351232) (hg : ∀ k, k < len -> encs (g k) = #[.int .i64 ((len - 1 - k : Nat) : Int), .int .u32 (zs[len - 1 - k]?.getD 0)]) (w : World) (hBs : Bs < w.heap.size) (hb : b < w.heap.size)
  (hc : w.cell? ⟨Bs, 0, none⟩ = some (.slice (some ⟨b, off, none⟩) len cap)) (hI : ∀ j, j < len -> w.cell? ⟨b, off + j, none⟩ = some (.int .u32 (zs[j]?.getD 0))) :
  SeqStopsK F n Tryz.prog 238 #[.pointer (some ⟨Bs, 0, none⟩)] encs (Tryz.KeepB b Bs) (fun ys => ys = Tryz.upto g len)
   (fun pre => ∃ k, k <= len /\ pre = Tryz.upto g k) len w := fun l J Jx W hW _ _ hY h0 => by
 have hc' := (hW.cell (p := ⟨Bs, 0, none⟩) hBs).trans hc
 exact Tryz.back1_in encs g F n h8 hro hn l Bs b off len cap zs hreach hg J Jx hY W hc' (fun j hj => (hW.cell (p := ⟨b, off + j, none⟩) hb).trans (hI j hj)) h0
end Go.Proofs
namespace Go.Proofs
open Go.RowKit Go.Shelf
attribute [local go_sem] Oper.semAt_some
set_option maxRecDepth 100000
theorem Tryz.natZero (F : Fence) (n : Nat) (h6 : F.fn 154) (hro : F.round = none) (a : Option Addr) (len cap : Nat) (w : World) :
  CallsIn F n Tryz.prog 154 #[.slice a len cap] w fun e w' => e = .returned (.bool (decide ((len : Int) = 0))) /\ w' = w := by
 refine callsIn_of_wp Tryz.func154 rfl h6 ?_ hro
 simp only [Tryz.ntmps154, List.size_toArray, List.length_cons, List.length_nil, Nat.reduceAdd, Nat.reduceSub, Array.replicate_succ, Array.replicate_zero, List.push_toArray, List.append_toArray, List.nil_append, List.cons_append]
 gi_wp2
 go_ret
 exact ⟨rfl, rfl⟩
abbrev Tryz.Dig (len : Nat) := { p : Nat × Int // p.1 < len /\ 0 <= p.2 /\ p.2 < 1000000000 }
def Tryz.encD {len : Nat} (x : Tryz.Dig len) : Array Value := #[.int .i64 (x.1.1 : Int), .int .u32 x.1.2]
def Tryz.digAt (zs : List Int) (len : Nat) (h0 : 0 < len) (hd : ∀ j, j < len -> 0 <= zs[j]?.getD 0 /\ zs[j]?.getD 0 < 1000000000) (k : Nat) : Tryz.Dig len :=
 if h : k < len then ⟨(len - 1 - k, zs[len - 1 - k]?.getD 0), by omega, (hd _ (by omega)).1, (hd _ (by omega)).2⟩ else ⟨(0, 0), h0, by omega, by omega⟩
def Tryz.natOut (len : Nat) (p : Nat × Int) : List UInt8 := (if p.1 < len - 1 then List.replicate (9 - (Lib.itoa p.2).length) 48 else []) ++ Lib.itoa p.2
theorem Tryz.itoa_nat (n : Nat) : Lib.itoa (n : Int) = Lib.decDigits n := by
 unfold Lib.itoa
 rw [if_neg (by omega)]
 simp
theorem Tryz.decDigits_small {n : Nat} (h : n < 10) : Lib.decDigits n = [UInt8.ofNat (48 + n)] := by rw [Lib.decDigits, dif_pos h]
theorem Tryz.decDigits_big {n : Nat} (h : ¬ n < 10) : Lib.decDigits n = Lib.decDigits (n / 10) ++ [UInt8.ofNat (48 + n % 10)] := by rw [Lib.decDigits, dif_neg h]
theorem Tryz.decDigits_len : ∀ (k n : Nat), n < 10 ^ (k + 1) -> (Lib.decDigits n).length <= k + 1
 | 0, n, h => by rw [Tryz.decDigits_small (by simpa using h)]; simp
 | k + 1, n, h => by
  by_cases h1 : n < 10
  ·rw [Tryz.decDigits_small h1]; simp
  ·rw [Tryz.decDigits_big h1]
   have := Tryz.decDigits_len k (n / 10) (by rw [Nat.div_lt_iff_lt_mul (by omega)]; rw [Nat.pow_succ] at h; omega)
   simp; omega
theorem Tryz.itoa_len {d : Int} (h0 : 0 <= d) (h1 : d < 1000000000) : 1 <= (Lib.itoa d).length /\ (Lib.itoa d).length <= 9 := by
 obtain ⟨n, rfl⟩ := Int.eq_ofNat_of_zero_le h0
 rw [Tryz.itoa_nat]
 refine ⟨?_, Tryz.decDigits_len 8 n (by omega)⟩
 by_cases h : n < 10
 ·rw [Tryz.decDigits_small h]
  simp
 ·rw [Tryz.decDigits_big h]
  simp
theorem Tryz.natOut_len {len : Nat} (x : Tryz.Dig len) : (Tryz.natOut len x.1).length <= 9 := by
 have := Tryz.itoa_len x.2.2.1 x.2.2.2
 unfold Tryz.natOut
 split
 ·simp
  omega
 ·simp
  omega
theorem Tryz.natOut_all {len : Nat} : ∀ (pre : List (Tryz.Dig len)), (pre.flatMap fun x => Tryz.natOut len x.1).length <= 9 * pre.length
 | [] => Nat.le_refl _
 | x :: r => by
  have := Tryz.natOut_len x
  have := Tryz.natOut_all r
  simp only [List.flatMap_cons, List.length_append, List.length_cons]
  omega
set_option maxHeartbeats 2000000 in
theorem Tryz.nat_text (b off len cap : Nat) (zs : List Int) (h0 : 0 < len) (hreach : len <= 1073741824) (hd : ∀ j, j < len -> 0 <= zs[j]?.getD 0 /\ zs[j]?.getD 0 < 1000000000) (w : World) (hb : b < w.heap.size) (hw2 : 7 < w.heap.size)
  (htab : Lib.TabIs Tryz.prog w "internal/strconv.uint64pow10" .u64 Lib.pow10Tab)
  (hI : ∀ j, j < len -> w.cell? ⟨b, off + j, none⟩ = some (.int .u32 (zs[j]?.getD 0))) :
  Calls Tryz.prog 184 #[.slice (some ⟨b, off, none⟩) len cap] w fun e W' => e = .returned (.string ⟨((Tryz.upto (Tryz.digAt zs len h0 hd) len).flatMap fun x => Tryz.natOut len x.1).toArray⟩) /\ Below w.heap.size w W' := by
 refine (callsIn_wide (n := 5)).1 ?_
 refine callsIn_of_wp_marks Tryz.func184 rfl trivial ?_ rfl
 simp only [Tryz.ntmps184, List.size_toArray, List.length_cons, List.length_nil, Nat.reduceAdd, Nat.reduceSub, Array.replicate_succ, Array.replicate_zero, List.push_toArray, List.append_toArray, List.nil_append, List.cons_append]
 have hne : decide ((len : Int) = 0) = false := decide_eq_false (by omega)
 gi_wp2_with (first | (refine ⟨trivial, ?_⟩; gi_at_call 154; refine (Tryz.natZero _ _ trivial rfl _ _ _ _).mono ?_; rintro e w' ⟨rfl, rfl⟩; rw [hne]) | (refine ⟨trivial, ?_⟩; gi_at_call 214; refine (Tryz.back_in _ _ trivial rfl _ _ _ _).mono ?_; rintro e w' ⟨rfl, rfl⟩))
 have bX := Boxed.new w 129 (.slice (some ⟨b, off, none⟩) len cap)
 obtain ⟨W0, hW0⟩ : ∃ W0, (((w.alloc (.cells #[.slice (some ⟨b, off, none⟩) len cap] 129)).alloc (.cells #[.pointer none, .slice none 0 0] 195)).alloc (.cells #[.slice (some ⟨b, off, none⟩) len cap] 129)) = W0 := ⟨_, rfl⟩
 rw [hW0]
 have hsz : W0.heap.size = w.heap.size + 3 := by rw [<- hW0]; simp
 have hB0 : Below w.heap.size w W0 := by rw [<- hW0]; exact (((Below.refl _ w).alloc (Nat.le_refl _) _).alloc (by simp) _).alloc (by simp; omega) _
 have hbk : W0.heap[w.heap.size + 1]? = some (.cells #[.pointer none, .slice none 0 0] 195 (0, 0)) := by
  rw [<- hW0]
  exact (Below.heap_alloc _ _ _ (by simp)).trans (by have := World.alloc_heap_new (w.alloc (.cells #[.slice (some ⟨b, off, none⟩) len cap] 129)) (.cells #[.pointer none, .slice none 0 0] 195); rwa [World.size_alloc] at this)
 have hBs : W0.heap[w.heap.size + 2]? = some (.cells #[.slice (some ⟨b, off, none⟩) len cap] 129 (0, 0)) := by
  rw [<- hW0]
  have := World.alloc_heap_new ((w.alloc (.cells #[.slice (some ⟨b, off, none⟩) len cap] 129)).alloc (.cells #[.pointer none, .slice none 0 0] 195)) (.cells #[.slice (some ⟨b, off, none⟩) len cap] 129)
  rwa [World.size_alloc, World.size_alloc] at this
 have hbb : Tryz.BB (w.heap.size + 3) (w.heap.size + 1) [] W0 := ⟨by omega, by omega, _, _, .inl rfl, hbk, rfl, .inl ⟨rfl, rfl⟩⟩
 refine wpIn_rangeFunc_ownG rfl (by omega) (gf := 238) (lb := #[.pointer (some ⟨w.heap.size + 1 + 1, 0, none⟩)]) rfl trivial (enters_of Tryz.func238 (by kernel_rfl) rfl)
  (Tryz.back_stops Tryz.encD (Tryz.digAt zs len h0 hd) _ _ trivial rfl (by omega) (w.heap.size + 2) b off len cap zs (by omega) (fun k hk => by unfold Tryz.encD Tryz.digAt; rw [dif_pos hk]) W0 (by omega) (by omega) (by rw [Lib.cell_of_heap hBs]; rfl) (fun j hj => (hB0.cell (p := ⟨b, off + j, none⟩) hb).trans (hI j hj)))
  (fun h k => h.trans k) ?kb (Below.refl _ _) (fun _ => rfl)
  (fun pre W => Tryz.BB (w.heap.size + 3) (w.heap.size + 1) (Lib.byteCells (pre.flatMap fun x => Tryz.natOut len x.1)) W /\ (∀ k, k < w.heap.size + 3 -> k ≠ w.heap.size + 1 -> W.heap[k]? = W0.heap[k]?) /\ Below w.heap.size w W)
  (fun _ _ _ => False) ?hI (fun _ _ _ _ _ hs _ _ => hs) ⟨hbb, fun _ _ _ => rfl, hB0⟩
  (fun x => { tmps := #[.slice (some ⟨b, off, none⟩) len cap, .pointer (some ⟨w.heap.size, 0, none⟩), .string ⟨#[]⟩, .pointer (some ⟨w.heap.size + 1, 0, none⟩), .int .i64 (x.1.1 : Int), .int .u32 x.1.2, undef, .slice (some ⟨b, off, none⟩) len cap, .bool false, .slice (some ⟨b, off, none⟩) len cap, .func (.func 238) #[] #[.pointer (some ⟨w.heap.size + 1 + 1, 0, none⟩)], .int .i64 (x.1.1 : Int), .int .u32 x.1.2, undef, undef, undef, undef, undef, undef, undef, undef, undef, undef, undef, undef, undef, undef, undef, undef], defers := [] }) ?assign ?body ?done ?stop
 case kb =>
  intro W l o o' hl _ _ _
  exact ⟨World.putObj_heap_other (by omega), World.putObj_heap_other (by omega)⟩
 case hI =>
  rintro pre A C row ⟨h1, h2, h3⟩ hg hr
  have hsA := h1.2.1
  refine ⟨h1.kept hg (fun r e => ⟨by have := (hr r e).1; omega, (hr r e).2⟩), fun k hk hk' => (hg.block k (by omega) (fun e => ?_)).trans (h2 k hk hk'), h3.grown hg (by omega) (fun k e => by have := (hr k e).1; omega)⟩
  have := (hr k e.symm).1
  omega
 case assign =>
  intro l x W K hK
  unfold Tryz.encD
  gi_wp2
  exact hK
 case body =>
  rintro l pre x W ⟨h1, h2, h3⟩ hlen
  have cX : W.cell? ⟨w.heap.size, 0, none⟩ = some (.slice (some ⟨b, off, none⟩) len cap) := by
   refine (Tryz.cell_eq (p := ⟨w.heap.size, 0, none⟩) (h2 w.heap.size (by omega) (by omega))).trans ?_
   rw [<- hW0]
   exact ((bX.alloc _).alloc _).cell
  obtain ⟨⟨i, d⟩, hi, hd0, hd1⟩ := x
  dsimp only at hi hd0 hd1 ⊢
  have hidx : (i : Int) < len := by omega
  have htW : Lib.TabIs Tryz.prog W "internal/strconv.uint64pow10" .u64 Lib.pow10Tab := by
   have hg2 : Tryz.prog.globalNamed "internal/strconv.uint64pow10" = some 7 := by kernel_rfl
   have e : W.heap[7]? = w.heap[7]? := (h2 7 (by omega) (by omega)).trans (hB0.block 7 hw2)
   unfold Lib.TabIs World.var? at htab ⊢
   rw [hg2, Option.bind_some] at htab ⊢
   rw [e]
   exact htab
  have hlen1 : 1 <= (Lib.itoa d).length /\ (Lib.itoa d).length <= 9 := Tryz.itoa_len hd0 hd1
  have hKc : ∀ {A C : World}, Tryz.KB (w.heap.size + 3) (w.heap.size + 1) A C -> A.cell? ⟨w.heap.size, 0, none⟩ = some (.slice (some ⟨b, off, none⟩) len cap) -> C.cell? ⟨w.heap.size, 0, none⟩ = some (.slice (some ⟨b, off, none⟩) len cap) :=
   fun h hc => (Tryz.cell_eq (p := ⟨w.heap.size, 0, none⟩) (h.1 w.heap.size (by omega) (by omega))).trans hc
  have hIt : CallsIn (Fence.wide.inRound l) 2 Tryz.prog 128 #[.int .i64 d] W fun e w1 => e = .returned (.string ⟨(Lib.itoa d).toArray⟩) /\ Tryz.KB (w.heap.size + 3) (w.heap.size + 1) W w1 /\ Tryz.BB (w.heap.size + 3) (w.heap.size + 1) (Lib.byteCells (pre.flatMap fun x => Tryz.natOut len x.1)) w1 /\
    w1.cell? ⟨w.heap.size, 0, none⟩ = some (.slice (some ⟨b, off, none⟩) len cap) :=
   (CallsIn.inRound l (callsIn_wide.2 (Tryz.strconv_Itoa d (by omega) (by omega) W htW))).mono fun e w1 ⟨he, k1, os1, hw1⟩ => by
    subst hw1
    have hk := Tryz.KB.grow W h1.2.1 h1.1 k1 os1
    exact ⟨he, hk, h1.kept (Tryz.grow_by W k1 os1) (fun r e => by cases e), hKc hk cX⟩
  have hWr : ∀ (s : ByteArray) (bs : List Value) (A : World), Tryz.BB (w.heap.size + 3) (w.heap.size + 1) bs A -> bs.length + s.size <= 140737488355328 -> A.cell? ⟨w.heap.size, 0, none⟩ = some (.slice (some ⟨b, off, none⟩) len cap) ->
    CallsIn (Fence.wide.inRound l) 2 Tryz.prog 210 #[.pointer (some ⟨w.heap.size + 1, 0, none⟩), .string s] A fun e A' => e = .returned (.tuple #[.int .i64 s.size, .nilIface]) /\ Tryz.BB (w.heap.size + 3) (w.heap.size + 1) (bs ++ Lib.strCells s) A' /\ Tryz.KB (w.heap.size + 3) (w.heap.size + 1) A A' /\
     A'.cell? ⟨w.heap.size, 0, none⟩ = some (.slice (some ⟨b, off, none⟩) len cap) := fun s bs A hA hl hc =>
   (CallsIn.inRound l (callsIn_wide.2 (Tryz.natWrite _ _ bs s A hA hl))).mono fun e A' ⟨he, hb', hk⟩ => ⟨he, hb', hk, hKc hk hc⟩
  have hbl : (Lib.byteCells (pre.flatMap fun x => Tryz.natOut len x.1)).length <= 100000000000000 := by
   have := Tryz.natOut_all pre
   rw [Lib.byteCells_length]
   omega
  have hs8 : ∀ m : Nat, m <= 8 -> (ByteArray.extract ⟨#[48, 48, 48, 48, 48, 48, 48, 48]⟩ 0 m) = ⟨(List.replicate m 48).toArray⟩ := by
   intro m hm
   have : m = 0 \/ m = 1 \/ m = 2 \/ m = 3 \/ m = 4 \/ m = 5 \/ m = 6 \/ m = 7 \/ m = 8 := by omega
   rcases this with rfl | rfl | rfl | rfl | rfl | rfl | rfl | rfl | rfl <;> rfl
  have hsz0 : (⟨Array.replicate (9 - (Lib.itoa d).length) 48⟩ : ByteArray).size = 9 - (Lib.itoa d).length := by simp [ByteArray.size]
  have hsz1 : (⟨(Lib.itoa d).toArray⟩ : ByteArray).size = (Lib.itoa d).length := by simp [ByteArray.size]
  have hcz : (Lib.strCells ⟨Array.replicate (9 - (Lib.itoa d).length) 48⟩).length = 9 - (Lib.itoa d).length := by simp [Lib.strCells]
  have hl9 : 9 - (Lib.itoa d).length <= 8 := by omega
  have hz := hs8 (9 - (Lib.itoa d).length) hl9
  gi_wp2_with (refine ⟨trivial, ?_⟩; gi_at_call 128; refine hIt.mono ?_; rintro e w1 ⟨rfl, k1, b1, cX1⟩)
  ·refine ⟨trivial, ?_⟩
   refine (hWr ⟨Array.replicate (9 - (Lib.itoa d).length) 48⟩ _ w1 b1 (by rw [hsz0]; omega) cX1).mono ?_
   rintro e w2 ⟨rfl, b2, k2, cX2⟩
   gi_wp2
   refine ⟨trivial, ?_⟩
   refine (hWr _ _ w2 b2 (by rw [hsz1, List.length_append, hcz]; omega) cX2).mono ?_
   rintro e w3 ⟨rfl, b3, k3, cX3⟩
   gi_wp2
   have hlt : i < len - 1 := by omega
   have hk := (k1.trans k2).trans k3
   refine ⟨hk.2.2.from _, ⟨hk.1 b (by omega) (by omega), hk.1 (w.heap.size + 2) (by omega) (by omega)⟩, ?_, fun k hk1 hk2 => (hk.1 k hk1 hk2).trans (h2 k hk1 hk2), h3.trans (hk.2.1.mono (by omega))⟩
   have e : Lib.byteCells ((pre ++ [(⟨(i, d), hi, hd0, hd1⟩ : Tryz.Dig len)]).flatMap fun x => Tryz.natOut len x.1) = Lib.byteCells (pre.flatMap fun x => Tryz.natOut len x.1) ++ Lib.strCells ⟨Array.replicate (9 - (Lib.itoa d).length) 48⟩ ++ Lib.strCells ⟨(Lib.itoa d).toArray⟩ := by
    rw [List.flatMap_append, Lib.byteCells_append, List.append_assoc]
    congr 1
    simp [Tryz.natOut, hlt, Lib.byteCells, Lib.strCells]
   rw [e]
   exact b3
  ·refine ⟨trivial, ?_⟩
   refine (hWr _ _ w1 b1 (by rw [hsz1]; omega) cX1).mono ?_
   rintro e w2 ⟨rfl, b2, k2, cX2⟩
   gi_wp2
   have hlt : ¬i < len - 1 := by omega
   have hk := k1.trans k2
   refine ⟨hk.2.2.from _, ⟨hk.1 b (by omega) (by omega), hk.1 (w.heap.size + 2) (by omega) (by omega)⟩, ?_, fun k hk1 hk2 => (hk.1 k hk1 hk2).trans (h2 k hk1 hk2), h3.trans (hk.2.1.mono (by omega))⟩
   have e : Lib.byteCells ((pre ++ [(⟨(i, d), hi, hd0, hd1⟩ : Tryz.Dig len)]).flatMap fun x => Tryz.natOut len x.1) = Lib.byteCells (pre.flatMap fun x => Tryz.natOut len x.1) ++ Lib.strCells ⟨(Lib.itoa d).toArray⟩ := by
    rw [List.flatMap_append, Lib.byteCells_append]
    congr 1
    simp [Tryz.natOut, hlt, Lib.byteCells, Lib.strCells]
   rw [e]
   exact b2
 case done =>
  rintro D ys W hD hys ⟨h1, h2, h3⟩ hK
  have hyl : ys.length = len := by rw [hys, Tryz.upto_length]
  have hne : (ys.flatMap fun x => Tryz.natOut len x.1) ≠ [] := by
   cases ys with
   | nil => simp at hyl; omega
   | cons x r =>
    have := (Tryz.itoa_len x.2.2.1 x.2.2.2).1
    intro e
    simp only [List.flatMap_cons, List.append_eq_nil_iff, Tryz.natOut] at e
    rw [e.1.2] at this
    simp at this
  have hle : (ys.flatMap fun x => Tryz.natOut len x.1).length <= 100000000000000 := by
   have := Tryz.natOut_all ys
   omega
  have hSt := (callsIn_wide (n := 4)).2 (Tryz.natString _ _ _ hne hle W h1)
  gi_wp2_with (refine ⟨trivial, ?_⟩; gi_at_call 212; refine hSt.mono ?_; rintro e w4 ⟨rfl, hk⟩)
  have hK' := hk.2.2.same D _ hK rfl
  refine ⟨by simp, .inl ⟨_, _, rfl, run_takeDeferred hK', ?_⟩⟩
  exact ⟨_, results_tmp rfl _ _ _, by simp, (h3.trans (hk.2.1.mono (by omega))).trans (belowK_b (w := w) (Nat.le_refl _) w4 D _ _ (by omega) hK' rfl rfl)⟩
 case stop =>
  rintro D c pre W hD _ h _
  exact h.elim
end Go.Proofs
namespace Go.Proofs
open Go.RowKit Go.Shelf
attribute [local go_sem] Oper.semAt_some
set_option maxRecDepth 100000
theorem Tryz.repeat_one (m : Nat) : Lib.repeatL [48] m = List.replicate m (48 : UInt8) := by
 induction m with
 | zero => rfl
 | succ m ih => 
  simp [Lib.repeatL, List.replicate_succ] at ih ⊢
  exact ih
theorem Tryz.list_all (r : List Int) : (List.range r.length).map (fun k => r[k]?.getD 0) = r := by
 apply List.ext_getElem
 ·simp
 ·intro i h1 h2
  simp [h2]
theorem Tryz.natText_eq (zs : List Int) (len : Nat) (hz : zs.length = len) (h0 : 0 < len) (hd : ∀ j, j < len -> 0 <= zs[j]?.getD 0 /\ zs[j]?.getD 0 < 1000000000) :
  ((Tryz.upto (Tryz.digAt zs len h0 hd) len).flatMap fun x => Tryz.natOut len x.1) = Go.Fe.natText zs := by
 have hg : ∀ k, k < len -> (Tryz.digAt zs len h0 hd k).1 = (len - 1 - k, zs[len - 1 - k]?.getD 0) := fun k hk => by unfold Tryz.digAt; rw [dif_pos hk]
 obtain ⟨m, rfl⟩ : ∃ m, len = m + 1 := ⟨len - 1, by omega⟩
 unfold Go.Fe.natText
 have hr : zs.reverse.length = m + 1 := by simpa using hz
 have hrk : ∀ k, k < m + 1 -> zs.reverse[k]? = zs[m - k]? := fun k hk => by
  rw [List.getElem?_reverse (by omega), hz]
  congr 1
 cases hrev : zs.reverse with
 | nil => rw [hrev] at hr; simp at hr
 | cons d r =>
  rw [hrev] at hr hrk
  have hrl : r.length = m := by simpa using hr
  have h1 : zs[m]? = some d := by
   have := hrk 0 (by omega)
   simpa using this.symm
  dsimp only
  unfold Tryz.upto
  rw [List.flatMap_map, List.range_succ_eq_map, List.flatMap_cons, List.flatMap_map]
  congr 1
  ·rw [hg 0 (by omega)]
   simp [Tryz.natOut, h1]
  ·have e : ∀ k ∈ List.range m, Tryz.natOut (m + 1) (Tryz.digAt zs (m + 1) h0 hd (k + 1)).1 = Go.Fe.pad9 (r[k]?.getD 0) := fun k hk => by
    have hk' := List.mem_range.1 hk
    have h2 := hrk (k + 1) (by omega)
    rw [hg (k + 1) (by omega)]
    have e1 : m + 1 - 1 - (k + 1) = m - (k + 1) := by omega
    rw [e1, <- h2]
    have e2 : m - (k + 1) < m := by omega
    simp [Tryz.natOut, Go.Fe.pad9, Tryz.repeat_one, e2]
   have e3 : (List.range m).flatMap (fun k => Tryz.natOut (m + 1) (Tryz.digAt zs (m + 1) h0 hd (k + 1)).1) = (List.range m).flatMap fun k => Go.Fe.pad9 (r[k]?.getD 0) := by
    simp only [List.flatMap]
    congr 1
    exact List.map_congr_left e
   refine e3.trans ?_
   rw [<- hrl, List.flatMap_def]
   conv => rhs; rw [<- Tryz.list_all r]
   rw [List.map_map]
   rfl
theorem Tryz.nat_empty (a : Option Addr) (cap : Nat) (w : World) : Calls Tryz.prog 184 #[.slice a 0 cap] w fun e W' => e = .returned (.string ⟨#[48]⟩) /\ Below w.heap.size w W' := by
 refine (callsIn_wide (n := 5)).1 ?_
 refine callsIn_of_wp Tryz.func184 rfl trivial ?_ rfl
 simp only [Tryz.ntmps184, List.size_toArray, List.length_cons, List.length_nil, Nat.reduceAdd, Nat.reduceSub, Array.replicate_succ, Array.replicate_zero, List.push_toArray, List.append_toArray, List.nil_append, List.cons_append]
 have hne : decide (((0 : Nat) : Int) = 0) = true := rfl
 gi_wp2_with (refine ⟨trivial, ?_⟩; gi_at_call 154; refine (Tryz.natZero _ _ trivial rfl _ _ _ _).mono ?_; rintro e w' ⟨rfl, rfl⟩; rw [hne])
 go_ret
 exact ⟨rfl, (Below.refl _ w).alloc (Nat.le_refl _) _⟩
open Go.Fe in
theorem Tryz.okNatText {glob : Glob} (hg : glob 7 = some ⟨.arr 20 (.int .u64), some Lib.pow10Tab⟩) : FnOK Tryz.prog glob 184 (shelfSem [.sl (.int .u32)] [.str] sNatText) := fn_shelf (fun F w x y vs hF hG hf hr => by
 obtain ⟨v1, q1, rfl, h1, hr⟩ := ra_cons.1 hr
 have := ra_nil.1 hr; subst this
 obtain ⟨cs, h1, hv⟩ := h1
 simp only [RepT] at h1
 obtain ⟨a, cap, rfl, hcap, hx⟩ := h1
 have hv : v1 = .slice a x.1.length cap := by simpa [pack, Ty.agg] using hv
 subst hv
 unfold sNatText at hf
 split at hf
 ·rename_i hb
  cases hf
  have hn : Tryz.prog.globalNamed "internal/strconv.uint64pow10" = some 7 := by kernel_rfl
  obtain ⟨c, T, fr, z, hFg, hrep, hx2, hsz⟩ := hG 7 _ hg
  have hh := hF _ _ hFg
  have htab : Lib.TabIs Tryz.prog w "internal/strconv.uint64pow10" .u64 Lib.pow10Tab := by
   rw [hx2 _ rfl] at hrep
   unfold Lib.TabIs World.var?
   simp only [hn, Option.bind_some, hh, Option.some.injEq]
   simp only [RepT] at hrep
   obtain ⟨hl, hcl, hel⟩ := hrep
   simp only [Ty.size, Nat.mul_one] at hl hcl hel hsz
   apply Array.ext'
   apply List.ext_getElem?
   intro j
   by_cases hj : j < 20
   ·have := hel j (by rw [Lib.pow10Tab_length]; exact hj)
    have h2 := congrArg (fun l => l[0]?) this
    simp only [List.drop_zero, List.getElem?_take, List.getElem?_drop, Nat.add_zero] at h2
    rw [if_pos (by omega), if_pos (by omega)] at h2
    rw [h2]
    simp [List.getElem?_eq_getElem (show j < Lib.pow10Tab.length by rw [Lib.pow10Tab_length]; exact hj)]
   ·rw [List.getElem?_eq_none (by simp; omega), List.getElem?_eq_none (by simp [Lib.pow10Tab_length]; omega)]
  have hw2 : 7 < w.heap.size := by
   rcases Nat.lt_or_ge 7 w.heap.size with h' | h'
   ·exact h'
   ·rw [Array.getElem?_eq_none h'] at hh
    cases hh
  have hd : ∀ j, j < x.1.length -> 0 <= x.1[j]?.getD 0 /\ x.1[j]?.getD 0 < 1000000000 := fun j hj => by
   have := List.all_eq_true.1 hb.2 x.1[j] (List.getElem_mem _)
   simpa [hj] using this
  by_cases h0 : 0 < x.1.length
  ·rcases hx with hx | ⟨b, off, c', T', fr', rfl, hFb, hel⟩
   ·rw [hx] at h0
    cases h0
   have hhb := hF _ _ hFb
   have hbl : b < w.heap.size := by
    rcases Nat.lt_or_ge b w.heap.size with h' | h'
    ·exact h'
    ·rw [Array.getElem?_eq_none h'] at hhb
     cases hhb
   refine (Tryz.nat_text b off x.1.length cap x.1 h0 hb.1 hd w hbl hw2 htab (fun j hj => ?_)).mono fun e w' ⟨he, hw⟩ => ⟨⟨[_], he, ra1 (rv_str.2 ?_)⟩, sameOld_below hw⟩
   ·have h2 := hel j hj
    simp only [Ty.size, Nat.mul_one] at h2
    have h3 := congrArg (fun l => l[0]?) h2
    simp only [List.getElem?_take, List.getElem?_drop, Nat.add_zero] at h3
    rw [if_pos (by omega)] at h3
    rw [Lib.cell_of_heap hhb, <- Array.getElem?_toList, h3]
    simp [hj]
   ·rw [Tryz.natText_eq x.1 x.1.length rfl h0 hd]
  ·have hx0 : x.1 = [] := by
    cases hx1 : x.1 with
    | nil => rfl
    | cons _ _ => rw [hx1] at h0; simp at h0
   rw [hx0]
   refine (Tryz.nat_empty a cap w).mono fun e w' ⟨he, hw⟩ => ⟨⟨[_], he, ra1 (rv_str.2 rfl)⟩, sameOld_below hw⟩
 ·cases hf)
end Go.Proofs
