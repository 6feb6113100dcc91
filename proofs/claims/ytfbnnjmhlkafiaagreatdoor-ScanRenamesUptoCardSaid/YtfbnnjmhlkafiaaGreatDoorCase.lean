/- A world in which the library's tables of letters' cases lie as they are laid. -/
import Derived.Test.YtfbnnjmhlkafiaaGreatDoorRows
import Derived.Lib.LaidIn
import Derived.Lib.LaidCaseMet
import Derived.PinnedBridge
import Derived.LaidMore
import Derived.ProofKit
import Derived.KernelRfl
namespace Go.Proofs.YtfbnnjmhlkafiaaGreatDoor
open Go Go.RowKit Go.Lib Go.Shelf

def caseRen : Go.Shelf.Ren := ⟨fun | 274 => 139 | n => n, fun | 21 => 21 | 162 => 142 | 160 => 140 | 3 => 3 | 4 => 4 | 46 => 137 | 0 => 0 | 208 => 155 | 51 => 151 | 206 => 153 | n => n, fun | 13 => 3 | n => n⟩
theorem caseLays : Go.Proofs.Lays.n274 Tryz.prog caseRen := {
  mixed := by kernel_rfl
  f274 := Tryz.func139.trans (congrArg some (by kernel_rfl))
  t0 := Tryz.underlying0
  a0 := Tryz.isAgg0
  z0 := Tryz.sizeOf0
  v0 := Tryz.zeroValue0
  t3 := Tryz.underlying3
  a3 := Tryz.isAgg3
  z3 := Tryz.sizeOf3
  v3 := Tryz.zeroValue3
  t4 := Tryz.underlying4
  a4 := Tryz.isAgg4
  z4 := Tryz.sizeOf4
  v4 := Tryz.zeroValue4
  t21 := Tryz.underlying21
  a21 := Tryz.isAgg21
  z21 := Tryz.sizeOf21
  v21 := Tryz.zeroValue21
  t46 := Tryz.underlying137
  a46 := Tryz.isAgg137
  z46 := Tryz.sizeOf137
  v46 := Tryz.zeroValue137
  t51 := Tryz.underlying151
  a51 := Tryz.isAgg151
  z51 := Tryz.sizeOf151
  v51 := Tryz.zeroValue151
  t160 := Tryz.underlying140
  a160 := Tryz.isAgg140
  z160 := Tryz.sizeOf140
  v160 := Tryz.zeroValue140
  t162 := Tryz.underlying142
  a162 := Tryz.isAgg142
  z162 := Tryz.sizeOf142
  v162 := Tryz.zeroValue142
  t208 := Tryz.underlying155
  a208 := Tryz.isAgg155
  z208 := Tryz.sizeOf155
  v208 := Tryz.zeroValue155 }
theorem case206 : Tryz.prog.underlying (caseRen.t 206) = some (.array 3 (caseRen.t 21)) := Tryz.underlying153
theorem caseX : CaseExtra Tryz.prog caseRen := ⟨by kernel_rfl, by kernel_rfl, by kernel_rfl, by kernel_rfl, by kernel_rfl, by kernel_rfl⟩

/-- What the initialisers lay. -/
noncomputable def world0 (os : Os) : World := World.doorLaid Tryz.prog 400 os
/-- With the library's own tables. -/
noncomputable def caseWorld (os : Os) : World :=
  { world0 os with heap := (((world0 os).heap.modify 5 fun
      | .cells _ t frozen => .cells (Go.Pinned.utf8FirstZ.map fun z => Value.int .u8 (z : Nat)).toArray t frozen
      | o => o).setIfInBounds 3 (.cells #[.slice (some ⟨(world0 os).heap.size, 0, none⟩) caseA.size caseA.size] 142 (0, 0))).push (.cells caseCells5 155 (0, 0)) }
noncomputable def caseMem (os : Os) (args : Array Value) : World := ((caseWorld os).forCall (fun _ _ => 0) ⟨#[], args, []⟩).memory
theorem caseMem_heap (os : Os) (args : Array Value) : (caseMem os args).heap = (caseWorld os).heap := rfl
theorem size0 (os : Os) : 3 < (world0 os).heap.size := of_decide_eq_true (by kernel_rfl)
theorem case_var (os : Os) (args : Array Value) : (caseMem os args).heap[3]? = some (.cells #[.slice (some ⟨(world0 os).heap.size, 0, none⟩) caseA.size caseA.size] 142 (0, 0)) := by
  rw [caseMem_heap]
  have h := size0 os
  simp only [caseWorld]
  rw [Array.getElem?_push_lt (by simpa using h), Array.getElem_setIfInBounds_self]
theorem case_blk (os : Os) (args : Array Value) : (caseMem os args).heap[(world0 os).heap.size]? = some (.cells caseCells5 155 (0, 0)) := by
  rw [caseMem_heap]
  simp only [caseWorld]
  have e : ∀ (X : Array Obj) (c : Obj) (n : Nat), X.size = n → (X.push c)[n]? = some c := fun X c n h => by subst h; simp
  exact e _ _ _ (by simp)

/-- The variables ahead of the table. -/
noncomputable def frontVars : List (String × DataW Unit) := Rows.scanRenamesUptoRow.laid.take 9
noncomputable def frontRun (os : Os) (args : Array Value) := DataW.laidRun Tryz.prog (caseMem os args) 8 (frontVars.map (·.1))
noncomputable def frontBlocks (os : Os) (args : Array Value) : List Nat := ((frontRun os args).map fun x => (x.2.map fun p => p.block).eraseDups).getD []
theorem front_in (os : Os) (args : Array Value) : LaidIn Tryz.prog (caseMem os args) frontVars (frontBlocks os args) :=
  LaidIn.of_run _ 8 (by kernel_rfl) (by kernel_rfl) (by kernel_rfl) (by kernel_rfl)
set_option maxRecDepth 100000 in
theorem case_at (w : World) (R : Nat) (h3 : 3 < R) (hvar : w.heap[3]? = some (.cells #[.slice (some ⟨R, 0, none⟩) caseA.size caseA.size] 142 (0, 0))) (hblk : w.heap[R]? = some (.cells caseCells5 155 (0, 0))) :
    LaidIn Tryz.prog w [("unicode.CaseRanges", caseData)] [3, R] := by
  have hT := caseTab_of_block hblk
  have hread := case_slice_reads caseLays case206 caseX hT caseA_wf (by rw [caseA_size]; unfold maxLen; omega) 0
  rw [case_rows_data] at hread
  have hv : w.var? Tryz.prog "unicode.CaseRanges" = some #[.slice (some ⟨R, 0, none⟩) caseA.size caseA.size] := by
    have n13 : Tryz.prog.globalNamed "unicode.CaseRanges" = some 3 := caseX.n13
    simp [World.var?, n13, hvar]
  have hb := rows_block [((⟨3, 0, none⟩ : Addr), 1), (⟨R, 0, none⟩, caseA.size * 5)]
  have hn := rows_nodup [((⟨3, 0, none⟩ : Addr), 1), (⟨R, 0, none⟩, caseA.size * 5)] (by simp; omega)
  simp only [List.flatMap_cons, List.flatMap_nil, List.append_nil, List.map_cons, List.map_nil] at hb hn
  refine LaidIn.one (g := 3) (t := 142) (cs := #[.slice (some ⟨R, 0, none⟩) caseA.size caseA.size]) (fuel := 0 + 4) (p := MemPlace.row ⟨R, 0, none⟩ (caseA.size * 5)) _ caseX.n13 caseX.y13 hv hread hn ?_ hb
  intro b off hp
  rcases List.mem_append.1 hp with hp | hp
  · obtain ⟨i, hi, e⟩ := MemPlace.mem_row.1 hp
    cases e
    refine ⟨⟨_, _, hvar⟩, fun u v hc => ?_⟩
    obtain rfl : i = 0 := by simpa using hi
    rw [Lib.cell_of_heap hvar] at hc
    simp at hc
  · obtain ⟨i, hi, e⟩ := MemPlace.mem_row.1 hp
    cases e
    refine ⟨⟨_, _, hblk⟩, fun u v hc => ?_⟩
    have hlt : i / 5 < caseA.size := Nat.div_lt_of_lt_mul (by rw [Nat.mul_comm]; exact hi)
    obtain ⟨c0, c1, c2, c3, c4⟩ := hT (i / 5) hlt
    clear hlt hi hT hread hb hn hv hvar
    have hi5 : 0 + i = 0 + i / 5 * 5 + i % 5 := by omega
    simp only at hc
    rw [hi5] at hc
    have hm : i % 5 < 5 := Nat.mod_lt _ (by omega)
    match hk : i % 5, hm with
    | 0, _ => rw [hk, Nat.add_zero, c0] at hc; cases hc
    | 1, _ => rw [hk, c1] at hc; cases hc
    | 2, _ => rw [hk, c2] at hc; cases hc
    | 3, _ => rw [hk, c3] at hc; cases hc
    | 4, _ => rw [hk, c4] at hc; cases hc
theorem case_in (os : Os) (args : Array Value) : LaidIn Tryz.prog (caseMem os args) [("unicode.CaseRanges", Rows.laid_unicode_CaseRanges)] [3, (world0 os).heap.size] := by
  have hd : Rows.laid_unicode_CaseRanges = caseData := Pinned.caseRanges_eq
  rw [hd]
  exact case_at _ _ (size0 os) (case_var os args) (case_blk os args)
theorem last_in (os : Os) (args : Array Value) : LaidIn Tryz.prog (caseMem os args) [("unicode/utf8.first", Rows.laid_unicode_utf8_first)] [5] :=
  LaidIn.of_run _ 8 (by kernel_rfl) (by kernel_rfl) (by kernel_rfl) (by kernel_rfl)
theorem case_met (os : Os) (args : Array Value) : laidMet Tryz.prog Rows.scanRenamesUptoRow.laid (caseMem os args) :=
  (((front_in os args).append ((case_in os args).append (last_in os args) (by kernel_rfl)) (by kernel_rfl))).met
end Go.Proofs.YtfbnnjmhlkafiaaGreatDoor
