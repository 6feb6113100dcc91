import Derived.Test.YtjhcnnhkabhigaaGreatDoorRLawM
namespace Go.Proofs.YtjhcnnhkabhigaaGreatDoor
open Go Go.Fe

/-! ### The two ways to change a reference -/
noncomputable def adjC (d e : Int) (x : RefD) : RefD := ((cellref_Copied x d e).getD (ZR, 0, ())).1
theorem copiedD {d e : Int} (hd : isFar d = false) (he : isFar e = false) {x : RefD} (h : errD x = 0) : cellref_Copied x d e = some (adjC d e x, 0, ()) ∧ chanceryref2_Copied x d e = some (adjC d e x, ()) ∧ errD (adjC d e x) = 0 := by
  obtain ⟨s, k, r, c, r2, c2, ar, ac, ar2, ac2, ⟨⟩⟩ := x
  obtain ⟨y, q1, q2, q3⟩ := copied_eq h hd he
  have e1 : adjC d e (s, k, r, c, r2, c2, ar, ac, ar2, ac2, ()) = y := by
    unfold adjC
    rw [q1]
    rfl
  rw [e1]
  exact ⟨q1, q2, q3⟩
noncomputable def isMeant (o0 : Str) (o1 : Bool) (x : RefD) : Bool := if x.1 = [] then o1 else decide (x.1 = o0)
noncomputable def adjM (o0 : Str) (o1 : Bool) (b : BlkD) (d e : Int) (x : RefD) : RefD := cond (isMeant o0 o1 x) ((cellref_Moved x b d e).getD (ZR, 0, ())).1 x
theorem movedD {b : BlkD} {d e : Int} (hb : blkErr b d e = 0) {x : RefD} (h : errD x = 0) : cellref_Moved x b d e = some (((cellref_Moved x b d e).getD (ZR, 0, ())).1, 0, ()) ∧ chanceryref2_Moved x b d e = some (((cellref_Moved x b d e).getD (ZR, 0, ())).1, ()) ∧ errD ((cellref_Moved x b d e).getD (ZR, 0, ())).1 = 0 := by
  obtain ⟨s, k, r, c, r2, c2, ar, ac, ar2, ac2, ⟨⟩⟩ := x
  obtain ⟨y, q1, q2, q3⟩ := moved_eq h hb
  rw [q1]
  exact ⟨rfl, q2, q3⟩
theorem copied_two {d e : Int} (hd : isFar d = false) (he : isFar e = false) {s : Str} (hs : s.length ≤ 400) : ∃ t : Str, fscan_Copied s d e = some (t, 0, ()) ∧ chanceryref2_Rewritten_ScanCopiedAndMoved_1 s d e = some (t, U2, (d, ()), (e, ()), ()) := by
  obtain ⟨t, q1, q2⟩ := copied_both (adj := adjC d e) (o0 := d) (o1 := e) (fun r h => (copiedD hd he h).2.2) (fun r h => by
    unfold fscan_Copied_1
    dsimp only
    rw [(copiedD hd he h).1]
    rfl) (fun r h => by
    unfold chancerylaw2_ScanCopiedAndMoved_1
    dsimp only
    rw [(copiedD hd he h).2.1]
    rfl) hs
  refine ⟨t, ?_, q2⟩
  have hz := (copiedD hd he (x := ZR) rfl).1
  unfold fscan_Copied
  rw [hz, Option.bind_some]
  dsimp only
  rw [decide_eq_true rfl, Bool.not_true, cond_false, q1]
  rfl
theorem moved_two {o0 : Str} {o1 : Bool} {b : BlkD} {d e : Int} (hb : blkErr b d e = 0) {s : Str} (hs : s.length ≤ 400) :
    ∃ t : Str, fscan_Moved s o0 o1 b d e = some (t, 0, ()) ∧ chanceryref2_Rewritten_ScanCopiedAndMoved_2 s o0 o1 b.1 b.2.1 b.2.2.1 b.2.2.2.1 d e = some (t, U5, (o0, ()), (o1, ()), b, (d, ()), (e, ()), ()) := by
  obtain ⟨m0, m1, m2, m3, ⟨⟩⟩ := b
  obtain ⟨t, q1, q2⟩ := moved_both (adj := adjM o0 o1 (m0, m1, m2, m3, ()) d e) (o0 := o0) (o1 := o1) (m0 := m0) (m1 := m1) (m2 := m2) (m3 := m3) (o3 := d) (o4 := e) (fun r h => by
    unfold adjM
    cases isMeant o0 o1 r with
    | true => exact (movedD hb h).2.2
    | false => exact h) (fun r h => by
    have q := (movedD hb h).1
    unfold fscan_Moved_1 adjM
    dsimp only
    rw [meant_eq, Option.bind_some]
    dsimp only
    rw [show (if r.1 = [] then o1 else decide (r.1 = o0)) = isMeant o0 o1 r from rfl]
    cases isMeant o0 o1 r with
    | true =>
      rw [cond_true, cond_true, q]
      rfl
    | false => rfl) (fun r h => by
    have q := (movedD hb h).2.1
    unfold chancerylaw2_ScanCopiedAndMoved_2 adjM
    dsimp only
    rw [belongs_eq, Option.bind_some]
    dsimp only
    rw [show (if r.1 = [] then o1 else decide (r.1 = o0)) = isMeant o0 o1 r from rfl]
    cases isMeant o0 o1 r with
    | true =>
      rw [cond_true, cond_true, q]
      rfl
    | false => rfl) hs
  refine ⟨t, ?_, q2⟩
  have hz := (movedD hb (x := ZR) rfl).1
  unfold fscan_Moved
  rw [hz, Option.bind_some]
  dsimp only
  rw [decide_eq_true rfl, Bool.not_true, cond_false, q1]
  rfl
theorem far_two {d e : Int} (hf : (isFar d || isFar e) = true) (s : Str) : fscan_Copied s d e = some ([], 2, ()) := by
  have hz := far_bad (x := ZR) rfl rfl hf
  unfold fscan_Copied
  rw [hz]
  rfl
theorem blk_two {o0 : Str} {o1 : Bool} {b : BlkD} {d e : Int} (hb : blkErr b d e ≠ 0) (s : Str) : fscan_Moved s o0 o1 b d e = some ([], 2, ()) := by
  have hz := moved_bad (s := []) (k := 0) (r := 0) (c := 0) (r2 := 0) (c2 := 0) (ar := false) (ac := false) (ar2 := false) (ac2 := false) rfl hb
  unfold fscan_Moved
  rw [hz]
  rfl
theorem blk_two' {b : BlkD} {d e : Int} (hb : blkErr b d e ≠ 0) : blkErr b d e = 2 := by
  unfold blkErr at hb ⊢
  split
  · rename_i g; rw [if_pos g] at hb; exact absurd rfl hb
  · rfl

theorem scanCopiedMoved_law {x a1 : Str} {a2 : Bool} {b : BlkD} {d e : Int} (h : x.length ≤ 2000000) : chancerylaw2_ScanCopiedAndMoved x a1 a2 b d e = some (true, ()) := by
  obtain ⟨s, hs, hl⟩ := long_eq h
  unfold chancerylaw2_ScanCopiedAndMoved
  rw [scans_eq, Option.bind_some]
  dsimp only
  rw [Bool.not_true, cond_false, hs, Option.bind_some]
  dsimp only
  by_cases hf : (isFar d || isFar e) = true
  · have hbe : blkErr b d e ≠ 0 := by
      intro h0
      obtain ⟨_, _, _, _, _, _, j7, j8⟩ := blk_ok h0
      rw [j7, j8] at hf
      cases hf
    rw [far_two hf, Option.bind_some, blk_two hbe, Option.bind_some, lfar_eq, lfar_eq]
    cases hd : isFar d with
    | true => rfl
    | false =>
      rw [hd, Bool.false_or] at hf
      rw [hf]
      rfl
  · have hd : isFar d = false := by
      cases hd : isFar d with
      | false => rfl
      | true => rw [hd] at hf; exact absurd rfl hf
    have he : isFar e = false := by
      cases he : isFar e with
      | false => rfl
      | true => rw [he, hd] at hf; exact absurd rfl hf
    obtain ⟨t, q1, q2⟩ := copied_two hd he hl
    by_cases hb : blkErr b d e = 0
    · obtain ⟨u, r1, r2⟩ := moved_two (o0 := a1) (o1 := a2) hb hl
      simp only [q1, r1, Option.bind_some, lfar_eq, hd, he, cond_false, decide_true, Bool.not_true, q2, blk_eq, hb, cond_true, r2]
    · have r1 := blk_two (o0 := a1) (o1 := a2) hb s
      simp only [q1, r1, Option.bind_some, lfar_eq, hd, he, cond_false, decide_true, Bool.not_true, q2, blk_eq, blk_two' hb, cond_true]
      rfl
end Go.Proofs.YtjhcnnhkabhigaaGreatDoor
