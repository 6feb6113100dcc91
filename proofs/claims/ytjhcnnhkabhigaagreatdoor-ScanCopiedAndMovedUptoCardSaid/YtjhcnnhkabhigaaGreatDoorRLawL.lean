import Derived.Test.YtjhcnnhkabhigaaGreatDoorRLawK
namespace Go.Proofs.YtjhcnnhkabhigaaGreatDoor
open Go Go.Fe

/-! ### References that move with a block -/
abbrev BlkD := Int × (Int × (Int × (Int × Unit)))
def blkErr (b : BlkD) (d e : Int) : Int := if ins b.1 = true ∧ ins b.2.1 = true ∧ 1 ≤ b.2.2.1 ∧ b.2.2.1 ≤ 1073741824 ∧ 1 ≤ b.2.2.2.1 ∧ b.2.2.2.1 ≤ 1073741824 ∧ isFar d = false ∧ isFar e = false then 0 else 2
theorem blk_eq {b : BlkD} {d e : Int} : chancerylaw2_blockError b d e = some (blkErr b d e, ()) := by
  obtain ⟨r, c, h, w, u⟩ := b
  unfold chancerylaw2_blockError blkErr
  dsimp only
  rw [lfar_eq, lfar_eq]
  by_cases g1 : r < 0
  · simp [g1, ins, show ¬0 ≤ r by omega]
  by_cases g2 : 1073741824 ≤ r
  · simp [g1, g2, ins, show ¬r < 1073741824 by omega]
  by_cases g3 : c < 0
  · simp [g1, g2, g3, ins, show ¬0 ≤ c by omega]
  by_cases g4 : 1073741824 ≤ c
  · simp [g1, g2, g3, g4, ins, show ¬c < 1073741824 by omega]
  by_cases g5 : h < 1
  · simp [g1, g2, g3, g4, g5, show ¬1 ≤ h by omega]
  by_cases g6 : 1073741824 < h
  · simp [g1, g2, g3, g4, g5, g6, show ¬h ≤ 1073741824 by omega]
  by_cases g7 : w < 1
  · simp [g1, g2, g3, g4, g5, g6, g7, show ¬1 ≤ w by omega]
  by_cases g8 : 1073741824 < w
  · simp [g1, g2, g3, g4, g5, g6, g7, g8, show ¬w ≤ 1073741824 by omega]
  have a1 : ins r = true := by simp [ins]; omega
  have a2 : ins c = true := by simp [ins]; omega
  simp only [g1, g2, g3, g4, g5, g6, g7, g8, decide_false, cond_false, Option.bind_some, a1, a2, true_and]
  cases isFar d <;> cases isFar e <;> simp [show 1 ≤ h by omega, show h ≤ 1073741824 by omega, show 1 ≤ w by omega, show w ≤ 1073741824 by omega]
theorem blk_ok {b : BlkD} {d e : Int} (h : blkErr b d e = 0) : ins b.1 = true ∧ ins b.2.1 = true ∧ 1 ≤ b.2.2.1 ∧ b.2.2.1 ≤ 1073741824 ∧ 1 ≤ b.2.2.2.1 ∧ b.2.2.2.1 ≤ 1073741824 ∧ isFar d = false ∧ isFar e = false := by
  unfold blkErr at h
  split at h
  · rename_i g; exact g
  · cases h
abbrev ZR : RefD := ([], 0, 0, 0, 0, 0, false, false, false, false, ())
/-- What is asked of the block ahead of the move. -/
theorem moved_pre {x : RefD} {b : BlkD} {d e : Int} : (((cellref_permitted b.1).bind fun v3 =>
  cond (!v3.1)
  (some ((), (), (), true, x, b, ZR, ()))
  ((cellref_permitted b.2.1).bind fun v4 =>
  cond ((!v4.1))
  (some ((), (), (), true, x, b, ZR, ()))
  (cond ((decide (b.2.2.1 < 1)))
  (some ((), (), (), true, x, b, ZR, ()))
  (cond ((decide (1073741824 < b.2.2.1)))
  (some ((), (), (), true, x, b, ZR, ()))
  (cond ((decide (b.2.2.2.1 < 1)))
  (some ((), (), (), true, x, b, ZR, ()))
  (cond ((decide (1073741824 < b.2.2.2.1)))
  (some ((), (), (), true, x, b, ZR, ()))
  ((cellref_far d).bind fun v5 =>
  cond (v5.1)
  (some ((), (), (), true, x, b, ZR, ()))
  ((cellref_far e).bind fun v6 =>
  some ((), (), (), v6.1, x, b, ZR, ())))))))))) = some ((), (), (), decide (blkErr b d e ≠ 0), x, b, ZR, ()) := by
  obtain ⟨r, c, h, w, u⟩ := b
  dsimp only
  rw [permitted_ins, permitted_ins, far_eq, far_eq]
  unfold blkErr
  dsimp only
  cases a1 : ins r with
  | false => simp
  | true =>
    cases a2 : ins c with
    | false => simp
    | true =>
      by_cases g5 : h < 1
      · simp [g5, show ¬1 ≤ h by omega]
      by_cases g6 : 1073741824 < h
      · simp [g5, g6, show ¬h ≤ 1073741824 by omega]
      by_cases g7 : w < 1
      · simp [g5, g6, g7, show ¬1 ≤ w by omega]
      by_cases g8 : 1073741824 < w
      · simp [g5, g6, g7, g8, show ¬w ≤ 1073741824 by omega]
      simp only [g5, g6, g7, g8, decide_false, cond_false, Option.bind_some, Bool.not_true, true_and]
      cases isFar d <;> cases isFar e <;> simp [show 1 ≤ h by omega, show h ≤ 1073741824 by omega, show 1 ≤ w by omega, show w ≤ 1073741824 by omega]
theorem moved_bad {s : Str} {k r c r2 c2 : Int} {ar ac ar2 ac2 : Bool} {b : BlkD} {d e : Int} (h : refErr s k r c r2 c2 ar ac ar2 ac2 = 0) (hb : blkErr b d e ≠ 0) :
    cellref_Moved (s, k, r, c, r2, c2, ar, ac, ar2, ac2, ()) b d e = some (ZR, 2, ()) := by
  unfold cellref_Moved
  dsimp only
  rw [Check_eq, Option.bind_some]
  dsimp only
  rw [decide_eq_true h, Bool.not_true, cond_false]
  erw [moved_pre]
  rw [Option.bind_some]
  dsimp only
  rw [decide_eq_true hb]
  rfl
theorem mx_max (a b : Int) : mx a b = if b > a then b else a := rfl
theorem moved_eq {s : Str} {k r c r2 c2 : Int} {ar ac ar2 ac2 : Bool} {b : BlkD} {d e : Int} (h : refErr s k r c r2 c2 ar ac ar2 ac2 = 0) (hb : blkErr b d e = 0) :
    ∃ y, cellref_Moved (s, k, r, c, r2, c2, ar, ac, ar2, ac2, ()) b d e = some (y, 0, ()) ∧ chanceryref2_Moved (s, k, r, c, r2, c2, ar, ac, ar2, ac2, ()) b d e = some (y, ()) ∧ errD y = 0 := by
  have hn := (valid h).2.2.1
  obtain ⟨hk, hbf, i1, i2, i3, i4, hs⟩ := ref_ok h
  obtain ⟨j1, j2, j3, j4, j5, j6, hd, he⟩ := blk_ok hb
  have q1 := ins_range i1
  have q2 := ins_range i2
  have q3 := ins_range i3
  have q4 := ins_range i4
  have p1 := ins_range j1
  have p2 := ins_range j2
  obtain ⟨b1, b2, b3, b4, bu⟩ := b
  dsimp only at j1 j2 j3 j4 j5 j6 p1 p2
  have w1 := wrap_mv i1 hd
  have w2 := wrap_mv i2 he
  have w3 := wrap_mv i3 hd
  have w4 := wrap_mv i4 he
  have v1 : IntKind.i64.wrap (b1 + b3) = b1 + b3 := wrap_i64 (by omega) (by omega)
  have v2 : IntKind.i64.wrap (b2 + b4) = b2 + b4 := wrap_i64 (by omega) (by omega)
  have v3 : IntKind.i64.wrap (b1 + b3 - 1) = b1 + b3 - 1 := wrap_i64 (by omega) (by omega)
  have v4 : IntKind.i64.wrap (b2 + b4 - 1) = b2 + b4 - 1 := wrap_i64 (by omega) (by omega)
  have hpre := moved_pre (x := (s, k, r, c, r2, c2, ar, ac, ar2, ac2, ())) (b := (b1, b2, b3, b4, bu)) (d := d) (e := e)
  rw [decide_eq_false (p := blkErr (b1, b2, b3, b4, bu) d e ≠ 0) (by simp [hb])] at hpre
  unfold cellref_Moved
  dsimp only
  rw [Check_eq, Option.bind_some]
  dsimp only
  rw [decide_eq_true h, Bool.not_true, cond_false]
  erw [hpre]
  rw [Option.bind_some]
  dsimp only
  rw [cond_false]
  unfold chanceryref2_Moved
  dsimp only
  rcases hk with rfl | rfl | rfl | rfl | rfl
  · obtain ⟨rfl, rfl, rfl, rfl⟩ : r2 = 0 ∧ c2 = 0 ∧ ar2 = false ∧ ac2 = false := by
      simp [badForm] at hbf
      simpa [and_assoc] using hbf
    have x1 : mx r 0 = r := by unfold mx; split <;> omega
    have x2 : mx c 0 = c := by unfold mx; split <;> omega
    simp only [show decide ((1 : Int) < 0) = false from rfl, decide_true, Bool.not_true, cond_true, cond_false, Option.bind_some, x1, x2, v1, v2, v3, v4]
    by_cases g1 : r < b1
    · simp only [g1, decide_true, cond_true, Option.bind_some]
      exact ⟨_, rfl, rfl, h⟩
    · by_cases g2 : c < b2
      · by_cases g3 : b1 + b3 ≤ r
        · simp only [g1, g2, g3, decide_true, decide_false, cond_true, cond_false, Option.bind_some]
          exact ⟨_, rfl, rfl, h⟩
        · simp only [g1, g2, g3, decide_true, decide_false, cond_true, cond_false, Option.bind_some]
          exact ⟨_, rfl, rfl, h⟩
      · by_cases g3 : b1 + b3 ≤ r
        · have g3' : b1 + b3 - 1 < r := by omega
          simp only [g1, g2, g3, g3', decide_true, decide_false, cond_true, cond_false, Option.bind_some]
          exact ⟨_, rfl, rfl, h⟩
        · have g3' : ¬b1 + b3 - 1 < r := by omega
          by_cases g4 : b2 + b4 ≤ c
          · have g4' : b2 + b4 - 1 < c := by omega
            simp only [g1, g2, g3, g3', g4, g4', decide_true, decide_false, cond_true, cond_false, Option.bind_some]
            exact ⟨_, rfl, rfl, h⟩
          · have g4' : ¬b2 + b4 - 1 < c := by omega
            simp only [g1, g2, g3, g3', g4, g4', decide_true, decide_false, cond_true, cond_false, Option.bind_some, w1, w2, w3, w4, cellref_fitting, cellref_meaning, permitted_ins, inside_ins, show ins 0 = true from rfl, Bool.not_true]
            cases e1 : ins (r + d) <;> cases e2 : ins (c + e) <;> exact ⟨_, rfl, rfl, by first | rfl | ((try dsimp only); exact okD (by omega) hn (by simp [badForm]) e1 e2 rfl rfl (.inl rfl))⟩
  · have hs' : r ≤ r2 ∧ c ≤ c2 := by omega
    have x1 : mx r r2 = r2 := by unfold mx; split <;> omega
    have x2 : mx c c2 = c2 := by unfold mx; split <;> omega
    simp only [show decide ((1 : Int) < 1) = false from rfl, show decide ((1 : Int) = 0) = false from rfl, decide_true, Bool.not_true, Bool.not_false, cond_true, cond_false, Option.bind_some, x1, x2, v1, v2, v3, v4]
    by_cases g1 : r < b1
    · simp only [g1, decide_true, cond_true, Option.bind_some]
      exact ⟨_, rfl, rfl, h⟩
    · by_cases g2 : c < b2
      · by_cases g3 : b1 + b3 ≤ r2
        · simp only [g1, g2, g3, decide_true, decide_false, cond_true, cond_false, Option.bind_some]
          exact ⟨_, rfl, rfl, h⟩
        · simp only [g1, g2, g3, decide_true, decide_false, cond_true, cond_false, Option.bind_some]
          exact ⟨_, rfl, rfl, h⟩
      · by_cases g3 : b1 + b3 ≤ r2
        · have g3' : b1 + b3 - 1 < r2 := by omega
          simp only [g1, g2, g3, g3', decide_true, decide_false, cond_true, cond_false, Option.bind_some]
          exact ⟨_, rfl, rfl, h⟩
        · have g3' : ¬b1 + b3 - 1 < r2 := by omega
          by_cases g4 : b2 + b4 ≤ c2
          · have g4' : b2 + b4 - 1 < c2 := by omega
            simp only [g1, g2, g3, g3', g4, g4', decide_true, decide_false, cond_true, cond_false, Option.bind_some]
            exact ⟨_, rfl, rfl, h⟩
          · have g4' : ¬b2 + b4 - 1 < c2 := by omega
            simp only [g1, g2, g3, g3', g4, g4', decide_false, cond_false, Option.bind_some, w1, w2, w3, w4, cellref_fitting, cellref_meaning, permitted_ins, inside_ins, show decide ((1 : Int) = 2) = false from rfl, show decide ((1 : Int) = 3) = false from rfl, show decide ((1 : Int) = 4) = false from rfl, show decide ((1 : Int) = 0) = false from rfl]
            cases e1 : ins (r + d) <;> cases e2 : ins (c + e) <;> cases e3 : ins (r2 + d) <;> cases e4 : ins (c2 + e) <;> exact ⟨_, rfl, rfl, by first | rfl | ((try dsimp only); exact okD (by omega) hn (by simp [badForm]) e1 e2 e3 e4 (.inr ⟨by omega, by omega⟩))⟩
  · exact ⟨_, rfl, rfl, h⟩
  · exact ⟨_, rfl, rfl, h⟩
  · exact ⟨_, rfl, rfl, h⟩
theorem far_bad {x : RefD} {s : Str} {k r c r2 c2 : Int} {ar ac ar2 ac2 : Bool} {d e : Int} (hx : x = (s, k, r, c, r2, c2, ar, ac, ar2, ac2, ())) (h : refErr s k r c r2 c2 ar ac ar2 ac2 = 0) (hf : (isFar d || isFar e) = true) : cellref_Copied x d e = some (ZR, 2, ()) := by
  subst hx
  simp only [cellref_Copied, Check_eq, h, far_eq, decide_true, Bool.not_true, cond_false, Option.bind_some]
  cases hd : isFar d with
  | true => rfl
  | false =>
    rw [hd, Bool.false_or] at hf
    rw [hf]
    rfl
end Go.Proofs.YtjhcnnhkabhigaaGreatDoor
