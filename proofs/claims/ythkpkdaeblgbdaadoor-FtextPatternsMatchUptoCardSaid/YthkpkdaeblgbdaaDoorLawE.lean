/- The reference's matching as a whole, and the law. -/
import Derived.Test.YthkpkdaeblgbdaaDoorLawD
namespace Go.Proofs.YthkpkdaeblgbdaaDoor
open Go Go.Fe

/-- A step of the reference. -/
def stepS (T : List Str) (c : Str) (esc : Bool) (Q : Nat → Prop) (i : Nat) : Prop := if c = [42] ∧ esc = false then ∃ j, j ≤ i ∧ Q j else ∃ j, i = j + 1 ∧ Q j ∧ (((c = [63] ∧ esc = false) ∧ j < T.length) ∨ T[j]? = some c)
theorem l3_tail {T : List Str} (hn : T.length ≤ 100000) (c : Str) (esc : Bool) (rest : List Str) (Q : Nat → Prop) {X : List Bool} (hX : X = bl (T.length + 1) Q) {Y : List Bool} (hY : Y = bl (T.length + 1) (fun _ => False)) :
    ((cond (decide (c = [42])) (some ((), (), (!esc), X, Y, ())) (some ((), (), false, X, Y, ())) : Option TA2).bind fun r13 =>
      cond r13.2.2.1
      ((loop (chanceryref2_matches_l1 r13) ((), (), false, 0, r13.2.2.2.1, r13.2.2.2.2.1, ())).bind fun r17 =>
      some ((), r17.2.1, ()))
      ((loop (chanceryref2_matches_l2 T (rest, (), (), c, X, Y, ()) ((), (), esc, X, Y, ())) ((), (), 0, r13.2.2.2.1, r13.2.2.2.2.1, ())).bind fun r23 =>
      some ((), r23.2.1, ())) : Option TA3) = some ((), bl (T.length + 1) (stepS T c esc Q), ()) := by
  have h1 := fun r hr => (many_halts (n := T.length + 1) (by omega) r hr Q).loop (by omega)
  have h2 := fun r12 r9 => (one_halts hn r12 r9 Q).loop (by omega)
  subst hX hY
  by_cases hc : c = [42]
  · cases esc with
    | false =>
      rw [decide_eq_true hc, cond_true, Option.bind_some]
      simp only [Bool.not_false, cond_true]
      rw [h1 _ (bl_len _ _), Option.bind_some]
      refine congrArg (fun x => some ((), x, ())) (bl_congr fun i _ => ?_)
      unfold stepS
      rw [if_pos ⟨hc, rfl⟩]
    | true =>
      rw [decide_eq_true hc, cond_true, Option.bind_some]
      simp only [Bool.not_true, cond_false]
      rw [h2, Option.bind_some]
      refine congrArg (fun x => some ((), x, ())) (bl_congr fun i _ => ?_)
      unfold stepS
      rw [if_neg (fun h => absurd h.2 (by decide))]
  · rw [decide_eq_false hc, cond_false, Option.bind_some]
    simp only [cond_false]
    rw [h2, Option.bind_some]
    refine congrArg (fun x => some ((), x, ())) (bl_congr fun i _ => ?_)
    unfold stepS
    rw [if_neg (fun h => hc h.1)]
theorem l3_step {T : List Str} (hn : T.length ≤ 100000) (c : Str) (r : List Str) (Q : Nat → Prop) :
    chanceryref2_matches_l3 T (c :: r, (), bl (T.length + 1) Q, ()) =
      match r with
      | d :: r' => if c = [126] ∧ (d = [63] ∨ d = [42] ∨ d = [126]) then some (.inl (r', (), bl (T.length + 1) (stepS T d true Q), ())) else some (.inl (r, (), bl (T.length + 1) (stepS T c false Q), ()))
      | [] => some (.inl (r, (), bl (T.length + 1) (stepS T c false Q), ())) := by
  have w : IntKind.i64.wrap ((T.length : Int) + 1) = ((T.length + 1 : Nat) : Int) := wsuc (by omega)
  have hmk : mk ((T.length + 1 : Nat) : Int) ((T.length + 1 : Nat) : Int) false = some (bl (T.length + 1) (fun _ => False)) := mk_bl (by omega)
  have e0 : (0 : Int) < ((c :: r).length : Int) := by rw [List.length_cons]; omega
  have hcut : cut (c :: r) 1 ((c :: r).length : Int) = some r := by
    rw [show (1 : Int) = ((1 : Nat) : Int) from rfl, cut_nat (by rw [List.length_cons]; omega) (Nat.le_refl _), List.take_length]
    rfl
  have hidx : idx (c :: r) 0 = some c := rfl
  unfold chanceryref2_matches_l3
  simp only [e0, decide_true, cond_true, w, hmk, Option.bind_some, hcut, hidx]
  cases r with
  | nil =>
    by_cases h : c = [126]
    · simp only [h, decide_true, cond_true, List.length_nil, show ((0 : Nat) : Int) = 0 from rfl, Int.lt_irrefl, decide_false, cond_false, Option.bind_some]
      refine (congrArg (fun x => Option.bind x _) (l3_tail hn [126] false [] Q rfl rfl)).trans rfl
    · simp only [h, decide_false, cond_false, Option.bind_some]
      refine (congrArg (fun x => Option.bind x _) (l3_tail hn c false [] Q rfl rfl)).trans rfl
  | cons d r' =>
    have hd : (0 : Int) < ((d :: r').length : Int) := by rw [List.length_cons]; omega
    have hcut2 : cut (d :: r') 1 ((d :: r').length : Int) = some r' := by
      rw [show (1 : Int) = ((1 : Nat) : Int) from rfl, cut_nat (by rw [List.length_cons]; omega) (Nat.le_refl _), List.take_length]
      rfl
    have hidx2 : idx (d :: r') 0 = some d := rfl
    by_cases h : c = [126]
    · by_cases h1 : d = [63]
      · refine Eq.trans ?_ (if_pos (show c = [126] ∧ (d = [63] ∨ d = [42] ∨ d = [126]) from ⟨h, .inl h1⟩)).symm
        simp only [h, decide_true, cond_true, hd, hidx2, decide_eq_true h1, Option.bind_some, hcut2]
        exact (congrArg (fun x => Option.bind x _) (l3_tail hn d true r' Q rfl rfl)).trans rfl
      · by_cases h2 : d = [42]
        · refine Eq.trans ?_ (if_pos (show c = [126] ∧ (d = [63] ∨ d = [42] ∨ d = [126]) from ⟨h, .inr (.inl h2)⟩)).symm
          simp only [h, decide_true, cond_true, cond_false, hd, hidx2, decide_eq_false h1, decide_eq_true h2, Option.bind_some, hcut2]
          have g := l3_tail hn d true r' Q rfl rfl
          rw [decide_eq_true h2, cond_true, Option.bind_some] at g
          exact (congrArg (fun x => Option.bind x _) g).trans rfl
        · by_cases h3 : d = [126]
          · refine Eq.trans ?_ (if_pos (show c = [126] ∧ (d = [63] ∨ d = [42] ∨ d = [126]) from ⟨h, .inr (.inr h3)⟩)).symm
            simp only [h, decide_true, cond_true, cond_false, hd, hidx2, decide_eq_false h1, decide_eq_false h2, decide_eq_true h3, Option.bind_some, hcut2]
            have g := l3_tail hn d true r' Q rfl rfl
            rw [decide_eq_false h2, cond_false, Option.bind_some] at g
            exact (congrArg (fun x => Option.bind x _) g).trans rfl
          · refine Eq.trans ?_ (if_neg (show ¬ (c = [126] ∧ (d = [63] ∨ d = [42] ∨ d = [126])) from by rintro ⟨_, h | h | h⟩ <;> contradiction)).symm
            subst h
            simp only [decide_true, cond_true, cond_false, hd, hidx2, decide_eq_false h1, decide_eq_false h2, decide_eq_false h3, Option.bind_some]
            exact (congrArg (fun x => Option.bind x _) (l3_tail hn [126] false (d :: r') Q rfl rfl)).trans rfl
    · refine Eq.trans ?_ (if_neg (show ¬ (c = [126] ∧ (d = [63] ∨ d = [42] ∨ d = [126])) from fun h' => h h'.1)).symm
      simp only [h, decide_false, cond_false, Option.bind_some]
      exact (congrArg (fun x => Option.bind x _) (l3_tail hn c false (d :: r') Q rfl rfl)).trans rfl

/-! ### All pieces -/
theorem at_ch {S : List Str} (hS : ∀ e ∈ S, e ≠ []) {e : Str} (he : e ≠ []) (j : Nat) : (S.map ch)[j]? = some (ch e) ↔ (S.map chrOf)[j]? = some (chrOf e) := by
  rw [List.getElem?_map, List.getElem?_map]
  cases h : S[j]? with
  | none => simp
  | some x =>
    have hx := hS x (List.mem_of_getElem? h)
    simp only [Option.map_some, Option.some.injEq]
    exact (chr_inj hx he).symm
theorem ch_63 {e : Str} (h : e ≠ []) : ch e = [63] ↔ chrOf e = 63 := ch_ascii h (k := 63) (by omega)
theorem ch_42 {e : Str} (h : e ≠ []) : ch e = [42] ↔ chrOf e = 42 := ch_ascii h (k := 42) (by omega)
theorem ch_126 {e : Str} (h : e ≠ []) : ch e = [126] ↔ chrOf e = 126 := ch_ascii h (k := 126) (by omega)
theorem step_esc {S : List Str} (hS : ∀ e ∈ S, e ≠ []) {e : Str} (he : e ≠ []) (Q : Nat → Prop) (i : Nat) : stepS (S.map ch) (ch e) true Q i ↔ stepR (S.map chrOf) (chrOf e, false, false, ()) Q i := by
  unfold stepS stepR
  rw [if_neg (fun h => absurd h.2 (by decide)), if_neg (by simp)]
  simp only [at_ch hS he]
  simp
theorem step_plain {S : List Str} (hS : ∀ e ∈ S, e ≠ []) {e : Str} (he : e ≠ []) (Q : Nat → Prop) (i : Nat) :
    stepS (S.map ch) (ch e) false Q i ↔ stepR (S.map chrOf) (chrOf e, decide (chrOf e = 63), decide (chrOf e = 42), ()) Q i := by
  unfold stepS stepR
  simp only [at_ch hS he, ch_63 he, ch_42 he, decide_eq_true_eq, and_true, List.length_map]
theorem l3_halts {S : List Str} (hS : ∀ e ∈ S, e ≠ []) (hn : S.length ≤ 100000) : ∀ (n : Nat) (E : List Str) (Q : Nat → Prop), E.length ≤ n → E.length ≤ 100000 → (∀ e ∈ E, e ≠ []) →
    Halts (chanceryref2_matches_l3 (S.map ch)) n (E.map ch, (), bl (S.length + 1) Q, ()) ((), bl (S.length + 1) (RR (S.map chrOf) (pcs (E.map chrOf)) Q), ())
  | n, [], Q, _, _, _ => Halts.done (by
    simp only [chanceryref2_matches_l3, List.map_nil, List.length_nil, show ((0 : Nat) : Int) = 0 from rfl, Int.lt_irrefl, decide_false, cond_false]
    rfl)
  | n + 1, [e], Q, h1, h2, h3 => by
    have he := h3 e (List.mem_singleton.2 rfl)
    have hs := l3_step (T := S.map ch) (by rw [List.length_map]; exact hn) (ch e) [] Q
    rw [List.length_map] at hs
    refine Halts.step hs ?_
    rw [bl_congr fun i _ => step_plain hS he Q i]
    exact l3_halts hS hn n [] _ (by simp) (by simp) (by simp)
  | n + 1, e :: d :: r, Q, h1, h2, h3 => by
    have he := h3 e (by simp)
    have hd := h3 d (by simp)
    have hr : ∀ x ∈ r, x ≠ [] := fun x hx => h3 x (by simp [hx])
    have hr' : ∀ x ∈ d :: r, x ≠ [] := fun x hx => h3 x (List.mem_cons_of_mem _ hx)
    simp only [List.length_cons] at h1 h2
    have hs := l3_step (T := S.map ch) (by rw [List.length_map]; exact hn) (ch e) ((d :: r).map ch) Q
    rw [show (S.map ch).length = S.length from List.length_map ..] at hs
    simp only [List.map_cons, ch_126 he, ch_126 hd, ch_63 hd, ch_42 hd] at hs ⊢
    by_cases hc : chrOf e = 126 ∧ (chrOf d = 63 ∨ chrOf d = 42 ∨ chrOf d = 126)
    · rw [if_pos hc] at hs
      rw [pcs, if_pos hc]
      refine Halts.step hs ?_
      rw [bl_congr fun i _ => step_esc hS hd Q i]
      exact l3_halts hS hn n r _ (by omega) (by omega) hr
    · rw [if_neg hc] at hs
      rw [pcs, if_neg hc]
      refine Halts.step hs ?_
      rw [bl_congr fun i _ => step_plain hS he Q i]
      exact l3_halts hS hn n (d :: r) _ (by rw [List.length_cons]; omega) (by rw [List.length_cons]; omega) hr'
theorem matches_eq {S E : List Str} (hS : ∀ e ∈ S, e ≠ []) (hE : ∀ e ∈ E, e ≠ []) (hn : S.length ≤ 100000) (he : E.length ≤ 100000) :
    chanceryref2_matches (E.map ch) (S.map ch) = some (db (RR (S.map chrOf) (pcs (E.map chrOf)) (fun i => i = 0) S.length), ()) := by
  have w : IntKind.i64.wrap (((S.map ch).length : Int) + 1) = ((S.length + 1 : Nat) : Int) := by rw [List.length_map]; exact wsuc (by omega)
  have hmk : mk ((S.length + 1 : Nat) : Int) ((S.length + 1 : Nat) : Int) false = some (bl (S.length + 1) (fun _ => False)) := mk_bl (by omega)
  have hset : (bl (S.length + 1) (fun _ => False)).set (0 : Int).toNat true = bl (S.length + 1) (fun i => i = 0) := by
    rw [show (0 : Int).toNat = 0 from rfl, bl_set]
    refine bl_congr fun i _ => ?_
    by_cases h : i = 0 <;> simp [h]
  have hin : inb 0 (bl (S.length + 1) (fun _ => False)).length = true := by rw [bl_len]; exact inb_nat (i := 0) (by omega)
  have hlp := (l3_halts hS hn E.length E (fun i => i = 0) (Nat.le_refl _) he hE).loop (by omega)
  have hin2 : ∀ P, inb ((S.map ch).length : Int) (bl (S.length + 1) P).length = true := fun P => by rw [bl_len, List.length_map]; exact inb_nat (by omega)
  unfold chanceryref2_matches
  simp only [w, hmk, Option.bind_some, hin, chk_t, hset, hlp, hin2]
  rw [List.length_map, Int.toNat_natCast, bl_get (by omega)]
theorem Matches_ref {p s : Str} (hp : p.length ≤ 60) (hs : s.length ≤ 200) :
    chanceryref2_Matches p s = some (db (RR (codes (lowS s)) (pcs (codes (lowS p))) (fun i => i = 0) (codes (lowS s)).length), ()) := by
  have h1 := sufs_len (lowS p).length (lowS p)
  have h2 := sufs_len (lowS s).length (lowS s)
  rw [lowS_len] at h1 h2
  unfold chanceryref2_Matches
  rw [rLower_eq (s := p) (by omega), Option.bind_some, Runes_eq (by rw [lowS_len]; omega), Option.bind_some, rLower_eq (s := s) (by omega), Option.bind_some, Runes_eq (by rw [lowS_len]; omega), Option.bind_some]
  have hm := matches_eq (S := sufs (lowS s).length (lowS s)) (E := sufs (lowS p).length (lowS p)) (sufs_ne _ _) (sufs_ne _ _) (by rw [lowS_len]; omega) (by rw [lowS_len]; omega)
  unfold codes
  rw [List.length_map]
  exact (congrArg (fun x => Option.bind x _) hm).trans rfl
theorem Matches_same {p s : Str} (hp : p.length ≤ 60) (hs : s.length ≤ 200) : ftext_Matches p s = chanceryref2_Matches p s := by
  obtain ⟨b, h1, h2⟩ := Matches_prog hp hs
  rw [h1, Matches_ref hp hs]
  have : b = db (RR (codes (lowS s)) (pcs (codes (lowS p))) (fun i => i = 0) (codes (lowS s)).length) := by rw [Bool.eq_iff_iff, h2, db_iff]
  rw [this]
theorem Matches_some {p s : Str} (hp : p.length ≤ 60) (hs : s.length ≤ 200) : ∃ b, chanceryref2_Matches p s = some (b, ()) := ⟨_, Matches_ref hp hs⟩
theorem const1 : chanceryref2_Matches [114, 63, 100, 42] [82, 97, 100, 105, 111] = some (true, ()) := by kernel_rfl
theorem const2 : chanceryref2_Matches [97, 126, 42] [97, 98] = some (false, ()) := by kernel_rfl
theorem ftext_law (p s : Str) : chancerylaw2_FtextPatternsMatch p s = some (true, ()) := by
  unfold chancerylaw2_FtextPatternsMatch
  rw [Matches_same (by decide) (by decide), const1, Option.bind_some, Bool.not_true, cond_false, Matches_same (by decide) (by decide), const2, Option.bind_some, Option.bind_some, cond_false]
  have hcut : ∀ (s : Str) (k : Nat), cut s 0 (mn (s.length : Int) (k : Int)) = some (s.take (min s.length k)) := by
    intro s k
    have e : mn (s.length : Int) (k : Int) = ((min s.length k : Nat) : Int) := by
      unfold mn
      split <;> omega
    rw [e, show (0 : Int) = ((0 : Nat) : Int) from rfl, cut_nat (by omega) (by omega), List.drop_zero]
  rw [show (60 : Int) = ((60 : Nat) : Int) from rfl, show (200 : Int) = ((200 : Nat) : Int) from rfl, hcut, hcut, Option.bind_some, Option.bind_some]
  have h1 : (p.take (min p.length 60)).length ≤ 60 := by rw [List.length_take]; omega
  have h2 : (s.take (min s.length 200)).length ≤ 200 := by rw [List.length_take]; omega
  rw [Matches_same h1 h2]
  obtain ⟨b, hb⟩ := Matches_some h1 h2
  rw [hb, Option.bind_some, Option.bind_some]
  simp
end Go.Proofs.YthkpkdaeblgbdaaDoor
