import Derived.Test.YtmbejoibeninmaaGreatDoorLawR
namespace Go.Proofs.YtmbejoibeninmaaGreatDoor
open Go Go.Fe
def isDC (c : UInt8) : Bool := isDigit c || decide (c = 44)
def grpG : Nat -> Str -> Str -> Str × Str
 | 0, d, r => (d, r)
 | k + 1, d, r => if r.head? = some 44 /\ (r.tail.takeWhile isDigit).length = 3 then grpG k (d ++ r.tail.takeWhile isDigit) (r.tail.dropWhile isDigit) else (d, r)
def grp (t : Str) : Str × Str :=
 if (t.takeWhile isDigit).length < 1 \/ 3 < (t.takeWhile isDigit).length then (t.takeWhile isDigit, t.dropWhile isDigit) else grpG 1000000 (t.takeWhile isDigit) (t.dropWhile isDigit)
theorem grpG_cons (k : Nat) (d r : Str) (c : UInt8) : grpG (k + 1) d (c :: r) = if some c = some 44 /\ (r.takeWhile isDigit).length = 3 then grpG k (d ++ r.takeWhile isDigit) (r.dropWhile isDigit) else (d, c :: r) := rfl
theorem grp_halts : ∀ (k : Nat) (d r : Str), r.length <= k -> d.length + r.length < 1000000 -> Halts value_grouped_l1 (k + 1) (d, r, ()) ((grpG k d r).1, (grpG k d r).2, ())
 | 0, d, r, hk, hl => by
  have : r = [] := List.eq_nil_of_length_eq_zero (by omega)
  subst this
  refine Halts.done ?_
  unfold value_grouped_l1
  rw [hasPrefix_eq, Option.bind_some]
  rfl
 | k + 1, d, r, hk, hl => by
  simp only [grpG]
  by_cases h : r.head? = some 44
  ·have h0 := head_ne h
   have hpos := List.length_pos_iff.2 h0
   have hl2 := tw_len r.tail
   have ht : r.tail.length = r.length - 1 := List.length_tail
   have hst : value_grouped_l1 (d, r, ()) = some (if (r.tail.takeWhile isDigit).length = 3 then .inl (d ++ r.tail.takeWhile isDigit, r.tail.dropWhile isDigit, ()) else .inr (d, r, ())) := by
    unfold value_grouped_l1
    rw [hasPrefix_eq, Option.bind_some]
    simp only []
    rw [decide_eq_true h, cond_true, cut_tail h0, Option.bind_some, vdigits_eq (by omega), Option.bind_some]
    simp only []
    by_cases h3 : (r.tail.takeWhile isDigit).length = 3
    ·rw [if_pos h3, decide_eq_true (by omega), Bool.not_true, cond_false, cat_ok (by omega), Option.bind_some]
    ·rw [if_neg h3, decide_eq_false (by omega), Bool.not_false, cond_true]
   by_cases h3 : (r.tail.takeWhile isDigit).length = 3
   ·rw [if_pos h3] at hst
    rw [if_pos ⟨h, h3⟩]
    exact Halts.step hst (grp_halts k _ _ (by omega) (by rw [List.length_append]; omega))
   ·rw [if_neg h3] at hst
    rw [if_neg (fun e => h3 e.2)]
    exact Halts.done hst
  ·rw [if_neg (fun e => h e.1)]
   refine Halts.done ?_
   unfold value_grouped_l1
   rw [hasPrefix_eq, Option.bind_some]
   simp only []
   rw [decide_eq_false h, cond_false]
theorem grpG_fuel : ∀ (k : Nat) (d r : Str) (j : Nat), r.length <= k -> k <= j -> grpG k d r = grpG j d r
 | 0, d, r, j, hk, _ => by
  have : r = [] := List.eq_nil_of_length_eq_zero (by omega)
  subst this
  cases j <;> rfl
 | k + 1, d, r, j + 1, hk, hj => by
  simp only [grpG]
  by_cases h : r.head? = some 44 /\ (r.tail.takeWhile isDigit).length = 3
  ·rw [if_pos h, if_pos h]
   have hl2 := tw_len r.tail
   have ht : r.tail.length = r.length - 1 := List.length_tail
   exact grpG_fuel k _ _ j (by omega) (by omega)
  ·rw [if_neg h, if_neg h]
theorem grouped_eq {t : Str} (h : t.length < 100000) : value_grouped t = some ((grp t).1, (grp t).2, ()) := by
 have hl := tw_len t
 unfold value_grouped grp
 rw [vdigits_eq (by omega), Option.bind_some]
 simp only [cond_some', Option.bind_some]
 by_cases h1 : (t.takeWhile isDigit).length < 1
 ·rw [decide_eq_true (show ((t.takeWhile isDigit).length : Int) < 1 by omega), if_pos (Or.inl h1)]; rfl
 by_cases h3 : 3 < (t.takeWhile isDigit).length
 ·rw [decide_eq_false (show ¬ ((t.takeWhile isDigit).length : Int) < 1 by omega), decide_eq_true (show 3 < ((t.takeWhile isDigit).length : Int) by omega), if_pos (Or.inr h3)]; rfl
 ·rw [decide_eq_false (show ¬ ((t.takeWhile isDigit).length : Int) < 1 by omega), decide_eq_false (show ¬ 3 < ((t.takeWhile isDigit).length : Int) by omega), if_neg (by omega)]
  have hh := (grp_halts (t.dropWhile isDigit).length (t.takeWhile isDigit) (t.dropWhile isDigit) (Nat.le_refl _) (by omega)).loop (by omega)
  rw [grpG_fuel _ _ _ 1000000 (Nat.le_refl _) (by omega)] at hh
  simp only [cond_false]
  rw [hh, Option.bind_some]
theorem tw_pct : ∀ (s : Str), (s ++ [37]).takeWhile isDigit = s.takeWhile isDigit /\ (s ++ [37]).dropWhile isDigit = s.dropWhile isDigit ++ [37]
 | [] => ⟨rfl, rfl⟩
 | c :: r => by
  obtain ⟨h1, h2⟩ := tw_pct r
  rw [List.cons_append, List.takeWhile_cons, List.dropWhile_cons, List.takeWhile_cons, List.dropWhile_cons]
  by_cases h : isDigit c = true
  ·rw [if_pos h, if_pos h, if_pos h, if_pos h, h1, h2]; exact ⟨rfl, rfl⟩
  ·rw [if_neg h, if_neg h, if_neg h, if_neg h]; exact ⟨rfl, rfl⟩
theorem grpG_pct : ∀ (k : Nat) (d r : Str), grpG k d (r ++ [37]) = ((grpG k d r).1, (grpG k d r).2 ++ [37])
 | 0, d, r => rfl
 | k + 1, d, [] => by
  simp only [grpG, List.nil_append]
  rw [if_neg (fun e => by cases e.1), if_neg (fun e => by cases e.1)]
  rfl
 | k + 1, d, c :: r => by
  have h := tw_pct r
  rw [List.cons_append, grpG_cons, grpG_cons, h.1, h.2]
  by_cases e : some c = some 44 /\ (r.takeWhile isDigit).length = 3
  ·rw [if_pos e, if_pos e]; exact grpG_pct k _ _
  ·rw [if_neg e, if_neg e]; rfl
theorem grp_pct (t : Str) : grp (t ++ [37]) = ((grp t).1, (grp t).2 ++ [37]) := by
 have h := tw_pct t
 unfold grp
 rw [h.1, h.2]
 split
 ·rfl
 ·exact grpG_pct _ _ _
theorem grpG_suf : ∀ (k : Nat) (d r : Str), ∃ p, r = p ++ (grpG k d r).2
 | 0, d, r => ⟨[], rfl⟩
 | k + 1, d, r => by
  simp only [grpG]
  by_cases e : r.head? = some 44 /\ (r.tail.takeWhile isDigit).length = 3
  ·rw [if_pos e]
   obtain ⟨p, hp⟩ := grpG_suf k (d ++ r.tail.takeWhile isDigit) (r.tail.dropWhile isDigit)
   cases r with
   | nil => cases e.1
   | cons c q =>
    refine ⟨c :: (q.takeWhile isDigit ++ p), ?_⟩
    rw [List.cons_append, List.append_assoc]
    simp only [List.tail_cons] at hp ⊢
    rw [<- hp, tw_dw]
  ·rw [if_neg e]; exact ⟨[], rfl⟩
theorem grp_suf (t : Str) : ∃ p, t = p ++ (grp t).2 := by
 unfold grp
 split
 ·exact ⟨t.takeWhile isDigit, (tw_dw t).symm⟩
 ·obtain ⟨p, hp⟩ := grpG_suf 1000000 (t.takeWhile isDigit) (t.dropWhile isDigit)
  refine ⟨t.takeWhile isDigit ++ p, ?_⟩
  rw [List.append_assoc, <- hp, tw_dw]
theorem spl_dc : ∀ (s : Str), s.all isDC = true -> ∀ g ∈ spl 44 s, g.all isDigit = true
 | [], _, g, hg => by simp [spl] at hg; rw [hg]; rfl
 | c :: r, h, g, hg => by
  rw [List.all_cons, Bool.and_eq_true] at h
  have ih := spl_dc r h.2
  simp only [spl] at hg
  by_cases e : c = 44
  ·rw [if_pos e] at hg
   rcases List.mem_cons.1 hg with x | x
   ·rw [x]; rfl
   ·exact ih g x
  ·rw [if_neg e] at hg
   rcases List.mem_cons.1 hg with x | x
   ·have hd : isDigit c = true := by
     have := h.1
     unfold isDC at this
     rw [Bool.or_eq_true, decide_eq_true_eq] at this
     exact this.resolve_right e
    rw [x, List.all_cons, hd, ih _ (by rw [<- spl_cons 44 r]; exact List.mem_cons_self ..)]; rfl
   ·exact ih g (List.mem_of_mem_tail x)
theorem cut_dc {s : Str} (h : s.all isDC = true) : (cutB 44 s).1.all isDigit = true /\ (cutB 44 s).2.1.all isDC = true := by
 refine ⟨spl_dc s h _ (by rw [spl_cut]; exact List.mem_cons_self ..), ?_⟩
 have e := cutB_eq 44 s
 cases hp : (cutB 44 s).2.2 with
 | false => rw [cutB_rest hp]; rfl
 | true =>
  rw [hp, cond_true] at e
  rw [e, List.all_append, List.all_cons, Bool.and_eq_true, Bool.and_eq_true] at h
  exact h.2.2
def three (l : List Str) : Bool := l.all fun g => decide (g.length = 3)
theorem tw_end {g B : Str} (h : g.all isDigit = true) (hB : ∀ c, B.head? = some c -> isDC c = false) : (g ++ B).takeWhile isDigit = g /\ (g ++ B).dropWhile isDigit = B := by
 cases B with
 | nil => rw [List.append_nil]; exact ⟨tw_of_all h, all_dw.2 h⟩
 | cons c r =>
  have := hB c rfl
  unfold isDC at this
  rw [Bool.or_eq_false_iff] at this
  exact tw_stop h this.1
theorem groups_eq {B : Str} (hB : ∀ c, B.head? = some c -> isDC c = false) : ∀ (k : Nat) (d A : Str), A.length < k -> A.all isDC = true ->
  (three (spl 44 A) = true -> grpG k d (44 :: (A ++ B)) = (d ++ (spl 44 A).flatten, B)) /\ (three (spl 44 A) = false -> ∃ e r, grpG k d (44 :: (A ++ B)) = (d ++ e, 44 :: r) /\ e.all isDigit = true)
 | 0, d, A, h, _ => absurd h (Nat.not_lt_zero _)
 | k + 1, d, A, h, ha => by
  obtain ⟨h1, h2⟩ := cut_dc ha
  have he := cutB_eq 44 A
  have hs := spl_cut 44 A
  have hlen := cutB_len 44 A
  have nB : ¬ (B.head? = some 44 /\ (B.tail.takeWhile isDigit).length = 3) := fun e => by
   have := hB 44 e.1
   revert this; decide
  rw [grpG_cons]
  cases hp : (cutB 44 A).2.2 with
  | false =>
   rw [hp, cond_false] at he hs
   rw [List.append_nil] at he
   have ht := tw_end (g := (cutB 44 A).1) (B := B) h1 hB
   rw [<- he] at ht hs
   rw [ht.1, ht.2, hs]
   by_cases h3 : A.length = 3
   ·refine ⟨fun _ => ?_, fun x => by simp [three, h3] at x⟩
    rw [if_pos ⟨rfl, h3⟩]
    have hB' : grpG k (d ++ A) B = (d ++ A, B) := by
     cases k with
     | zero => rfl
     | succ k => simp only [grpG]; rw [if_neg nB]
    rw [hB']; simp
   ·refine ⟨fun x => by simp [three, h3] at x, fun _ => ?_⟩
    rw [if_neg (fun e => h3 e.2)]
    exact ⟨[], A ++ B, by rw [List.append_nil], rfl⟩
  | true =>
   rw [hp, cond_true] at he hs
   have ht := tw_stop (a := (cutB 44 A).1) (b := (cutB 44 A).2.1 ++ B) (c := 44) h1 (by decide)
   have eAB : A ++ B = (cutB 44 A).1 ++ 44 :: ((cutB 44 A).2.1 ++ B) := by
    rw [<- List.cons_append, <- List.append_assoc, <- he]
   have hl : (cutB 44 A).2.1.length < A.length := by
    have : A.length = ((cutB 44 A).1 ++ 44 :: (cutB 44 A).2.1).length := congrArg List.length he
    rw [List.length_append, List.length_cons] at this
    omega
   rw [eAB, ht.1, ht.2, hs]
   by_cases h3 : (cutB 44 A).1.length = 3
   ·obtain ⟨i1, i2⟩ := groups_eq hB k (d ++ (cutB 44 A).1) (cutB 44 A).2.1 (by omega) h2
    rw [if_pos ⟨rfl, h3⟩]
    refine ⟨fun x => ?_, fun x => ?_⟩
    ·have hx : three (spl 44 (cutB 44 A).2.1) = true := by simpa [three, h3] using x
     rw [i1 hx, List.flatten_cons, List.append_assoc]
    ·have hx : three (spl 44 (cutB 44 A).2.1) = false := by
      unfold three at x ⊢
      rw [List.all_cons, decide_eq_true h3, Bool.true_and] at x
      exact x
     obtain ⟨e, r, q1, q2⟩ := i2 hx
     exact ⟨(cutB 44 A).1 ++ e, r, by rw [q1, List.append_assoc], by rw [List.all_append, h1, q2]; rfl⟩
   ·refine ⟨fun x => by simp [three, h3] at x, fun _ => ?_⟩
    rw [if_neg (fun e => h3 e.2)]
    exact ⟨[], _, by rw [List.append_nil], rfl⟩
def okGr (A : Str) : Bool := decide ((cutB 44 A).1 ≠ []) && (!(cutB 44 A).2.2 || (decide ((cutB 44 A).1.length <= 3) && three (spl 44 (cutB 44 A).2.1)))
theorem dc_parts (t : Str) : (t.takeWhile isDC).all isDC = true /\ (∀ c, (t.dropWhile isDC).head? = some c -> isDC c = false) := by
 induction t with
 | nil => exact ⟨rfl, fun c h => by cases h⟩
 | cons x r ih =>
  rw [List.takeWhile_cons, List.dropWhile_cons]
  cases h : isDC x with
  | true =>
   rw [if_pos rfl, if_pos rfl, List.all_cons, h]
   exact ⟨ih.1, ih.2⟩
  | false =>
   rw [if_neg (by simp), if_neg (by simp)]
   refine ⟨rfl, fun c hc => ?_⟩
   have : x = c := Option.some.inj hc
   rw [<- this]; exact h
theorem grpG_stop (k : Nat) (d r : Str) (h : ¬ (r.head? = some 44 /\ (r.tail.takeWhile isDigit).length = 3)) : grpG k d r = (d, r) := by
 cases k with
 | zero => rfl
 | succ k => exact if_neg h
theorem grp_key {t : Str} (hl : t.length < 100000) :
  (okGr (t.takeWhile isDC) = true -> grp t = ((spl 44 (t.takeWhile isDC)).flatten, t.dropWhile isDC) /\ (grp t).1.all isDigit = true /\ (grp t).1 ≠ []) /\
  (okGr (t.takeWhile isDC) = false -> (grp t).1 = [] \/ ∃ r, (grp t).2 = 44 :: r /\ (grp t).1.all isDigit = true) := by
 obtain ⟨ha, hB⟩ := dc_parts t
 have hAB : t = t.takeWhile isDC ++ t.dropWhile isDC := List.takeWhile_append_dropWhile.symm
 generalize t.takeWhile isDC = A at *
 generalize t.dropWhile isDC = B at *
 obtain ⟨h1, h2⟩ := cut_dc ha
 have he := cutB_eq 44 A
 have hs := spl_cut 44 A
 unfold okGr
 cases hp : (cutB 44 A).2.2 with
 | false =>
  rw [hp, cond_false] at he hs
  rw [List.append_nil] at he
  have ht := tw_end (g := (cutB 44 A).1) (B := B) h1 hB
  rw [<- he, <- hAB] at ht
  rw [<- he] at hs h1
  rw [<- he]
  have nB : ¬ (B.head? = some 44 /\ (B.tail.takeWhile isDigit).length = 3) := fun e => by
   have := hB 44 e.1
   revert this; decide
  have hg : grp t = (A, B) := by
   unfold grp
   rw [ht.1, ht.2]
   split
   ·rfl
   ·exact grpG_stop _ _ _ nB
  rw [hg, hs]
  refine ⟨fun x => ⟨by simp, h1, ?_⟩, fun x => Or.inl ?_⟩
  ·simpa using x
  ·simpa using x
 | true =>
  rw [hp, cond_true] at he hs
  have eAB : t = (cutB 44 A).1 ++ 44 :: ((cutB 44 A).2.1 ++ B) := by
   rw [<- List.cons_append, <- List.append_assoc, <- he]; exact hAB
  have ht := tw_stop (a := (cutB 44 A).1) (b := (cutB 44 A).2.1 ++ B) (c := 44) h1 (by decide)
  rw [<- eAB] at ht
  have hlq : (cutB 44 A).2.1.length < 100000 := by
   have : t.length = ((cutB 44 A).1 ++ 44 :: ((cutB 44 A).2.1 ++ B)).length := congrArg List.length eAB
   rw [List.length_append, List.length_cons, List.length_append] at this
   omega
  obtain ⟨g1, g2⟩ := groups_eq hB 1000000 (cutB 44 A).1 (cutB 44 A).2.1 (by omega) h2
  by_cases h0 : (cutB 44 A).1 = []
  ·have hg : grp t = ([], 44 :: ((cutB 44 A).2.1 ++ B)) := by
    unfold grp
    rw [ht.1, ht.2, if_pos (Or.inl (by rw [h0]; decide)), h0]
   rw [hg]
   exact ⟨fun x => by simp [h0] at x, fun _ => Or.inl rfl⟩
  by_cases h3 : 3 < (cutB 44 A).1.length
  ·have hg : grp t = ((cutB 44 A).1, 44 :: ((cutB 44 A).2.1 ++ B)) := by
    unfold grp
    rw [ht.1, ht.2, if_pos (Or.inr h3)]
   rw [hg]
   refine ⟨fun x => ?_, fun _ => Or.inr ⟨_, rfl, h1⟩⟩
   rw [decide_eq_false (show ¬ (cutB 44 A).1.length <= 3 by omega)] at x
   simp at x
  ·have hpos := List.length_pos_iff.2 h0
   have hg : grp t = grpG 1000000 (cutB 44 A).1 (44 :: ((cutB 44 A).2.1 ++ B)) := by
    unfold grp
    rw [ht.1, ht.2, if_neg (by omega)]
   rw [hg, decide_eq_true h0, decide_eq_true (show (cutB 44 A).1.length <= 3 by omega), hs]
   cases hth : three (spl 44 (cutB 44 A).2.1) with
   | true =>
    rw [g1 hth]
    refine ⟨fun _ => ⟨rfl, ?_, ?_⟩, fun x => by simp at x⟩
    ·simp only
     rw [List.all_append, h1, Bool.true_and, List.all_flatten, List.all_eq_true]
     exact fun g hg => spl_dc _ h2 g hg
    ·simp only
     exact fun x => h0 (List.append_eq_nil_iff.1 x).1
   | false =>
    obtain ⟨e, r, q1, q2⟩ := g2 hth
    rw [q1]
    exact ⟨fun x => by simp at x, fun _ => Or.inr ⟨r, rfl, by simp only; rw [List.all_append, h1, q2]; rfl⟩⟩
theorem en1_eq (c : UInt8) : chanceryref2_enteredNumber_1 (ofByte c) = some (isDC c, ()) := by
 unfold chanceryref2_enteredNumber_1 isDC
 rw [digit_eq', Option.bind_some]
 have : decide (ofByte c = 44) = decide (c = 44) := ofByte_is c 44 (by omega)
 rw [this]
 cases isDigit c <;> rfl
theorem dspan_halts {s : Str} (h : s.length < 1000000000) : ∀ f i, i + f = s.length -> ∃ r, Halts (chanceryref2_span_enteredNumber_1_l1 s) f ((), (i : Int), ()) r /\
  (match r with | .inl _ => (s.length : Int) | .inr z => z.1) = ((i + ((s.drop i).takeWhile isDC).length : Nat) : Int)
 | 0, i, hi => by
  refine ⟨.inl (), .done ?_, ?_⟩
  ·unfold chanceryref2_span_enteredNumber_1_l1
   dsimp only
   rw [decide_eq_false (by omega), cond_false]
  ·rw [List.drop_of_length_le (by omega)]
   simp
   omega
 | f + 1, i, hi => by
  have hd : s.drop i = s[i] :: s.drop (i + 1) := List.drop_eq_getElem_cons (by omega)
  have hst : chanceryref2_span_enteredNumber_1_l1 s ((), (i : Int), ()) = if isDC s[i] = true then some (.inl ((), ((i + 1 : Nat) : Int), ())) else some (.inr (.inr ((i : Int), ()))) := by
   unfold chanceryref2_span_enteredNumber_1_l1
   dsimp only
   rw [decide_eq_true (by omega), cond_true, idx_lt (by omega), Option.bind_some, en1_eq, Option.bind_some]
   dsimp only
   rw [wsuc (by omega)]
   cases isDC s[i] <;> rfl
  rw [hd, List.takeWhile_cons]
  by_cases hc : isDC s[i] = true
  ·rw [if_pos hc] at hst ⊢
   obtain ⟨r, h1, h2⟩ := dspan_halts h f (i + 1) (by omega)
   refine ⟨r, .step hst h1, ?_⟩
   rw [h2, List.length_cons]
   omega
  ·rw [if_neg hc] at hst ⊢
   exact ⟨.inr ((i : Int), ()), .done hst, by simp⟩
theorem dspan_eq {s : Str} (h : s.length < 1000000000) : chanceryref2_span_enteredNumber_1 s = some (((s.takeWhile isDC).length : Int), ()) := by
 obtain ⟨r, h1, h2⟩ := dspan_halts h s.length 0 (by omega)
 have := h1.loop (by omega)
 rw [List.drop_zero, Nat.zero_add] at h2
 unfold chanceryref2_span_enteredNumber_1
 have this' : loop (chanceryref2_span_enteredNumber_1_l1 s) ((), 0, ()) = some r := this
 rw [this', Option.bind_some, <- h2]
 cases r <;> rfl
theorem rg_step {gs : List Str} {i : Nat} (h : i < gs.length) (hn : gs.length < 1000000) (hd : gs[i].all isDigit = true) (acc : Str) (hl : acc.length + gs[i].length < 1000000) (z : NumD) :
  chanceryref2_enteredNumber_l1 (gs, ()) ((), acc, (i : Int), z, ()) = some (if gs[i] ≠ [] /\ (1 < gs.length -> (i = 0 -> gs[i].length <= 3) /\ (0 < i -> gs[i].length = 3)) then .inl ((), acc ++ gs[i], ((i + 1 : Nat) : Int), z, ()) else .inr (.inr ((), false, (false, ([], ([], ()))), ()))) := by
 have ha : chanceryref2_allDigits gs[i] = some (okD gs[i], ()) := allDigits_eq (by omega)
 unfold chanceryref2_enteredNumber_l1
 simp only []
 rw [decide_eq_true (show (i : Int) < (gs.length : Int) by omega), cond_true, idx_lt h, Option.bind_some, cat_ok (by omega), wsuc (by omega)]
 simp only [ha, Option.bind_some, cond_some', cond_pair, Bool.cond_self]
 by_cases h0 : gs[i] = []
 ·have : okD gs[i] = false := by rw [h0]; rfl
  rw [this, if_neg (fun e => e.1 h0)]; rfl
 ·have hk : okD gs[i] = true := (okD_iff _).2 ⟨h0, hd⟩
  rw [hk]
  simp only [Bool.not_true, cond_false]
  by_cases h1 : 1 < gs.length
  ·rw [decide_eq_true (show (1 : Int) < (gs.length : Int) by omega), cond_true]
   by_cases hi : i = 0
   ·rw [decide_eq_true (show (i : Int) = 0 by omega), cond_true, decide_eq_false (show ¬ (0 : Int) < (i : Int) by omega)]
    by_cases h3 : gs[i].length <= 3
    ·rw [decide_eq_false (show ¬ (3 : Int) < (gs[i].length : Int) by omega), if_pos ⟨h0, fun _ => ⟨fun _ => h3, fun x => by omega⟩⟩]; rfl
    ·rw [decide_eq_true (show (3 : Int) < (gs[i].length : Int) by omega), if_neg (fun e => h3 ((e.2 h1).1 hi))]; rfl
   ·rw [decide_eq_false (show ¬ (i : Int) = 0 by omega), cond_false, decide_eq_true (show (0 : Int) < (i : Int) by omega), cond_true]
    by_cases h3 : gs[i].length = 3
    ·rw [decide_eq_true (show (gs[i].length : Int) = 3 by omega), if_pos ⟨h0, fun _ => ⟨fun x => absurd x hi, fun _ => h3⟩⟩]; rfl
    ·rw [decide_eq_false (show ¬ (gs[i].length : Int) = 3 by omega), if_neg (fun e => h3 ((e.2 h1).2 (by omega)))]; rfl
  ·rw [decide_eq_false (show ¬ (1 : Int) < (gs.length : Int) by omega), cond_false, if_pos ⟨h0, fun x => absurd x h1⟩]; rfl
theorem rg_end {gs : List Str} (acc : Str) (z : NumD) : chanceryref2_enteredNumber_l1 (gs, ()) ((), acc, (gs.length : Int), z, ()) = some (.inr (.inl ((), acc, z, ()))) := by
 unfold chanceryref2_enteredNumber_l1
 rw [decide_eq_false (show ¬ ((gs.length : Int) < (gs.length : Int)) by omega), cond_false]
theorem rg_tail {gs : List Str} (hn : gs.length < 1000000) (hd : ∀ g ∈ gs, g.all isDigit = true) (z : NumD) (h2 : 1 < gs.length) : ∀ (k i : Nat) (acc : Str), i + k = gs.length -> 1 <= i -> acc.length + (gs.drop i).flatten.length < 1000000 ->
  Halts (chanceryref2_enteredNumber_l1 (gs, ())) (k + 1) ((), acc, (i : Int), z, ()) (if three (gs.drop i) = true then .inl ((), acc ++ (gs.drop i).flatten, z, ()) else .inr ((), false, (false, ([], ([], ()))), ()))
 | 0, i, acc, hk, h1, hl => by
  have : i = gs.length := by omega
  subst this
  rw [List.drop_length, if_pos (by rfl), List.flatten_nil, List.append_nil]
  exact Halts.done (rg_end acc z)
 | k + 1, i, acc, hk, h1, hl => by
  have h : i < gs.length := by omega
  rw [List.drop_eq_getElem_cons h] at hl ⊢
  rw [List.flatten_cons, List.length_append] at hl
  have hs := rg_step h hn (hd _ (List.getElem_mem h)) acc (by omega) z
  by_cases h3 : gs[i].length = 3
  ·have h0 : gs[i] ≠ [] := fun e => by rw [e] at h3; simp at h3
   rw [if_pos ⟨h0, fun _ => ⟨fun x => by omega, fun _ => h3⟩⟩] at hs
   have ih := rg_tail hn hd z h2 k (i + 1) (acc ++ gs[i]) (by omega) (by omega) (by rw [List.length_append]; omega)
   have e : three (gs[i] :: gs.drop (i + 1)) = three (gs.drop (i + 1)) := by unfold three; rw [List.all_cons, decide_eq_true h3, Bool.true_and]
   rw [e, List.flatten_cons, <- List.append_assoc]
   exact Halts.step hs ih
  ·rw [if_neg (fun e => h3 ((e.2 h2).2 (by omega)))] at hs
   have e : three (gs[i] :: gs.drop (i + 1)) = false := by unfold three; rw [List.all_cons, decide_eq_false h3, Bool.false_and]
   rw [e, if_neg (by simp)]
   exact Halts.done hs
theorem flat_len (c : UInt8) : ∀ s : Str, (spl c s).flatten.length <= s.length
 | [] => by simp [spl]
 | x :: r => by
  have ih := flat_len c r
  simp only [spl]
  by_cases e : x = c
  ·rw [if_pos e]; simp only [List.flatten_cons, List.nil_append, List.length_cons]; omega
  ·rw [if_neg e]
   rw [<- spl_cons c r, List.flatten_cons, List.length_append] at ih
   simp only [List.flatten_cons, List.length_append, List.length_cons]
   omega
theorem rgroups {A : Str} (ha : A.all isDC = true) (hl : A.length < 100000) (z : NumD) : loop (chanceryref2_enteredNumber_l1 (spl 44 A, ())) ((), [], 0, z, ()) = some (if okGr A = true then .inl ((), (spl 44 A).flatten, z, ()) else .inr ((), false, (false, ([], ([], ()))), ())) := by
 have hs := spl_cut 44 A
 have hlen := spl_len 44 A
 have hd := spl_dc A ha
 have hfl := flat_len 44 A
 have hne := List.length_pos_iff.2 (spl_ne 44 A)
 have h00 : (spl 44 A)[0] = (cutB 44 A).1 := by
  have : (spl 44 A)[0]? = some (cutB 44 A).1 := by rw [hs]; rfl
  rw [List.getElem?_eq_getElem hne] at this
  exact Option.some.inj this
 have hfl0 : (cutB 44 A).1.length <= A.length := (cutB_len 44 A).1
 have h0 := rg_step (gs := spl 44 A) (i := 0) hne (by omega) (hd _ (List.getElem_mem hne)) [] (by rw [h00]; simp; omega) z
 rw [h00, List.nil_append] at h0
 unfold okGr
 by_cases e0 : (cutB 44 A).1 = []
 ·rw [if_neg (fun x => x.1 e0)] at h0
  rw [decide_eq_false (fun x => x e0), Bool.false_and, if_neg (by simp)]
  exact (Halts.done (n := 0) h0).loop (by omega)
 rw [decide_eq_true e0, Bool.true_and]
 cases hp : (cutB 44 A).2.2 with
 | false =>
  rw [hp, cond_false] at hs
  have hl1 : (spl 44 A).length = 1 := by rw [hs]; rfl
  rw [if_pos ⟨e0, fun x => by omega⟩] at h0
  rw [if_pos (by rfl)]
  have hf : (spl 44 A).flatten = (cutB 44 A).1 := by rw [hs]; simp
  rw [hf]
  refine (Halts.step (n := 0) h0 (Halts.done ?_)).loop (by omega)
  have := rg_end (gs := spl 44 A) (cutB 44 A).1 z
  rw [hl1] at this
  exact this
 | true =>
  rw [hp, cond_true] at hs
  have hpos := List.length_pos_iff.2 (spl_ne 44 (cutB 44 A).2.1)
  have hl1 : 1 < (spl 44 A).length := by rw [hs, List.length_cons]; omega
  have hdr : (spl 44 A).drop 1 = spl 44 (cutB 44 A).2.1 := by rw [hs]; rfl
  have hf : (spl 44 A).flatten = (cutB 44 A).1 ++ (spl 44 (cutB 44 A).2.1).flatten := by rw [hs, List.flatten_cons]
  by_cases h3 : (cutB 44 A).1.length <= 3
  ·rw [if_pos ⟨e0, fun _ => ⟨fun _ => h3, fun x => by omega⟩⟩] at h0
   have ht := rg_tail (gs := spl 44 A) (by omega) hd z hl1 ((spl 44 A).length - 1) 1 (cutB 44 A).1 (by omega) (by omega) (by rw [hdr]; rw [hf, List.length_append] at hfl; omega)
   rw [hdr] at ht
   rw [decide_eq_true h3, hf]
   exact (Halts.step h0 ht).loop (by omega)
  ·rw [if_neg (fun x => h3 ((x.2 hl1).1 rfl))] at h0
   rw [decide_eq_false h3, if_neg (by simp)]
   exact (Halts.done (n := 0) h0).loop (by omega)
theorem read_both {u : Str} (h : u.length < 1000000) :
  (∃ f e r e', exact_Parse u = some (f, e, ()) /\ e ≠ 0 /\ chanceryref2_ReadDecimal u = some (r, e', ()) /\ e' ≠ 0) \/
  (∃ f m n d, exact_Parse u = some (f, 0, ()) /\ chanceryref2_ReadDecimal u = some (N10 m n d, 0, ()) /\ W f m n d /\ dl n <= 4000 /\ dl d <= 4000 /\ u.length <= 1000 /\ decOf u ≠ none) := by
 by_cases hl : 1000 < u.length
 ·refine Or.inl ⟨([], [], ()), 3, (false, [], [], ()), 3, ?_, by decide, ?_, by decide⟩
  ·unfold exact_Parse
   rw [decide_eq_true (by omega), cond_true]
  ·unfold chanceryref2_ReadDecimal
   rw [decide_eq_true (by omega), cond_true]
 ·have hp := Parse_eq (s := u) (by omega)
  have hr := ReadDecimal_eq (s := u) (by omega)
  cases hd : decOf u with
  | none =>
   rw [hd] at hp hr
   exact Or.inl ⟨_, _, _, _, hp, by decide, hr, by decide⟩
  | some x =>
   obtain ⟨m, N, e⟩ := x
   rw [hd] at hp hr
   obtain ⟨b1, b2, b3⟩ := decOf_dl (show u.length <= 1000 by omega) hd
   obtain ⟨c1, c2⟩ := fin_dl (N := N) (e := e) b1 b2 b3
   rcases out_cases m (finN N e) (finD e) with ho | ho
   ·have hw := W.of_out (m := m) (n := finN N e) (finD_pos e) ho
    refine Or.inr ⟨_, m, finN N e, finD e, ?_, ?_, hw, c1, c2, by omega, by simp⟩
    ·rw [hp]; exact congrArg some (Prod.ext rfl (Prod.ext ho rfl))
    ·rw [hr]; exact congrArg some (Prod.ext rfl (Prod.ext ho rfl))
   ·refine Or.inl ⟨(fracOut m (finN N e) (finD e)).1, 19, N10 m (finN N e) (finD e), 19, ?_, by decide, ?_, by decide⟩
    ·rw [hp]; exact congrArg some (Prod.ext rfl (Prod.ext ho rfl))
    ·rw [hr]; exact congrArg some (Prod.ext rfl (Prod.ext ho rfl))
def sgT (b : Bool) : Str := bif b then [45] else []
theorem comma_none {b : Bool} {d r : Str} (hd : d.all isDigit = true) : decOf (sgT b ++ (d ++ 44 :: r)) = none := by
 have hbody : ∀ (x : Str), (d = [] -> x.head? = some 44) -> x = d ++ 44 :: r -> signOf x = false := by
  intro x hx e
  rw [e]
  cases hq : d with
  | nil => rfl
  | cons c q =>
   have : signOf (c :: q) = false := signOf_digit (by rw [<- hq]; exact hd)
   exact this
 have hs : signOf (d ++ 44 :: r) = false := hbody _ (fun e => by rw [e]; rfl) rfl
 have hb : body (sgT b ++ (d ++ 44 :: r)) = d ++ 44 :: r := by
  cases b with
  | true => rfl
  | false =>
   show body (d ++ 44 :: r) = _
   unfold body
   rw [hs]; rfl
 have ht := tw_stop (a := d) (b := r) (c := 44) hd (by decide)
 unfold decOf
 simp only [hb, ht.1, ht.2]
 rw [if_neg (by simp)]
 unfold decFin
 have : expo (44 :: r) = none := by rw [expo_cons, if_pos (by decide)]
 rw [this]
theorem comma_bad {b : Bool} {d r : Str} (hd : d.all isDigit = true) (h : (sgT b ++ (d ++ 44 :: r)).length < 1000000) : ∃ f e, exact_Parse (sgT b ++ (d ++ 44 :: r)) = some (f, e, ()) /\ e ≠ 0 := by
 rcases read_both h with ⟨f, e, _, _, h1, h2, _⟩ | ⟨_, _, _, _, _, _, _, _, _, _, h2⟩
 ·exact ⟨f, e, h1, h2⟩
 ·exact absurd (comma_none hd) h2
theorem suf_eq (x : Str) : Lib.hasSuffix x [37] = decide (x.getLast? = some 37) := by
 unfold Lib.hasSuffix
 rcases List.eq_nil_or_concat x with e | ⟨y, c, e⟩
 ·rw [e]; rfl
 ·rw [e, List.concat_eq_append]
  by_cases h : c = 37
  ·subst h
   have h1 : ([37] : Str).isSuffixOf (y ++ [37]) = true := by
    rw [List.isSuffixOf_iff_suffix]; exact List.suffix_append ..
   rw [h1]; simp
  ·have h1 : ([37] : Str).isSuffixOf (y ++ [c]) = false := by
    cases hq : ([37] : Str).isSuffixOf (y ++ [c]) with
    | false => rfl
    | true =>
     rw [List.isSuffixOf_iff_suffix] at hq
     obtain ⟨p, hp⟩ := hq
     have := congrArg List.getLast? hp
     simp at this
     exact absurd this.symm h
   rw [h1]; simp [h]
def isPct (t : Str) : Bool := decide (t.getLast? = some 37)
def noPct (t : Str) : Str := bif isPct t then t.dropLast else t
theorem pct_parts {t : Str} (h : t.length < 100000) : sCutSuffix ((grp t).2, [37], ()) = some ((grp (noPct t)).2, isPct t, ()) /\ (grp t).1 = (grp (noPct t)).1 := by
 obtain ⟨p, hp⟩ := grp_suf t
 have hle : (grp t).2.length <= t.length := by
  have : t.length = (p ++ (grp t).2).length := congrArg List.length hp
  rw [List.length_append] at this; omega
 unfold sCutSuffix
 rw [if_pos (show (grp t).2.length <= 9223372036854775807 by omega)]
 unfold Lib.trimSuffix
 simp only [suf_eq]
 unfold noPct isPct
 by_cases hq : t.getLast? = some 37
 ·have ht : t = t.dropLast ++ [37] := by
   rcases List.eq_nil_or_concat t with e | ⟨y, c, e⟩
   ·rw [e] at hq; cases hq
   ·rw [List.concat_eq_append] at e
    rw [e] at hq ⊢
    have hc : c = 37 := by simpa using hq
    rw [hc]; simp
  have hg : grp t = ((grp t.dropLast).1, (grp t.dropLast).2 ++ [37]) := by
   conv => lhs; rw [ht]
   exact grp_pct _
  rw [hg]
  simp [hq]
 ·have hn : ¬ (grp t).2.getLast? = some 37 := fun e => hq (by
   rw [hp, List.getLast?_append, e]; rfl)
  simp [hq, hn]
theorem grpG_len : ∀ (k : Nat) (d r : Str), (grpG k d r).1.length + (grpG k d r).2.length <= d.length + r.length
 | 0, d, r => Nat.le_refl _
 | k + 1, d, r => by
  simp only [grpG]
  by_cases e : r.head? = some 44 /\ (r.tail.takeWhile isDigit).length = 3
  ·rw [if_pos e]
   have ih := grpG_len k (d ++ r.tail.takeWhile isDigit) (r.tail.dropWhile isDigit)
   rw [List.length_append] at ih
   have hl2 := tw_len r.tail
   have ht : r.tail.length = r.length - 1 := List.length_tail
   omega
  ·rw [if_neg e]; exact Nat.le_refl _
theorem grp_len (t : Str) : (grp t).1.length + (grp t).2.length <= t.length := by
 have hl := tw_len t
 unfold grp
 split
 ·simp only; omega
 ·have := grpG_len 1000000 (t.takeWhile isDigit) (t.dropWhile isDigit)
  omega
theorem num_prog {s : Str} (h0 : s ≠ []) (hs : s.length < 40000) {d r : Str} (hd : (grp (noPct (expBody s))).1 = d) (hr : (grp (noPct (expBody s))).2 = r) (hl : d.length + r.length <= 40000) :
  value_number s = (bif decide (d = []) then some (([], ([], ())), false, ()) else (exact_Parse (sgT (expSign s) ++ (d ++ r))).bind fun v12 =>
   (bif (bif decide (v12.2.1 = 0) then isPct (expBody s) else false) then (exact_Of 100).bind fun v14 => (exact_Div v12.1 v14.1).bind fun v15 => some (v15.1, decide (v15.2.1 = 0), ()) else some (v12.1, decide (v12.2.1 = 0), ()))) := by
 have hlen := expBody_len s
 obtain ⟨p1, p2⟩ := pct_parts (t := expBody s) (by omega)
 have hg := grouped_eq (t := expBody s) (by omega)
 obtain ⟨c, q, hc⟩ : ∃ c q, s = c :: q := by
  cases s with
  | nil => exact absurd rfl h0
  | cons c q => exact ⟨c, q, rfl⟩
 have hidx : idx s 0 = some c := by rw [hc]; rfl
 have c43 : decide (ofByte c = 43) = decide (c = 43) := ofByte_is c 43 (by omega)
 have c45 : decide (ofByte c = 45) = decide (c = 45) := ofByte_is c 45 (by omega)
 have e1 : expSign s = decide (c = 45) := by rw [hc]; unfold expSign; simp
 have e2 : expBody s = bif decide (c = 45) || decide (c = 43) then q else s := by
  unfold expBody
  rw [e1, hc]; simp
 have hct : cut s 1 (s.length : Int) = some q := by rw [cut_tail h0, hc]; rfl
 have hc1 : cut s 0 1 = some [c] := by
  have := cut_nat (xs := s) (a := 0) (b := 1) (by omega) (by rw [hc]; simp)
  rw [hc] at this ⊢
  exact this
 have htp : sTrimPrefix ([c], [43], ()) = some ((if c = 43 then [] else [c]), ()) := by
  unfold sTrimPrefix Lib.trimPrefix Lib.hasPrefix
  by_cases h : c = 43
  ·subst h; rfl
  ·rw [if_neg h]
   have : ([43] : Str).isPrefixOf [c] = false := by
    show ((43 == c) && _) = false
    have : (43 == c) = false := by
     rw [beq_eq_false_iff_ne]; exact fun e => h e.symm
    rw [this]; rfl
   rw [this]; rfl
 have hhead : (((idx s 0).bind fun v1 => cond (decide ((ofByte v1) = 43)) (some ((), true, (([], ([], ())) : FracD), ())) ((idx s 0).bind fun v2 => some ((), (decide ((ofByte v2) = 45)), ([], ([], ())), ()))).bind fun r3 =>
   cond r3.2.1 ((cut s 0 1).bind fun v4 => (sTrimPrefix (v4, [43], ())).bind fun v5 => (cut s 1 (s.length : Int)).bind fun v6 => some (v6, (), v5.1, r3.2.2.1, ())) (some (s, (), [], r3.2.2.1, ()))) = some (expBody s, (), sgT (expSign s), ([], [], ()), ()) := by
  rw [hidx, Option.bind_some, Option.bind_some, c43, c45, hc1, hct, e2, e1]
  simp only [Option.bind_some, htp]
  by_cases h43 : c = 43
  ·subst h43; rfl
  ·by_cases h45 : c = 45
   ·subst h45; rfl
   ·rw [decide_eq_false h43, decide_eq_false h45, if_neg h43]; rfl
 unfold value_number
 rw [hhead, Option.bind_some]
 simp only [hg, Option.bind_some, p1, p2, hd, hr]
 have hsg : (sgT (expSign s)).length <= 1 := by unfold sgT; cases expSign s <;> simp
 rw [cat_ok (xs := sgT (expSign s)) (ys := d) (by omega), Option.bind_some, cat_ok (by rw [List.length_append]; omega), Option.bind_some, List.append_assoc]
 by_cases hd0 : d = []
 ·rw [decide_eq_true hd0, cond_true, cond_true]
 rw [decide_eq_false hd0, cond_false, cond_false]
 congr 1
 funext v12
 by_cases hv : v12.2.1 = 0
 ·rw [decide_eq_true hv]
  simp only [cond_true, Option.bind_some]
  cases isPct (expBody s) with
  | true =>
   simp only [cond_true]
   cases exact_Of 100 with
   | none => rfl
   | some x =>
    simp only [Option.bind_some]
    cases exact_Div v12.1 x.1 <;> rfl
  | false => simp only [cond_false, Option.bind_some, hv, decide_true]
 ·rw [decide_eq_false hv]
  simp only [cond_false, Option.bind_some]
  rw [decide_eq_false hv]
theorem num_ref {s : Str} (h0 : s ≠ []) (hs : s.length < 40000) : chanceryref2_enteredNumber s =
  (bif !okGr ((noPct (expBody s)).takeWhile isDC) then some ((false, ([], ([], ()))), false, ()) else
   (chanceryref2_ReadDecimal (sgT (expSign s) ++ ((spl 44 ((noPct (expBody s)).takeWhile isDC)).flatten ++ (noPct (expBody s)).dropWhile isDC))).bind fun v26 =>
   cond (!decide (v26.2.1 = 0)) (some ((false, ([], ([], ()))), false, ())) ((bif isPct (expBody s) then chanceryref2_Rat__Scaled v26.1 (-2) else some (v26.1, ())).bind fun v => (chanceryref2_Rat__Frac v.1).bind fun v29 => some (v.1, decide (v29.2.1 = 0), ()))) := by
 have hlen := expBody_len s
 obtain ⟨c, q, hc⟩ : ∃ c q, s = c :: q := by
  cases s with
  | nil => exact absurd rfl h0
  | cons c q => exact ⟨c, q, rfl⟩
 have hidx : idx s 0 = some c := by rw [hc]; rfl
 have c45 : decide (ofByte c = 45) = decide (c = 45) := ofByte_is c 45 (by omega)
 have e1 : expSign s = decide (c = 45) := by rw [hc]; unfold expSign; simp
 have e2 : expBody s = bif decide (c = 45) || decide (c = 43) then q else s := by
  unfold expBody
  rw [e1, hc]; simp
 have hct : cut s 1 (s.length : Int) = some q := by rw [cut_tail h0, hc]; rfl
 have g1 : chanceryref2_Has s [45] = some (decide (c = 45), ()) := by rw [has_eq, hc]; simp
 have g2 : chanceryref2_Has s [43] = some (decide (c = 43), ()) := by rw [has_eq, hc]; simp
 have hhead : (((chanceryref2_Has s [45]).bind fun v1 => cond v1.1 (some ((), true, ((false, ([], ([], ()))) : NumD), ())) ((chanceryref2_Has s [43]).bind fun v2 => some ((), v2.1, (false, ([], ([], ()))), ()))).bind fun r3 =>
   cond r3.2.1 (((idx s 0).bind fun v4 => cond (decide ((ofByte v4) = 45)) (some ((), [45], r3.2.2.1, ())) (some ((), [], r3.2.2.1, ()))).bind fun r5 => (cut s 1 (s.length : Int)).bind fun v6 => some (v6, (), r5.2.1, r5.2.2.1, ())) (some (s, (), [], r3.2.2.1, ()))) = some (expBody s, (), sgT (expSign s), (false, [], [], ()), ()) := by
  rw [g1, Option.bind_some, g2, hidx, hct, e2, e1]
  simp only [Option.bind_some, c45]
  by_cases h45 : c = 45
  ·subst h45; rfl
  ·by_cases h43 : c = 43
   ·subst h43; rfl
   ·rw [decide_eq_false h43, decide_eq_false h45]; rfl
 have hpct : (cond (!decide (expBody s = [])) ((idx (expBody s) (IntKind.i64.wrap (((expBody s).length : Int) - 1))).bind fun v8 => some ((), (decide ((ofByte v8) = 37)), ((false, [], [], ()) : NumD), ())) (some ((), false, (false, [], [], ()), ()))) = some ((), isPct (expBody s), (false, [], [], ()), ()) := by
  unfold isPct
  by_cases e : expBody s = []
  ·rw [e]; rfl
  ·have hp := List.length_pos_iff.2 e
   have hw : IntKind.i64.wrap (((expBody s).length : Int) - 1) = (((expBody s).length - 1 : Nat) : Int) := by rw [wrap_i64 (by omega) (by omega)]; omega
   rw [decide_eq_false e, Bool.not_false, cond_true, hw, idx_lt (by omega), Option.bind_some]
   have : decide (ofByte (expBody s)[(expBody s).length - 1] = 37) = decide ((expBody s)[(expBody s).length - 1] = 37) := ofByte_is _ 37 (by omega)
   rw [this, List.getLast?_eq_getElem?, List.getElem?_eq_getElem (by omega)]
   simp
 have hcutp : (cond (isPct (expBody s)) ((cut (expBody s) 0 (IntKind.i64.wrap (((expBody s).length : Int) - 1))).bind fun v10 => some (v10, (), ((false, [], [], ()) : NumD), ())) (some (expBody s, (), (false, [], [], ()), ()))) = some (noPct (expBody s), (), (false, [], [], ()), ()) := by
  unfold noPct
  cases hq : isPct (expBody s) with
  | false => rfl
  | true =>
   have e : expBody s ≠ [] := fun e => by rw [e] at hq; cases hq
   have hp := List.length_pos_iff.2 e
   have hw : IntKind.i64.wrap (((expBody s).length : Int) - 1) = (((expBody s).length - 1 : Nat) : Int) := by rw [wrap_i64 (by omega) (by omega)]; omega
   have := cut_nat (xs := expBody s) (a := 0) (b := (expBody s).length - 1) (by omega) (by omega)
   rw [List.drop_zero] at this
   rw [cond_true, hw, show (0 : Int) = ((0 : Nat) : Int) from rfl, this, Option.bind_some, cond_true, List.dropLast_eq_take]
 have hnl : (noPct (expBody s)).length <= (expBody s).length := by
  unfold noPct
  cases isPct (expBody s) with
  | false => exact Nat.le_refl _
  | true => simp
 unfold chanceryref2_enteredNumber
 rw [hhead, Option.bind_some]
 simp only []
 rw [hpct, Option.bind_some]
 simp only []
 rw [hcutp, Option.bind_some]
 simp only []
 generalize noPct (expBody s) = t at *
 generalize isPct (expBody s) = p at *
 have hdc := dc_parts t
 have hAB : t.takeWhile isDC ++ t.dropWhile isDC = t := List.takeWhile_append_dropWhile
 have hal : (t.takeWhile isDC).length + (t.dropWhile isDC).length = t.length := by rw [<- List.length_append, hAB]
 have hc1 : cut t 0 ((t.takeWhile isDC).length : Int) = some (t.takeWhile isDC) := by
  have := cut_nat (xs := t) (a := 0) (b := (t.takeWhile isDC).length) (by omega) (by omega)
  rw [List.drop_zero] at this
  have e2 : t.take (t.takeWhile isDC).length = t.takeWhile isDC := by
   have := List.take_left (l₁ := t.takeWhile isDC) (l₂ := t.dropWhile isDC)
   rwa [hAB] at this
  rw [e2] at this
  exact this
 have hc2 : cut t ((t.takeWhile isDC).length : Int) (t.length : Int) = some (t.dropWhile isDC) := by
  rw [cut_nat (by omega) (by omega), List.take_length]
  have := List.drop_left (l₁ := t.takeWhile isDC) (l₂ := t.dropWhile isDC)
  rw [hAB] at this
  rw [this]
 have hsp : chanceryref2_Split (t.takeWhile isDC) 44 = some (spl 44 (t.takeWhile isDC), ()) := rSplit_eq 44 (by omega)
 have hloop := rgroups hdc.1 (by omega) (false, ([], ([], ())))
 have hfl := flat_len 44 (t.takeWhile isDC)
 have hsg : (sgT (expSign s)).length <= 1 := by unfold sgT; cases expSign s <;> simp
 rw [dspan_eq (by omega), Option.bind_some, hc1, Option.bind_some, hsp, Option.bind_some, hloop, Option.bind_some]
 cases hok : okGr (t.takeWhile isDC) with
 | false => rfl
 | true =>
  rw [if_pos rfl]
  simp only [Bool.not_true, cond_false]
  rw [cat_ok (xs := sgT (expSign s)) (by omega), Option.bind_some, hc2, Option.bind_some, cat_ok (by rw [List.length_append]; omega), Option.bind_some, List.append_assoc]
  congr 1
  funext v26
  by_cases hv : v26.2.1 = 0
  ·rw [decide_eq_true hv]
   simp only [Bool.not_true, cond_false]
   cases p with
   | true =>
    simp only [cond_true]
    cases chanceryref2_Rat__Scaled v26.1 (-2) <;> rfl
   | false => rfl
  ·rw [decide_eq_false hv]; rfl
theorem num_agree {s : Str} (h0 : s ≠ []) (hs : s.length < 40000) : Agree (value_number s) (chanceryref2_enteredNumber s) := by
 have hlen := expBody_len s
 have hnl : (noPct (expBody s)).length <= (expBody s).length := by
  unfold noPct
  cases isPct (expBody s) with
  | false => exact Nat.le_refl _
  | true => simp
 have hr := num_ref h0 hs
 obtain ⟨k1, k2⟩ := grp_key (t := noPct (expBody s)) (by omega)
 have hsg : (sgT (expSign s)).length <= 1 := by unfold sgT; cases expSign s <;> simp
 cases hok : okGr ((noPct (expBody s)).takeWhile isDC) with
 | false =>
  rw [hok] at hr
  rcases k2 hok with e | ⟨r, e1, e2⟩
  ·obtain ⟨p, hp⟩ := grp_suf (noPct (expBody s))
   have hl2 : (grp (noPct (expBody s))).2.length <= (noPct (expBody s)).length := by
    have : (noPct (expBody s)).length = (p ++ (grp (noPct (expBody s))).2).length := congrArg List.length hp
    rw [List.length_append] at this; omega
   have hpg := num_prog h0 hs e rfl (by simp; omega)
   exact Or.inl ⟨_, _, hpg, hr⟩
  ·by_cases hd0 : (grp (noPct (expBody s))).1 = []
   ·obtain ⟨p, hp⟩ := grp_suf (noPct (expBody s))
    have hl2 : (grp (noPct (expBody s))).2.length <= (noPct (expBody s)).length := by
     have : (noPct (expBody s)).length = (p ++ (grp (noPct (expBody s))).2).length := congrArg List.length hp
     rw [List.length_append] at this; omega
    have hpg := num_prog h0 hs hd0 rfl (by simp; omega)
    exact Or.inl ⟨_, _, hpg, hr⟩
   ·have hl : (grp (noPct (expBody s))).1.length + (grp (noPct (expBody s))).2.length <= (noPct (expBody s)).length := grp_len _
    have hpg := num_prog h0 hs rfl e1 (by rw [<- e1]; omega)
    rw [e1, List.length_cons] at hl
    obtain ⟨f, e, hp, hne⟩ := comma_bad (b := expSign s) (d := (grp (noPct (expBody s))).1) (r := r) e2 (by simp only [List.length_append, List.length_cons]; omega)
    rw [decide_eq_false hd0, cond_false, hp, Option.bind_some] at hpg
    simp only [decide_eq_false hne, cond_false] at hpg
    exact Or.inl ⟨_, _, hpg, hr⟩
 | true =>
  rw [hok] at hr
  obtain ⟨g1, g2, g3⟩ := k1 hok
  have hl : (grp (noPct (expBody s))).1.length + (grp (noPct (expBody s))).2.length <= (noPct (expBody s)).length := grp_len _
  have q1 : (grp (noPct (expBody s))).1 = (spl 44 ((noPct (expBody s)).takeWhile isDC)).flatten := by rw [g1]
  have q2 : (grp (noPct (expBody s))).2 = (noPct (expBody s)).dropWhile isDC := by rw [g1]
  have hpg := num_prog h0 hs q1 q2 (by rw [<- q1, <- q2]; omega)
  rw [q1] at g3 hl
  rw [q2] at hl
  rw [decide_eq_false g3, cond_false] at hpg
  simp only [Bool.not_true, cond_false] at hr
  generalize hu : sgT (expSign s) ++ ((spl 44 ((noPct (expBody s)).takeWhile isDC)).flatten ++ (noPct (expBody s)).dropWhile isDC) = u at *
  have hul : u.length < 1000000 := by rw [<- hu]; simp only [List.length_append]; omega
  rcases read_both hul with ⟨f, e, r, e', p1, p2, p3, p4⟩ | ⟨f, m, n, d, p1, p2, w, l1, l2, _⟩
  ·rw [p1, Option.bind_some] at hpg
   rw [p3, Option.bind_some] at hr
   simp only [decide_eq_false p2, cond_false] at hpg
   simp only [decide_eq_false p4, Bool.not_false, cond_true] at hr
   exact Or.inl ⟨_, _, hpg, hr⟩
  ·rw [p1, Option.bind_some] at hpg
   rw [p2, Option.bind_some] at hr
   simp only [decide_true, cond_true, Bool.not_true, cond_false] at hpg hr
   cases hq : isPct (expBody s) with
   | false =>
    rw [hq] at hpg hr
    simp only [cond_false, Option.bind_some] at hpg hr
    have hf : chanceryref2_Rat__Frac (N10 m n d) = _ := frac_eq (m := m) w.pos (by omega) (by omega)
    rw [hf, w.out] at hr
    exact Or.inr ⟨f, m, n, d, hpg, hr, w, by omega, by omega⟩
   | true =>
    rw [hq] at hpg hr
    simp only [cond_true] at hpg hr
    obtain ⟨g, hg, wg⟩ := W.of (k := 100) (by omega)
    have hg' : exact_Of 100 = some (g, ()) := hg
    have hdv := w.div wg (by omega)
    rw [Nat.mul_one] at hdv
    rw [hg', Option.bind_some, hdv, Option.bind_some] at hpg
    have hsc := Scaled_down (m := m) (n := n) (d := d) (k := 2) (by omega) (by omega) (by omega)
    have hsc' : chanceryref2_Rat__Scaled (N10 m n d) (-2) = some (N10 m n (d * 100), ()) := hsc
    have m1 := dl_mul d 100
    have d100 : dl 100 <= 3 := dl_le.2 (by decide)
    have hf : chanceryref2_Rat__Frac (N10 m n (d * 100)) = some (fracOut m n (d * 100)) := frac_eq (m := m) (Nat.mul_pos w.pos (by omega)) (by omega) (by omega)
    rw [hsc', Option.bind_some, hf, Option.bind_some] at hr
    rcases out_cases m n (d * 100) with ho | ho
    ·rw [ho] at hpg hr
     exact Or.inr ⟨_, m, n, d * 100, hpg, hr, W.of_out (Nat.mul_pos w.pos (by omega)) ho, by omega, by omega⟩
    ·rw [ho] at hpg hr
     exact Or.inl ⟨_, _, hpg, hr⟩
def ftFind (a : Str) : Nat -> Nat -> Option Nat
 | 0, _ => none
 | k + 1, i => if a = fts.getD i [] then some i else ftFind a k (i + 1)
theorem ftFind_le (a : Str) : ∀ (k i j : Nat), ftFind a k i = some j -> i <= j /\ j < i + k
 | 0, _, _, h => by cases h
 | k + 1, i, j, h => by
  simp only [ftFind] at h
  by_cases e : a = fts.getD i []
  ·rw [if_pos e] at h
   cases h; omega
  ·rw [if_neg e] at h
   have := ftFind_le a k (i + 1) j h
   omega
theorem fault_ok {i : Nat} (h1 : 1 <= i) (h8 : i <= 8) : soundV (vFault (i : Int)) = vFault (i : Int) := by
 have hn : ¬ ftext (i : Int) = [] := mt (ftext_nil _).1 (by omega)
 unfold soundV
 rw [verr_fault, if_neg hn, if_pos rfl]
abbrev flds (v : Val) : Int × (Str × (Str × (Str × (Bool × (Int × (Int × (Int × (List Val × Unit)))))))) := (v.data.1, (v.data.2.1.1, (v.data.2.1.2.1, (v.data.2.2.1, (v.data.2.2.2.1, (v.data.2.2.2.2.1, (v.data.2.2.2.2.2.1, (v.data.2.2.2.2.2.2.1, (v.kids, ())))))))))
theorem fts_idx {i : Nat} (h : i < 9) : idx ([[], [35, 68, 73, 86, 47, 48, 33], [35, 86, 65, 76, 85, 69, 33], [35, 82, 69, 70, 33], [35, 78, 65, 77, 69, 63], [35, 78, 85, 77, 33], [35, 78, 47, 65], [35, 83, 80, 73, 76, 76, 33], [35, 67, 89, 67, 76, 69, 33]] : List Str) (i : Int) = some (fts.getD i []) := by
 have : i = 0 \/ i = 1 \/ i = 2 \/ i = 3 \/ i = 4 \/ i = 5 \/ i = 6 \/ i = 7 \/ i = 8 := by omega
 rcases this with rfl | rfl | rfl | rfl | rfl | rfl | rfl | rfl | rfl <;> rfl
theorem ent_step {a : Str} {i : Nat} (h : i < 9) (z : Int × (Str × (Str × (Str × (Bool × (Int × (Int × (Int × (List Val × Unit))))))))) : value_Enter_l1 a ((), (i : Int), z, ()) = some (if 0 < i /\ a = fts.getD i [] then .inr (.inr ((), flds (vFault i), ())) else .inl ((), ((i + 1 : Nat) : Int), z, ())) := by
 unfold value_Enter_l1
 simp only []
 rw [decide_eq_true (show (i : Int) < 9 by omega), cond_true, fts_idx h, Option.bind_some, wsuc (by omega)]
 simp only [Fault_eq, Option.bind_some, cond_some', cond_pair, Bool.cond_self]
 by_cases h0 : 0 < i
 ·rw [decide_eq_true (show (0 : Int) < (i : Int) by omega), fault_ok h0 (by omega), cond_true]
  by_cases e : a = fts.getD i []
  ·rw [decide_eq_true e, if_pos ⟨h0, e⟩]; rfl
  ·rw [decide_eq_false e, if_neg (fun x => e x.2)]; rfl
 ·rw [decide_eq_false (show ¬ (0 : Int) < (i : Int) by omega), if_neg (fun x => h0 x.1)]; rfl
theorem rent_step {a : Str} {i : Nat} (h : i < 9) (z : Int × (Str × (Str × (Str × (Bool × (Int × (Int × (Int × (List Val × Unit))))))))) : chanceryref2_Enter_l1 a ((), (i : Int), z, ()) = some (if a = fts.getD i [] then .inr (.inr ((), flds (vFault i), ())) else .inl ((), ((i + 1 : Nat) : Int), z, ())) := by
 unfold chanceryref2_Enter_l1
 simp only []
 rw [decide_eq_true (show (i : Int) <= 8 by omega), cond_true, fts_idx h, Option.bind_some, wsuc (by omega), rFault_eq, Option.bind_some]
 by_cases e : a = fts.getD i []
 ·rw [decide_eq_true e, if_pos e]; rfl
 ·rw [decide_eq_false e, if_neg e]; rfl
theorem ent_halts {a : Str} (z : Int × (Str × (Str × (Str × (Bool × (Int × (Int × (Int × (List Val × Unit))))))))) : ∀ (k i : Nat), i + k = 9 -> 1 <= i ->
  Halts (value_Enter_l1 a) (k + 1) ((), (i : Int), z, ()) (match ftFind a k i with | some j => .inr ((), flds (vFault j), ()) | none => .inl ((), z, ()))
 | 0, i, hk, h1 => by
  have : i = 9 := by omega
  subst this
  refine Halts.done ?_
  unfold value_Enter_l1
  rw [decide_eq_false (show ¬ (((9 : Nat) : Int) < 9) by omega), cond_false]
  rfl
 | k + 1, i, hk, h1 => by
  have hs := ent_step (a := a) (i := i) (by omega) z
  simp only [ftFind]
  by_cases e : a = fts.getD i []
  ·rw [if_pos ⟨by omega, e⟩] at hs
   rw [if_pos e]
   exact Halts.done hs
  ·rw [if_neg (fun x => e x.2)] at hs
   rw [if_neg e]
   exact Halts.step hs (ent_halts z k (i + 1) (by omega) (by omega))
theorem rent_halts {a : Str} (z : Int × (Str × (Str × (Str × (Bool × (Int × (Int × (Int × (List Val × Unit))))))))) : ∀ (k i : Nat), i + k = 9 ->
  Halts (chanceryref2_Enter_l1 a) (k + 1) ((), (i : Int), z, ()) (match ftFind a k i with | some j => .inr ((), flds (vFault j), ()) | none => .inl ((), z, ()))
 | 0, i, hk => by
  have : i = 9 := by omega
  subst this
  refine Halts.done ?_
  unfold chanceryref2_Enter_l1
  rw [decide_eq_false (show ¬ (((9 : Nat) : Int) <= 8) by omega), cond_false]
  rfl
 | k + 1, i, hk => by
  have hs := rent_step (a := a) (i := i) (by omega) z
  simp only [ftFind]
  by_cases e : a = fts.getD i []
  ·rw [if_pos e] at hs
   rw [if_pos e]
   exact Halts.done hs
  ·rw [if_neg e] at hs
   rw [if_neg e]
   exact Halts.step hs (rent_halts z k (i + 1) (by omega))
theorem ent_loop (a : Str) (z : Int × (Str × (Str × (Str × (Bool × (Int × (Int × (Int × (List Val × Unit))))))))) : loop (value_Enter_l1 a) ((), 0, z, ()) = some (match ftFind a 8 1 with | some j => .inr ((), flds (vFault j), ()) | none => .inl ((), z, ())) := by
 have h0 := ent_step (a := a) (i := 0) (by omega) z
 rw [if_neg (fun x => absurd x.1 (by omega))] at h0
 exact (Halts.step h0 (ent_halts (a := a) z 8 1 (by omega) (by omega))).loop (by omega)
theorem rent_loop (a : Str) (z : Int × (Str × (Str × (Str × (Bool × (Int × (Int × (Int × (List Val × Unit))))))))) : loop (chanceryref2_Enter_l1 a) ((), 1, z, ()) = some (match ftFind a 8 1 with | some j => .inr ((), flds (vFault j), ()) | none => .inl ((), z, ())) :=
 (rent_halts (a := a) z 8 1 (by omega)).loop (by omega)
theorem vb_txt {s : Str} (h : s.length <= 40000) : vb (vTxt s) <= 1048576 := by
 rw [vb_eq]
 simp [vTxt, Tree.data, Tree.kids]
 omega
theorem vb_num {f : FracD} {m : Bool} {n d : Nat} (w : W f m n d) : vb (vNum f) <= 1048576 := by
 obtain ⟨_, _, _, _, _, h1, h2⟩ := w.read
 rw [vb_eq]
 simp [vNum, Tree.data, Tree.kids]
 omega
def Entered (v : Val) : Prop := vb v <= 1048576 /\ (v = vNone \/ (∃ c : Nat, 1 <= c /\ c <= 8 /\ v = vFault c) \/ (∃ s, v = vTxt s) \/ (∃ b, v = vBool b) \/ ∃ f m n d, v = vNum f /\ W f m n d)
theorem ent_text {s : Str} (hs : s.length <= 40000) : Entered (soundV (vTxt s)) := by
 unfold soundV
 split
 ·exact ⟨vb_txt hs, Or.inr (Or.inr (Or.inl ⟨s, rfl⟩))⟩
 ·exact ⟨vb_fault 2, Or.inr (Or.inl ⟨2, by omega, by omega, rfl⟩)⟩
theorem date_Agree {s : Str} (hs : s.length < 40000) : Agree (value_date s) (chanceryref2_enteredDate s) := by
 obtain ⟨b, f, z, k, h1, h2, _, _, h5⟩ := date_agree (s := s) (by omega)
 cases b with
 | false => exact Or.inl ⟨f, z, h1, h2⟩
 | true =>
  obtain ⟨e, w, hk⟩ := h5 rfl
  have dk : dl k <= 7 := dl_le.2 (by omega)
  have d1 : dl 1 = 1 := dl_ten 0
  rw [e] at h2
  exact Or.inr ⟨f, false, k, 1, h1, h2, w, by omega, by omega⟩
theorem clock_Agree {s : Str} (hs : s.length < 40000) : Agree (value_clock s) (chanceryref2_enteredTime s) := by
 obtain ⟨b, f, z, n, d, h1, h2, _, _, h5⟩ := clock_agree (s := s) (by omega)
 cases b with
 | false => exact Or.inl ⟨f, z, h1, h2⟩
 | true =>
  obtain ⟨e, w, l1, l2⟩ := h5 rfl
  rw [e] at h2
  exact Or.inr ⟨f, false, n, d, h1, h2, w, by omega, by omega⟩
theorem stage {p : Option (FracD × (Bool × Unit))} {q : Option (NumD × (Bool × Unit))} (h : Agree p q) {K1 K2 : Option (Val × Unit)} (hk : ∃ v, K1 = some (v, ()) /\ K2 = some (v, ()) /\ Entered v) :
  ∃ v, (p.bind fun x => cond x.2.1 ((value_Number x.1).bind fun y => some (tn y.1, ())) K1) = some (v, ()) /\ (q.bind fun x => cond x.2.1 ((chanceryref2_Number x.1).bind fun y => some (tn y.1, ())) K2) = some (v, ()) /\ Entered v := by
 rcases h with ⟨f, r, h1, h2⟩ | ⟨f, m, n, d, h1, h2, w, l1, l2⟩
 ·rw [h1, h2, Option.bind_some, Option.bind_some]
  exact hk
 ·rw [h1, h2, Option.bind_some, Option.bind_some]
  simp only [cond_true]
  rw [w.num, w.rnum l1 l2]
  simp only [Option.bind_some, tn_eq]
  exact ⟨vNum f, rfl, rfl, vb_num w, Or.inr (Or.inr (Or.inr (Or.inr ⟨f, m, n, d, rfl, w⟩)))⟩
theorem Enter_eq (s : Str) : ∃ v, value_Enter s = some (v, ()) /\ chanceryref2_Enter s = some (v, ()) /\ Entered v := by
 unfold value_Enter chanceryref2_Enter
 by_cases h0 : s = []
 ·rw [decide_eq_true h0, cond_true, cond_true]
  exact ⟨vNone, rfl, rfl, vb_none, Or.inl rfl⟩
 rw [decide_eq_false h0, cond_false, cond_false, TextErr_eq, rTextErr_eq, Option.bind_some, Option.bind_some]
 by_cases ht : textErr s = 0
 case neg =>
  rw [decide_eq_false ht, Fault_eq, rFault_eq]
  have : soundV (vFault 2) = vFault 2 := fault_ok (i := 2) (by omega) (by omega)
  simp only [Bool.not_false, cond_true, Option.bind_some, tn_eq, this]
  exact ⟨vFault 2, rfl, rfl, vb_fault 2, Or.inr (Or.inl ⟨2, by omega, by omega, rfl⟩)⟩
 have hl : s.length <= 32767 := by
  unfold textErr at ht
  by_cases x : 32767 < s.length
  ·rw [if_pos x] at ht; omega
  ·omega
 obtain ⟨c, q, hc⟩ : ∃ c q, s = c :: q := by
  cases s with
  | nil => exact absurd rfl h0
  | cons c q => exact ⟨c, q, rfl⟩
 have hidx : idx s 0 = some c := by rw [hc]; rfl
 have c39 : decide (ofByte c = 39) = decide (c = 39) := ofByte_is c 39 (by omega)
 rw [decide_eq_true ht, Bool.not_true, cond_false, cond_false, cutPrefix_eq, Option.bind_some, hidx, Option.bind_some, c39, hc, List.head?_cons, <- hc]
 have c39' : decide (some c = some 39) = decide (c = 39) := by simp
 simp only []
 rw [c39']
 by_cases e39 : c = 39
 ·have hst : strip 39 s = q := by
   unfold strip
   rw [hc, e39]; rfl
  have hct : cut s 1 (s.length : Int) = some q := by rw [cut_tail h0, hc]; rfl
  rw [decide_eq_true e39, cond_true, cond_true, hst, hct, Option.bind_some, Text_eq, rText_eq', Option.bind_some]
  simp only [tn_eq]
  exact ⟨_, rfl, rfl, ent_text (by rw [hc, List.length_cons] at hl; omega)⟩
 rw [decide_eq_false e39, cond_false, cond_false, VLower_eq (by omega), rLower_eq (by omega), Option.bind_some]
 simp only [Option.bind_some, cond_some', cond_pair, Bool.cond_self]
 cases hb : (bif decide (lowS s = [116, 114, 117, 101]) then true else decide (lowS s = [102, 97, 108, 115, 101])) with
 | true =>
  simp only [cond_true]
  exact ⟨vBool (decide (lowS s = [116, 114, 117, 101])), rfl, rfl, vb_bool _, Or.inr (Or.inr (Or.inr (Or.inl ⟨_, rfl⟩)))⟩
 | false =>
  simp only [cond_false]
  rw [ent_loop, rent_loop, Option.bind_some, Option.bind_some]
  cases hf : ftFind s 8 1 with
  | some j =>
   obtain ⟨j1, j2⟩ := ftFind_le s 8 1 j hf
   exact ⟨vFault j, rfl, rfl, vb_fault _, Or.inr (Or.inl ⟨j, j1, by omega, rfl⟩)⟩
  | none =>
   simp only []
   refine stage (num_agree h0 (by omega)) (stage (mix_agree (by omega)) (stage (date_Agree (by omega)) (stage (clock_Agree (by omega)) (stage (moment_agree (by omega)) ?_))))
   rw [Text_eq, rText_eq', Option.bind_some]
   simp only [tn_eq]
   exact ⟨_, rfl, rfl, ent_text (by omega)⟩
end Go.Proofs.YtmbejoibeninmaaGreatDoor
