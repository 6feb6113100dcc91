import Derived.Test.YtmbejoibeninmaaGreatDoorLawN
import Derived.Test.YtmbejoibeninmaaGreatDoorLawB
namespace Go.Proofs.YtmbejoibeninmaaGreatDoor
open Go Go.Fe
def okW (s : Str) : Bool := okD s && decide (s.length <= 100)
theorem okW_digits {s : Str} (h : okW s = true) : s.all isDigit = true /\ s.length <= 100 /\ dl (dec s) <= 100 := by
 unfold okW at h
 rw [Bool.and_eq_true, decide_eq_true_eq, okD_iff] at h
 have := all_dl h.1.2
 exact ⟨h.1.2, h.2, by omega⟩
theorem dl_add2 {m n k : Nat} (h1 : dl m <= k) (h2 : dl n <= k) : dl (m + n) <= k + 1 := by
 rw [dl_le] at *
 rw [Nat.pow_succ]
 omega
def mixA (s : Str) : Str := (cutB 32 (body s)).1
def mixN (s : Str) : Str := (cutB 47 (cutB 32 (body s)).2.1).1
def mixD (s : Str) : Str := (cutB 47 (cutB 32 (body s)).2.1).2.1
def mixOk (s : Str) : Bool := (cutB 32 (body s)).2.2 && ((cutB 47 (cutB 32 (body s)).2.1).2.2 && (okW (mixA s) && (okW (mixN s) && okW (mixD s))))
theorem mix_prog {s : Str} (hs : s.length < 1000000) :
  (mixOk s = false -> ∃ f, value_mixed s = some (f, false, ())) /\ (mixOk s = true -> dec (mixD s) = 0 -> ∃ f, value_mixed s = some (f, false, ())) /\
   (mixOk s = true -> 0 < dec (mixD s) -> ∃ f, value_mixed s = some (f, true, ()) /\ W f (signOf s) (dec (mixA s) * dec (mixD s) + dec (mixN s)) (dec (mixD s))) := by
 have hb := body_len s
 have l1 := cutB_len 32 (body s)
 have l2 := cutB_len 47 (cutB 32 (body s)).2.1
 have c1 := strings_Cut_eq (s := body s) (c := 32) (by omega)
 have c2 := strings_Cut_eq (s := (cutB 32 (body s)).2.1) (c := 47) (by omega)
 obtain ⟨f1, w1, g1, _⟩ := whole_eq (s := mixA s) (by unfold mixA; omega)
 obtain ⟨f2, w2, g2, _⟩ := whole_eq (s := mixN s) (by unfold mixN; omega)
 obtain ⟨f3, w3, g3, _⟩ := whole_eq (s := mixD s) (by unfold mixD; omega)
 have hm : mixOk s = ((cutB 32 (body s)).2.2 && ((cutB 47 (cutB 32 (body s)).2.1).2.2 && (okW (mixA s) && (okW (mixN s) && okW (mixD s))))) := rfl
 unfold mixA at w1
 unfold mixN at w2
 unfold mixD at w3
 have e1 : (okD (cutB 32 (body s)).1 && decide ((cutB 32 (body s)).1.length <= 100)) = okW (mixA s) := rfl
 have e2 : (okD (cutB 47 (cutB 32 (body s)).2.1).1 && decide ((cutB 47 (cutB 32 (body s)).2.1).1.length <= 100)) = okW (mixN s) := rfl
 have e3 : (okD (cutB 47 (cutB 32 (body s)).2.1).2.1 && decide ((cutB 47 (cutB 32 (body s)).2.1).2.1.length <= 100)) = okW (mixD s) := rfl
 rw [e1] at w1
 rw [e2] at w2
 rw [e3] at w3
 have hbool : ∀ a b c d e : Bool, (bif !a then true else bif !b then true else bif !c then true else bif !d then true else !e) = !(a && (b && (c && (d && e)))) := by
  intro a b c d e; cases a <;> cases b <;> cases c <;> cases d <;> cases e <;> rfl
 have red : value_mixed s = (bif !mixOk s then some (([], ([], ())), false, ()) else (exact_Div f2 f3).bind fun v8 => (exact_Add f1 v8.1).bind fun v9 =>
   bif (bif !decide (v8.2.1 = 0) then true else !decide (v9.2.1 = 0)) then some (([], ([], ())), false, ()) else
    (bif signOf s then (exact_Neg v9.1).bind fun v11 => some ((), (), (([] : Str), ([] : Str), ()), v11.1, ()) else some ((), (), ([], [], ()), v9.1, ())).bind fun r12 => some (r12.2.2.2.1, true, ())) := by
  unfold value_mixed
  rw [cut_sign, Option.bind_some]
  simp only [c1, c2, w1, w2, w3, Option.bind_some, cond_some', cond_pair, Bool.cond_self, hbool]
  rw [<- hm]
 refine ⟨fun h => ?_, fun h h0 => ?_, fun h h0 => ?_⟩
 ·rw [red, h]; exact ⟨_, rfl⟩
 all_goals
  have hk := h
  rw [hm] at hk
  simp only [Bool.and_eq_true] at hk
  obtain ⟨_, _, k1, k2, k3⟩ := hk
  have W1 := g1 k1
  have W2 := g2 k2
  have W3 := g3 k3
  have D1 := (okW_digits k1).2.2
  have D2 := (okW_digits k2).2.2
  have D3 := (okW_digits k3).2.2
  have d1 : dl 1 = 1 := dl_ten 0
 ·rw [h0] at W3
  have hq := W2.div0 W3
  obtain ⟨f, e, ha, hne⟩ := add_total (a := f1) (b := ([], [], ())) W1.len.1 W1.len.2 (by decide) (by decide)
  rw [red, h, hq, Option.bind_some]
  simp only [ha, Option.bind_some]
  exact ⟨_, rfl⟩
 ·have hq := W2.div W3 h0
  have hqo : (fracOut false (dec (mixN s) * 1) (1 * dec (mixD s))).2.1 = 0 := out_ok (by rw [Nat.mul_one]; omega) (by rw [Nat.one_mul]; omega)
  have WQ := W.of_out (m := false) (n := dec (mixN s) * 1) (d := 1 * dec (mixD s)) (by omega) hqo
  have ha := W1.add WQ
  have m1 := dl_mul (dec (mixA s)) (dec (mixD s))
  have m2 := dl_add2 (m := dec (mixA s) * dec (mixD s)) (n := dec (mixN s)) (k := 200) (by omega) (by omega)
  rw [Nat.mul_one, Nat.mul_one, Nat.one_mul, Nat.one_mul] at ha
  have hao : (fracOut false (dec (mixA s) * dec (mixD s) + dec (mixN s)) (dec (mixD s))).2.1 = 0 := out_ok (by omega) (by omega)
  have WA := W.of_out (m := false) (n := dec (mixA s) * dec (mixD s) + dec (mixN s)) h0 hao
  rw [Nat.mul_one, Nat.one_mul] at hq hqo
  rw [red, h, hq, Option.bind_some]
  simp only [ha, Option.bind_some, hqo, hao]
  cases hsg : signOf s with
  | false => exact ⟨_, rfl, WA⟩
  | true =>
   have hneg := WA.neg
   have hno : (fracOut (!false) (dec (mixA s) * dec (mixD s) + dec (mixN s)) (dec (mixD s))).2.1 = 0 := out_ok (by omega) (by omega)
   simp only [decide_true, Bool.not_true, cond_false, cond_true, hneg, Option.bind_some]
   exact ⟨_, rfl, W.of_out h0 hno⟩
theorem found_mem {c : UInt8} {s : Str} (h : (cutB c s).2.2 = true) : c ∈ s := by
 have e := cutB_eq c s
 rw [h, cond_true] at e
 rw [e]
 exact List.mem_append_right _ (List.mem_cons_self ..)
theorem spl_found {c : UInt8} {s : Str} (h : (spl c s).length ≠ 1) : (cutB c s).2.2 = true := by
 cases hb : (cutB c s).2.2 with
 | true => rfl
 | false =>
  rw [spl_cut, hb] at h
  exact absurd rfl h
theorem okW_mem {c : UInt8} {s : Str} (h : okW s = true) (hc : c ∈ s) : isDigit c = true := List.all_eq_true.1 (okW_digits h).1 c hc
theorem mix_halts {x y z : Str} (hx : x.length < 1000000) (hy : y.length < 1000000) (hz : z.length < 1000000) (n0 : NumD) :
  loop (chanceryref2_enteredMixed_l1 x y z) ((), 0, n0, ()) = some (if (okW x && (okW y && okW z)) = true then .inl ((), n0, ()) else .inr ((), false, (false, ([], ([], ()))), ())) := by
 have step : ∀ (i : Nat) (v : Str) (_ : i < 3) (_ : idx [x, y, z] (i : Int) = some v) (_ : v.length < 1000000), chanceryref2_enteredMixed_l1 x y z ((), (i : Int), n0, ()) = some (if okW v = true then .inl ((), ((i + 1 : Nat) : Int), n0, ()) else .inr (.inr ((), false, (false, ([], ([], ()))), ()))) := by
  intro i v hi hv hl
  have ha : chanceryref2_allDigits v = some (okD v, ()) := allDigits_eq (by omega)
  unfold chanceryref2_enteredMixed_l1
  simp only []
  rw [decide_eq_true (by omega), cond_true, hv, Option.bind_some]
  simp only [ha, cond_some', cond_pair, Bool.cond_self, Option.bind_some]
  rw [wsuc (by omega)]
  unfold okW
  by_cases h1 : okD v = true
  ·by_cases h2 : v.length <= 100
   ·rw [h1, decide_eq_true h2, decide_eq_false (by omega)]; rfl
   ·rw [h1, decide_eq_false h2, decide_eq_true (by omega), if_neg (by simp)]; rfl
  ·have h1' : okD v = false := by cases h : okD v <;> simp_all
   rw [h1', if_neg (by simp)]; rfl
 have fin : chanceryref2_enteredMixed_l1 x y z ((), ((3 : Nat) : Int), n0, ()) = some (.inr (.inl ((), n0, ()))) := by
  unfold chanceryref2_enteredMixed_l1
  rw [decide_eq_false (show ¬ (((3 : Nat) : Int) < 3) by omega), cond_false]
 have s0 := step 0 x (by omega) rfl hx
 have s1 := step 1 y (by omega) rfl hy
 have s2 := step 2 z (by omega) rfl hz
 cases h0 : okW x
 ·rw [h0, if_neg (by simp)] at s0
  rw [if_neg (by simp)]
  exact (Halts.done (n := 0) s0).loop (by omega)
 rw [h0, if_pos rfl] at s0
 cases h1 : okW y
 ·rw [h1, if_neg (by simp)] at s1
  rw [if_neg (by simp)]
  exact (Halts.step (n := 0) s0 (Halts.done s1)).loop (by omega)
 rw [h1, if_pos rfl] at s1
 cases h2 : okW z
 ·rw [h2, if_neg (by simp)] at s2
  rw [if_neg (by simp)]
  exact (Halts.step (n := 1) s0 (Halts.step (n := 0) s1 (Halts.done s2))).loop (by omega)
 rw [h2, if_pos rfl] at s2
 rw [if_pos (by simp)]
 exact (Halts.step (n := 2) s0 (Halts.step (n := 1) s1 (Halts.step (n := 0) s2 (Halts.done (n := 0) fin)))).loop (by omega)
theorem mix_ref {s : Str} (hs : s.length < 1000000) :
  (mixOk s = false -> ∃ r, chanceryref2_enteredMixed s = some (r, false, ())) /\ (mixOk s = true -> dec (mixD s) = 0 -> ∃ r, chanceryref2_enteredMixed s = some (r, false, ())) /\
   (mixOk s = true -> 0 < dec (mixD s) -> chanceryref2_enteredMixed s = some (N10 (signOf s) (dec (mixA s) * dec (mixD s) + dec (mixN s)) (dec (mixD s)), true, ())) := by
 have hb := body_len s
 have l1 := cutB_len 32 (body s)
 have l2 := cutB_len 47 (cutB 32 (body s)).2.1
 have hm : mixOk s = ((cutB 32 (body s)).2.2 && ((cutB 47 (cutB 32 (body s)).2.1).2.2 && (okW (mixA s) && (okW (mixN s) && okW (mixD s))))) := rfl
 have hh : chanceryref2_Has s [45] = some (signOf s, ()) := has_eq s 45
 have hbody : (bif signOf s then (cut s 1 (s.length : Int)).bind fun v2 => some (v2, (), ((false, ([], ([], ()))) : NumD), ()) else some (s, (), (false, ([], ([], ()))), ())) = some (body s, (), (false, ([], ([], ()))), ()) := by
  unfold body
  cases h : signOf s with
  | false => rfl
  | true =>
   have h0 : s ≠ [] := head_ne (of_decide_eq_true h)
   rw [cond_true, cut_tail h0]; rfl
 have sp1 : chanceryref2_Split (body s) 32 = some (spl 32 (body s), ()) := rSplit_eq 32 (by omega)
 have sp2 : chanceryref2_Split (cutB 32 (body s)).2.1 47 = some (spl 47 (cutB 32 (body s)).2.1, ()) := rSplit_eq 47 (by omega)
 have red : chanceryref2_enteredMixed s = cond (!decide (((spl 32 (body s)).length : Int) = 2)) (some ((false, ([], ([], ()))), false, ())) ((idx (spl 32 (body s)) 1).bind fun v5 =>
   (chanceryref2_Split v5 47).bind fun v6 => cond (!decide ((v6.1.length : Int) = 2)) (some ((false, ([], ([], ()))), false, ())) ((idx (spl 32 (body s)) 0).bind fun v7 => (idx v6.1 0).bind fun v8 => (idx v6.1 1).bind fun v9 =>
   (loop (chanceryref2_enteredMixed_l1 v7 v8 v9) ((), 0, (false, ([], ([], ()))), ())).bind fun r13 => (match r13 with
   | .inl _ => ((idx v6.1 1).bind fun v15 => (chanceryref2_NatOf v15).bind fun v16 => cond (decide ((v16.1.length : Int) = 0)) (some ((false, ([], ([], ()))), false, ())) ((idx (spl 32 (body s)) 0).bind fun v17 => (chanceryref2_NatOf v17).bind fun v18 =>
    (idx v6.1 0).bind fun v19 => (chanceryref2_NatOf v19).bind fun v20 => (chanceryref2_Rat__Add (false, v18.1, [1], ()) (false, v20.1, v16.1, ())).bind fun v21 => some ((signOf s, v21.1.2), true, ())))
   | .inr z22 => (some (z22.2.2.1, z22.2.1, ()))))) := by
  unfold chanceryref2_enteredMixed
  rw [hh, Option.bind_some]
  simp only []
  rw [hbody, Option.bind_some]
  simp only [sp1, Option.bind_some]
  rfl
 have key : ∀ {ok : Bool}, mixOk s = ok -> (ok = false -> ∃ r, chanceryref2_enteredMixed s = some (r, false, ())) /\ (ok = true -> spl 32 (body s) = [mixA s, (cutB 32 (body s)).2.1] /\ spl 47 (cutB 32 (body s)).2.1 = [mixN s, mixD s]) := by
  intro ok hok
  have hc1 := spl_cut 32 (body s)
  have hc2 := spl_cut 47 (cutB 32 (body s)).2.1
  by_cases a1 : (cutB 32 (body s)).2.2 = true
  case neg =>
   have a1' : (cutB 32 (body s)).2.2 = false := by cases h : (cutB 32 (body s)).2.2 <;> simp_all
   rw [a1', cond_false] at hc1
   refine ⟨fun _ => ?_, fun h => ?_⟩
   ·rw [red, hc1]; exact ⟨_, rfl⟩
   ·rw [h, hm, a1'] at hok; simp at hok
  rw [a1, cond_true] at hc1
  by_cases a2 : (spl 32 (cutB 32 (body s)).2.1).length = 1
  case neg =>
   have h32 := found_mem (spl_found a2)
   refine ⟨fun _ => ?_, fun h => ?_⟩
   ·rw [red, hc1]
    have : ¬ ((((cutB 32 (body s)).1 :: spl 32 (cutB 32 (body s)).2.1).length : Nat) : Int) = 2 := by rw [List.length_cons]; omega
    rw [decide_eq_false this]; exact ⟨_, rfl⟩
   ·rw [h, hm] at hok
    simp only [Bool.and_eq_true] at hok
    obtain ⟨_, q1, _, q2, q3⟩ := hok
    have he := cutB_eq 47 (cutB 32 (body s)).2.1
    rw [q1, cond_true] at he
    rw [he] at h32
    rcases List.mem_append.1 h32 with g | g
    ·exact absurd (okW_mem q2 g) (by decide)
    ·rcases List.mem_cons.1 g with g | g
     ·exact absurd g (by decide)
     ·exact absurd (okW_mem q3 g) (by decide)
  have hs1 : spl 32 (body s) = [mixA s, (cutB 32 (body s)).2.1] := by rw [hc1, spl_one a2]; rfl
  by_cases a3 : (cutB 47 (cutB 32 (body s)).2.1).2.2 = true
  case neg =>
   have a3' : (cutB 47 (cutB 32 (body s)).2.1).2.2 = false := by cases h : (cutB 47 (cutB 32 (body s)).2.1).2.2 <;> simp_all
   rw [a3', cond_false] at hc2
   refine ⟨fun _ => ?_, fun h => ?_⟩
   ·rw [red, hs1]
    simp only [List.length_cons, List.length_nil]
    rw [show idx [mixA s, (cutB 32 (body s)).2.1] 1 = some (cutB 32 (body s)).2.1 from rfl, Option.bind_some, sp2, hc2]
    exact ⟨_, rfl⟩
   ·rw [h, hm, a3'] at hok; simp at hok
  rw [a3, cond_true] at hc2
  by_cases a4 : (spl 47 (cutB 47 (cutB 32 (body s)).2.1).2.1).length = 1
  case neg =>
   have h47 := found_mem (spl_found a4)
   refine ⟨fun _ => ?_, fun h => ?_⟩
   ·rw [red, hs1]
    simp only [List.length_cons, List.length_nil]
    rw [show idx [mixA s, (cutB 32 (body s)).2.1] 1 = some (cutB 32 (body s)).2.1 from rfl, Option.bind_some, sp2, hc2, Option.bind_some]
    have : ¬ ((((cutB 47 (cutB 32 (body s)).2.1).1 :: spl 47 (cutB 47 (cutB 32 (body s)).2.1).2.1).length : Nat) : Int) = 2 := by rw [List.length_cons]; omega
    rw [decide_eq_false this]; exact ⟨_, rfl⟩
   ·rw [h, hm] at hok
    simp only [Bool.and_eq_true] at hok
    exact absurd (okW_mem hok.2.2.2.2 h47) (by decide)
  have hs2 : spl 47 (cutB 32 (body s)).2.1 = [mixN s, mixD s] := by rw [hc2, spl_one a4]; rfl
  refine ⟨fun h => ?_, fun _ => ⟨hs1, hs2⟩⟩
  rw [h, hm, a1, a3, Bool.true_and, Bool.true_and] at hok
  have hl := mix_halts (x := mixA s) (y := mixN s) (z := mixD s) (by unfold mixA; omega) (by unfold mixN; omega) (by unfold mixD; omega) (false, ([], ([], ())))
  rw [hok, if_neg (by simp)] at hl
  rw [red, hs1]
  simp only [List.length_cons, List.length_nil]
  rw [show idx [mixA s, (cutB 32 (body s)).2.1] 1 = some (cutB 32 (body s)).2.1 from rfl, Option.bind_some, sp2, hs2, Option.bind_some]
  refine ⟨(false, [], [], ()), ?_⟩
  show (loop (chanceryref2_enteredMixed_l1 (mixA s) (mixN s) (mixD s)) ((), 0, (false, ([], ([], ()))), ())).bind _ = _
  rw [hl]; rfl
 refine ⟨fun h => (key h).1 rfl, fun h h0 => ?_, fun h h0 => ?_⟩
 all_goals
  obtain ⟨hs1, hs2⟩ := (key h).2 rfl
  have hk := h
  rw [hm] at hk
  simp only [Bool.and_eq_true] at hk
  obtain ⟨_, _, k1, k2, k3⟩ := hk
  have D1 := okW_digits k1
  have D2 := okW_digits k2
  have D3 := okW_digits k3
  have d1 : dl 1 = 1 := dl_ten 0
  have hl := mix_halts (x := mixA s) (y := mixN s) (z := mixD s) (by omega) (by omega) (by omega) (false, ([], ([], ())))
  rw [k1, k2, k3, if_pos (by rfl)] at hl
  have na := natof_eq (s := mixA s) D1.1 (by omega)
  have nn := natof_eq (s := mixN s) D2.1 (by omega)
  have nd := natof_eq (s := mixD s) D3.1 (by omega)
  rw [red, hs1]
  simp only [List.length_cons, List.length_nil]
  rw [show idx [mixA s, (cutB 32 (body s)).2.1] 1 = some (cutB 32 (body s)).2.1 from rfl, Option.bind_some, sp2, hs2, Option.bind_some]
 ·refine ⟨(false, [], [], ()), ?_⟩
  show (loop (chanceryref2_enteredMixed_l1 (mixA s) (mixN s) (mixD s)) ((), 0, (false, ([], ([], ()))), ())).bind _ = _
  rw [hl, Option.bind_some]
  show (chanceryref2_NatOf (mixD s)).bind _ = _
  rw [nd, h0, Option.bind_some]
  rfl
 ·show (loop (chanceryref2_enteredMixed_l1 (mixA s) (mixN s) (mixD s)) ((), 0, (false, ([], ([], ()))), ())).bind _ = _
  rw [hl, Option.bind_some]
  show (chanceryref2_NatOf (mixD s)).bind _ = _
  rw [nd, Option.bind_some]
  simp only []
  have hp := dl_pos h0
  rw [len10, decide_eq_false (by omega), cond_false]
  show (chanceryref2_NatOf (mixA s)).bind _ = _
  rw [na, Option.bind_some]
  show (chanceryref2_NatOf (mixN s)).bind _ = _
  rw [nn, Option.bind_some]
  have hadd : chanceryref2_Rat__Add (false, rep 10 (dec (mixA s)), [1], ()) (false, rep 10 (dec (mixN s)), rep 10 (dec (mixD s)), ()) = some (N10 false (dec (mixA s) * dec (mixD s) + dec (mixN s) * 1) (1 * dec (mixD s)), ()) := by
   have e := add_eq (k := 100) (m1 := false) (m2 := false) (n1 := dec (mixA s)) (d1 := 1) (n2 := dec (mixN s)) (d2 := dec (mixD s)) (by omega) D1.2.2 (by omega) D2.2.2 D3.2.2
   have e1 : N10 false (dec (mixA s)) 1 = (false, rep 10 (dec (mixA s)), [1], ()) := by unfold N10; rw [one10]
   rw [e1] at e
   unfold sumM sumN at e
   rw [if_pos rfl, if_pos rfl] at e
   exact e
  simp only []
  rw [hadd, Option.bind_some, Nat.mul_one, Nat.one_mul]
  rfl
theorem mix_agree {s : Str} (hs : s.length < 1000000) : Agree (value_mixed s) (chanceryref2_enteredMixed s) := by
 obtain ⟨p1, p2, p3⟩ := mix_prog hs
 obtain ⟨r1, r2, r3⟩ := mix_ref hs
 cases h : mixOk s with
 | false =>
  obtain ⟨f, hf⟩ := p1 h
  obtain ⟨r, hr⟩ := r1 h
  exact Or.inl ⟨f, r, hf, hr⟩
 | true =>
  rcases Nat.eq_zero_or_pos (dec (mixD s)) with h0 | h0
  ·obtain ⟨f, hf⟩ := p2 h h0
   obtain ⟨r, hr⟩ := r2 h h0
   exact Or.inl ⟨f, r, hf, hr⟩
  ·obtain ⟨f, hf, hw⟩ := p3 h h0
   have hm : mixOk s = ((cutB 32 (body s)).2.2 && ((cutB 47 (cutB 32 (body s)).2.1).2.2 && (okW (mixA s) && (okW (mixN s) && okW (mixD s))))) := rfl
   rw [hm] at h
   simp only [Bool.and_eq_true] at h
   obtain ⟨_, _, k1, k2, k3⟩ := h
   have D1 := okW_digits k1
   have D2 := okW_digits k2
   have D3 := okW_digits k3
   have m1 := dl_mul (dec (mixA s)) (dec (mixD s))
   have m2 := dl_add2 (m := dec (mixA s) * dec (mixD s)) (n := dec (mixN s)) (k := 200) (by omega) (by omega)
   refine Or.inr ⟨f, signOf s, _, _, hf, r3 ?_ h0, hw, by omega, by omega⟩
   rw [hm]
   simp only [Bool.and_eq_true]
   exact ⟨‹_›, ‹_›, k1, k2, k3⟩
theorem atoi_total {s : Str} (h : s.length < 1000000) : ∃ k e, sAtoi (s, ()) = some (k, e, ()) := by
 unfold sAtoi
 rw [if_pos (show s.length <= 281474976710656 by omega)]
 cases Lib.atoiAll s <;> exact ⟨_, _, rfl⟩
theorem count_any {s : Str} (hs : s.length < 1000000) (n : Int) : ∃ k e, sAtoi (s.takeWhile isDigit, ()) = some (k, e, ()) /\ value_count s n = some (k, decide (((s.takeWhile isDigit).length : Int) = n) && (decide (s.dropWhile isDigit = []) && !e), ()) := by
 have hl := tw_len s
 obtain ⟨k, e, he⟩ := atoi_total (s := s.takeWhile isDigit) (by omega)
 refine ⟨k, e, he, ?_⟩
 unfold value_count
 rw [vdigits_eq (by omega), Option.bind_some]
 simp only [he, Option.bind_some, cond_some', cond_pair, Bool.cond_self]
 by_cases h1 : ((s.takeWhile isDigit).length : Int) = n
 ·by_cases h2 : s.dropWhile isDigit = []
  ·rw [decide_eq_true h1, decide_eq_true h2]; cases e <;> rfl
  ·rw [decide_eq_true h1, decide_eq_false h2]; rfl
 ·rw [decide_eq_false h1]; rfl
theorem count_eq {s : Str} (hs : s.length < 1000000) {n : Nat} (hn : n <= 10) (h1 : 1 <= n) : ∃ k, value_count s (n : Int) = some (k, okD s && decide (s.length = n), ()) /\ ((okD s && decide (s.length = n)) = true -> k = (dec s : Int)) := by
 obtain ⟨k, e, he, hc⟩ := count_any hs (n : Int)
 cases h : (okD s && decide (s.length = n)) with
 | true =>
  rw [Bool.and_eq_true, decide_eq_true_eq, okD_iff] at h
  have ht := tw_of_all h.1.2
  have ha := sAtoi_digits h.1.1 (by omega) h.1.2
  rw [ht] at he hc
  have he' : sAtoi (s, ()) = some ((dec s : Int), false, ()) := ha
  rw [he'] at he
  cases he
  refine ⟨_, ?_, fun _ => rfl⟩
  rw [hc, decide_eq_true (by omega), decide_eq_true (all_dw.2 h.1.2)]; rfl
 | false =>
  refine ⟨k, ?_, fun x => by cases x⟩
  rw [hc]
  by_cases h2 : s.dropWhile isDigit = []
  ·have hall := all_dw.1 h2
   rw [tw_of_all hall]
   by_cases h3 : (s.length : Int) = (n : Int)
   ·have : (okD s && decide (s.length = n)) = true := by
     rw [Bool.and_eq_true, decide_eq_true_eq, okD_iff]
     exact ⟨⟨fun e => by rw [e] at h3; simp at h3; omega, hall⟩, by omega⟩
    rw [this] at h; cases h
   ·rw [decide_eq_false h3]; rfl
  ·rw [decide_eq_false h2, Bool.false_and, Bool.and_false]
theorem day_bound {y m d : Int} (h : dateP y m d) : 1 <= dayN y m d /\ dayN y m d <= 3000000 := by
 unfold dateP at h
 have b := bef_small (i := (y - 1900).toNat) (by omega)
 rw [show (1900 : Int) + ((y - 1900).toNat : Int) = y by omega] at b
 have mp := msum_pos y (m - 1).toNat
 have dp := mdays_pos y m
 unfold dayN
 omega
theorem day_of {y m d : Int} : ∃ f k, value_Day y m d = some (((k : Nat) : Int), decide (dateP y m d), ()) /\ exact_Of ((k : Nat) : Int) = some (f, ()) /\ W f false k 1 /\ chanceryref2_Day y m d = some (((k : Nat) : Int), ()) /\ k <= 3000000 /\ (0 < k ↔ dateP y m d) := by
 rw [pday_eq, rday_eq]
 by_cases h : dateP y m d
 ·have hb := day_bound h
  obtain ⟨f, hf, hw⟩ := W.of (k := (dayN y m d).toNat) (by omega)
  refine ⟨f, (dayN y m d).toNat, ?_, hf, hw, ?_, by omega, ⟨fun _ => h, fun _ => by omega⟩⟩
  ·rw [if_pos h, Int.toNat_of_nonneg (by omega)]
  ·rw [if_pos h, Int.toNat_of_nonneg (by omega)]
 ·obtain ⟨f, hf, hw⟩ := W.of (k := 0) (by omega)
  refine ⟨f, 0, ?_, hf, hw, ?_, by omega, ⟨fun h => by omega, fun x => absurd x h⟩⟩
  ·rw [if_neg h]; rfl
  ·rw [if_neg h]; rfl
theorem date_agree {s : Str} (hs : s.length < 1000000) : ∃ b f z k, value_date s = some (f, b, ()) /\ chanceryref2_enteredDate s = some (z, b, ()) /\ f.1.length < 100000000 /\ f.2.1.length < 100000000 /\ (b = true -> z = N10 false k 1 /\ W f false k 1 /\ k <= 3000000) := by
 have hsp : strings_Split s [45] = some (spl 45 s, ()) := Split_eq 45 (by omega)
 have hrs : chanceryref2_Split s 45 = some (spl 45 s, ()) := rSplit_eq 45 (by omega)
 have hlen := spl_len 45 s
 have hpart := spl_part 45 s
 unfold value_date chanceryref2_enteredDate
 rw [hsp, Option.bind_some, hrs, Option.bind_some]
 simp only []
 by_cases h3 : (spl 45 s).length = 3
 case neg =>
  rw [decide_eq_false (show ¬ (((spl 45 s).length : Int) = 3) by omega)]
  exact ⟨false, ([], [], ()), (false, [], [], ()), 0, rfl, rfl, by decide, by decide, fun h => by cases h⟩
 obtain ⟨x, y, z, hxyz⟩ : ∃ x y z, spl 45 s = [x, y, z] := by
  match hq : spl 45 s, h3 with
  | [x, y, z], _ => exact ⟨x, y, z, rfl⟩
 have lx := hpart x (by rw [hxyz]; simp)
 have ly := hpart y (by rw [hxyz]; simp)
 have lz := hpart z (by rw [hxyz]; simp)
 rw [hxyz]
 have i0 : idx [x, y, z] 0 = some x := rfl
 have i1 : idx [x, y, z] 1 = some y := rfl
 have i2 : idx [x, y, z] 2 = some z := rfl
 obtain ⟨k1, e1, g1⟩ := count_eq (s := x) (n := 4) (by omega) (by omega) (by omega)
 obtain ⟨k2, e2, g2⟩ := count_eq (s := y) (n := 2) (by omega) (by omega) (by omega)
 obtain ⟨k3, e3, g3⟩ := count_eq (s := z) (n := 2) (by omega) (by omega) (by omega)
 have a1 : chanceryref2_allDigits x = some (okD x, ()) := allDigits_eq (by omega)
 have a2 : chanceryref2_allDigits y = some (okD y, ()) := allDigits_eq (by omega)
 have a3 : chanceryref2_allDigits z = some (okD z, ()) := allDigits_eq (by omega)
 obtain ⟨f, k, d1, d2, d3, d4, d5, d6⟩ := day_of (y := k1) (m := k2) (d := k3)
 have e1' : value_count x 4 = some (k1, okD x && decide (x.length = 4), ()) := e1
 have e2' : value_count y 2 = some (k2, okD y && decide (y.length = 2), ()) := e2
 have e3' : value_count z 2 = some (k3, okD z && decide (z.length = 2), ()) := e3
 simp only [i0, i1, i2, Option.bind_some, e1', e2', e3', d1, d2, a1, a2, a3, List.length_cons, List.length_nil, cond_some', cond_pair, Bool.cond_self]
 have c1 : decide ((x.length : Int) = 4) = decide (x.length = 4) := by by_cases h : x.length = 4 <;> simp [h] <;> omega
 have c2 : decide ((y.length : Int) = 2) = decide (y.length = 2) := by by_cases h : y.length = 2 <;> simp [h] <;> omega
 have c3 : decide ((z.length : Int) = 2) = decide (z.length = 2) := by by_cases h : z.length = 2 <;> simp [h] <;> omega
 rw [c1, c2, c3]
 cases q1 : (okD x && decide (x.length = 4)) && ((okD y && decide (y.length = 2)) && (okD z && decide (z.length = 2))) with
 | false =>
  refine ⟨false, f, (false, [], [], ()), 0, ?_, ?_, d3.len.1, d3.len.2, fun h => by cases h⟩
  ·generalize okD x = p1 at q1 ⊢
   generalize okD y = p2 at q1 ⊢
   generalize okD z = p3 at q1 ⊢
   generalize decide (x.length = 4) = p4 at q1 ⊢
   generalize decide (y.length = 2) = p5 at q1 ⊢
   generalize decide (z.length = 2) = p6 at q1 ⊢
   clear e1 e2 e3 e1' e2' e3' g1 g2 g3 a1 a2 a3
   cases p1 <;> cases p2 <;> cases p3 <;> cases p4 <;> cases p5 <;> cases p6 <;> first | rfl | cases q1
  ·generalize okD x = p1 at q1 ⊢
   generalize okD y = p2 at q1 ⊢
   generalize okD z = p3 at q1 ⊢
   generalize decide (x.length = 4) = p4 at q1 ⊢
   generalize decide (y.length = 2) = p5 at q1 ⊢
   generalize decide (z.length = 2) = p6 at q1 ⊢
   clear e1 e2 e3 e1' e2' e3' g1 g2 g3 a1 a2 a3
   cases p1 <;> cases p2 <;> cases p3 <;> cases p4 <;> cases p5 <;> cases p6 <;> first | rfl | cases q1
 | true =>
  simp only [Bool.and_eq_true] at q1
  obtain ⟨⟨o1, o2⟩, ⟨o3, o4⟩, o5, o6⟩ := q1
  have s1 : chanceryref2_small x = some ((dec x : Int), ()) := small_eq ((okD_iff x).1 o1).2 (by have := of_decide_eq_true o2; omega)
  have s2 : chanceryref2_small y = some ((dec y : Int), ()) := small_eq ((okD_iff y).1 o3).2 (by have := of_decide_eq_true o4; omega)
  have s3 : chanceryref2_small z = some ((dec z : Int), ()) := small_eq ((okD_iff z).1 o5).2 (by have := of_decide_eq_true o6; omega)
  have j1 : (dec x : Int) = k1 := (g1 (by rw [o1, o2]; rfl)).symm
  have j2 : (dec y : Int) = k2 := (g2 (by rw [o3, o4]; rfl)).symm
  have j3 : (dec z : Int) = k3 := (g3 (by rw [o5, o6]; rfl)).symm
  have hw := Whole_nat (k := k) (by omega)
  rw [o1, o2, o3, o4, o5, o6]
  simp only [s1, s2, s3, j1, j2, j3, d4, hw, Option.bind_some]
  have e0 : decide (0 < (k : Int)) = decide (dateP k1 k2 k3) := by
   by_cases h : dateP k1 k2 k3
   ·rw [decide_eq_true h, decide_eq_true (by have := d6.2 h; omega)]
   ·rw [decide_eq_false h, decide_eq_false (by have := mt d6.1 h; omega)]
  rw [e0]
  exact ⟨decide (dateP k1 k2 k3), f, N10 false k 1, k, rfl, rfl, d3.len.1, d3.len.2, fun _ => ⟨rfl, d3, d5⟩⟩
theorem fin_prog {f e : FracD} {S D : Nat} (w : W f false S D) (we : W e false 86400 1) (h1 : dl S <= 100) (h2 : dl D <= 100) : ∃ g, exact_Div f e = some (g, 0, ()) /\ W g false S (D * 86400) := by
 have hd := w.div we (by omega)
 rw [Nat.mul_one] at hd
 have d5 : dl 86400 <= 5 := dl_le.2 (by decide)
 have m1 := dl_mul D 86400
 have ho : (fracOut false S (D * 86400)).2.1 = 0 := out_ok (by omega) (by omega)
 refine ⟨_, ?_, W.of_out (Nat.mul_pos w.pos (by omega)) ho⟩
 rw [hd]
 exact congrArg some (Prod.ext rfl (Prod.ext ho rfl))
theorem fin_ref {S D : Nat} (h1 : dl S <= 100) (h2 : dl D <= 100) : chanceryref2_Rat__Mul (N10 false S D) (N10 false 1 86400) = some (N10 false S (D * 86400), ()) := by
 have d5 : dl 86400 <= 5 := dl_le.2 (by decide)
 have d1 : dl 1 = 1 := dl_ten 0
 rw [mul_eq (by omega) (by omega) (by omega) (by omega), Nat.mul_one]
 rfl
def hmOk (a b : Str) : Bool := (okD a && decide (a.length <= 2)) && ((okD b && decide (b.length = 2)) && (decide (dec a <= 23) && decide (dec b <= 59)))
theorem hm_prog {a b : Str} (ha : a.length < 1000000) (hb : b.length < 1000000) : ∃ h A m B, value_count a (a.length : Int) = some (h, A, ()) /\ value_count b 2 = some (m, B, ()) /\
  (bif !A then true else bif !B then true else bif decide (2 < (a.length : Int)) then true else bif decide (23 < h) then true else decide (59 < m)) = !hmOk a b /\ (hmOk a b = true -> h = (dec a : Int) /\ m = (dec b : Int)) := by
 obtain ⟨m, hm, gm⟩ := count_eq (s := b) (n := 2) hb (by omega) (by omega)
 have hm' : value_count b 2 = some (m, okD b && decide (b.length = 2), ()) := hm
 by_cases h0 : a.length = 0
 ·have ea : a = [] := List.eq_nil_of_length_eq_zero h0
  subst ea
  obtain ⟨k, e, he, hc⟩ := count_any (s := []) (by decide) ((([] : Str).length : Nat) : Int)
  have hat : sAtoi (([] : Str), ()) = some (0, true, ()) := rfl
  have he' : sAtoi (([] : Str), ()) = some (k, e, ()) := he
  rw [hat] at he'
  cases he'
  exact ⟨_, _, m, _, hc, hm', rfl, fun h => by cases h⟩
 ·by_cases h2 : a.length <= 2
  ·obtain ⟨k, hk, gk⟩ := count_eq (s := a) (n := a.length) ha (by omega) (by omega)
   rw [decide_eq_true (p := a.length = a.length) rfl, Bool.and_true] at hk gk
   refine ⟨k, _, m, _, hk, hm', ?_, ?_⟩
   ·unfold hmOk
    rw [decide_eq_true h2, decide_eq_false (show ¬ (2 : Int) < (a.length : Int) by omega)]
    cases q1 : okD a with
    | false => rfl
    | true =>
     have ek := gk q1
     cases q2 : (okD b && decide (b.length = 2)) with
     | false => rfl
     | true =>
      have em := gm q2
      rw [ek, em]
      by_cases r1 : dec a <= 23
      ·by_cases r2 : dec b <= 59
       ·rw [decide_eq_true r1, decide_eq_true r2, decide_eq_false (show ¬ (23 : Int) < (dec a : Int) by omega), decide_eq_false (show ¬ (59 : Int) < (dec b : Int) by omega)]; rfl
       ·rw [decide_eq_true r1, decide_eq_false r2, decide_eq_false (show ¬ (23 : Int) < (dec a : Int) by omega), decide_eq_true (show (59 : Int) < (dec b : Int) by omega)]; rfl
      ·rw [decide_eq_false r1, decide_eq_true (show (23 : Int) < (dec a : Int) by omega)]; rfl
   ·intro h
    unfold hmOk at h
    simp only [Bool.and_eq_true] at h
    exact ⟨gk h.1.1, gm (by rw [h.2.1.1, h.2.1.2]; rfl)⟩
  ·obtain ⟨k, e, he, hc⟩ := count_any (s := a) ha (a.length : Int)
   refine ⟨k, _, m, _, hc, hm', ?_, ?_⟩
   ·unfold hmOk
    rw [decide_eq_false h2, decide_eq_true (show (2 : Int) < (a.length : Int) by omega), Bool.and_false, Bool.false_and]
    generalize (decide (((List.takeWhile isDigit a).length : Int) = (a.length : Int)) && (decide (List.dropWhile isDigit a = []) && !e)) = A
    cases A <;> cases (okD b && decide (b.length = 2)) <;> rfl
   ·intro h
    unfold hmOk at h
    rw [decide_eq_false h2, Bool.and_false, Bool.false_and] at h
    cases h
theorem hm_ref {a b : Str} (ha : a.length < 1000000) (hb : b.length < 1000000) {Z : Type} (z : Z) :
  ((chanceryref2_allDigits a).bind fun v3 => cond (!v3.1) (some ((), true, z, ())) (cond (decide (2 < (a.length : Int))) (some ((), true, z, ())) ((chanceryref2_allDigits b).bind fun v6 => cond (!v6.1) (some ((), true, z, ())) (cond (!decide ((b.length : Int) = 2)) (some ((), true, z, ())) ((chanceryref2_small a).bind fun v9 => cond (decide (23 < v9.1)) (some ((), true, z, ())) ((chanceryref2_small b).bind fun v11 => some ((), (decide (59 < v11.1)), z, ()))))))) =
   some ((), !hmOk a b, z, ()) /\ (hmOk a b = true -> chanceryref2_small a = some ((dec a : Int), ()) /\ chanceryref2_small b = some ((dec b : Int), ())) := by
 have a1 : chanceryref2_allDigits a = some (okD a, ()) := allDigits_eq (by omega)
 have a2 : chanceryref2_allDigits b = some (okD b, ()) := allDigits_eq (by omega)
 constructor
 ·rw [a1, Option.bind_some, a2]
  unfold hmOk
  simp only [Option.bind_some]
  cases q1 : okD a with
  | false => rfl
  | true =>
   by_cases h2 : a.length <= 2
   ·rw [decide_eq_true h2, decide_eq_false (show ¬ (2 : Int) < (a.length : Int) by omega)]
    cases q2 : okD b with
    | false => rfl
    | true =>
     by_cases h3 : b.length = 2
     ·have s1 : chanceryref2_small a = some ((dec a : Int), ()) := small_eq ((okD_iff a).1 q1).2 (by omega)
      have s2 : chanceryref2_small b = some ((dec b : Int), ()) := small_eq ((okD_iff b).1 q2).2 (by omega)
      rw [decide_eq_true h3, decide_eq_true (show (b.length : Int) = 2 by omega), s1, s2]
      simp only [Bool.not_true, cond_false, Option.bind_some]
      by_cases r1 : dec a <= 23
      ·by_cases r2 : dec b <= 59
       ·rw [decide_eq_true r1, decide_eq_true r2, decide_eq_false (show ¬ (23 : Int) < (dec a : Int) by omega), decide_eq_false (show ¬ (59 : Int) < (dec b : Int) by omega)]; rfl
       ·rw [decide_eq_true r1, decide_eq_false r2, decide_eq_false (show ¬ (23 : Int) < (dec a : Int) by omega), decide_eq_true (show (59 : Int) < (dec b : Int) by omega)]; rfl
      ·rw [decide_eq_false r1, decide_eq_true (show (23 : Int) < (dec a : Int) by omega)]; rfl
     ·rw [decide_eq_false h3, decide_eq_false (show ¬ (b.length : Int) = 2 by omega)]; rfl
   ·rw [decide_eq_false h2, decide_eq_true (show (2 : Int) < (a.length : Int) by omega)]; rfl
 ·intro h
  unfold hmOk at h
  simp only [Bool.and_eq_true, decide_eq_true_eq] at h
  exact ⟨small_eq ((okD_iff a).1 h.1.1).2 (by have := h.1.2; omega), small_eq ((okD_iff b).1 h.2.1.1).2 (by have := h.2.1.2; omega)⟩
def secA (c : Str) : Str := (cutB 46 c).1
def secP (c : Str) : Str := (cutB 46 c).2.1
def secOk (c : Str) : Bool := (okD (secA c) && decide ((secA c).length = 2)) && (decide (dec (secA c) <= 59) && (!(cutB 46 c).2.2 || (okD (secP c) && decide ((secP c).length <= 9))))
theorem cutB_rest {c : UInt8} : ∀ {s : Str}, (cutB c s).2.2 = false -> (cutB c s).2.1 = []
 | [], _ => rfl
 | x :: r, h => by
  simp only [cutB] at h ⊢
  by_cases e : x = c
  ·rw [if_pos e] at h; cases h
  ·rw [if_neg e] at h ⊢
   exact cutB_rest (s := r) h
theorem secOk_iff {c : Str} (h : secOk c = true) : (secA c).all isDigit = true /\ (secA c).length = 2 /\ dec (secA c) <= 59 /\ (secP c).all isDigit = true /\ (secP c).length <= 9 /\ ((cutB 46 c).2.2 = true -> secP c ≠ []) /\ secA c ≠ [] := by
 unfold secOk at h
 simp only [Bool.and_eq_true, decide_eq_true_eq, Bool.or_eq_true, Bool.not_eq_true'] at h
 obtain ⟨⟨h1, h2⟩, h3, h4⟩ := h
 have h1 := (okD_iff _).1 h1
 refine ⟨h1.2, h2, h3, ?_, ?_, ?_, h1.1⟩
 ·rcases h4 with h | h
  ·unfold secP; rw [cutB_rest h]; rfl
  ·exact ((okD_iff _).1 h.1).2
 ·rcases h4 with h | h
  ·unfold secP; rw [cutB_rest h]; exact Nat.zero_le _
  ·exact h.2
 ·intro hp
  rcases h4 with h | h
  ·rw [hp] at h; cases h
  ·exact ((okD_iff _).1 h.1).1
theorem tw_stop {a b : Str} {c : UInt8} (h : a.all isDigit = true) (hc : isDigit c = false) : (a ++ c :: b).takeWhile isDigit = a /\ (a ++ c :: b).dropWhile isDigit = c :: b := by
 induction a with
 | nil => simp [hc]
 | cons x r ih =>
  rw [List.all_cons, Bool.and_eq_true] at h
  obtain ⟨i1, i2⟩ := ih h.2
  constructor
  ·rw [List.cons_append, List.takeWhile_cons, h.1, if_pos rfl, i1]
  ·rw [List.cons_append, List.dropWhile_cons, h.1, if_pos rfl, i2]
theorem sec_dec {c : Str} (h : secOk c = true) : decOf c = some (false, dec (secA c ++ secP c), -((secP c).length : Int)) := by
 obtain ⟨d1, d2, d3, d4, d5, d6, d7⟩ := secOk_iff h
 have he := cutB_eq 46 c
 cases hp : (cutB 46 c).2.2 with
 | false =>
  rw [hp, cond_false, List.append_nil] at he
  have e1 : c = secA c := he
  have e2 : secP c = [] := cutB_rest hp
  rw [e2, List.append_nil, <- e1]
  rw [<- e1] at d1 d7
  exact decOf_digits d7 d1
 | true =>
  rw [hp, cond_true] at he
  have e1 : c = secA c ++ 46 :: secP c := he
  have hsg : signOf c = false := by
   cases q : secA c with
   | nil => exact absurd q d7
   | cons x r =>
    rw [e1, q]
    have : signOf (x :: r) = false := signOf_digit (by rw [<- q]; exact d1)
    exact this
  have hbd : body c = c := by unfold body; rw [hsg]; rfl
  have ts := tw_stop (a := secA c) (b := secP c) (c := 46) d1 (by decide)
  unfold decOf
  simp only [hbd, hsg]
  rw [show c.takeWhile isDigit = secA c from by conv => lhs; rw [e1]; rw [ts.1]] 
  rw [show c.dropWhile isDigit = 46 :: secP c from by conv => lhs; rw [e1]; rw [ts.2]]
  rw [if_pos (show (46 :: secP c).head? = some 46 from rfl), List.tail_cons, tw_of_all d4, if_neg (d6 hp), all_dw.2 d4]
  unfold decFin expo
  simp only []
  rw [if_neg d7, Int.zero_sub]
theorem sec_W {c : Str} (hc : c.length < 1000) (h : secOk c = true) : ∃ f, exact_Parse c = some (f, 0, ()) /\ W f false (dec (secA c) * 10 ^ (secP c).length + dec (secP c)) (10 ^ (secP c).length) /\ dl (dec (secA c) * 10 ^ (secP c).length + dec (secP c)) <= 12 /\ dl (10 ^ (secP c).length) <= 10 := by
 obtain ⟨d1, d2, d3, d4, d5, d6, d7⟩ := secOk_iff h
 have hp := Parse_eq (s := c) (by omega)
 rw [sec_dec h] at hp
 simp only [] at hp
 have e1 : finN (dec (secA c ++ secP c)) (-((secP c).length : Int)) = dec (secA c) * 10 ^ (secP c).length + dec (secP c) := by
  rw [<- dec_append]
  unfold finN
  by_cases h0 : (secP c).length = 0
  ·rw [h0]; simp
  ·rw [if_pos (by omega)]
 have e2 : finD (-((secP c).length : Int)) = 10 ^ (secP c).length := by
  unfold finD
  by_cases h0 : (secP c).length = 0
  ·rw [h0]; simp
  ·rw [if_pos (by omega)]; simp
 rw [e1, e2] at hp
 have b1 : dl (dec (secA c) * 10 ^ (secP c).length + dec (secP c)) <= 12 := by
  rw [<- dec_append, dl_le]
  have := dec_lt _ (secA c ++ secP c) rfl (by rw [List.all_append, d1, d4]; rfl)
  have l : (secA c ++ secP c).length <= 11 := by rw [List.length_append]; omega
  have : 10 ^ (secA c ++ secP c).length <= 10 ^ 12 := Nat.pow_le_pow_right (by omega) (by omega)
  omega
 have b2 : dl (10 ^ (secP c).length) <= 10 := by rw [dl_ten]; omega
 have ho : (fracOut false (dec (secA c) * 10 ^ (secP c).length + dec (secP c)) (10 ^ (secP c).length)).2.1 = 0 := out_ok (by omega) (by omega)
 have hw := W.of_out (m := false) (pos_ten (secP c).length) ho
 refine ⟨_, ?_, hw, b1, b2⟩
 rw [hp]
 exact congrArg some (Prod.ext rfl (Prod.ext ho rfl))
theorem sec_prog {c : Str} (hc : c.length < 1000000) : ∃ k C, value_count (secA c) 2 = some (k, C, ()) /\
  (bif !C then true else bif decide (59 < k) then true else bif (cutB 46 c).2.2 then (bif decide ((secP c).takeWhile isDigit = []) then true else bif !decide ((secP c).dropWhile isDigit = []) then true else decide (9 < (((secP c).takeWhile isDigit).length : Int))) else false) = !secOk c := by
 have l := cutB_len 46 c
 obtain ⟨k, hk, gk⟩ := count_eq (s := secA c) (n := 2) (by unfold secA; omega) (by omega) (by omega)
 refine ⟨k, _, hk, ?_⟩
 unfold secOk
 cases q1 : (okD (secA c) && decide ((secA c).length = 2)) with
 | false => rfl
 | true =>
  have ek := gk q1
  rw [ek]
  by_cases r1 : dec (secA c) <= 59
  ·rw [decide_eq_true r1, decide_eq_false (show ¬ (59 : Int) < (dec (secA c) : Int) by omega)]
   cases (cutB 46 c).2.2 with
   | false => rfl
   | true =>
    rw [okD_tw]
    by_cases t1 : (secP c).takeWhile isDigit = []
    ·rw [decide_eq_true t1]; rfl
    ·rw [decide_eq_false t1]
     by_cases t2 : (secP c).dropWhile isDigit = []
     ·rw [decide_eq_true t2, tw_of_all (all_dw.1 t2)]
      by_cases t3 : (secP c).length <= 9
      ·rw [decide_eq_true t3, decide_eq_false (show ¬ (9 : Int) < ((secP c).length : Int) by omega)]; rfl
      ·rw [decide_eq_false t3, decide_eq_true (show (9 : Int) < ((secP c).length : Int) by omega)]; rfl
     ·rw [decide_eq_false t2]; rfl
  ·rw [decide_eq_false r1, decide_eq_true (show (59 : Int) < (dec (secA c) : Int) by omega)]; rfl
theorem sec_ref {c : Str} (hc : c.length < 1000000) (z N : NumD) :
  (cond (decide (2 < ((spl 46 c).length : Int))) (some ((), (), true, z, N, ())) ((idx (spl 46 c) 0).bind fun v21 => cond (!decide ((v21.length : Int) = 2)) (some ((), (), true, z, N, ())) ((idx (spl 46 c) 0).bind fun v22 => (chanceryref2_allDigits v22).bind fun v23 => cond (!v23.1) (some ((), (), true, z, N, ()))
   ((idx (spl 46 c) 0).bind fun v24 => (chanceryref2_small v24).bind fun v25 => cond (decide (59 < v25.1)) (some ((), (), true, z, N, ())) (cond (decide (((spl 46 c).length : Int) = 2)) ((idx (spl 46 c) 1).bind fun v26 => (chanceryref2_allDigits v26).bind fun v27 => cond (!v27.1) (some ((), (), true, z, N, ()))
   ((idx (spl 46 c) 1).bind fun v28 => some ((), (), decide (9 < (v28.length : Int)), z, N, ()))) (some ((), (), false, z, N, ()))))))) = some ((), (), !secOk c, z, N, ()) := by
 have hsc := spl_cut 46 c
 have l := cutB_len 46 c
 have a1 : chanceryref2_allDigits (secA c) = some (okD (secA c), ()) := allDigits_eq (by unfold secA; omega)
 have a2 : chanceryref2_allDigits (secP c) = some (okD (secP c), ()) := allDigits_eq (by unfold secP; omega)
 have one : ∀ t : List Str, idx (secA c :: t) 0 = some (secA c) := fun _ => rfl
 cases hp : (cutB 46 c).2.2 with
 | false =>
  rw [hp, cond_false] at hsc
  have hs : spl 46 c = [secA c] := hsc
  unfold secOk
  rw [hs, hp, one]
  simp only [List.length_cons, List.length_nil, Option.bind_some, a1]
  rw [decide_eq_false (show ¬ (2 < ((0 + 1 : Nat) : Int)) by omega), decide_eq_false (show ¬ (((0 + 1 : Nat) : Int) = 2) by omega)]
  simp only [cond_false]
  by_cases q2 : (secA c).length = 2
  ·rw [decide_eq_true q2, decide_eq_true (show ((secA c).length : Int) = 2 by omega)]
   cases q1 : okD (secA c) with
   | false => rfl
   | true =>
    have s1 : chanceryref2_small (secA c) = some ((dec (secA c) : Int), ()) := small_eq ((okD_iff _).1 q1).2 (by omega)
    rw [s1]
    by_cases r1 : dec (secA c) <= 59
    ·simp only [Bool.not_true, cond_false, Option.bind_some]
     rw [decide_eq_true r1, decide_eq_false (show ¬ (59 : Int) < (dec (secA c) : Int) by omega)]; rfl
    ·simp only [Bool.not_true, cond_false, Option.bind_some]
     rw [decide_eq_false r1, decide_eq_true (show (59 : Int) < (dec (secA c) : Int) by omega)]; rfl
  ·rw [decide_eq_false q2, decide_eq_false (show ¬ ((secA c).length : Int) = 2 by omega)]
   cases okD (secA c) <;> rfl
 | true =>
  rw [hp, cond_true] at hsc
  have hpos := List.length_pos_iff.2 (spl_ne 46 (cutB 46 c).2.1)
  by_cases h1 : (spl 46 (cutB 46 c).2.1).length = 1
  ·have hs : spl 46 c = [secA c, secP c] := by rw [hsc, spl_one h1]; rfl
   have two : idx [secA c, secP c] 1 = some (secP c) := rfl
   unfold secOk
   rw [hs, hp, one, two]
   simp only [List.length_cons, List.length_nil, Option.bind_some, a1, a2]
   rw [decide_eq_false (show ¬ (2 < ((0 + 1 + 1 : Nat) : Int)) by omega), decide_eq_true (show (((0 + 1 + 1 : Nat) : Int) = 2) by omega)]
   simp only [cond_false, cond_true]
   by_cases q2 : (secA c).length = 2
   ·rw [decide_eq_true q2, decide_eq_true (show ((secA c).length : Int) = 2 by omega)]
    cases q1 : okD (secA c) with
    | false => rfl
    | true =>
     have s1 : chanceryref2_small (secA c) = some ((dec (secA c) : Int), ()) := small_eq ((okD_iff _).1 q1).2 (by omega)
     rw [s1]
     by_cases r1 : dec (secA c) <= 59
     ·simp only [Bool.not_true, cond_false, Option.bind_some]
      rw [decide_eq_true r1, decide_eq_false (show ¬ (59 : Int) < (dec (secA c) : Int) by omega)]
      cases okD (secP c) with
      | false => rfl
      | true =>
       by_cases r2 : (secP c).length <= 9
       ·rw [decide_eq_true r2, decide_eq_false (show ¬ (9 : Int) < ((secP c).length : Int) by omega)]; rfl
       ·rw [decide_eq_false r2, decide_eq_true (show (9 : Int) < ((secP c).length : Int) by omega)]; rfl
     ·simp only [Bool.not_true, cond_false, Option.bind_some]
      rw [decide_eq_false r1, decide_eq_true (show (59 : Int) < (dec (secA c) : Int) by omega)]; rfl
   ·rw [decide_eq_false q2, decide_eq_false (show ¬ ((secA c).length : Int) = 2 by omega)]
    cases okD (secA c) <;> rfl
  ·have hno : secOk c = false := by
    cases h : secOk c with
    | false => rfl
    | true =>
     have hm := found_mem (spl_found h1)
     exact absurd (List.all_eq_true.1 (secOk_iff h).2.2.2.1 46 hm) (by decide)
   rw [hno, hsc, decide_eq_true (by rw [List.length_cons]; omega)]; rfl
theorem clock_agree {s : Str} (hs : s.length < 40000) : ∃ b f z n d, value_clock s = some (f, b, ()) /\ chanceryref2_enteredTime s = some (z, b, ()) /\ f.1.length < 100000000 /\ f.2.1.length < 100000000 /\ (b = true -> z = N10 false n d /\ W f false n d /\ dl n <= 100 /\ dl d <= 100) := by
 have hsp : strings_Split s [58] = some (spl 58 s, ()) := Split_eq 58 (by omega)
 have hrs : chanceryref2_Split s 58 = some (spl 58 s, ()) := rSplit_eq 58 (by omega)
 have hlen := spl_len 58 s
 have hpart := spl_part 58 s
 obtain ⟨e86, he86, we86⟩ : ∃ e, exact_Of 86400 = some (e, ()) /\ W e false 86400 1 := W.of (k := 86400) (by omega)
 have hw86 : chanceryref2_Whole 86400 = some (N10 false 86400 1, ()) := Whole_nat (k := 86400) (by omega)
 unfold value_clock chanceryref2_enteredTime
 simp only [he86, hw86, Option.bind_some, inv_N10]
 rw [hsp, Option.bind_some, hrs, Option.bind_some]
 simp only []
 by_cases h2 : (spl 58 s).length < 2
 ·rw [decide_eq_true (show ((spl 58 s).length : Int) < 2 by omega)]
  exact ⟨false, ([], [], ()), (false, [], [], ()), 0, 0, rfl, rfl, by decide, by decide, fun h => by cases h⟩
 by_cases h3 : 3 < (spl 58 s).length
 ·rw [decide_eq_false (show ¬ ((spl 58 s).length : Int) < 2 by omega), decide_eq_true (show 3 < ((spl 58 s).length : Int) by omega)]
  exact ⟨false, ([], [], ()), (false, [], [], ()), 0, 0, rfl, rfl, by decide, by decide, fun h => by cases h⟩
 rw [decide_eq_false (show ¬ ((spl 58 s).length : Int) < 2 by omega), decide_eq_false (show ¬ 3 < ((spl 58 s).length : Int) by omega)]
 simp only [cond_false, Option.bind_some]
 obtain ⟨a, b, t, hab, ht⟩ : ∃ a b t, spl 58 s = a :: b :: t /\ t.length <= 1 := by
  match hq : spl 58 s with
  | [] => rw [hq] at h2; simp at h2
  | [x] => rw [hq] at h2; simp at h2
  | x :: y :: t => rw [hq] at h3; exact ⟨x, y, t, rfl, by simp at h3; omega⟩
 have la := hpart a (by rw [hab]; simp)
 have lb := hpart b (by rw [hab]; simp)
 obtain ⟨h, A, m, B, v1, v2, v3, v4⟩ := hm_prog (a := a) (b := b) (by omega) (by omega)
 obtain ⟨r1, r2⟩ := hm_ref (a := a) (b := b) (by omega) (by omega) (Z := NumD) (false, [], [], ())
 rw [hab]
 have i0 : idx (a :: b :: t) 0 = some a := rfl
 have i1 : idx (a :: b :: t) 1 = some b := rfl
 simp only [i0, i1, Option.bind_some, v1, v2, cond_some', cond_pair, Bool.cond_self, v3]
 rw [r1, Option.bind_some]
 simp only []
 cases hk : hmOk a b with
 | false => exact ⟨false, ([], [], ()), (false, [], [], ()), 0, 0, rfl, rfl, by decide, by decide, fun h => by cases h⟩
 | true =>
  obtain ⟨j1, j2⟩ := v4 hk
  obtain ⟨s1, s2⟩ := r2 hk
  have hk' := hk
  unfold hmOk at hk'
  simp only [Bool.and_eq_true, decide_eq_true_eq] at hk'
  have ba := hk'.2.2.1
  have bb := hk'.2.2.2
  have wS : IntKind.i64.wrap (IntKind.i64.wrap (3600 * (dec a : Int)) + IntKind.i64.wrap (60 * (dec b : Int))) = ((3600 * dec a + 60 * dec b : Nat) : Int) := by
   rw [wrap_i64 (n := 3600 * (dec a : Int)) (by omega) (by omega), wrap_i64 (n := 60 * (dec b : Int)) (by omega) (by omega), wrap_i64 (by omega) (by omega)]
   omega
  generalize hS : 3600 * dec a + 60 * dec b = S at wS
  have bS : S <= 86340 := by omega
  have dS : dl S <= 5 := dl_le.2 (by omega)
  have d1 : dl 1 = 1 := dl_ten 0
  obtain ⟨f0, hf0, w0⟩ := W.of (k := S) (by omega)
  have hw0 := Whole_nat (k := S) (by omega)
  simp only [j1, j2, s1, s2, Option.bind_some, wS, hf0, hw0, Bool.not_true, cond_false]
  match t, ht with
  | [], _ =>
   obtain ⟨g, hg, wg⟩ := fin_prog w0 we86 (by omega) (by omega)
   have hr := fin_ref (S := S) (D := 1) (by omega) (by omega)
   have d5 : dl (1 * 86400) <= 100 := dl_le.2 (by decide)
   have d6 : dl S <= 100 := by omega
   simp only [List.length_cons, List.length_nil]
   rw [decide_eq_false (show ¬ (((0 + 1 + 1 : Nat) : Int) = 3) by omega)]
   simp only [cond_false, Option.bind_some, hg, hr]
   exact ⟨true, g, _, S, 1 * 86400, rfl, rfl, wg.len.1, wg.len.2, fun _ => ⟨rfl, wg, d6, d5⟩⟩
  | [c], _ =>
   have lc := hpart c (by rw [hab]; simp)
   have lcut := cutB_len 46 c
   have ic : idx [a, b, c] 2 = some c := rfl
   have hcut := strings_Cut_eq (s := c) (c := 46) (by omega)
   obtain ⟨k, C, e1, e2⟩ := sec_prog (c := c) (by omega)
   have hdg := vdigits_eq (s := secP c) (by unfold secP; omega)
   have hsp2 : chanceryref2_Split c 46 = some (spl 46 c, ()) := rSplit_eq 46 (by omega)
   have e1' : value_count (cutB 46 c).1 2 = some (k, C, ()) := e1
   have hdg' : value_digits (cutB 46 c).2.1 = some ((secP c).takeWhile isDigit, (secP c).dropWhile isDigit, ()) := hdg
   simp only [List.length_cons, List.length_nil, ic, Option.bind_some, hcut, e1', hdg', e2, hsp2]
   rw [decide_eq_true (show (((0 + 1 + 1 + 1 : Nat) : Int) = 3) by omega)]
   simp only [cond_true]
   have hfound : secOk c = true -> (spl 46 c = if (cutB 46 c).2.2 = true then [secA c, secP c] else [secA c]) := by
    intro hok
    have hc := spl_cut 46 c
    obtain ⟨q1, q2, q3, q4, q5, q6, q7⟩ := secOk_iff hok
    cases hp : (cutB 46 c).2.2 with
    | false => rw [hp, cond_false] at hc; rw [hc]; rfl
    | true =>
     rw [hp, cond_true] at hc
     rw [hc, if_pos rfl]
     have : (spl 46 (cutB 46 c).2.1).length = 1 := by
      rcases Nat.lt_or_ge (spl 46 (cutB 46 c).2.1).length 2 with g | g
      ·have := List.length_pos_iff.2 (spl_ne 46 (cutB 46 c).2.1)
       omega
      ·have hm := found_mem (spl_found (c := 46) (s := (cutB 46 c).2.1) (by omega))
       exact absurd (List.all_eq_true.1 q4 46 hm) (by decide)
     rw [spl_one this]; rfl
   rw [sec_ref (c := c) (by omega) (false, [], [], ()) (N10 false S 1)]
   simp only [Option.bind_some]
   cases hsk : secOk c with
   | false => exact ⟨false, ([], [], ()), (false, [], [], ()), 0, 0, rfl, rfl, by decide, by decide, fun h => by cases h⟩
   | true =>
    obtain ⟨q1, q2, q3, q4, q5, q6, q7⟩ := secOk_iff hsk
    obtain ⟨pf, hpf, wpf, l1, l2⟩ := sec_W (c := c) (by
     have he := cutB_eq 46 c
     have : c.length <= (secA c).length + 1 + (secP c).length := by
      cases hp : (cutB 46 c).2.2 with
      | false =>
       rw [hp, cond_false, List.append_nil] at he
       have : c.length = (secA c).length := congrArg List.length he
       omega
      | true =>
       rw [hp, cond_true] at he
       have : c.length = (secA c ++ 46 :: secP c).length := congrArg List.length he
       rw [List.length_append, List.length_cons] at this
       omega
     omega) hsk
    have hadd := w0.add wpf
    generalize hk1 : dec (secA c) = k1 at *
    generalize hk2 : dec (secP c) = k2 at *
    have hl := hfound hsk
    have s1 : chanceryref2_small (secA c) = some ((k1 : Int), ()) := by rw [<- hk1]; exact small_eq q1 (by omega)
    have hw1 := Whole_nat (k := k1) (by omega)
    have dk1 : dl k1 <= 2 := dl_le.2 (by omega)
    have hra : chanceryref2_Rat__Add (N10 false S 1) (N10 false k1 1) = some (N10 false (S + k1) 1, ()) := by
     have := add_eq (k := 100) (m1 := false) (m2 := false) (n1 := S) (d1 := 1) (n2 := k1) (d2 := 1) (by omega) (by omega) (by omega) (by omega) (by omega)
     unfold sumM sumN at this
     rwa [if_pos rfl, if_pos rfl, Nat.mul_one, Nat.mul_one, Nat.mul_one] at this
    generalize hP : 10 ^ (secP c).length = P at *
    have dT : dl (S * P) <= dl S + dl P := dl_mul S P
    have dX : dl (S * P + (k1 * P + k2)) <= 50 := by
     have := dl_add2 (m := S * P) (n := k1 * P + k2) (k := 30) (by omega) (by omega)
     omega
    rw [Nat.mul_one, Nat.one_mul] at hadd
    have ho : (fracOut false (S * P + (k1 * P + k2)) P).2.1 = 0 := out_ok (by omega) (by omega)
    have wsum := W.of_out (m := false) (n := S * P + (k1 * P + k2)) wpf.pos ho
    obtain ⟨g, hg, wg⟩ := fin_prog wsum we86 (by omega) (by omega)
    have hr := fin_ref (S := S * P + (k1 * P + k2)) (D := P) (by omega) (by omega)
    have d7 : dl (P * 86400) <= 100 := by
     have m := dl_mul P 86400
     have d5 : dl 86400 <= 5 := dl_le.2 (by decide)
     omega
    simp only [Bool.not_true, cond_false, hpf, hadd, Option.bind_some, hg]
    cases hp : (cutB 46 c).2.2 with
    | false =>
     rw [hp, if_neg (by simp)] at hl
     have e0 : secP c = [] := cutB_rest hp
     have eP : P = 1 := by rw [<- hP, e0]; rfl
     have ek : k2 = 0 := by rw [<- hk2, e0]; rfl
     rw [hl]
     simp only [show idx [secA c] 0 = some (secA c) from rfl, Option.bind_some, s1, hw1, hra, List.length_cons, List.length_nil]
     rw [decide_eq_false (show ¬ (((0 + 1 : Nat) : Int) = 2) by omega)]
     simp only [cond_false, Option.bind_some]
     rw [eP, ek, Nat.mul_one, Nat.mul_one, Nat.add_zero] at hr
     simp only [hr, Option.bind_some]
     rw [eP, ek, Nat.mul_one, Nat.mul_one, Nat.add_zero] at wg dX
     rw [eP] at d7
     exact ⟨true, g, _, _, _, rfl, rfl, wg.len.1, wg.len.2, fun _ => ⟨rfl, wg, by omega, d7⟩⟩
    | true =>
     rw [hp, if_pos rfl] at hl
     have hpl : 0 < (secP c).length := List.length_pos_iff.2 (q6 hp)
     have hn : chanceryref2_NatOf (secP c) = some (rep 10 k2, ()) := by rw [<- hk2]; exact natof_eq q4 (by omega)
     have dk2 : dl k2 <= 12 := Nat.le_trans (dl_mono (Nat.le_add_left k2 (k1 * P))) l1
     have hsc : chanceryref2_Rat__Scaled (false, rep 10 k2, [1], ()) (IntKind.i64.wrap (0 - ((secP c).length : Int))) = some (N10 false k2 P, ()) := by
      have e := Scaled_down (m := false) (n := k2) (d := 1) (k := (secP c).length) (by omega) hpl (by omega)
      have e1 : N10 false k2 1 = (false, rep 10 k2, [1], ()) := by unfold N10; rw [one10]
      rw [e1, Nat.one_mul, hP] at e
      rw [wrap_i64 (by omega) (by omega), Int.zero_sub]
      exact e
     have hra2 : chanceryref2_Rat__Add (N10 false (S + k1) 1) (N10 false k2 P) = some (N10 false (S * P + (k1 * P + k2)) P, ()) := by
      have dSk := dl_add2 (m := S) (n := k1) (k := 5) (by omega) (by omega)
      have := add_eq (k := 100) (m1 := false) (m2 := false) (n1 := S + k1) (d1 := 1) (n2 := k2) (d2 := P) (by omega) (by omega) (by omega) (by omega) (by omega)
      unfold sumM sumN at this
      rw [if_pos rfl, if_pos rfl, Nat.mul_one, Nat.one_mul, Nat.add_mul, Nat.add_assoc] at this
      exact this
     rw [hl]
     simp only [show idx [secA c, secP c] 0 = some (secA c) from rfl, show idx [secA c, secP c] 1 = some (secP c) from rfl, Option.bind_some, s1, hw1, hra, List.length_cons, List.length_nil]
     rw [decide_eq_true (show (((0 + 1 + 1 : Nat) : Int) = 2) by omega)]
     simp only [cond_true, hn, hsc, hra2, hr, Option.bind_some]
     exact ⟨true, g, _, _, _, rfl, rfl, wg.len.1, wg.len.2, fun _ => ⟨rfl, wg, by omega, d7⟩⟩
theorem cutB_pre {c : UInt8} : ∀ {s : Str} {i : Nat}, i < (cutB c s).1.length -> s[i]? ≠ some c
 | [], i, h => by simp
 | x :: r, i, h => by
  simp only [cutB] at h
  by_cases e : x = c
  ·rw [if_pos e] at h; simp at h
  ·rw [if_neg e] at h
   cases i with
   | zero => simpa using e
   | succ i =>
    simp only [List.length_cons] at h
    have := cutB_pre (c := c) (s := r) (i := i) (by omega)
    simpa using this
theorem app_parts {a r s : Str} {c : UInt8} (h : s = a ++ c :: r) : s.take a.length = a /\ s.drop (a.length + 1) = r /\ s[a.length]? = some c := by
 subst h
 refine ⟨List.take_left, ?_, ?_⟩
 ·rw [<- List.drop_drop, List.drop_left]; rfl
 ·rw [List.getElem?_append_right (Nat.le_refl _), Nat.sub_self]; rfl
theorem moment_agree {s : Str} (hs : s.length < 40000) : Agree (value_instant s) (chanceryref2_enteredMoment s) := by
 have l := cutB_len 32 s
 have hcut := strings_Cut_eq (s := s) (c := 32) (by omega)
 obtain ⟨b1, f1, z1, k, d1, d2, d3, d4, d5⟩ := date_agree (s := (cutB 32 s).1) (by omega)
 obtain ⟨b2, f2, z2, n, d, t1, t2, t3, t4, t5⟩ := clock_agree (s := (cutB 32 s).2.1) (by omega)
 obtain ⟨f, e, hadd, hne⟩ := add_total d3 d4 t3 t4
 have prog : value_instant s = some (f, (cutB 32 s).2.2 && (b1 && (b2 && decide (e = 0))), ()) := by
  unfold value_instant
  rw [hcut, Option.bind_some]
  simp only [d1, t1, hadd, Option.bind_some, cond_some', cond_pair, Bool.cond_self]
  cases (cutB 32 s).2.2 <;> cases b1 <;> cases b2 <;> rfl
 have skip : ∀ i, i < s.length -> s[i]? ≠ some 32 -> ∀ z : NumD, chanceryref2_enteredMoment_l1 s ((), (i : Int), z, ()) = some (.inl ((), ((i + 1 : Nat) : Int), z, ())) := by
  intro i hi hx z
  unfold chanceryref2_enteredMoment_l1
  have hne : ¬ ofByte s[i] = 32 := fun e => hx (by
   rw [List.getElem?_eq_getElem hi]
   rw [ofByte_eq] at e
   have : s[i] = 32 := UInt8.toNat_inj.1 (show s[i].toNat = (32 : UInt8).toNat by
    have : (32 : UInt8).toNat = 32 := rfl
    omega)
   rw [this])
  simp only []
  rw [decide_eq_true (show (i : Int) < (s.length : Int) by omega), cond_true, idx_lt hi, Option.bind_some, decide_eq_false hne, cond_false, wsuc (by omega)]
 cases hp : (cutB 32 s).2.2 with
 | false =>
  have hnone : (cutB 32 s).1 = s := by
   have := cutB_eq 32 s
   rw [hp, cond_false, List.append_nil] at this
   exact this.symm
  have hl : Halts (chanceryref2_enteredMoment_l1 s) (0 + s.length) ((), ((0 : Nat) : Int), (false, ([], ([], ()))), ()) (.inl ((), (false, ([], ([], ()))), ())) := by
   refine Halts.along (fun i => ((), (i : Int), (false, ([], ([], ()))), ())) s.length (fun i hi => skip i hi (cutB_pre (by rw [hnone]; exact hi)) _) (.done ?_)
   unfold chanceryref2_enteredMoment_l1
   rw [decide_eq_false (show ¬ ((s.length : Int) < (s.length : Int)) by omega), cond_false]
  refine Or.inl ⟨f, (false, [], [], ()), by rw [prog, hp]; rfl, ?_⟩
  unfold chanceryref2_enteredMoment
  have := hl.loop (by omega)
  rw [show ((() : Unit), (0 : Int), ((false, ([], ([], ()))) : NumD), ()) = ((), ((0 : Nat) : Int), (false, ([], ([], ()))), ()) from rfl, this, Option.bind_some]
 | true =>
  have he := cutB_eq 32 s
  rw [hp, cond_true] at he
  have hil : (cutB 32 s).1.length < s.length := by
   have : s.length = ((cutB 32 s).1 ++ 32 :: (cutB 32 s).2.1).length := congrArg List.length he
   rw [List.length_append, List.length_cons] at this
   omega
  have c1 : cut s 0 ((cutB 32 s).1.length : Int) = some (cutB 32 s).1 := by
   have := cut_nat (xs := s) (a := 0) (b := (cutB 32 s).1.length) (by omega) (by omega)
   rw [List.drop_zero] at this
   rw [(app_parts he).1] at this
   exact this
  have c2 : cut s (((cutB 32 s).1.length + 1 : Nat) : Int) (s.length : Int) = some (cutB 32 s).2.1 := by
   rw [cut_nat (by omega) (by omega), List.take_length]
   rw [(app_parts he).2.1]
  have hget : s[(cutB 32 s).1.length]'hil = 32 := by
   have : s[(cutB 32 s).1.length]? = some 32 := (app_parts he).2.2
   rw [List.getElem?_eq_getElem hil] at this
   exact Option.some.inj this
  have last : ∀ r, chanceryref2_enteredMoment_l1 s ((), ((cutB 32 s).1.length : Int), (false, ([], ([], ()))), ()) = some (.inr r) -> chanceryref2_enteredMoment s = (match r with
    | .inl _ => (some ((false, ([], ([], ()))), false, ()))
    | .inr z12 => (some (z12.2.2.1, z12.2.1, ()))) := by
   intro r hr
   have hl : Halts (chanceryref2_enteredMoment_l1 s) (0 + (cutB 32 s).1.length) ((), ((0 : Nat) : Int), (false, ([], ([], ()))), ()) r := by
    refine Halts.along (fun i => ((), (i : Int), (false, ([], ([], ()))), ())) (cutB 32 s).1.length (fun i hi => skip i (by omega) (cutB_pre hi) _) (.done hr)
   unfold chanceryref2_enteredMoment
   have := hl.loop (by omega)
   rw [show ((() : Unit), (0 : Int), ((false, ([], ([], ()))) : NumD), ()) = ((), ((0 : Nat) : Int), (false, ([], ([], ()))), ()) from rfl, this, Option.bind_some]
   rfl
  have stp : chanceryref2_enteredMoment_l1 s ((), ((cutB 32 s).1.length : Int), (false, ([], ([], ()))), ()) = (bif !(b1 && b2) then some (.inr (.inr ((), false, (false, ([], ([], ()))), ()))) else (chanceryref2_Rat__Add z1 z2).bind fun v9 => some (.inr (.inr ((), true, v9.1, ())))) := by
   unfold chanceryref2_enteredMoment_l1
   simp only []
   have h32 : ofByte (32 : UInt8) = 32 := rfl
   rw [decide_eq_true (show ((cutB 32 s).1.length : Int) < (s.length : Int) by omega), cond_true, idx_lt hil, Option.bind_some, hget, h32, decide_eq_true rfl, cond_true, c1, Option.bind_some, wsuc (by omega), c2]
   simp only [d2, t2, Option.bind_some]
   cases b1 <;> cases b2 <;> rfl
  cases hb : (b1 && b2) with
  | false =>
   rw [hb] at stp
   refine Or.inl ⟨f, (false, [], [], ()), ?_, last _ stp⟩
   rw [prog, hp, Bool.true_and, <- Bool.and_assoc, hb]; rfl
  | true =>
   rw [Bool.and_eq_true] at hb
   obtain ⟨rfl, rfl⟩ := hb
   obtain ⟨e1, w1, k3⟩ := d5 rfl
   obtain ⟨e2, w2, n3, n4⟩ := t5 rfl
   have dk : dl k <= 7 := dl_le.2 (by omega)
   have d1' : dl 1 = 1 := dl_ten 0
   have hra : chanceryref2_Rat__Add (N10 false k 1) (N10 false n d) = some (N10 false (k * d + n) d, ()) := by
    have := add_eq (k := 100) (m1 := false) (m2 := false) (n1 := k) (d1 := 1) (n2 := n) (d2 := d) (by omega) (by omega) (by omega) (by omega) (by omega)
    unfold sumM sumN at this
    rwa [if_pos rfl, if_pos rfl, Nat.mul_one, Nat.one_mul] at this
   have hpa := w1.add w2
   rw [Nat.mul_one, Nat.one_mul] at hpa
   have m1 := dl_mul k d
   have m2 := dl_add2 (m := k * d) (n := n) (k := 200) (by omega) (by omega)
   have ho : (fracOut false (k * d + n) d).2.1 = 0 := out_ok (by omega) (by omega)
   have ws := W.of_out (m := false) (n := k * d + n) w2.pos ho
   rw [hpa] at hadd
   have hfe : fracOut false (k * d + n) d = (f, e, ()) := Option.some.inj hadd
   rw [hfe] at ho ws
   have e0 : e = 0 := ho
   rw [e1, e2, hra] at stp
   refine Or.inr ⟨f, false, k * d + n, d, ?_, last _ stp, ws, by omega, by omega⟩
   rw [prog, hp, e0]; rfl
end Go.Proofs.YtmbejoibeninmaaGreatDoor
