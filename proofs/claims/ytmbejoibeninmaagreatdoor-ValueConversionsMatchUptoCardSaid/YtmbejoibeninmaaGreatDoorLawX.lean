import Derived.Test.YtmbejoibeninmaaGreatDoorLawW
import Derived.Test.YtmbejoibeninmaaGreatDoorRLawY
namespace Go.Proofs.YtmbejoibeninmaaGreatDoor
open Go Go.Fe
def stripZ : Nat -> Str -> Str
 | 0, s => s
 | k + 1, s => if s.getLast? = some 48 then stripZ k s.dropLast else s
theorem last_idx {s : Str} (h : s ≠ []) (hl : s.length < 1000000) : ∃ c, s.getLast? = some c /\ idx s (IntKind.i64.wrap ((s.length : Int) - 1)) = some c /\ cut s 0 (IntKind.i64.wrap ((s.length : Int) - 1)) = some s.dropLast := by
 have hp := List.length_pos_iff.2 h
 have hw : IntKind.i64.wrap ((s.length : Int) - 1) = ((s.length - 1 : Nat) : Int) := by rw [wrap_i64 (by omega) (by omega)]; omega
 refine ⟨s[s.length - 1], ?_, ?_, ?_⟩
 ·rw [List.getLast?_eq_getElem?, List.getElem?_eq_getElem (by omega)]
 ·rw [hw, idx_lt (by omega)]
 ·have := cut_nat (xs := s) (a := 0) (b := s.length - 1) (by omega) (by omega)
  rw [List.drop_zero] at this
  rw [hw, show (0 : Int) = ((0 : Nat) : Int) from rfl, this, List.dropLast_eq_take]
theorem ztrim_halts : ∀ (k : Nat) (s : Str), s.length <= k -> s.length < 1000000 -> Halts (strings_trimRightByte_l1 48) (k + 1) (s, ()) (stripZ k s, ())
 | 0, s, hk, _ => by
  have : s = [] := List.eq_nil_of_length_eq_zero (by omega)
  subst this
  exact Halts.done rfl
 | k + 1, s, hk, hl => by
  by_cases h0 : s = []
  ·subst h0; exact Halts.done rfl
  ·obtain ⟨c, h1, h2, h3⟩ := last_idx h0 hl
   have hp := List.length_pos_iff.2 h0
   have c48 : decide (ofByte c = 48) = decide (c = 48) := ofByte_is c 48 (by omega)
   have hs : strings_trimRightByte_l1 48 (s, ()) = some (if c = 48 then .inl (s.dropLast, ()) else .inr (s, ())) := by
    unfold strings_trimRightByte_l1
    simp only []
    rw [decide_eq_true (show (0 : Int) < (s.length : Int) by omega), cond_true, h2, Option.bind_some, Option.bind_some, c48, h3]
    by_cases e : c = 48
    ·rw [decide_eq_true e, if_pos e]; rfl
    ·rw [decide_eq_false e, if_neg e]; rfl
   simp only [stripZ, h1]
   by_cases e : c = 48
   ·rw [if_pos e] at hs
    rw [if_pos (by rw [e])]
    exact Halts.step hs (ztrim_halts k s.dropLast (by rw [List.length_dropLast]; omega) (by rw [List.length_dropLast]; omega))
   ·rw [if_neg e] at hs
    rw [if_neg (fun x => e (Option.some.inj x))]
    exact Halts.done hs
theorem rtrim_halts : ∀ (k : Nat) (s : Str), s.length <= k -> s.length < 1000000 -> (∃ c ∈ s, c ≠ 48) -> Halts chanceryref2_Show_l1 (k + 1) (s, ()) (stripZ k s, ()) /\ ∃ c ∈ stripZ k s, c ≠ 48
 | 0, s, hk, _, hc => by
  have : s = [] := List.eq_nil_of_length_eq_zero (by omega)
  subst this
  obtain ⟨c, h, _⟩ := hc
  cases h
 | k + 1, s, hk, hl, hc => by
  have h0 : s ≠ [] := by
   obtain ⟨c, h, _⟩ := hc
   intro e; rw [e] at h; cases h
  obtain ⟨c, h1, h2, h3⟩ := last_idx h0 hl
  have hp := List.length_pos_iff.2 h0
  have c48 : decide (ofByte c = 48) = decide (c = 48) := ofByte_is c 48 (by omega)
  have hs : chanceryref2_Show_l1 (s, ()) = some (if c = 48 then .inl (s.dropLast, ()) else .inr (s, ())) := by
   unfold chanceryref2_Show_l1
   rw [h2, Option.bind_some, c48, h3]
   by_cases e : c = 48
   ·rw [decide_eq_true e, if_pos e]; rfl
   ·rw [decide_eq_false e, if_neg e]; rfl
  simp only [stripZ, h1]
  by_cases e : c = 48
  ·rw [if_pos e] at hs
   rw [if_pos (by rw [e])]
   have hc' : ∃ c ∈ s.dropLast, c ≠ 48 := by
    obtain ⟨x, hx, hn⟩ := hc
    refine ⟨x, ?_, hn⟩
    rcases List.eq_nil_or_concat s with z | ⟨y, w, z⟩
    ·exact absurd z h0
    ·rw [List.concat_eq_append] at z
     rw [z] at hx h1 ⊢
     have hw : w = c := by simpa using h1
     rw [List.dropLast_concat]
     rcases List.mem_append.1 hx with g | g
     ·exact g
     ·rw [List.mem_singleton] at g
      exact absurd (g.trans (hw.trans e)) hn
   obtain ⟨i1, i2⟩ := rtrim_halts k s.dropLast (by rw [List.length_dropLast]; omega) (by rw [List.length_dropLast]; omega) hc'
   exact ⟨Halts.step hs i1, i2⟩
  ·rw [if_neg e] at hs
   rw [if_neg (fun x => e (Option.some.inj x))]
   exact ⟨Halts.done hs, hc⟩
theorem stripZ_len : ∀ (k : Nat) (s : Str), (stripZ k s).length <= s.length
 | 0, s => Nat.le_refl _
 | k + 1, s => by
  simp only [stripZ]
  split
  ·have := stripZ_len k s.dropLast
   rw [List.length_dropLast] at this
   omega
  ·exact Nat.le_refl _
theorem suf46 (x : Str) : Lib.hasSuffix x [46] = decide (x.getLast? = some 46) := by
 unfold Lib.hasSuffix
 rcases List.eq_nil_or_concat x with e | ⟨y, c, e⟩
 ·rw [e]; rfl
 ·rw [e, List.concat_eq_append]
  by_cases h : c = 46
  ·subst h
   have h1 : ([46] : Str).isSuffixOf (y ++ [46]) = true := by
    rw [List.isSuffixOf_iff_suffix]; exact List.suffix_append ..
   rw [h1]; simp
  ·have h1 : ([46] : Str).isSuffixOf (y ++ [c]) = false := by
    cases hq : ([46] : Str).isSuffixOf (y ++ [c]) with
    | false => rfl
    | true =>
     rw [List.isSuffixOf_iff_suffix] at hq
     obtain ⟨p, hp⟩ := hq
     have := congrArg List.getLast? hp
     simp at this
     exact absurd this.symm h
   rw [h1]; simp [h]
def neat (s : Str) : Str := if (stripZ s.length s).getLast? = some 46 then (stripZ s.length s).dropLast else stripZ s.length s
theorem neat_prog {s : Str} (hl : s.length < 1000000) : ((strings_TrimRight s [48]).bind fun v5 => (sTrimSuffix (v5.1, [46], ())).bind fun v6 => some v6) = some (neat s, ()) := by
 have ht : strings_TrimRight s [48] = some (stripZ s.length s, ()) := by
  by_cases h0 : s = []
  ·subst h0; rfl
  ·have red : strings_TrimRight s [48] = (strings_trimRightByte s 48).bind fun v5 => some v5 := by
    have e5 : ofByte (48 : UInt8) = 48 := rfl
    unfold strings_TrimRight
    rw [decide_eq_false h0]
    have e1 : (decide (([48] : Str) = [])) = false := rfl
    have e6 : (decide ((([48] : Str).length : Int) = 1)) = true := rfl
    have e3 : idx ([48] : Str) 0 = some 48 := rfl
    rw [cond_false, e1]
    refine (Option.bind_some ..).trans ?_
    simp only [e6, cond_true, cond_false]
    rw [e3]
    refine (Option.bind_some ..).trans ?_
    rw [Option.bind_some, e5]
    show cond (decide ((48 : Int) < 128)) _ _ = _
    rw [decide_eq_true (show (48 : Int) < 128 by decide), cond_true]
   rw [red]
   unfold strings_trimRightByte
   rw [(ztrim_halts s.length s (Nat.le_refl _) hl).loop (by omega)]
   rfl
 have hle := stripZ_len s.length s
 rw [ht, Option.bind_some]
 unfold sTrimSuffix
 have hle' : (stripZ s.length s).length <= 9223372036854775807 := by omega
 simp only [hle', if_true, Option.bind_some]
 unfold Lib.trimSuffix neat
 simp only [suf46]
 by_cases h : (stripZ s.length s).getLast? = some 46
 ·rw [if_pos (by simpa using h), if_pos h, List.dropLast_eq_take]; rfl
 ·rw [if_neg (by simpa using h), if_neg h]
theorem neat_ref {s : Str} (hl : s.length < 1000000) (hc : ∃ c ∈ s, c ≠ 48) : ((loop chanceryref2_Show_l1 (s, ())).bind fun r11 =>
 ((idx r11.1 (IntKind.i64.wrap ((r11.1.length : Int) - 1))).bind fun v12 =>
 cond (decide ((ofByte v12) = 46))
 ((cut r11.1 0 (IntKind.i64.wrap ((r11.1.length : Int) - 1))).bind fun v13 =>
 some (v13, ()))
 (some r11) : Option (Str × Unit)).bind fun r14 =>
 some r14) = some (neat s, ()) := by
 obtain ⟨h1, h2⟩ := rtrim_halts s.length s (Nat.le_refl _) hl hc
 have hle := stripZ_len s.length s
 rw [h1.loop (by omega), Option.bind_some]
 have h0 : stripZ s.length s ≠ [] := by
  obtain ⟨c, h, _⟩ := h2
  intro e; rw [e] at h; cases h
 obtain ⟨c, g1, g2, g3⟩ := last_idx h0 (by omega)
 have c46 : decide (ofByte c = 46) = decide (c = 46) := ofByte_is c 46 (by omega)
 unfold neat
 simp only [g2, Option.bind_some, c46, g3, g1]
 by_cases e : c = 46
 ·rw [decide_eq_true e, if_pos (by rw [e])]; rfl
 ·rw [decide_eq_false e, if_neg (fun x => e (Option.some.inj x))]; rfl
theorem decTxt_point (m : Bool) (q k : Nat) (hk : 0 < k) : ∃ c ∈ decTxt m q k, c ≠ 48 := by
 refine ⟨46, ?_, by decide⟩
 unfold decTxt pointed
 rw [if_pos hk]
 cases (m && decide (q ≠ 0)) <;> simp
theorem decTxt_len (m : Bool) (q k : Nat) : (decTxt m q k).length <= dl q + k + 10 := by
 have h1 := padded_len q k
 have h2 := pointed_len (padded q k) k
 unfold decTxt
 cases (m && decide (q ≠ 0)) <;> simp only [cond_true, cond_false, List.length_cons] <;> omega
theorem ftext5 : ftext 5 = [35, 78, 85, 77, 33] := by kernel_rfl
theorem fixed_bad {f : FracD} {e : Int} (h : exact_Fixed f 12 = some ([], e, ())) (he : e ≠ 0) : ((exact_Fixed f 12).bind fun v3 => cond (!decide (v3.2.1 = 0)) ((value_FaultText 5).bind fun v4 => some v4) ((strings_TrimRight v3.1 [48]).bind fun v5 => (sTrimSuffix (v5.1, [46], ())).bind fun v6 => some v6)) = some ([35, 78, 85, 77, 33], ()) := by
 have key : ∀ K : Str -> Option (Str × Unit), ((exact_Fixed f 12).bind fun v3 => cond (!decide (v3.2.1 = 0)) ((value_FaultText 5).bind fun v4 => some v4) (K v3.1)) = some ([35, 78, 85, 77, 33], ()) := by
  intro K
  have hft : value_FaultText 5 = some ([35, 78, 85, 77, 33], ()) := (FaultText_eq 5).trans (congrArg (fun z => some (z, ())) ftext5)
  rw [h, Option.bind_some, hft]
  show cond (!decide (e = 0)) _ _ = _
  rw [decide_eq_false he]
  rfl
 exact key fun z => (strings_TrimRight z [48]).bind fun v5 => (sTrimSuffix (v5.1, [46], ())).bind fun v6 => some v6
theorem frac_bad {o : FracD × (Int × Unit)} (he : o.2.1 ≠ 0) {α : Type} (x : α) (K : FracD × (Int × Unit) -> Option α) : ((some o).bind fun v7 => cond (!decide (v7.2.1 = 0)) (some x) (K v7)) = some x := by
 rw [Option.bind_some]
 show cond (!decide (o.2.1 = 0)) _ _ = _
 rw [decide_eq_false he]
 rfl
theorem num_shown (r1 r2 : Val -> Option (Str × Unit)) {v : Val} (hk : v.data.1 = 1) (hs : SmallN v) (ha : fracErr (vnum v) = 0) : ∃ s, value_shown_s r1 v = some (s, ()) /\ chanceryref2_Show_s r2 v = some (s, ()) := by
 have ga := good_of ha
 have hr : exact_read (vnum v) = some (N9 (signOf (vnum v).1) (dec (body (vnum v).1)) (dec (vnum v).2.1), 0, ()) := read_good hs.1 hs.2 ha
 have hR : chanceryref2_RatOf (vnum v) = some (N10 (signOf (vnum v).1) (dec (body (vnum v).1)) (dec (vnum v).2.1), ()) := ratOf_eq ga
 have e1 := ga.dln
 have e2 := ga.dld
 have e3 := ga.pos
 have e4 := ga.cop
 have e5 := ga.neg
 have hv : (v.data.2.1.1, (v.data.2.1.2.1, ())) = vnum v := rfl
 unfold value_shown_s chanceryref2_Show_s
 rw [decide_eq_true hk, cond_true, cond_true, hv, hR, Option.bind_some]
 simp only []
 unfold value_decimal
 generalize signOf (vnum v).1 = m at *
 generalize dec (body (vnum v).1) = n at *
 generalize dec (vnum v).2.1 = d at *
 generalize vnum v = f at *
 obtain ⟨x, y, c, f1, f2, f3⟩ := factor25 d d (Nat.le_refl _) e3
 have hc : 0 < c := by
  rcases Nat.eq_zero_or_pos c with e | e
  ·subst e; exact absurd rfl f2
  ·exact e
 obtain ⟨b1, b2⟩ := exp_bound hc f1 e2
 have hS := Shortest_good hr e3 e1 e2 hc f2 f3 f1
 have hP := Places_eq (m := m) e3 e4 e5 e1 e2 hc f2 f3 f1
 have hfx : c = 1 -> chanceryref2_Rat__Fixed (N10 m n d) ((max x y : Nat) : Int) = some (decTxt m (n * 10 ^ max x y / d) (max x y), ()) := fun g => by
  rw [rFixed_eq e3 (by omega) e1 e2, rnd_exact e3 (by rw [f1, g, Nat.mul_one]; exact dvd_ten)]
 have hFi := Fixed_good (k := 12) hr e3 e1 e2
 have t12 : Int.toNat 12 = 12 := rfl
 rw [if_neg (by omega), t12] at hFi
 have hFX := rFixed_eq (m := m) (n := n) (k := 12) e3 (by omega) e1 e2
 have hRo := rRound_eq (m := m) (n := n) (k := 12) e3 (by omega) (by omega) e1 e2
 have e12 : ((12 : Nat) : Int) = 12 := rfl
 rw [e12] at hFX
 obtain ⟨s1, s2⟩ := sc_dl (n := n) (d := d) (k := 12) (by omega) (by omega)
 have s3 := rnd_dl (scN n 12) (scD d 12)
 have d1 : dl 1 = 1 := dl_ten 0
 obtain ⟨s4, s5⟩ := sc_dl (n := rnd (scN n 12) (scD d 12)) (d := 1) (k := -12) (by omega) (by omega)
 have hfr : chanceryref2_Rat__Frac (N10 m (scN (rnd (scN n 12) (scD d 12)) (-12)) (scD 1 (-12))) = some (fracOut m (scN (rnd (scN n 12) (scD d 12)) (-12)) (scD 1 (-12))) := frac_eq (scD_pos (by omega) _) (by omega) (by omega)
 have hlen : (decTxt m (rnd (scN n 12) (scD d 12)) 12).length < 1000000 := by
  have := decTxt_len m (rnd (scN n 12) (scD d 12)) 12
  omega
 have hnp := neat_prog hlen
 have hnr := neat_ref hlen (decTxt_point m _ 12 (by omega))
 clear s1 s2 s3 s4 s5
 generalize rnd (scN n 12) (scD d 12) = q at *
 generalize fracOut m (scN q (-12)) (scD 1 (-12)) = o at *
 generalize N10 m (scN q (-12)) (scD 1 (-12)) = R at *
 generalize decTxt m q 12 = D at *
 rw [hS, hP]
 by_cases g : c = 1 /\ (decTxt m (n * 10 ^ max x y / d) (max x y)).length <= 40
 ·rw [if_pos g.1, if_pos g.1]
  simp only [Option.bind_some, cond_true]
  rw [decide_eq_true (show (((decTxt m (n * 10 ^ max x y / d) (max x y)).length : Int) <= 40) by omega), cond_true, decide_eq_true (show (0 : Int) <= ((max x y : Nat) : Int) by omega), cond_true, hfx g.1]
  simp only [Option.bind_some]
  rw [decide_eq_true (show (((decTxt m (n * 10 ^ max x y / d) (max x y)).length : Int) <= 40) by omega), cond_true]
  exact ⟨_, rfl, rfl⟩
 ·have hP2 : ((bif (decide (0 <= (if c = 1 then ((max x y : Nat) : Int) else -1))) then (chanceryref2_Rat__Fixed (N10 m n d) (if c = 1 then ((max x y : Nat) : Int) else -1)).bind fun v3 => bif decide ((v3.1.length : Int) <= 40) then some (.inr v3) else some (.inl ((), N10 m n d, ())) else some (.inl ((), N10 m n d, ()))) : Option ((Unit × (NumD × Unit)) ⊕ (Str × Unit))) = some (.inl ((), N10 m n d, ())) := by
   by_cases g1 : c = 1
   ·rw [if_pos g1, decide_eq_true (show (0 : Int) <= ((max x y : Nat) : Int) by omega), cond_true, hfx g1, Option.bind_some]
    simp only []
    rw [decide_eq_false (fun z => g ⟨g1, by omega⟩), cond_false]
   ·rw [if_neg g1]; rfl
  have hS2 : ((bif (if c = 1 then (decTxt m (n * 10 ^ max x y / d) (max x y), true, (0 : Int), ()) else (([] : Str), false, (0 : Int), ())).2.1 then some ((), (decide (((if c = 1 then (decTxt m (n * 10 ^ max x y / d) (max x y), true, (0 : Int), ()) else (([] : Str), false, (0 : Int), ())).1.length : Int) <= 40)), f, ()) else some ((), false, f, ())) : Option (Unit × (Bool × (FracD × Unit)))) = some ((), false, f, ()) := by
   by_cases g1 : c = 1
   ·rw [if_pos g1, cond_true]
    simp only []
    rw [decide_eq_false (fun z => g ⟨g1, by omega⟩)]
   ·rw [if_neg g1]; rfl
  simp only [Option.bind_some]
  rw [hS2, hP2, Option.bind_some, Option.bind_some]
  dsimp only
  rw [cond_false, hRo, Option.bind_some]
  dsimp only
  by_cases he : o.2.1 = 0
  ·have hF : exact_Fixed f 12 = some (D, 0, ()) := hFi.trans (congrArg some (if_neg (fun z => z he)))
   rw [hfr, Option.bind_some, hF, Option.bind_some, decide_eq_true he, Bool.not_true, cond_false, hFX, Option.bind_some]
   dsimp only
   rw [hnr, decide_eq_true rfl, Bool.not_true, cond_false, hnp]
   exact ⟨_, rfl, rfl⟩
  ·have hF : exact_Fixed f 12 = some ([], o.2.1, ()) := hFi.trans (congrArg some (if_pos he))
   rw [fixed_bad hF he, hfr]
   exact ⟨_, rfl, frac_bad he _ _⟩
theorem flat_shown (r1 r2 : Val -> Option (Str × Unit)) {v : Val} (hs : SmallN v) (hv : verr v = 0) (h5 : vkind v ≠ 5) : ∃ s, value_shown_s r1 v = some (s, ()) /\ chanceryref2_Show_s r2 v = some (s, ()) := by
 have ok := okv_of hv
 by_cases h1 : v.data.1 = 1
 ·exact num_shown r1 r2 h1 hs (ok.frac h1)
 have h5' : ¬ v.data.1 = 5 := h5
 unfold value_shown_s chanceryref2_Show_s
 rw [decide_eq_false h1, cond_false, cond_false]
 by_cases h2 : v.data.1 = 2
 ·rw [decide_eq_true h2, cond_true, cond_true]
  exact ⟨_, rfl, rfl⟩
 rw [decide_eq_false h2, cond_false, cond_false]
 by_cases h3 : v.data.1 = 3
 ·rw [decide_eq_true h3, cond_true, cond_true]
  cases v.data.2.2.2.1 <;> exact ⟨_, rfl, rfl⟩
 rw [decide_eq_false h3, cond_false, cond_false]
 by_cases h4 : v.data.1 = 4
 ·rw [decide_eq_true h4, cond_true, cond_true, FaultText_eq, rFaultText_eq]
  exact ⟨_, rfl, rfl⟩
 rw [decide_eq_false h4, cond_false, cond_false, decide_eq_false h5', cond_false, cond_false]
 exact ⟨_, rfl, rfl⟩
theorem arr_first {v : Val} (hv : verr v = 0) (h5 : vkind v = 5) : ∃ x r, v.kids = x :: r /\ verr x = 0 /\ vkind x ≠ 5 := by
 have h1 : verr1 v = 0 := by
  unfold verr at hv
  by_cases e : verr1 v = 0
  ·exact e
  ·rw [if_pos e] at hv; exact hv
 have e : verr v = if arrHead v ≠ 0 then arrHead v else itemsErr v.kids := (if_neg (fun z => z h1)).trans (if_pos h5)
 rw [e] at hv
 have ha : arrHead v = 0 := by
  by_cases z : arrHead v = 0
  ·exact z
  ·rw [if_pos z] at hv; exact hv
 rw [if_neg (fun z => z ha)] at hv
 unfold arrHead at ha
 by_cases g1 : vrows v < 1 \/ 100000 < vrows v \/ vcols v < 1 \/ 100000 < vcols v
 ·rw [if_pos g1] at ha; omega
 rw [if_neg g1] at ha
 obtain ⟨w1, w2⟩ := mul_small g1
 by_cases g2 : 100000 < vrows v * vcols v
 ·rw [if_pos g2] at ha; omega
 rw [if_neg g2] at ha
 have hlen : (v.kids.length : Int) = vrows v * vcols v := by
  by_cases g3 : (v.kids.length : Int) = vrows v * vcols v
  ·exact g3
  ·rw [if_pos g3] at ha; omega
 cases hk : v.kids with
 | nil => rw [hk] at hlen; simp at hlen; omega
 | cons x r =>
  rw [hk] at hv
  refine ⟨x, r, rfl, ?_⟩
  by_cases k5 : vkind x = 5
  ·have : itemsErr (x :: r) = 8 := if_pos k5
   omega
  ·by_cases e1 : verr1 x = 0
   ·exact ⟨by rw [verr_flat k5, e1], k5⟩
   ·have : itemsErr (x :: r) = verr1 x := (if_neg k5).trans (if_pos e1)
    omega
theorem shown_eq {v : Val} (hs : SmallV v) (hv : verr v = 0) : ∃ s, value_shown v = some (s, ()) /\ chanceryref2_Show v = some (s, ()) := by
 show ∃ s, value_shown_s (value_shown_f 1099511627775) v = some (s, ()) /\ chanceryref2_Show_s (chanceryref2_Show_f 1099511627775) v = some (s, ())
 by_cases h5 : vkind v = 5
 ·obtain ⟨x, r, hk, hx, hx5⟩ := arr_first hv h5
  obtain ⟨s, h1, h2⟩ := flat_shown (value_shown_f 1099511627774) (chanceryref2_Show_f 1099511627774) (v := x) (hs.2 x (by rw [hk]; exact List.mem_cons_self ..)) hx hx5
  have h1' : value_shown_f 1099511627775 x = some (s, ()) := h1
  have h2' : chanceryref2_Show_f 1099511627775 x = some (s, ()) := h2
  have hk5 : v.data.1 = 5 := h5
  have hi : idx v.kids 0 = some x := by rw [hk]; rfl
  unfold value_shown_s chanceryref2_Show_s
  rw [decide_eq_false (show ¬ v.data.1 = 1 by omega), cond_false, cond_false, decide_eq_false (show ¬ v.data.1 = 2 by omega), cond_false, cond_false, decide_eq_false (show ¬ v.data.1 = 3 by omega), cond_false, cond_false,
   decide_eq_false (show ¬ v.data.1 = 4 by omega), cond_false, cond_false, decide_eq_true hk5, cond_true, cond_true, hi, Option.bind_some, Option.bind_some, h1', h2']
  exact ⟨_, rfl, rfl⟩
 ·exact flat_shown _ _ hs.1 hv h5
theorem W.of_good {f : FracD} (ha : fracErr f = 0) : W f (signOf f.1) (dec (body f.1)) (dec f.2.1) := by
 have g := good_of ha
 refine ⟨?_, g.pos⟩
 rw [fracOut_low g.pos g.cop g.neg g.dln g.dld]
 exact congrArg (fun z => (z, (0 : Int), ())) (good_self g).symm
noncomputable def sc (v : Val) : Val := if verr v = 0 then (if vkind v = 5 then v.kids.headD vNone else v) else vFault 2
theorem sc_ok {v : Val} (hb : vb v <= 1048576) : verr (sc v) = 0 /\ vkind (sc v) ≠ 5 /\ vb (sc v) <= 1048576 := by
 unfold sc
 by_cases e : verr v = 0
 ·rw [if_pos e]
  by_cases h5 : vkind v = 5
  ·obtain ⟨x, r, hk, hx, hx5⟩ := arr_first e h5
   rw [if_pos h5, hk]
   exact ⟨hx, hx5, by have := vb_kid (v := v) (x := x) (by rw [hk]; exact List.mem_cons_self ..); show vb x <= _; omega⟩
  ·rw [if_neg h5]
   exact ⟨e, h5, hb⟩
 ·rw [if_neg e]
  exact ⟨sound_fault2, by decide, vb_fault 2⟩
theorem sc_prog {v : Val} (hb : vb v <= 1048576) : value_scalar v = some (sc v, ()) := by
 unfold value_scalar sc
 simp only [tn_eq]
 rw [valid_eq (vb_small hb), Option.bind_some]
 unfold soundV
 by_cases e : verr v = 0
 ·rw [if_pos e, if_pos e]
  by_cases h5 : vkind v = 5
  ·obtain ⟨x, r, hk, _⟩ := arr_first e h5
   rw [if_pos h5, hk]
   have hk5 : v.data.1 = 5 := h5
   simp only []
   rw [decide_eq_true hk5]
   rfl
  ·have hk5 : ¬ v.data.1 = 5 := h5
   rw [if_neg h5, decide_eq_false hk5]; rfl
 ·rw [if_neg e, if_neg e]; rfl
theorem sc_ref {v : Val} (hb : vb v <= 1048576) : chanceryref2_scalar v = some (sc v, ()) := by
 unfold chanceryref2_scalar sc
 simp only [tn_eq]
 rw [rErr_eq (vb_small hb), Option.bind_some, rFault_eq]
 by_cases e : verr v = 0
 ·rw [if_pos e, decide_eq_true e]
  by_cases h5 : vkind v = 5
  ·obtain ⟨x, r, hk, _⟩ := arr_first e h5
   rw [if_pos h5, hk]
   have hk5 : v.data.1 = 5 := h5
   rw [decide_eq_true hk5]
   rfl
  ·have hk5 : ¬ v.data.1 = 5 := h5
   rw [if_neg h5, decide_eq_false hk5]; rfl
 ·rw [if_neg e, decide_eq_false e]; rfl
theorem ent_valid {v : Val} (h : Entered v) : (vkind v = 1 -> fracErr (vnum v) = 0) := by
 obtain ⟨_, h⟩ := h
 intro h1
 rcases h with e | ⟨c, _, _, e⟩ | ⟨s, e⟩ | ⟨b, e⟩ | ⟨f, m, n, d, e, w⟩
 ·rw [e] at h1; exact absurd h1 (by decide)
 ·rw [e] at h1; exact absurd (show (4 : Int) = 1 from h1) (by decide)
 ·rw [e] at h1; exact absurd (show (2 : Int) = 1 from h1) (by decide)
 ·rw [e] at h1; exact absurd (show (3 : Int) = 1 from h1) (by decide)
 ·rw [e]; exact w.err
theorem tonum_end {x : Val} (h1 : vkind x = 1 -> fracErr (vnum x) = 0) (h4 : vkind x = 4 -> vcode x ≠ 0) (z : FracD) (zr : NumD) (hz : z = ([], [], ())) : ∃ f c r,
  (cond (decide (x.data.1 = 1)) (some ((x.data.2.1.1, (x.data.2.1.2.1, ())), (0 : Int), ())) (cond (decide (x.data.1 = 4)) (some (z, x.data.2.2.2.2.1, ())) (cond x.data.2.2.2.1 ((exact_Of 1).bind fun v6 => some (v6.1, 0, ())) ((exact_Of 0).bind fun v7 => some (v7.1, 0, ()))))) = some (f, c, ()) /\
  (cond (decide (x.data.1 = 4)) (some (zr, x.data.2.2.2.2.1, ())) (cond (decide (x.data.1 = 1)) ((chanceryref2_RatOf (x.data.2.1.1, (x.data.2.1.2.1, ()))).bind fun v6 => some (v6.1, (0 : Int), ())) (cond x.data.2.2.2.1 ((chanceryref2_Whole 1).bind fun v7 => some (v7.1, 0, ())) ((chanceryref2_Whole 0).bind fun v8 => some (v8.1, 0, ()))))) = some (r, c, ()) /\
  (c = 0 -> ∃ m n d, r = N10 m n d /\ W f m n d /\ dl n < 100000 /\ dl d < 100000) /\ (c ≠ 0 -> f = ([], [], ())) := by
 by_cases k1 : x.data.1 = 1
 ·have ha := h1 k1
  have g := good_of ha
  have hR := ratOf_eq g
  have e1 := g.dln
  have e2 := g.dld
  have hv : (x.data.2.1.1, (x.data.2.1.2.1, ())) = vnum x := rfl
  rw [hv, decide_eq_true k1, decide_eq_false (show ¬ x.data.1 = 4 by omega), hR]
  exact ⟨vnum x, 0, _, rfl, rfl, fun _ => ⟨_, _, _, rfl, W.of_good ha, by omega, by omega⟩, fun h => absurd rfl h⟩
 rw [decide_eq_false k1]
 by_cases k4 : x.data.1 = 4
 ·rw [decide_eq_true k4]
  exact ⟨z, x.data.2.2.2.2.1, zr, rfl, rfl, fun h => absurd h (h4 k4), fun _ => hz⟩
 rw [decide_eq_false k4]
 have d1 : dl 1 = 1 := dl_ten 0
 obtain ⟨f1, hf1, w1⟩ := W.of (k := 1) (by omega)
 obtain ⟨f0, hf0, w0⟩ := W.of (k := 0) (by omega)
 have hf1' : exact_Of 1 = some (f1, ()) := hf1
 have hf0' : exact_Of 0 = some (f0, ()) := hf0
 have hw1 : chanceryref2_Whole 1 = some (N10 false 1 1, ()) := Whole_nat (k := 1) (by omega)
 have hw0 : chanceryref2_Whole 0 = some (N10 false 0 1, ()) := Whole_nat (k := 0) (by omega)
 rw [hf1', hf0', hw1, hw0]
 have d0 : dl 0 = 0 := dl_zero
 cases x.data.2.2.2.1 with
 | true => exact ⟨f1, 0, _, rfl, rfl, fun _ => ⟨_, _, _, rfl, w1, by omega, by omega⟩, fun h => absurd rfl h⟩
 | false => exact ⟨f0, 0, _, rfl, rfl, fun _ => ⟨_, _, _, rfl, w0, by omega, by omega⟩, fun h => absurd rfl h⟩
theorem tonum_eq {v : Val} (hb : vb v <= 1048576) : ∃ f c r, value_ToNumber v = some (f, c, ()) /\ chanceryref2_ToNumber v = some (r, c, ()) /\ (c = 0 -> ∃ m n d, r = N10 m n d /\ W f m n d /\ dl n < 100000 /\ dl d < 100000) /\ (c ≠ 0 -> f = ([], [], ())) := by
 obtain ⟨s1, s2, s3⟩ := sc_ok hb
 have ok := okv_of s1
 unfold value_ToNumber chanceryref2_ToNumber
 simp only [tn_eq]
 rw [sc_prog hb, sc_ref hb, Option.bind_some, Option.bind_some]
 dsimp only
 have h4 : vkind (sc v) = 4 -> vcode (sc v) ≠ 0 := by
  intro h4
  rw [verr_flat s2] at s1
  have e := s1
  unfold verr1 at e
  rw [if_neg (by omega)] at e
  by_cases b : formBad (sc v) = true
  ·rw [if_pos b] at e; omega
  ·rw [if_neg b, if_neg (by omega), if_neg (by omega)] at e
   intro hc
   have : ftext (vcode (sc v)) = [] := by rw [ftext_nil]; omega
   rw [if_pos ⟨h4, this⟩] at e
   omega
 by_cases k2 : (sc v).data.1 = 2
 ·obtain ⟨u, u1, u2, u3⟩ := Enter_eq (sc v).data.2.2.1
  rw [decide_eq_true k2, cond_true, cond_true, u1, u2, Option.bind_some, Option.bind_some]
  dsimp only
  by_cases ku : u.data.1 = 1
  ·rw [decide_eq_true ku, Bool.not_true, cond_false, cond_false, Option.bind_some, Option.bind_some]
   exact tonum_end (ent_valid u3) (fun h => absurd h (by unfold vkind; omega)) ([], [], ()) (false, [], [], ()) rfl
  ·rw [decide_eq_false ku, Bool.not_false, cond_true, cond_true]
   exact ⟨([], [], ()), 2, (false, [], [], ()), rfl, rfl, fun h => absurd h (by decide), fun _ => rfl⟩
 ·rw [decide_eq_false k2, cond_false, cond_false, Option.bind_some, Option.bind_some]
  exact tonum_end ok.frac h4 ([], [], ()) (false, [], [], ()) rfl
theorem totext_eq {v : Val} (hb : vb v <= 1048576) : ∃ s c, value_ToText v = some (s, c, ()) /\ chanceryref2_ToText v = some (s, c, ()) := by
 obtain ⟨s1, s2, s3⟩ := sc_ok hb
 obtain ⟨s, h1, h2⟩ := shown_eq (vb_small s3) s1
 unfold value_ToText chanceryref2_ToText
 simp only [tn_eq]
 rw [sc_prog hb, sc_ref hb, Option.bind_some, Option.bind_some]
 dsimp only
 by_cases k4 : (sc v).data.1 = 4
 ·rw [decide_eq_true k4]; exact ⟨_, _, rfl, rfl⟩
 ·rw [decide_eq_false k4, cond_false, cond_false, h1, h2]; exact ⟨_, _, rfl, rfl⟩
theorem tobool_end {x : Val} (h1 : vkind x ≠ 3 -> von x = false) : (cond (decide (x.data.1 = 1)) (some (!decide (x.data.2.1.1 = [48]), (0 : Int), ())) (cond (decide (x.data.1 = 4)) (some (false, x.data.2.2.2.2.1, ())) (some (x.data.2.2.2.1, 0, ())))) =
  (cond (decide (x.data.1 = 4)) (some (false, x.data.2.2.2.2.1, ())) (cond x.data.2.2.2.1 (some (true, (0 : Int), ())) (cond (decide (x.data.1 = 1)) (some (!decide (x.data.2.1.1 = [48]), 0, ())) (some (false, 0, ()))))) := by
 by_cases k1 : x.data.1 = 1
 ·have : x.data.2.2.2.1 = false := h1 (by unfold vkind; omega)
  rw [decide_eq_true k1, decide_eq_false (show ¬ x.data.1 = 4 by omega), this]; rfl
 ·by_cases k4 : x.data.1 = 4
  ·rw [decide_eq_false k1, decide_eq_true k4]; rfl
  ·rw [decide_eq_false k1, decide_eq_false k4]
   cases x.data.2.2.2.1 <;> rfl
theorem ob_some {x : Val} : ∃ b c, (cond (decide (x.data.1 = 1)) (some (!decide (x.data.2.1.1 = [48]), (0 : Int), ())) (cond (decide (x.data.1 = 4)) (some (false, x.data.2.2.2.2.1, ())) (some (x.data.2.2.2.1, 0, ())))) = some (b, c, ()) := by
 cases decide (x.data.1 = 1) <;> cases decide (x.data.1 = 4) <;> exact ⟨_, _, rfl⟩
theorem tobool_eq {v : Val} (hb : vb v <= 1048576) : ∃ b c, value_ToBool v = some (b, c, ()) /\ chanceryref2_ToBool v = some (b, c, ()) := by
 obtain ⟨s1, s2, s3⟩ := sc_ok hb
 have ok := okv_of s1
 unfold value_ToBool chanceryref2_ToBool
 simp only [tn_eq]
 rw [sc_prog hb, sc_ref hb, Option.bind_some, Option.bind_some]
 dsimp only
 by_cases k2 : (sc v).data.1 = 2
 ·obtain ⟨u, u1, u2, u3⟩ := Enter_eq (sc v).data.2.2.1
  rw [decide_eq_true k2, cond_true, cond_true, u1, u2, Option.bind_some]
  dsimp only
  by_cases ku : u.data.1 = 3
  ·rw [decide_eq_true ku, Bool.not_true, cond_false, Option.bind_some, Option.bind_some]
   obtain ⟨b, c, hbc⟩ := ob_some (x := u)
   exact ⟨b, c, hbc, (tobool_end (fun h => absurd (show vkind u = 3 from ku) h)).symm.trans hbc⟩
  ·rw [decide_eq_false ku, Bool.not_false, cond_true]
   exact ⟨false, 2, rfl, rfl⟩
 ·rw [decide_eq_false k2, cond_false, cond_false, Option.bind_some, Option.bind_some]
  obtain ⟨b, c, hbc⟩ := ob_some (x := sc v)
  exact ⟨b, c, hbc, (tobool_end ok.on).symm.trans hbc⟩
theorem show_eq {v : Val} (hb : vb v <= 1048576) : ∃ s, value_Show v = some (if verr v = 0 then s else [], verr v, ()) /\ (verr v = 0 -> chanceryref2_Show v = some (s, ())) := by
 unfold value_Show
 simp only [tn_eq]
 rw [VCheck_eq (vb_small hb), Option.bind_some]
 by_cases e : verr v = 0
 ·obtain ⟨s, h1, h2⟩ := shown_eq (vb_small hb) e
  refine ⟨s, ?_, fun _ => h2⟩
  rw [if_pos e, decide_eq_true e, Bool.not_true, cond_false, h1, e]; rfl
 ·refine ⟨[], ?_, fun h => absurd h e⟩
  rw [if_neg e, decide_eq_false e]; rfl
theorem conversions_law {v : Val} (hb : vb v <= 1048576) : chancerylaw2_ValueConversionsMatch v = some (true, ()) := by
 obtain ⟨s, h1, h2⟩ := show_eq hb
 obtain ⟨f, c, r, n1, n2, n3, n4⟩ := tonum_eq hb
 obtain ⟨t, tc, t1, t2⟩ := totext_eq hb
 obtain ⟨b, bc, b1, b2⟩ := tobool_eq hb
 have hE := rErr_eq (vb_small hb)
 have rest : (cond (decide (c = 0)) ((chancerylaw2_frac f 0 r).bind fun v23 => cond ((!v23.1)) (some (true, ())) (cond (!decide (c = 0)) (some ((!Ty.beq (.pair .str (.pair .str .unit)) f ([], [], ())), ())) (some (false, ())))) (cond (!decide (c = 0)) (some ((!Ty.beq (.pair .str (.pair .str .unit)) f ([], [], ())), ())) (some (false, ())))) = some (false, ()) := by
  by_cases hc : c = 0
  ·obtain ⟨m, n, d, rfl, w, l1, l2⟩ := n3 hc
   have hf : chanceryref2_Rat__Frac (N10 m n d) = some (fracOut m n d) := frac_eq w.pos l1 l2
   have hl : chancerylaw2_frac f 0 (N10 m n d) = some (true, ()) := by
    unfold chancerylaw2_frac
    rw [hf, w.out, Option.bind_some]
    have hbq : Ty.beq (.pair .str (.pair .str .unit)) f f = true := by rw [beq_num]; exact decide_eq_true rfl
    dsimp only
    rw [hbq]; rfl
   rw [decide_eq_true hc, cond_true, hl]; rfl
  ·have hf := n4 hc
   rw [decide_eq_false hc, hf]; rfl
 unfold chancerylaw2_ValueConversionsMatch
 by_cases e : verr v = 0
 ·have h1' : value_Show v = some (s, 0, ()) := by rw [h1, if_pos e, e]
  have hE' : chanceryref2_ValueError v = some (0, ()) := by rw [hE, e]
  simp only [values_true, Option.bind_some, Bool.not_true, cond_false, tn_eq, h1', hE', h2 e, decide_true, cond_true, remade, n1, n2, t1, t2, b1, b2, rest, beq_self_eq_true]
 ·have h1' : value_Show v = some ([], verr v, ()) := by rw [h1, if_neg e]
  simp only [values_true, Option.bind_some, Bool.not_true, cond_false, tn_eq, h1', hE, e, decide_true, decide_false, Bool.not_false, cond_true, remade, n1, n2, t1, t2, b1, b2, rest, beq_self_eq_true]
end Go.Proofs.YtmbejoibeninmaaGreatDoor
