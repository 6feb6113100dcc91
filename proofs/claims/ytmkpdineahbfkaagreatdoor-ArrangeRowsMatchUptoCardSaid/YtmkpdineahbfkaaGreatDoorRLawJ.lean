import Derived.Test.YtmkpdineahbfkaaGreatDoorRLawD
namespace Go.Proofs.YtmkpdineahbfkaaGreatDoor
open Go Go.Fe

/-! ### Lower letters -/
def lowC (c : UInt8) : UInt8 := if 65 ≤ c.toNat ∧ c.toNat ≤ 90 then UInt8.ofNat (c.toNat + 32) else c
def lowS (s : Str) : Str := s.map lowC
theorem lowS_len (s : Str) : (lowS s).length = s.length := List.length_map ..
theorem bytesStr_b (c : UInt8) : bytesStr [ofByte c] = [c] := by
  rw [ofByte_eq]; unfold bytesStr
  rw [List.map_cons, byteOfInt_nat, List.map_nil]
  simp
theorem bytesStr_n (n : Nat) : bytesStr [(n : Int)] = [UInt8.ofNat n] := by
  unfold bytesStr
  rw [List.map_cons, byteOfInt_nat, List.map_nil]
theorem wsuc {i : Nat} (h : i < 9223372036854775807) : IntKind.i64.wrap ((i : Int) + 1) = ((i + 1 : Nat) : Int) := by
  rw [wrap_i64 (by omega) (by omega)]; rfl
theorem low_step {s : Str} {i : Nat} (hi : i < s.length) (hl : s.length < 1000000000) : chanceryref2_Lower_l1 s (lowS (s.take i), (i : Int), ()) = some (.inl (lowS (s.take (i + 1)), ((i + 1 : Nat) : Int), ())) := by
  have g : (i : Int) < (s.length : Int) := by omega
  have hb := byte_lt s[i]
  have e : lowS (s.take (i + 1)) = lowS (s.take i) ++ [lowC s[i]] := by
    unfold lowS
    rw [List.take_succ_eq_append_getElem hi, List.map_append]
    rfl
  have hc : cat (lowS (s.take i)) [lowC s[i]] = some (lowS (s.take i) ++ [lowC s[i]]) := cat_ok (by
    rw [lowS_len, List.length_take, List.length_cons, List.length_nil]
    omega)
  rw [e]
  have w := wsuc (show i < 9223372036854775807 by omega)
  by_cases h : 65 ≤ s[i].toNat ∧ s[i].toNat ≤ 90
  · have a1 : (65 : Int) ≤ ofByte s[i] := by rw [ofByte_eq]; omega
    have a2 : ofByte s[i] ≤ 90 := by rw [ofByte_eq]; omega
    have a3 : IntKind.u8.wrap (ofByte s[i] + 32) = ((s[i].toNat + 32 : Nat) : Int) := by rw [ofByte_eq, wrap_u8i (by omega) (by omega)]; omega
    have a4 : bytesStr [((s[i].toNat + 32 : Nat) : Int)] = [lowC s[i]] := by rw [bytesStr_n, lowC, if_pos h]
    simp only [chanceryref2_Lower_l1, g, decide_true, cond_true, idx_lt hi, Option.bind_some, a1, a2, a3, a4, hc, w]
  · have a4 : bytesStr [ofByte s[i]] = [lowC s[i]] := by rw [lowC, if_neg h, bytesStr_b]
    by_cases h1 : 65 ≤ s[i].toNat
    · have a1 : (65 : Int) ≤ ofByte s[i] := by rw [ofByte_eq]; omega
      have a2 : ¬ofByte s[i] ≤ 90 := by rw [ofByte_eq]; omega
      simp only [chanceryref2_Lower_l1, g, decide_true, decide_false, cond_true, cond_false, idx_lt hi, Option.bind_some, a1, a2, a4, hc, w]
    · have a1 : ¬(65 : Int) ≤ ofByte s[i] := by rw [ofByte_eq]; omega
      simp only [chanceryref2_Lower_l1, g, decide_true, decide_false, cond_true, cond_false, idx_lt hi, Option.bind_some, a1, a4, hc, w]
theorem rLower_eq {s : Str} (hl : s.length < 1000000000) : chanceryref2_Lower s = some (lowS s, ()) := by
  have hl' : Halts (chanceryref2_Lower_l1 s) (0 + s.length) (lowS (s.take 0), ((0 : Nat) : Int), ()) (lowS (s.take s.length), ()) := by
    refine Halts.along (fun i => (lowS (s.take i), (i : Int), ())) s.length (fun i hi => low_step hi hl) (.done ?_)
    simp only [chanceryref2_Lower_l1, Int.lt_irrefl, decide_false, cond_false]
  have hr := hl'.loop (by omega)
  unfold chanceryref2_Lower
  rw [List.take_length] at hr
  erw [hr]
  rfl
def lowI (x : Int) : Int := if 65 ≤ x ∧ x ≤ 90 then x + 32 else x
def lowX (s : Str) (i : Nat) : List Int := ((strBytes s).take i).map lowI ++ (strBytes s).drop i
theorem lowX_len (s : Str) (i : Nat) : (lowX s i).length = s.length := by
  unfold lowX strBytes
  simp; omega
theorem strBytes_len (s : Str) : (strBytes s).length = s.length := List.length_map ..
theorem lowX_get {s : Str} {i : Nat} (h : i < s.length) : (lowX s i).getD i 0 = (s[i].toNat : Int) := by
  unfold lowX
  rw [List.getD_eq_getElem?_getD, List.getElem?_append_right (by simp; omega)]
  simp only [List.length_map, List.length_take, strBytes_len, List.getElem?_drop]
  rw [show i + (i - min i s.length) = i by omega]
  unfold strBytes
  rw [List.getElem?_map, List.getElem?_eq_getElem h]; rfl
theorem lowX_succ {s : Str} {i : Nat} (h : i < s.length) : lowX s (i + 1) = (lowX s i).set i (lowI (s[i].toNat : Int)) := by
  have h' : i < (strBytes s).length := by rw [strBytes_len]; exact h
  have e : (strBytes s)[i] = (s[i].toNat : Int) := by simp [strBytes]
  unfold lowX
  rw [List.set_append_right _ _ (by simp; omega), List.take_succ_eq_append_getElem h', List.drop_eq_getElem_cons h', List.map_append, List.append_assoc]
  congr 1
  rw [List.length_map, List.length_take, show i - min i (strBytes s).length = 0 by omega, List.set_cons_zero, e]
  rfl
theorem vlow_step {s : Str} {i : Nat} (hi : i < s.length) (hl : s.length < 1000000000) : value_Lower_l1 s ((), (), (i : Int), lowX s i, ()) = some (.inl ((), (), ((i + 1 : Nat) : Int), lowX s (i + 1), ())) := by
  have hb := byte_lt s[i]
  have w := wsuc (show i < 9223372036854775807 by omega)
  have c1 : chk (inb (i : Int) (lowX s i).length) = some () := by rw [inb_nat (by rw [lowX_len]; exact hi)]; rfl
  have g : (i : Int) < ((strBytes s).length : Int) := by rw [strBytes_len]; omega
  have gd : (lowX s i).getD (i : Int).toNat 0 = (s[i].toNat : Int) := lowX_get hi
  have same : (lowX s i).set i (s[i].toNat : Int) = lowX s i := by
    have h' : i < (lowX s i).length := by rw [lowX_len]; exact hi
    have gd' : (lowX s i)[i] = (s[i].toNat : Int) := by
      rw [← lowX_get hi, List.getD_eq_getElem?_getD, List.getElem?_eq_getElem h']; rfl
    rw [← gd']; exact List.set_getElem_self h'
  rw [lowX_succ hi]
  unfold value_Lower_l1 lowI
  simp only [g, decide_true, cond_true, c1, Option.bind_some, gd, w]
  by_cases h1 : 65 ≤ s[i].toNat
  · by_cases h2 : s[i].toNat ≤ 90
    · rw [if_pos (by omega), decide_eq_true (by omega), cond_true, Option.bind_some]
      simp only []
      rw [decide_eq_true (by omega), cond_true]
      simp only [c1, Option.bind_some]
      rw [gd, wrap_u8i (by omega) (by omega)]
      rfl
    · rw [if_neg (by omega), decide_eq_true (by omega), cond_true, Option.bind_some]
      simp only []
      rw [decide_eq_false (by omega), cond_false]
      simp only [Option.bind_some]
      rw [same]
  · rw [if_neg (by omega), decide_eq_false (by omega), cond_false, Option.bind_some]
    simp only [cond_false, Option.bind_some]
    rw [same]
theorem VLower_eq {s : Str} (hl : s.length < 1000000000) : value_Lower s = some (lowS s, ()) := by
  have hl' : Halts (value_Lower_l1 s) (0 + s.length) ((), (), ((0 : Nat) : Int), lowX s 0, ()) ((), lowX s s.length, ()) := by
    refine Halts.along (fun i => ((), (), (i : Int), lowX s i, ())) s.length (fun i hi => vlow_step hi hl) (.done ?_)
    simp only [value_Lower_l1, strBytes_len, Int.lt_irrefl, decide_false, cond_false]
  have hr := hl'.loop (by omega)
  have e0 : lowX s 0 = strBytes s := by unfold lowX; rw [List.take_zero, List.map_nil, List.nil_append, List.drop_zero]
  have e1 : bytesStr (lowX s s.length) = lowS s := by
    unfold lowX bytesStr lowS strBytes
    rw [List.take_of_length_le (by rw [List.length_map]; omega), List.drop_of_length_le (by rw [List.length_map]; omega), List.append_nil, List.map_map, List.map_map]
    refine List.map_congr_left fun c _ => ?_
    show byteOfInt (lowI (c.toNat : Int)) = lowC c
    have hb := byte_lt c
    unfold lowI lowC
    by_cases h : 65 ≤ c.toNat ∧ c.toNat ≤ 90
    · rw [if_pos (by omega), if_pos h, ← byteOfInt_nat]; rfl
    · rw [if_neg (by omega), if_neg h, byteOfInt_nat]; simp
  rw [e0] at hr
  unfold value_Lower
  rw [decide_eq_true (by unfold lim; omega)]
  have hr' : loop (value_Lower_l1 s) ((), (), 0, strBytes s, ()) = some ((), lowX s s.length, ()) := hr
  simp only [chk, Option.bind_some, hr', e1]

/-! ### Texts are compared byte by byte -/
def cmpS (a b : Str) : Int := if Op.bytesLess a b = true then -1 else if Op.bytesLess b a = true then 1 else 0
theorem cmpString_eq (a b : Str) : cmp_Compare_string_ a b = some (cmpS a b, ()) := by
  unfold cmp_Compare_string_ cmp_isNaN_string_ cmpS
  simp only [decide_true, Bool.not_true, Option.bind_some, cond_false]
  cases Op.bytesLess a b <;> cases Op.bytesLess b a <;> rfl
def cmpI (a b : Int) : Int := if a < b then -1 else if b < a then 1 else 0
theorem cmpInt_eq (a b : Int) : cmp_Compare_int_ a b = some (cmpI a b, ()) := by
  unfold cmp_Compare_int_ cmp_isNaN_int_ cmpI
  simp only [decide_true, Bool.not_true, Option.bind_some, cond_false]
  by_cases h : a < b
  · simp [h]
  · by_cases h' : b < a <;> simp [h, h']
def sgn (a : Int) : Int := if a < 0 then -1 else if 0 < a then 1 else 0
theorem unit_eq (a : Int) : chanceryref2_unit a = some (sgn a, ()) := by
  unfold chanceryref2_unit sgn
  by_cases h : a < 0
  · simp [h]
  · by_cases h' : 0 < a <;> simp [h, h']
theorem sgn_sub (a b : Int) : sgn (a - b) = cmpI a b := by
  unfold sgn cmpI
  by_cases h : a < b
  · rw [if_pos (by omega), if_pos h]
  · by_cases h' : b < a
    · rw [if_neg (by omega), if_pos (by omega), if_neg h, if_pos h']
    · rw [if_neg (by omega), if_neg (by omega), if_neg h, if_neg h']
/-- What compareText says from a place on. -/
def cmpD : Str → Str → Int
  | a :: x, b :: y => if a = b then cmpD x y else (a.toNat : Int) - (b.toNat : Int)
  | x, y => (x.length : Int) - (y.length : Int)
theorem cmpD_sgn : ∀ (a b : Str), sgn (cmpD a b) = cmpS a b
  | [], [] => rfl
  | [], b :: y => by
    have e : cmpD [] (b :: y) = -((y.length : Int) + 1) := by simp only [cmpD, List.length_nil, List.length_cons]; omega
    rw [e]; unfold sgn
    rw [if_pos (show -((y.length : Int) + 1) < 0 by omega)]; rfl
  | a :: x, [] => by
    have e : cmpD (a :: x) [] = (x.length : Int) + 1 := by simp only [cmpD, List.length_nil, List.length_cons]; omega
    rw [e]; unfold sgn
    rw [if_neg (show ¬ (x.length : Int) + 1 < 0 by omega), if_pos (show 0 < (x.length : Int) + 1 by omega)]; rfl
  | a :: x, b :: y => by
    by_cases h : a = b
    · subst h
      have e : cmpD (a :: x) (a :: y) = cmpD x y := if_pos rfl
      have ir : decide (a < a) = false := decide_eq_false (UInt8.lt_irrefl a)
      rw [e, cmpD_sgn x y]
      simp [cmpS, Op.bytesLess]
    · have e : cmpD (a :: x) (b :: y) = (a.toNat : Int) - (b.toNat : Int) := if_neg h
      have hn : a.toNat ≠ b.toNat := fun e => h (UInt8.toNat_inj.1 e)
      have h1 : (a == b) = false := beq_eq_false_iff_ne.2 h
      have h2 : (b == a) = false := beq_eq_false_iff_ne.2 (fun e => h e.symm)
      rw [e, sgn_sub]
      simp only [cmpS, cmpI, Op.bytesLess, h1, h2, Bool.false_and, Bool.or_false, decide_eq_true_eq, UInt8.lt_iff_toNat_lt]
      by_cases hl : a.toNat < b.toNat
      · rw [if_pos (by omega), if_pos hl]
      · rw [if_neg (by omega), if_neg hl, if_pos (by omega), if_pos (by omega)]
theorem cmpText_halts {a b : Str} (ha : a.length < 1000000000) (hb : b.length < 1000000000) : ∀ (k i : Nat), i + k = min a.length b.length →
    ∃ r, Halts (chanceryref2_compareText_l1 a b) (k + 1) ((i : Int), ()) r ∧
      (match r with | .inl _ => some (IntKind.i64.wrap ((a.length : Int) - (b.length : Int)), ()) | .inr z => some z) = some (cmpD (a.drop i) (b.drop i), ())
  | 0, i, hk => by
    refine ⟨.inl (), Halts.done ?_, ?_⟩
    · unfold chanceryref2_compareText_l1
      by_cases h : i < a.length
      · rw [decide_eq_true (by omega), cond_true, decide_eq_false (by omega), Option.bind_some]; rfl
      · rw [decide_eq_false (by omega), cond_false, Option.bind_some]; rfl
    · simp only []
      rw [wrap_i64 (by omega) (by omega)]
      by_cases h : a.length ≤ b.length
      · rw [List.drop_of_length_le (show a.length ≤ i by omega)]
        have : ∀ y : Str, cmpD [] y = 0 - (y.length : Int) := fun y => by cases y <;> rfl
        rw [this, List.length_drop]
        congr 2; omega
      · rw [List.drop_of_length_le (show b.length ≤ i by omega)]
        have : ∀ y : Str, cmpD y [] = (y.length : Int) - 0 := fun y => by cases y <;> rfl
        rw [this, List.length_drop]
        congr 2; omega
  | k + 1, i, hk => by
    have h1 : i < a.length := by omega
    have h2 : i < b.length := by omega
    have hx := byte_lt a[i]
    have hy := byte_lt b[i]
    have hs : chanceryref2_compareText_l1 a b ((i : Int), ()) = some (if a[i] = b[i] then .inl (((i + 1 : Nat) : Int), ()) else .inr (.inr ((a[i].toNat : Int) - (b[i].toNat : Int), ()))) := by
      unfold chanceryref2_compareText_l1
      rw [decide_eq_true (by omega), cond_true, decide_eq_true (by omega), Option.bind_some, cond_true, idx_lt h1, Option.bind_some, idx_lt h2, Option.bind_some, ofByte_eq, ofByte_eq]
      by_cases e : a[i] = b[i]
      · rw [decide_eq_true (by rw [e]), Bool.not_true, cond_false, if_pos e]
        simp only []
        rw [wsuc (by omega)]
      · have hn : a[i].toNat ≠ b[i].toNat := fun e' => e (UInt8.toNat_inj.1 e')
        rw [decide_eq_false (by omega), Bool.not_false, cond_true, Option.bind_some, Option.bind_some, if_neg e]
        simp only [ofByte_eq]
        rw [wrap_i64 (n := (a[i].toNat : Int)) (by omega) (by omega), wrap_i64 (n := (b[i].toNat : Int)) (by omega) (by omega), wrap_i64 (by omega) (by omega)]
    have ed : cmpD (a.drop i) (b.drop i) = if a[i] = b[i] then cmpD (a.drop (i + 1)) (b.drop (i + 1)) else (a[i].toNat : Int) - (b[i].toNat : Int) := by
      rw [List.drop_eq_getElem_cons h1, List.drop_eq_getElem_cons h2]; rfl
    by_cases e : a[i] = b[i]
    · rw [if_pos e] at hs ed
      obtain ⟨r, hr, hv⟩ := cmpText_halts ha hb k (i + 1) (by omega)
      exact ⟨r, Halts.step hs hr, by rw [ed]; exact hv⟩
    · rw [if_neg e] at hs ed
      exact ⟨_, Halts.done hs, by rw [ed]⟩
theorem cmpText_eq {a b : Str} (ha : a.length < 1000000000) (hb : b.length < 1000000000) : chanceryref2_compareText a b = some (cmpD a b, ()) := by
  obtain ⟨r, hr, hv⟩ := cmpText_halts ha hb (min a.length b.length) 0 (by omega)
  unfold chanceryref2_compareText
  have := hr.loop (by omega)
  rw [show ((0 : Int), ()) = (((0 : Nat) : Int), ()) from rfl, this, Option.bind_some]
  exact hv
end Go.Proofs.YtmkpdineahbfkaaGreatDoor

namespace Go.Proofs.YtmkpdineahbfkaaGreatDoor
open Go Go.Fe

/-! ### Numbers are compared -/
def fcmp (f g : Str × (Str × Unit)) : Int :=
  sgnOf (sumM (signOf f.1) (dec (body f.1)) (dec f.2.1) (!signOf g.1) (dec (body g.1)) (dec g.2.1)) (sumN (signOf f.1) (dec (body f.1)) (dec f.2.1) (!signOf g.1) (dec (body g.1)) (dec g.2.1))
theorem sum_anti (m1 : Bool) (n1 d1 : Nat) (m2 : Bool) (n2 d2 : Nat) : sgnOf (sumM m1 n1 d1 (!m2) n2 d2) (sumN m1 n1 d1 (!m2) n2 d2) = -sgnOf (sumM m2 n2 d2 (!m1) n1 d1) (sumN m2 n2 d2 (!m1) n1 d1) := by
  unfold sgnOf sumM sumN
  generalize n1 * d2 = x
  generalize n2 * d1 = y
  rcases Nat.lt_trichotomy x y with h | h | h
  · have h1 : ¬ y ≤ x := by omega
    have h2 : x ≤ y := by omega
    cases m1 <;> cases m2 <;> simp [h1, h2] <;> (repeat' split) <;> first | omega | simp_all
  · subst h
    cases m1 <;> cases m2 <;> simp <;> (repeat' split) <;> first | omega | simp_all
  · have h1 : ¬ x ≤ y := by omega
    have h2 : y ≤ x := by omega
    cases m1 <;> cases m2 <;> simp [h1, h2] <;> (repeat' split) <;> first | omega | simp_all
theorem fcmp_anti (f g : Str × (Str × Unit)) : fcmp f g = -fcmp g f := sum_anti _ _ _ _ _ _
theorem Cmp_prog {f g : Str × (Str × Unit)} (hf : SmallN (vNum f)) (hg : SmallN (vNum g)) (ef : fracErr f = 0) (eg : fracErr g = 0) : exact_Compare f g = some (fcmp f g, 0, ()) := by
  have Gf := good_of ef
  have Gg := good_of eg
  exact Compare_good (both_good hf.1 hf.2 hg.1 hg.2 ef eg) Gf.dln Gf.dld Gg.dln Gg.dld
theorem Cmp_ref {f g : Str × (Str × Unit)} (ef : fracErr f = 0) (eg : fracErr g = 0) :
    ((chanceryref2_RatOf f).bind fun v1 => (chanceryref2_RatOf g).bind fun v2 => (chanceryref2_Rat__Cmp v1.1 v2.1).bind fun v3 => some v3) = some (fcmp f g, ()) := by
  have Gf := good_of ef
  have Gg := good_of eg
  rw [ratOf_eq Gf, Option.bind_some, ratOf_eq Gg, Option.bind_some]
  have := Cmp_eq (k := 300) (m1 := signOf f.1) (m2 := signOf g.1) (by omega) Gf.dln Gf.dld Gg.dln Gg.dld
  exact (congrArg (fun z => Option.bind z _) this).trans rfl

/-! ### Valid scalars -/
structure Okv (v : Val) : Prop where
  k0 : 0 ≤ vkind v
  k5 : vkind v ≤ 5
  frac : vkind v = 1 → fracErr (vnum v) = 0
  text : vkind v ≠ 2 → vtext v = []
  len : (vtext v).length ≤ 32767
  on : vkind v ≠ 3 → von v = false
  code : vkind v ≠ 4 → vcode v = 0
  c1 : 0 ≤ vcode v
  c8 : vcode v ≤ 8
theorem okv_of {v : Val} (h : verr v = 0) : Okv v := by
  have h1 : verr1 v = 0 := by
    unfold verr at h
    by_cases e : verr1 v = 0
    · exact e
    · rw [if_pos e] at h; exact h
  unfold verr1 at h1
  by_cases a : vkind v < 0 ∨ 5 < vkind v
  · rw [if_pos a] at h1; omega
  rw [if_neg a] at h1
  by_cases b : formBad v = true
  · rw [if_pos b] at h1; omega
  rw [if_neg b] at h1
  have b' : formBad v = false := by cases e : formBad v <;> simp_all
  unfold formBad at b'
  simp only [Bool.or_eq_false_iff, Bool.and_eq_false_iff, Bool.not_eq_false', decide_eq_true_eq] at b'
  obtain ⟨b1, b2, b3, b4, b5⟩ := b'
  have txt : vkind v ≠ 2 → vtext v = [] := fun e => b2.resolve_left e
  have cd : vkind v ≠ 4 → vcode v = 0 := fun e => b4.resolve_left e
  have cd4 : vkind v = 4 → 1 ≤ vcode v ∧ vcode v ≤ 8 := fun e => by
    rw [if_neg (by omega), if_neg (by omega)] at h1
    by_cases hc : ftext (vcode v) = []
    · rw [if_pos ⟨e, hc⟩] at h1; omega
    · have := mt (ftext_nil (vcode v)).2 hc
      omega
  refine ⟨by omega, by omega, fun e => ?_, txt, ?_, fun e => ?_, cd, ?_, ?_⟩
  · rw [if_pos e] at h1; exact h1
  · by_cases e : vkind v = 2
    · rw [if_neg (by omega), if_pos e] at h1
      unfold textErr at h1
      by_cases l : 32767 < (vtext v).length
      · rw [if_pos l] at h1; omega
      · omega
    · rw [txt e]; exact Nat.zero_le _
  · rcases b3 with x | x
    · exact absurd x e
    · exact x
  · by_cases e : vkind v = 4
    · have := cd4 e; omega
    · rw [cd e]; omega
  · by_cases e : vkind v = 4
    · have := cd4 e; omega
    · rw [cd e]; omega
def flagI (b : Bool) : Int := bif b then 1 else 0
/-- How two values of one kind compare. -/
def onek (k : Int) (a b : Val) : Int :=
  if k = 1 then fcmp (vnum a) (vnum b) else if k = 2 then cmpS (lowS (vtext a)) (lowS (vtext b)) else if k = 3 then flagI (von a) - flagI (von b) else cmpI (vcode a) (vcode b)
theorem cmpI_anti (a b : Int) : cmpI a b = -cmpI b a := by
  unfold cmpI
  repeat' split
  all_goals omega
theorem cmpS_anti (a b : Str) : cmpS a b = -cmpS b a := by
  rw [← cmpD_sgn a b, ← cmpD_sgn b a]
  have : ∀ (a b : Str), cmpD a b = -cmpD b a := by
    intro a
    induction a with
    | nil => intro b; cases b <;> simp only [cmpD, List.length_nil, List.length_cons] <;> omega
    | cons x r ih =>
      intro b
      cases b with
      | nil => simp only [cmpD, List.length_nil, List.length_cons]; omega
      | cons y s =>
        simp only [cmpD]
        by_cases e : x = y
        · rw [if_pos e, if_pos e.symm, ih]
        · rw [if_neg e, if_neg (fun h => e h.symm)]; omega
  rw [this a b]
  unfold sgn
  repeat' split
  all_goals omega
theorem onek_anti (k : Int) (a b : Val) : onek k a b = -onek k b a := by
  unfold onek
  split
  · exact fcmp_anti _ _
  split
  · exact cmpS_anti _ _
  split
  · omega
  · exact cmpI_anti _ _
theorem compared_eq {a b : Val} (ha : Okv a) (hb : Okv b) (sa : SmallN a) (sb : SmallN b) (hk : vkind a = vkind b) : value_compared a b = some (onek (vkind a) a b, ()) := by
  unfold value_compared onek
  by_cases h1 : a.data.1 = 1
  · have := Cmp_prog (f := vnum a) (g := vnum b) sa sb (ha.frac h1) (hb.frac (hk ▸ h1))
    rw [decide_eq_true h1, cond_true, if_pos h1]
    exact (congrArg (fun z => Option.bind z _) this).trans rfl
  rw [decide_eq_false h1, cond_false, if_neg h1]
  have la : a.data.2.2.1.length ≤ 32767 := ha.len
  have lb : b.data.2.2.1.length ≤ 32767 := hb.len
  by_cases h2 : a.data.1 = 2
  · rw [decide_eq_true h2, cond_true, if_pos h2]
    simp only [VLower_eq (s := a.data.2.2.1) (by omega), VLower_eq (s := b.data.2.2.1) (by omega), Option.bind_some, cmpString_eq]
  rw [decide_eq_false h2, cond_false, if_neg h2]
  by_cases h3 : a.data.1 = 3
  · rw [decide_eq_true h3, cond_true, if_pos h3]
    unfold value_flag flagI von
    cases a.data.2.2.2.1 <;> cases b.data.2.2.2.1 <;> rfl
  · rw [decide_eq_false h3, cond_false, if_neg h3, cmpInt_eq]
    rfl
theorem oneKind_eq {a b : Val} (ha : Okv a) (hb : Okv b) (hk : vkind a = vkind b) : chanceryref2_oneKind a b = some (onek (vkind a) a b, ()) := by
  unfold chanceryref2_oneKind onek
  by_cases h1 : a.data.1 = 1
  · rw [decide_eq_true h1, cond_true, if_pos h1]
    exact Cmp_ref (f := vnum a) (g := vnum b) (ha.frac h1) (hb.frac (hk ▸ h1))
  rw [decide_eq_false h1, cond_false, if_neg h1]
  have la : a.data.2.2.1.length ≤ 32767 := ha.len
  have lb : b.data.2.2.1.length ≤ 32767 := hb.len
  by_cases h2 : a.data.1 = 2
  · rw [decide_eq_true h2, cond_true, if_pos h2]
    simp only [rLower_eq (s := a.data.2.2.1) (by omega), rLower_eq (s := b.data.2.2.1) (by omega), Option.bind_some, cmpText_eq (a := lowS a.data.2.2.1) (b := lowS b.data.2.2.1) (by rw [lowS_len]; omega) (by rw [lowS_len]; omega), unit_eq, cmpD_sgn]
  rw [decide_eq_false h2, cond_false, if_neg h2]
  have c1 : 0 ≤ a.data.2.2.2.2.1 := ha.c1
  have c8 : a.data.2.2.2.2.1 ≤ 8 := ha.c8
  have d1 : 0 ≤ b.data.2.2.2.2.1 := hb.c1
  have d8 : b.data.2.2.2.2.1 ≤ 8 := hb.c8
  by_cases h3 : a.data.1 = 3
  · rw [if_pos h3]
    have e1 : a.data.2.2.2.2.1 = 0 := ha.code (by unfold vkind; omega)
    have e2 : b.data.2.2.2.2.1 = 0 := hb.code (by have : a.data.1 = b.data.1 := hk; unfold vkind; omega)
    rw [e1, e2]
    unfold flagI von
    cases a.data.2.2.2.1 <;> cases b.data.2.2.2.1 <;> rfl
  · have e1 : a.data.2.2.2.1 = false := ha.on h3
    have e2 : b.data.2.2.2.1 = false := hb.on (by have : a.data.1 = b.data.1 := hk; unfold vkind; omega)
    rw [if_neg h3, e1, e2]
    simp only [beq_self_eq_true, Bool.not_true, cond_false]
    rw [wrap_i64 (by omega) (by omega), unit_eq, sgn_sub]
    rfl
end Go.Proofs.YtmkpdineahbfkaaGreatDoor

namespace Go.Proofs.YtmkpdineahbfkaaGreatDoor
open Go Go.Fe

/-! ### Compare and Order -/
def eW (a b : Val) (most : Int) : Int := if verr a ≠ 0 then verr a else if verr b ≠ 0 then verr b else if most < mx (vkind a) (vkind b) then 8 else 0
theorem both_eq' {a b : Val} (sa : SmallV a) (sb : SmallV b) (most : Int) : value_both a b most = some (eW a b most, ()) := by
  unfold value_both eW
  simp only [tn_eq]
  have step : ∀ (i : Nat) (v : Val) (_ : i < 2) (_ : idx [a, b] (i : Int) = some v) (_ : SmallV v) (fa fb), value_both_l1 a b ((), (), (i : Int), fa, fb, ()) = some (if verr v = 0 then .inl ((), (), ((i + 1 : Nat) : Int), fa, fb, ()) else .inr (.inr (verr v, ()))) := by
    intro i v hi hv sv fa fb
    unfold value_both_l1
    simp only [tn_eq]
    rw [decide_eq_true (by omega), cond_true, hv, Option.bind_some, VCheck_eq sv, Option.bind_some]
    by_cases e : verr v = 0
    · rw [if_pos e, decide_eq_true e, Bool.not_true, cond_false, wsuc (by omega)]
    · rw [if_neg e, decide_eq_false e, Bool.not_false, cond_true]
  have fin : ∀ fa fb, value_both_l1 a b ((), (), ((2 : Nat) : Int), fa, fb, ()) = some (.inr (.inl ((), (), fa, fb, ()))) := by
    intro fa fb
    unfold value_both_l1
    rw [decide_eq_false (show ¬ (((2 : Nat) : Int) < 2) by omega), cond_false]
  generalize hfa : (a.data.1, a.data.2.1.1, a.data.2.1.2.1, a.data.2.2.1, a.data.2.2.2.1, a.data.2.2.2.2.1, a.data.2.2.2.2.2.1, a.data.2.2.2.2.2.2.1, a.kids, ()) = fa
  generalize hfb : (b.data.1, b.data.2.1.1, b.data.2.1.2.1, b.data.2.2.1, b.data.2.2.2.1, b.data.2.2.2.2.1, b.data.2.2.2.2.2.1, b.data.2.2.2.2.2.2.1, b.kids, ()) = fb
  have s0 := step 0 a (by omega) rfl sa fa fb
  have s1 := step 1 b (by omega) rfl sb fa fb
  by_cases ea : verr a = 0
  · rw [if_pos ea] at s0
    rw [if_neg (by omega)]
    by_cases eb : verr b = 0
    · rw [if_pos eb] at s1
      rw [if_neg (by omega)]
      have h : loop (value_both_l1 a b) ((), (), 0, fa, fb, ()) = some (.inl ((), (), fa, fb, ())) := (Halts.step (n := 1) s0 (Halts.step (n := 0) s1 (Halts.done (fin fa fb)))).loop (by omega)
      rw [h, Option.bind_some]
      simp only [← hfa, ← hfb]
      by_cases m : most < mx (vkind a) (vkind b)
      · rw [decide_eq_true m, cond_true, if_pos m]
      · rw [decide_eq_false m, cond_false, if_neg m]
    · rw [if_neg eb] at s1
      rw [if_pos eb]
      have h : loop (value_both_l1 a b) ((), (), 0, fa, fb, ()) = some (.inr (verr b, ())) := (Halts.step (n := 1) s0 (Halts.done s1)).loop (by omega)
      rw [h, Option.bind_some]
  · rw [if_neg ea] at s0
    rw [if_pos ea]
    have h : loop (value_both_l1 a b) ((), (), 0, fa, fb, ()) = some (.inr (verr a, ())) := (Halts.done (n := 0) s0).loop (by omega)
    rw [h, Option.bind_some]
def zv (k : Int) : Val := if k = 1 then vNum ([48], [49], ()) else .node (k, (([], ([], ())), ([], (false, (0, (0, (0, ()))))))) []
def likeV (v o : Val) : Val := if vkind v ≠ 0 then v else if vkind o = 1 ∨ vkind o = 2 ∨ vkind o = 3 then zv (vkind o) else v
def rankI (k : Int) : Int := if k = 1 then 0 else if k = 2 then 1 else if k = 3 then 2 else if k = 4 then 3 else 4
theorem rank_eq (v : Val) : value_rank v = some (rankI (vkind v), ()) := by
  unfold value_rank rankI
  by_cases h1 : v.data.1 = 1
  · rw [decide_eq_true h1, cond_true, if_pos h1]
  rw [decide_eq_false h1, cond_false, if_neg h1]
  by_cases h2 : v.data.1 = 2
  · rw [decide_eq_true h2, cond_true, if_pos h2]
  rw [decide_eq_false h2, cond_false, if_neg h2]
  by_cases h3 : v.data.1 = 3
  · rw [decide_eq_true h3, cond_true, if_pos h3]
  rw [decide_eq_false h3, cond_false, if_neg h3]
  by_cases h4 : v.data.1 = 4
  · rw [decide_eq_true h4, cond_true, if_pos h4]
  rw [decide_eq_false h4, cond_false, if_neg h4]
/-- What Compare answers for valid values. -/
def cv (a b : Val) : Int :=
  if vkind (likeV a b) = 0 then 0 else if vkind (likeV a b) ≠ vkind (likeV b a) then cmpI (rankI (vkind (likeV a b))) (rankI (vkind (likeV b a))) else onek (vkind (likeV a b)) (likeV a b) (likeV b a)
def ov (a b : Val) : Int :=
  if vkind a ≠ vkind b then cmpI (rankI (vkind a)) (rankI (vkind b)) else if vkind a = 0 then 0 else if onek (vkind a) a b ≠ 0 then onek (vkind a) a b else cmpS (vtext a) (vtext b)
theorem eW_ok {a b : Val} {m : Int} (h : eW a b m = 0) : verr a = 0 ∧ verr b = 0 ∧ vkind a ≤ m ∧ vkind b ≤ m := by
  unfold eW at h
  by_cases ea : verr a = 0
  · rw [if_neg (by omega)] at h
    by_cases eb : verr b = 0
    · rw [if_neg (by omega)] at h
      by_cases e : m < mx (vkind a) (vkind b)
      · rw [if_pos e] at h; omega
      · unfold mx at e
        refine ⟨ea, eb, ?_, ?_⟩ <;> (split at e <;> omega)
    · rw [if_pos eb] at h; omega
  · rw [if_pos ea] at h; omega
theorem or2 (x y : Int) : cmp_Or_int_ [x, y] = some (if x ≠ 0 then x else y, ()) := by
  have st : ∀ (i : Nat) (v : Int) (_ : i < 2) (_ : idx [x, y] (i : Int) = some v), cmp_Or_int__l1 [x, y] ((i : Int), ()) = some (if v ≠ 0 then .inr (.inr (v, ())) else .inl (((i + 1 : Nat) : Int), ())) := by
    intro i v hi hv
    unfold cmp_Or_int__l1
    simp only [List.length_cons, List.length_nil]
    rw [decide_eq_true (by omega), cond_true, hv, Option.bind_some]
    by_cases e : v = 0
    · rw [decide_eq_true e, Bool.not_true, cond_false, if_neg (fun h => h e), wsuc (by omega)]
    · rw [decide_eq_false e, Bool.not_false, cond_true, if_pos e]
  have s0 := st 0 x (by omega) rfl
  have s1 := st 1 y (by omega) rfl
  have fin : cmp_Or_int__l1 [x, y] (((2 : Nat) : Int), ()) = some (.inr (.inl ())) := rfl
  unfold cmp_Or_int_
  by_cases ex : x = 0
  · rw [if_neg (fun h => h ex)] at s0 ⊢
    by_cases ey : y = 0
    · rw [if_neg (fun h => h ey)] at s1
      have h : loop (cmp_Or_int__l1 [x, y]) (0, ()) = some (.inl ()) := (Halts.step (n := 1) s0 (Halts.step (n := 0) s1 (Halts.done fin))).loop (by omega)
      rw [h, Option.bind_some, ey]
    · rw [if_pos ey] at s1
      have h : loop (cmp_Or_int__l1 [x, y]) (0, ()) = some (.inr (y, ())) := (Halts.step (n := 1) s0 (Halts.done s1)).loop (by omega)
      rw [h, Option.bind_some]
  · rw [if_pos ex] at s0 ⊢
    have h : loop (cmp_Or_int__l1 [x, y]) (0, ()) = some (.inr (x, ())) := (Halts.done (n := 0) s0).loop (by omega)
    rw [h, Option.bind_some]
theorem VOrder_eq {a b : Val} (sa : SmallV a) (sb : SmallV b) : value_Order a b = some (if eW a b 4 ≠ 0 then 0 else ov a b, eW a b 4, ()) := by
  unfold value_Order
  simp only [tn_eq, both_eq' sa sb, Option.bind_some, rank_eq, cmpInt_eq, cmpString_eq, or2]
  by_cases e : eW a b 4 = 0
  · obtain ⟨ea, eb, ka, kb⟩ := eW_ok e
    have oa := okv_of ea
    have ob := okv_of eb
    rw [decide_eq_true e, Bool.not_true, cond_false, if_neg (fun h => h e), e]
    unfold ov
    by_cases h1 : a.data.1 = b.data.1
    · rw [decide_eq_true h1, Bool.not_true, cond_false, if_neg (fun h => h h1)]
      by_cases h0 : a.data.1 = 0
      · rw [decide_eq_true h0, cond_true, if_pos h0]
      · rw [decide_eq_false h0, cond_false, if_neg h0, compared_eq oa ob sa.1 sb.1 h1]
        rfl
    · rw [decide_eq_false h1, Bool.not_false, cond_true, if_pos h1]
  · rw [decide_eq_false e, Bool.not_false, cond_true, if_pos e]
end Go.Proofs.YtmkpdineahbfkaaGreatDoor

namespace Go.Proofs.YtmkpdineahbfkaaGreatDoor
open Go Go.Fe

theorem place_rank {j k : Int} (h0 : 0 ≤ j) (h4 : j ≤ 4) (g0 : 0 ≤ k) (g4 : k ≤ 4) : cmpI (if j = 0 then 9 else j) (if k = 0 then 9 else k) = cmpI (rankI j) (rankI k) := by
  have hj : j = 0 ∨ j = 1 ∨ j = 2 ∨ j = 3 ∨ j = 4 := by omega
  have hk : k = 0 ∨ k = 1 ∨ k = 2 ∨ k = 3 ∨ k = 4 := by omega
  rcases hj with rfl | rfl | rfl | rfl | rfl <;> rcases hk with rfl | rfl | rfl | rfl | rfl <;> decide
theorem rOrder_eq {a b : Val} (oa : Okv a) (ob : Okv b) (ka : vkind a ≤ 4) (kb : vkind b ≤ 4) : chanceryref2_Order a b = some (ov a b, ()) := by
  have la : a.data.2.2.1.length ≤ 32767 := oa.len
  have lb : b.data.2.2.1.length ≤ 32767 := ob.len
  have ka0 : 0 ≤ a.data.1 := oa.k0
  have kb0 : 0 ≤ b.data.1 := ob.k0
  have ka4 : a.data.1 ≤ 4 := ka
  have kb4 : b.data.1 ≤ 4 := kb
  have pl : ∀ v : Val, chanceryref2_Order_1 v = some (if v.data.1 = 0 then 9 else v.data.1, ()) := by
    intro v
    unfold chanceryref2_Order_1
    by_cases h : v.data.1 = 0
    · rw [decide_eq_true h, cond_true, if_pos h]
    · rw [decide_eq_false h, cond_false, if_neg h]
  unfold chanceryref2_Order ov
  simp only [tn_eq, pl, Option.bind_some, cond_some', cond_pair, Bool.cond_self, unit_eq, cmpText_eq (a := a.data.2.2.1) (b := b.data.2.2.1) (by omega) (by omega), cmpD_sgn]
  by_cases h1 : a.data.1 = b.data.1
  · rw [decide_eq_true h1, Bool.not_true, cond_false, if_neg (fun h => h h1)]
    by_cases h0 : a.data.1 = 0
    · rw [decide_eq_true h0, cond_true, if_pos h0]
    · rw [decide_eq_false h0, cond_false, if_neg h0, oneKind_eq oa ob h1, Option.bind_some]
      simp only []
      by_cases c : onek (vkind a) a b = 0
      · rw [decide_eq_true c, Bool.not_true, cond_false, if_neg (fun h => h c)]
        by_cases h2 : a.data.1 = 2
        · rw [decide_eq_true h2, Bool.not_true, cond_false]
        · rw [decide_eq_false h2, Bool.not_false, cond_true, c]
          have e1 : vtext a = [] := oa.text h2
          have e2 : vtext b = [] := ob.text (by unfold vkind; omega)
          rw [e1, e2]; rfl
      · rw [decide_eq_false c, Bool.not_false, cond_true, cond_true, if_pos c]
  · rw [decide_eq_false h1, Bool.not_false, cond_true, if_pos h1]
    have h9 : ∀ k : Int, 0 ≤ k → k ≤ 4 → 0 ≤ (if k = 0 then (9 : Int) else k) ∧ (if k = 0 then (9 : Int) else k) ≤ 9 := by
      intro k h h'
      split <;> omega
    have r1 := h9 _ ka0 ka4
    have r2 := h9 _ kb0 kb4
    rw [wrap_i64 (by omega) (by omega), sgn_sub, place_rank ka0 ka4 kb0 kb4]
theorem onek_bound {k : Int} {a b : Val} : -1 ≤ onek k a b ∧ onek k a b ≤ 1 := by
  unfold onek fcmp sgnOf cmpS cmpI flagI
  split
  · split
    · omega
    · cases sumM _ _ _ _ _ _ <;> simp
  split
  · repeat' split
    all_goals omega
  split
  · cases von a <;> cases von b <;> simp
  · repeat' split
    all_goals omega
end Go.Proofs.YtmkpdineahbfkaaGreatDoor

