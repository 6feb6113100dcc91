import Derived.Test.YtmbejoibeninmaaGreatDoorLawD
namespace Go.Proofs.YtmbejoibeninmaaGreatDoor
open Go Go.Fe
def lowC (c : UInt8) : UInt8 := if 65 <= c.toNat /\ c.toNat <= 90 then UInt8.ofNat (c.toNat + 32) else c
def lowS (s : Str) : Str := s.map lowC
theorem lowS_len (s : Str) : (lowS s).length = s.length := List.length_map ..
theorem bytesStr_b (c : UInt8) : bytesStr [ofByte c] = [c] := by
 rw [ofByte_eq]; unfold bytesStr
 rw [List.map_cons, byteOfInt_nat, List.map_nil]
 simp
theorem bytesStr_n (n : Nat) : bytesStr [(n : Int)] = [UInt8.ofNat n] := by
 unfold bytesStr
 rw [List.map_cons, byteOfInt_nat, List.map_nil]
theorem wsuc {i : Nat} (h : i < 9223372036854775807) : IntKind.i64.wrap ((i : Int) + 1) = ((i + 1 : Nat) : Int) := by
 rw [wrap_i64 (by omega) (by omega)]; rfl
theorem low_step {s : Str} {i : Nat} (hi : i < s.length) (hl : s.length < 1000000000) : chanceryref2_Lower_l1 s (lowS (s.take i), (i : Int), ()) = some (.inl (lowS (s.take (i + 1)), ((i + 1 : Nat) : Int), ())) := by
 have g : (i : Int) < (s.length : Int) := by omega
 have hb := byte_lt s[i]
 have e : lowS (s.take (i + 1)) = lowS (s.take i) ++ [lowC s[i]] := by
  unfold lowS
  rw [List.take_succ_eq_append_getElem hi, List.map_append]
  rfl
 have hc : cat (lowS (s.take i)) [lowC s[i]] = some (lowS (s.take i) ++ [lowC s[i]]) := cat_ok (by
  rw [lowS_len, List.length_take, List.length_cons, List.length_nil]
  omega)
 rw [e]
 have w := wsuc (show i < 9223372036854775807 by omega)
 by_cases h : 65 <= s[i].toNat /\ s[i].toNat <= 90
 ·have a1 : (65 : Int) <= ofByte s[i] := by rw [ofByte_eq]; omega
  have a2 : ofByte s[i] <= 90 := by rw [ofByte_eq]; omega
  have a3 : IntKind.u8.wrap (ofByte s[i] + 32) = ((s[i].toNat + 32 : Nat) : Int) := by rw [ofByte_eq, wrap_u8i (by omega) (by omega)]; omega
  have a4 : bytesStr [((s[i].toNat + 32 : Nat) : Int)] = [lowC s[i]] := by rw [bytesStr_n, lowC, if_pos h]
  simp only [chanceryref2_Lower_l1, g, decide_true, cond_true, idx_lt hi, Option.bind_some, a1, a2, a3, a4, hc, w]
 ·have a4 : bytesStr [ofByte s[i]] = [lowC s[i]] := by rw [lowC, if_neg h, bytesStr_b]
  by_cases h1 : 65 <= s[i].toNat
  ·have a1 : (65 : Int) <= ofByte s[i] := by rw [ofByte_eq]; omega
   have a2 : ¬ofByte s[i] <= 90 := by rw [ofByte_eq]; omega
   simp only [chanceryref2_Lower_l1, g, decide_true, decide_false, cond_true, cond_false, idx_lt hi, Option.bind_some, a1, a2, a4, hc, w]
  ·have a1 : ¬(65 : Int) <= ofByte s[i] := by rw [ofByte_eq]; omega
   simp only [chanceryref2_Lower_l1, g, decide_true, decide_false, cond_true, cond_false, idx_lt hi, Option.bind_some, a1, a4, hc, w]
theorem rLower_eq {s : Str} (hl : s.length < 1000000000) : chanceryref2_Lower s = some (lowS s, ()) := by
 have hl' : Halts (chanceryref2_Lower_l1 s) (0 + s.length) (lowS (s.take 0), ((0 : Nat) : Int), ()) (lowS (s.take s.length), ()) := by
  refine Halts.along (fun i => (lowS (s.take i), (i : Int), ())) s.length (fun i hi => low_step hi hl) (.done ?_)
  simp only [chanceryref2_Lower_l1, Int.lt_irrefl, decide_false, cond_false]
 have hr := hl'.loop (by omega)
 unfold chanceryref2_Lower
 rw [List.take_length] at hr
 erw [hr]
 rfl
def lowI (x : Int) : Int := if 65 <= x /\ x <= 90 then x + 32 else x
def lowX (s : Str) (i : Nat) : List Int := ((strBytes s).take i).map lowI ++ (strBytes s).drop i
theorem lowX_len (s : Str) (i : Nat) : (lowX s i).length = s.length := by
 unfold lowX strBytes
 simp; omega
theorem strBytes_len (s : Str) : (strBytes s).length = s.length := List.length_map ..
theorem lowX_get {s : Str} {i : Nat} (h : i < s.length) : (lowX s i).getD i 0 = (s[i].toNat : Int) := by
 unfold lowX
 rw [List.getD_eq_getElem?_getD, List.getElem?_append_right (by simp; omega)]
 simp only [List.length_map, List.length_take, strBytes_len, List.getElem?_drop]
 rw [show i + (i - min i s.length) = i by omega]
 unfold strBytes
 rw [List.getElem?_map, List.getElem?_eq_getElem h]; rfl
theorem lowX_succ {s : Str} {i : Nat} (h : i < s.length) : lowX s (i + 1) = (lowX s i).set i (lowI (s[i].toNat : Int)) := by
 have h' : i < (strBytes s).length := by rw [strBytes_len]; exact h
 have e : (strBytes s)[i] = (s[i].toNat : Int) := by simp [strBytes]
 unfold lowX
 rw [List.set_append_right _ _ (by simp; omega), List.take_succ_eq_append_getElem h', List.drop_eq_getElem_cons h', List.map_append, List.append_assoc]
 congr 1
 rw [List.length_map, List.length_take, show i - min i (strBytes s).length = 0 by omega, List.set_cons_zero, e]
 rfl
theorem vlow_step {s : Str} {i : Nat} (hi : i < s.length) (hl : s.length < 1000000000) : value_Lower_l1 s ((), (), (i : Int), lowX s i, ()) = some (.inl ((), (), ((i + 1 : Nat) : Int), lowX s (i + 1), ())) := by
 have hb := byte_lt s[i]
 have w := wsuc (show i < 9223372036854775807 by omega)
 have c1 : chk (inb (i : Int) (lowX s i).length) = some () := by rw [inb_nat (by rw [lowX_len]; exact hi)]; rfl
 have g : (i : Int) < ((strBytes s).length : Int) := by rw [strBytes_len]; omega
 have gd : (lowX s i).getD (i : Int).toNat 0 = (s[i].toNat : Int) := lowX_get hi
 have same : (lowX s i).set i (s[i].toNat : Int) = lowX s i := by
  have h' : i < (lowX s i).length := by rw [lowX_len]; exact hi
  have gd' : (lowX s i)[i] = (s[i].toNat : Int) := by
   rw [<- lowX_get hi, List.getD_eq_getElem?_getD, List.getElem?_eq_getElem h']; rfl
  rw [<- gd']; exact List.set_getElem_self h'
 rw [lowX_succ hi]
 unfold value_Lower_l1 lowI
 simp only [g, decide_true, cond_true, c1, Option.bind_some, gd, w]
 by_cases h1 : 65 <= s[i].toNat
 ·by_cases h2 : s[i].toNat <= 90
  ·rw [if_pos (by omega), decide_eq_true (by omega), cond_true, Option.bind_some]
   simp only []
   rw [decide_eq_true (by omega), cond_true]
   simp only [c1, Option.bind_some]
   rw [gd, wrap_u8i (by omega) (by omega)]
   rfl
  ·rw [if_neg (by omega), decide_eq_true (by omega), cond_true, Option.bind_some]
   simp only []
   rw [decide_eq_false (by omega), cond_false]
   simp only [Option.bind_some]
   rw [same]
 ·rw [if_neg (by omega), decide_eq_false (by omega), cond_false, Option.bind_some]
  simp only [cond_false, Option.bind_some]
  rw [same]
theorem VLower_eq {s : Str} (hl : s.length < 1000000000) : value_Lower s = some (lowS s, ()) := by
 have hl' : Halts (value_Lower_l1 s) (0 + s.length) ((), (), ((0 : Nat) : Int), lowX s 0, ()) ((), lowX s s.length, ()) := by
  refine Halts.along (fun i => ((), (), (i : Int), lowX s i, ())) s.length (fun i hi => vlow_step hi hl) (.done ?_)
  simp only [value_Lower_l1, strBytes_len, Int.lt_irrefl, decide_false, cond_false]
 have hr := hl'.loop (by omega)
 have e0 : lowX s 0 = strBytes s := by unfold lowX; rw [List.take_zero, List.map_nil, List.nil_append, List.drop_zero]
 have e1 : bytesStr (lowX s s.length) = lowS s := by
  unfold lowX bytesStr lowS strBytes
  rw [List.take_of_length_le (by rw [List.length_map]; omega), List.drop_of_length_le (by rw [List.length_map]; omega), List.append_nil, List.map_map, List.map_map]
  refine List.map_congr_left fun c _ => ?_
  show byteOfInt (lowI (c.toNat : Int)) = lowC c
  have hb := byte_lt c
  unfold lowI lowC
  by_cases h : 65 <= c.toNat /\ c.toNat <= 90
  ·rw [if_pos (by omega), if_pos h, <- byteOfInt_nat]; rfl
  ·rw [if_neg (by omega), if_neg h, byteOfInt_nat]; simp
 rw [e0] at hr
 unfold value_Lower
 rw [decide_eq_true (by unfold lim; omega)]
 have hr' : loop (value_Lower_l1 s) ((), (), 0, strBytes s, ()) = some ((), lowX s s.length, ()) := hr
 simp only [chk, Option.bind_some, hr', e1]
def cmpS (a b : Str) : Int := if Op.bytesLess a b = true then -1 else if Op.bytesLess b a = true then 1 else 0
def cmpI (a b : Int) : Int := if a < b then -1 else if b < a then 1 else 0
def fcmp (f g : Str × (Str × Unit)) : Int :=
 sgnOf (sumM (signOf f.1) (dec (body f.1)) (dec f.2.1) (!signOf g.1) (dec (body g.1)) (dec g.2.1)) (sumN (signOf f.1) (dec (body f.1)) (dec f.2.1) (!signOf g.1) (dec (body g.1)) (dec g.2.1))
structure Okv (v : Val) : Prop where
 k0 : 0 <= vkind v
 k5 : vkind v <= 5
 frac : vkind v = 1 -> fracErr (vnum v) = 0
 text : vkind v ≠ 2 -> vtext v = []
 len : (vtext v).length <= 32767
 on : vkind v ≠ 3 -> von v = false
 code : vkind v ≠ 4 -> vcode v = 0
 c1 : 0 <= vcode v
 c8 : vcode v <= 8
theorem okv_of {v : Val} (h : verr v = 0) : Okv v := by
 have h1 : verr1 v = 0 := by
  unfold verr at h
  by_cases e : verr1 v = 0
  ·exact e
  ·rw [if_pos e] at h; exact h
 unfold verr1 at h1
 by_cases a : vkind v < 0 \/ 5 < vkind v
 ·rw [if_pos a] at h1; omega
 rw [if_neg a] at h1
 by_cases b : formBad v = true
 ·rw [if_pos b] at h1; omega
 rw [if_neg b] at h1
 have b' : formBad v = false := by cases e : formBad v <;> simp_all
 unfold formBad at b'
 simp only [Bool.or_eq_false_iff, Bool.and_eq_false_iff, Bool.not_eq_false', decide_eq_true_eq] at b'
 obtain ⟨b1, b2, b3, b4, b5⟩ := b'
 have txt : vkind v ≠ 2 -> vtext v = [] := fun e => b2.resolve_left e
 have cd : vkind v ≠ 4 -> vcode v = 0 := fun e => b4.resolve_left e
 have cd4 : vkind v = 4 -> 1 <= vcode v /\ vcode v <= 8 := fun e => by
  rw [if_neg (by omega), if_neg (by omega)] at h1
  by_cases hc : ftext (vcode v) = []
  ·rw [if_pos ⟨e, hc⟩] at h1; omega
  ·have := mt (ftext_nil (vcode v)).2 hc
   omega
 refine ⟨by omega, by omega, fun e => ?_, txt, ?_, fun e => ?_, cd, ?_, ?_⟩
 ·rw [if_pos e] at h1; exact h1
 ·by_cases e : vkind v = 2
  ·rw [if_neg (by omega), if_pos e] at h1
   unfold textErr at h1
   by_cases l : 32767 < (vtext v).length
   ·rw [if_pos l] at h1; omega
   ·omega
  ·rw [txt e]; exact Nat.zero_le _
 ·rcases b3 with x | x
  ·exact absurd x e
  ·exact x
 ·by_cases e : vkind v = 4
  ·have := cd4 e; omega
  ·rw [cd e]; omega
 ·by_cases e : vkind v = 4
  ·have := cd4 e; omega
  ·rw [cd e]; omega
def flagI (b : Bool) : Int := bif b then 1 else 0
def onek (k : Int) (a b : Val) : Int :=
 if k = 1 then fcmp (vnum a) (vnum b) else if k = 2 then cmpS (lowS (vtext a)) (lowS (vtext b)) else if k = 3 then flagI (von a) - flagI (von b) else cmpI (vcode a) (vcode b)
def zv (k : Int) : Val := if k = 1 then vNum ([48], [49], ()) else .node (k, (([], ([], ())), ([], (false, (0, (0, (0, ()))))))) []
def likeV (v o : Val) : Val := if vkind v ≠ 0 then v else if vkind o = 1 \/ vkind o = 2 \/ vkind o = 3 then zv (vkind o) else v
def rankI (k : Int) : Int := if k = 1 then 0 else if k = 2 then 1 else if k = 3 then 2 else if k = 4 then 3 else 4
def cv (a b : Val) : Int :=
 if vkind (likeV a b) = 0 then 0 else if vkind (likeV a b) ≠ vkind (likeV b a) then cmpI (rankI (vkind (likeV a b))) (rankI (vkind (likeV b a))) else onek (vkind (likeV a b)) (likeV a b) (likeV b a)
end Go.Proofs.YtmbejoibeninmaaGreatDoor
