/- Rows of an array, sorted. -/
import Derived.Test.YtmkpdineahbfkaaGreatDoorLawV
import Derived.Test.YtmkpdineahbfkaaGreatDoorLawO
namespace Go.Proofs.YtmkpdineahbfkaaGreatDoor
open Go Go.Fe

/-- A value's parts. -/
def qv (v : Val) : TA0 := (v.data.1, (v.data.2.1.1, (v.data.2.1.2.1, (v.data.2.2.1, (v.data.2.2.2.1, (v.data.2.2.2.2.1, (v.data.2.2.2.2.2.1, (v.data.2.2.2.2.2.2.1, (v.kids, ())))))))))
structure Arr (v : Val) (R C : Nat) : Prop where
  rows : vrows v = (R : Int)
  cols : vcols v = (C : Int)
  len : v.kids.length = R * C
  r1 : 1 ≤ R
  c1 : 1 ≤ C
  most : R * C ≤ 60
  ok : ∀ x ∈ v.kids, Sca x ∧ verr x = 0 ∧ vb x ≤ 1048576
theorem items_ok : ∀ {l : List Val}, itemsErr l = 0 → ∀ x ∈ l, vkind x ≠ 5 ∧ verr1 x = 0
  | y :: r, h, x, hx => by
    unfold itemsErr at h
    by_cases h5 : vkind y = 5
    · rw [if_pos h5] at h; omega
    rw [if_neg h5] at h
    by_cases h1 : verr1 y = 0
    · rw [if_neg (by omega)] at h
      rcases List.mem_cons.1 hx with rfl | hx
      · exact ⟨h5, h1⟩
      · exact items_ok h x hx
    · rw [if_pos h1] at h; exact absurd h h1
theorem arr_of {v : Val} (h : verr v = 0) (h5 : vkind v = 5) (hl : v.kids.length ≤ 60) (hb : vb v ≤ 1048576) : ∃ R C, Arr v R C := by
  unfold verr at h
  by_cases e1 : verr1 v = 0
  · rw [if_neg (by omega), if_pos h5] at h
    by_cases e2 : arrHead v = 0
    · rw [if_neg (by omega)] at h
      unfold arrHead at e2
      by_cases q : vrows v < 1 ∨ 100000 < vrows v ∨ vcols v < 1 ∨ 100000 < vcols v
      · rw [if_pos q] at e2; omega
      rw [if_neg q] at e2
      by_cases q2 : 100000 < vrows v * vcols v
      · rw [if_pos q2] at e2; omega
      rw [if_neg q2] at e2
      by_cases q3 : (v.kids.length : Int) = vrows v * vcols v
      · obtain ⟨R, hR⟩ := Int.eq_ofNat_of_zero_le (show 0 ≤ vrows v by omega)
        obtain ⟨C, hC⟩ := Int.eq_ofNat_of_zero_le (show 0 ≤ vcols v by omega)
        have hRC : v.kids.length = R * C := by
          rw [hR, hC] at q3
          exact_mod_cast q3
        refine ⟨R, C, hR, hC, hRC, by omega, by omega, by omega, fun x hx => ?_⟩
        obtain ⟨k5, kv⟩ := items_ok h x hx
        have hv : verr x = 0 := by rw [verr_flat k5]; exact kv
        have ho := okv_of hv
        have := ho.k5
        have := vb_kid hx
        exact ⟨⟨ho, by omega⟩, hv, by omega⟩
      · rw [if_pos q3] at e2; omega
    · rw [if_pos e2] at h; exact absurd h e2
  · rw [if_pos e1] at h; exact absurd h e1

/-- An item. -/
def itm (v : Val) (C i : Nat) (k : Int) : Val := v.kids.getD (i * C + k.toNat) vNone
section
variable {v : Val} {R C : Nat} (A : Arr v R C)
include A
theorem itm_lt {i : Nat} {k : Int} (hi : i < R) (h0 : 0 ≤ k) (hk : k < C) : i * C + k.toNat < v.kids.length := by
  rw [A.len]
  have h1 : i * C + k.toNat < i * C + C := by omega
  have h2 : i * C + C = (i + 1) * C := by rw [Nat.succ_mul]
  have h3 : (i + 1) * C ≤ R * C := Nat.mul_le_mul_right C hi
  omega
theorem itm_mem {i : Nat} {k : Int} (hi : i < R) (h0 : 0 ≤ k) (hk : k < C) : itm v C i k ∈ v.kids := by
  unfold itm
  rw [List.getD_eq_getElem?_getD, List.getElem?_eq_getElem (itm_lt A hi h0 hk)]
  exact List.getElem_mem _
theorem itm_ok {i : Nat} {k : Int} (hi : i < R) (h0 : 0 ≤ k) (hk : k < C) : Sca (itm v C i k) ∧ verr (itm v C i k) = 0 ∧ vb (itm v C i k) ≤ 1048576 := A.ok _ (itm_mem A hi h0 hk)
theorem itm_idx {i : Nat} {k : Int} (hi : i < R) (h0 : 0 ≤ k) (hk : k < C) : idx v.kids (IntKind.i64.wrap (IntKind.i64.wrap ((i : Int) * (vcols v)) + k)) = some (itm v C i k) := by
  have hl := itm_lt A hi h0 hk
  have hm := A.most
  rw [A.len] at hl
  have e : ((i : Int) * (C : Int)) = ((i * C : Nat) : Int) := by push_cast; rfl
  rw [A.cols, e, wrap_i64 (n := ((i * C : Nat) : Int)) (by omega) (by omega), wrap_i64 (by omega) (by omega)]
  have e2 : ((i * C : Nat) : Int) + k = ((i * C + k.toNat : Nat) : Int) := by omega
  rw [e2, idx_nat, List.getElem?_eq_getElem (by rw [A.len]; omega)]
  unfold itm
  rw [List.getD_eq_getElem?_getD, List.getElem?_eq_getElem (by rw [A.len]; omega)]
  rfl
end

theorem cmpS_bound (a b : Str) : -1 ≤ cmpS a b ∧ cmpS a b ≤ 1 := by
  unfold cmpS
  repeat' split
  all_goals omega
theorem cmpI_bound (a b : Int) : -1 ≤ cmpI a b ∧ cmpI a b ≤ 1 := by
  unfold cmpI
  repeat' split
  all_goals omega
theorem ov_bound (a b : Val) : -1 ≤ ov a b ∧ ov a b ≤ 1 := by
  have h1 := onek_bound (k := vkind a) (a := a) (b := b)
  have h2 := cmpS_bound (vtext a) (vtext b)
  have h3 := cmpI_bound (rankI (vkind a)) (rankI (vkind b))
  unfold ov
  repeat' split
  all_goals omega
theorem eW0 {a b : Val} (ha : verr a = 0) (hb : verr b = 0) (ka : vkind a ≤ 4) (kb : vkind b ≤ 4) : eW a b 4 = 0 := by
  unfold eW
  rw [if_neg (by omega), if_neg (by omega), if_neg (by unfold mx; split <;> omega)]
theorem order_eq {a b : Val} (ha : Sca a ∧ verr a = 0 ∧ vb a ≤ 1048576) (hb : Sca b ∧ verr b = 0 ∧ vb b ≤ 1048576) (down : Bool) : arrange_order a b down = some (okey1 down a b, ()) := by
  have e := eW0 ha.2.1 hb.2.1 ha.1.2 hb.1.2
  have hbd := ov_bound a b
  unfold arrange_order okey1
  simp only [tn_eq, VOrder_eq (vb_small ha.2.2) (vb_small hb.2.2), e, Option.bind_some]
  have w : IntKind.i64.wrap (-ov a b) = -ov a b := wrap_i64 (by omega) (by omega)
  cases down with
  | false => simp
  | true =>
    by_cases h1 : a.data.1 = 0
    · simp [h1]
    · by_cases h2 : b.data.1 = 0
      · simp [h1, h2]
      · simp [h1, h2, w]
/-- How two rows compare by keys. -/
def ck (v : Val) (C : Nat) : List (Int × (Bool × Unit)) → Nat → Nat → Int
  | [], _, _ => 0
  | k :: r, i, j => if okey1 k.2.1 (itm v C i k.1) (itm v C j k.1) ≠ 0 then okey1 k.2.1 (itm v C i k.1) (itm v C j k.1) else ck v C r i j
theorem ordC {v : Val} {R C : Nat} (A : Arr v R C) : ∀ (K : TA11), (∀ k ∈ K, 0 ≤ k.1 ∧ k.1 < C) → Ordr (fun i : Nat => i < R) (ck v C K)
  | [], _ => Ordr.zero
  | k :: r, h => by
    have hk := h k (by simp)
    have h1 : Ordr (fun i : Nat => i < R) (fun i j => okey1 k.2.1 (itm v C i k.1) (itm v C j k.1)) := (ordD k.2.1).pull (fun i => itm v C i k.1) (fun i hi => (itm_ok A hi hk.1 hk.2).1)
    exact h1.lex (ordC A r (fun x hx => h x (by simp [hx])))
theorem ckey_halts {v : Val} {R C : Nat} (A : Arr v R C) {K : TA11} (hK : ∀ k ∈ K, 0 ≤ k.1 ∧ k.1 < C) (hl : K.length ≤ 64) {i j : Nat} (hi : i < R) (hj : j < R) :
    ∀ (n t : Nat), K.length - t = n → t ≤ K.length → ∃ r, Halts (arrange_Rows_1_l1 K (i : Int) (j : Int)) n ((), (), (t : Int), (K, ()), qv v, ()) r ∧
      (match r with
      | .inl z8 => (some (0, (), (), z8.2.2.1, z8.2.2.2.1, ()) : Option (Int × (Unit × (Unit × ((TA11 × Unit) × (TA0 × Unit))))))
      | .inr z9 => (some (z9.2.2.1, (), (), z9.2.2.2.1, z9.2.2.2.2.1, ()))) = some (ck v C (K.drop t) i j, (), (), (K, ()), qv v, ())
  | n, t, hn, ht => by
    by_cases h : t < K.length
    · have hk := hK _ (List.getElem_mem h)
      have e1 : (t : Int) < (K.length : Int) := by omega
      have g1 : idx (qv v).2.2.2.2.2.2.2.2.1 (IntKind.i64.wrap (IntKind.i64.wrap ((i : Int) * (qv v).2.2.2.2.2.2.2.1) + K[t].1)) = some (itm v C i K[t].1) := itm_idx A hi hk.1 hk.2
      have g2 : idx (qv v).2.2.2.2.2.2.2.2.1 (IntKind.i64.wrap (IntKind.i64.wrap ((j : Int) * (qv v).2.2.2.2.2.2.2.1) + K[t].1)) = some (itm v C j K[t].1) := itm_idx A hj hk.1 hk.2
      have ho := order_eq (itm_ok A hi hk.1 hk.2) (itm_ok A hj hk.1 hk.2) K[t].2.1
      have hd : K.drop t = K[t] :: K.drop (t + 1) := List.drop_eq_getElem_cons h
      have w1 := wsuc (show t < 9223372036854775807 by omega)
      by_cases hz : okey1 K[t].2.1 (itm v C i K[t].1) (itm v C j K[t].1) = 0
      · cases n with
        | zero => omega
        | succ n =>
        obtain ⟨r, h1, h2⟩ := ckey_halts A hK hl hi hj n (t + 1) (by omega) (by omega)
        refine ⟨r, Halts.step ?_ h1, ?_⟩
        · unfold arrange_Rows_1_l1
          simp only [e1, decide_true, cond_true, idx_lt h, Option.bind_some, g1, g2, ho, hz, Bool.not_true, cond_false, w1]
        · rw [h2, hd, ck, if_neg (fun x => x hz)]
      · refine ⟨.inr ((), (), okey1 K[t].2.1 (itm v C i K[t].1) (itm v C j K[t].1), (K, ()), qv v, ()), Halts.done ?_, ?_⟩
        · unfold arrange_Rows_1_l1
          simp only [e1, decide_true, cond_true, idx_lt h, Option.bind_some, g1, g2, ho, hz, decide_false, Bool.not_false]
        · rw [hd, ck, if_pos hz]
    · have e1 : ¬ (t : Int) < (K.length : Int) := by omega
      refine ⟨.inl ((), (), (K, ()), qv v, ()), Halts.done ?_, ?_⟩
      · unfold arrange_Rows_1_l1
        simp only [e1, decide_false, cond_false]
      · rw [List.drop_of_length_le (by omega), ck]
theorem cmp_eq {v : Val} {R C : Nat} (A : Arr v R C) {K : TA11} (hK : ∀ k ∈ K, 0 ≤ k.1 ∧ k.1 < C) (hl : K.length ≤ 64) {i j : Nat} (hi : i < R) (hj : j < R) : Wd K (qv v) (i : Int) (j : Int) (ck v C K i j) := by
  obtain ⟨r, h1, h2⟩ := ckey_halts A hK hl hi hj K.length 0 (by omega) (Nat.zero_le _)
  have hlp := h1.loop (by omega)
  unfold Wd arrange_Rows_1
  rw [q_eta, show (0 : Int) = ((0 : Nat) : Int) from rfl, hlp]
  rw [List.drop_zero] at h2
  exact h2
/-- The order of rows: by the keys, and by their places. -/
def rlt (v : Val) (R C : Nat) (K : TA11) (x y : Int) : Prop := ∃ i j : Nat, x = (i : Int) ∧ y = (j : Int) ∧ i < R ∧ j < R ∧ (ck v C K i j < 0 ∨ ck v C K i j = 0 ∧ i < j)
section
variable {v : Val} {R C : Nat} (A : Arr v R C) {K : TA11} (hK : ∀ k ∈ K, 0 ≤ k.1 ∧ k.1 < C)
include A hK
theorem rlt_tr (x y z : Int) (h1 : rlt v R C K x y) (h2 : rlt v R C K y z) : rlt v R C K x z := by
  obtain ⟨i, j, rfl, rfl, hi, hj, h⟩ := h1
  obtain ⟨j', k, e, rfl, _, hk, h'⟩ := h2
  have : j' = j := by omega
  subst this
  have o := ordC A K hK
  refine ⟨i, k, rfl, rfl, hi, hk, ?_⟩
  rcases h with h | ⟨h, hlt⟩
  · have := o.lt_le hi hj hk h (by rcases h' with h' | h' <;> omega)
    exact .inl this
  · rcases h' with h' | ⟨h', hlt'⟩
    · exact .inl (o.le_lt hi hj hk (by omega) h')
    · have t1 := o.trans i j' k hi hj hk (by omega) (by omega)
      have a1 := o.anti i j' hi hj
      have a2 := o.anti j' k hj hk
      have a3 := o.anti i k hi hk
      have t2 := o.trans k j' i hk hj hi (by omega) (by omega)
      exact .inr ⟨by omega, by omega⟩
theorem rlt_ir (x : Int) : ¬ rlt v R C K x x := by
  rintro ⟨i, j, rfl, e, hi, hj, h⟩
  have : j = i := by omega
  subst this
  have := (ordC A K hK).anti j j hi hi
  omega
theorem rtell (hl : K.length ≤ 64) {i j : Nat} (hi : i < R) (hj : j < R) (hij : i < j) : Tell K (qv v) (rlt v R C K) (i : Int) (j : Int) := by
  have a := (ordC A K hK).anti j i hj hi
  refine ⟨ck v C K j i, cmp_eq A hK hl hj hi, fun h => ⟨j, i, rfl, rfl, hj, hi, .inl h⟩, fun h => ⟨i, j, rfl, rfl, hi, hj, ?_⟩⟩
  by_cases e : ck v C K i j = 0
  · exact .inr ⟨e, hij⟩
  · exact .inl (by omega)
end
def upto (R : Nat) : List Int := (List.range R).map fun i : Nat => (i : Int)
theorem upto_len (R : Nat) : (upto R).length = R := by simp [upto]
theorem upto_get {R i : Nat} (h : i < R) : (upto R)[i]'(by rw [upto_len]; exact h) = (i : Int) := by simp [upto]
theorem mem_upto {R : Nat} {x : Int} : x ∈ upto R ↔ 0 ≤ x ∧ x < R := by
  unfold upto
  rw [List.mem_map]
  constructor
  · rintro ⟨i, hi, rfl⟩
    have := List.mem_range.1 hi
    omega
  · rintro ⟨h0, h1⟩
    exact ⟨x.toNat, List.mem_range.2 (by omega), by omega⟩
theorem upto_pw {R : Nat} {p : Int → Int → Prop} (h : ∀ i j : Nat, i < R → j < R → i < j → p (i : Int) (j : Int)) : (upto R).Pairwise p := by
  rw [List.pairwise_iff_getElem]
  intro i j hi hj hij
  rw [upto_len] at hi hj
  rw [upto_get hi, upto_get hj]
  exact h i j hi hj hij
theorem fill_halts {R : Nat} (hR : R ≤ 1000) (q : TA0) (k : TA11 × Unit) {w : List Int} (hw : w.length = R) :
    Halts (arrange_Rows_l2 w) (0 + R) ((), (), (), ((0 : Nat) : Int), q, k, (upto R).take 0 ++ (List.replicate R (0 : Int)).drop 0, ()) ((), (), (), q, k, upto R, ()) := by
  refine Halts.along (fun i => ((), (), (), (i : Int), q, k, (upto R).take i ++ (List.replicate R (0 : Int)).drop i, ())) R (fun i hi => ?_) (.done ?_)
  · have e1 : (i : Int) < (w.length : Int) := by omega
    have hlen : ((upto R).take i ++ (List.replicate R (0 : Int)).drop i).length = R := by rw [List.length_append, List.length_take, List.length_drop, upto_len, List.length_replicate]; omega
    have hin : inb (i : Int) ((upto R).take i ++ (List.replicate R (0 : Int)).drop i).length = true := inb_nat (by rw [hlen]; exact hi)
    have hset : ((upto R).take i ++ (List.replicate R (0 : Int)).drop i).set i (i : Int) = (upto R).take (i + 1) ++ (List.replicate R (0 : Int)).drop (i + 1) := by
      rw [List.set_append_right _ _ (by rw [List.length_take, upto_len]; omega), List.length_take, upto_len, Nat.min_eq_left (by omega), Nat.sub_self, List.drop_eq_getElem_cons (by rw [List.length_replicate]; exact hi), List.set_cons_zero,
        List.take_succ_eq_append_getElem (by rw [upto_len]; exact hi), upto_get hi, List.append_assoc]
      rfl
    have w1 := wsuc (show i < 9223372036854775807 by omega)
    unfold arrange_Rows_l2
    simp only [e1, decide_true, cond_true, hin, chk_t, Option.bind_some, Int.toNat_natCast, hset, w1]
  · have e1 : ¬ (R : Int) < (w.length : Int) := by omega
    have hend : (upto R).take R ++ (List.replicate R (0 : Int)).drop R = upto R := by
      rw [List.take_of_length_le (by rw [upto_len]; omega), List.drop_of_length_le (by rw [List.length_replicate]; omega), List.append_nil]
    unfold arrange_Rows_l2
    simp only [e1, decide_false, cond_false, hend]
/-- Is a key's column none of the array's? -/
def kbad (v : Val) (k : Int × (Bool × Unit)) : Bool := decide (k.1 < 0) || decide (vcols v ≤ k.1)
theorem keys_halts {v : Val} {K : TA11} (hl : K.length ≤ 1000) : ∀ (n t : Nat), K.length - t = n → t ≤ K.length →
    Halts (arrange_Rows_l1 K) n ((), (), (t : Int), qv v, (K, ()), ()) (if (K.drop t).any (kbad v) = true then .inr ((), 2, ()) else .inl ((), (), qv v, (K, ()), ()))
  | n, t, hn, ht => by
    by_cases h : t < K.length
    · have e1 : (t : Int) < (K.length : Int) := by omega
      have hd : K.drop t = K[t] :: K.drop (t + 1) := List.drop_eq_getElem_cons h
      have w1 := wsuc (show t < 9223372036854775807 by omega)
      have hc : (qv v).2.2.2.2.2.2.2.1 = vcols v := rfl
      rw [hd, List.any_cons]
      by_cases h0 : K[t].1 < 0
      · have : kbad v K[t] = true := by unfold kbad; rw [decide_eq_true h0, Bool.true_or]
        rw [this, Bool.true_or, if_pos rfl]
        refine Halts.done ?_
        unfold arrange_Rows_l1
        simp only [e1, decide_true, cond_true, idx_lt h, Option.bind_some, h0]
      · by_cases h1 : vcols v ≤ K[t].1
        · have : kbad v K[t] = true := by unfold kbad; rw [decide_eq_true h1, Bool.or_true]
          rw [this, Bool.true_or, if_pos rfl]
          refine Halts.done ?_
          unfold arrange_Rows_l1
          simp only [e1, decide_true, cond_true, idx_lt h, Option.bind_some, h0, decide_false, cond_false, hc, h1]
        · have : kbad v K[t] = false := by unfold kbad; rw [decide_eq_false h0, decide_eq_false h1]; rfl
          cases n with
          | zero => omega
          | succ n =>
          rw [this, Bool.false_or]
          refine Halts.step ?_ (keys_halts hl n (t + 1) (by omega) (by omega))
          unfold arrange_Rows_l1
          simp only [e1, decide_true, cond_true, idx_lt h, Option.bind_some, h0, decide_false, cond_false, hc, h1, w1]
    · have e1 : ¬ (t : Int) < (K.length : Int) := by omega
      rw [List.drop_of_length_le (by omega), List.any_nil, if_neg (by decide)]
      refine Halts.done ?_
      unfold arrange_Rows_l1
      simp only [e1, decide_false, cond_false]
/-- An array's error. -/
def aerr (v : Val) : Int := if verr v ≠ 0 then verr v else if vkind v = 5 then 0 else 8
theorem array_prog {v : Val} (hb : vb v ≤ 1048576) : arrange_array v = some (aerr v, ()) := by
  unfold arrange_array aerr
  simp only [tn_eq, VCheck_eq (vb_small hb), Option.bind_some]
  by_cases e : verr v = 0
  · rw [if_neg (fun h => h e)]
    by_cases h5 : v.data.1 = 5
    · rw [if_pos h5]; simp [e, h5]
    · rw [if_neg h5]; simp [e, h5]
  · rw [if_pos e]; simp [e]
theorem array_ref {v : Val} (hb : vb v ≤ 1048576) : chancerylaw2_arrayError v = some (aerr v, ()) := by
  unfold chancerylaw2_arrayError aerr
  simp only [tn_eq, rErr_eq (vb_small hb), Option.bind_some]
  by_cases e : verr v = 0
  · rw [if_neg (fun h => h e)]
    by_cases h5 : v.data.1 = 5
    · rw [if_pos h5]; simp [e, h5]
    · rw [if_neg h5]; simp [e, h5]
  · rw [if_pos e]; simp [e]
theorem Rows_bad {v : Val} (hb : vb v ≤ 1048576) (K : TA11) (h : aerr v ≠ 0) : arrange_Rows v K = some ([], aerr v, ()) := by
  unfold arrange_Rows
  simp only [tn_eq, array_prog hb, Option.bind_some, h, decide_false, Bool.not_false, cond_true]
theorem Rows_long {v : Val} (hb : vb v ≤ 1048576) {K : TA11} (h : aerr v = 0) (hl : 64 < K.length) : arrange_Rows v K = some ([], 3, ()) := by
  have e : 64 < (K.length : Int) := by omega
  unfold arrange_Rows
  simp only [tn_eq, array_prog hb, Option.bind_some, h, decide_true, Bool.not_true, cond_false, e, cond_true]
theorem Rows_key {v : Val} (hb : vb v ≤ 1048576) {K : TA11} (h : aerr v = 0) (hl : K.length ≤ 64) (hk : K.any (kbad v) = true) : arrange_Rows v K = some ([], 2, ()) := by
  have e : ¬ 64 < (K.length : Int) := by omega
  have hlp := (keys_halts (v := v) (K := K) (by omega) K.length 0 (by omega) (Nat.zero_le _)).loop (by omega)
  rw [List.drop_zero, if_pos hk] at hlp
  have hlp' : loop (arrange_Rows_l1 K) ((), (), 0, (v.data.1, (v.data.2.1.1, (v.data.2.1.2.1, (v.data.2.2.1, (v.data.2.2.2.1, (v.data.2.2.2.2.1, (v.data.2.2.2.2.2.1, (v.data.2.2.2.2.2.2.1, (v.kids, ()))))))))), (K, ()), ()) = some (.inr ((), 2, ())) := hlp
  unfold arrange_Rows
  simp only [tn_eq, array_prog hb, Option.bind_some, h, decide_true, Bool.not_true, cond_false, e, decide_false]
  rw [hlp']
  rfl
theorem Rows_ok {v : Val} (hb : vb v ≤ 1048576) {K : TA11} (h : aerr v = 0) (hl : K.length ≤ 64) (hk : K.any (kbad v) = false) {R C : Nat} (A : Arr v R C) :
    (∀ k ∈ K, 0 ≤ k.1 ∧ k.1 < C) ∧ ∃ Z, Srt (rlt v R C K) Z ∧ Z.Perm (upto R) ∧ arrange_Rows v K = some (Z, 0, ()) := by
  have hK : ∀ k ∈ K, 0 ≤ k.1 ∧ k.1 < C := by
    intro k hm
    have := List.any_eq_false.1 hk k hm
    unfold kbad at this
    have hc := A.cols
    simp only [Bool.or_eq_true, decide_eq_true_eq, not_or] at this
    omega
  have hR : R ≤ 60 := by
    have h1 := A.most
    have h2 : R * 1 ≤ R * C := Nat.mul_le_mul_left R A.c1
    omega
  refine ⟨hK, ?_⟩
  obtain ⟨Z, z1, z2, z3⟩ := stable_eq (K := K) (Q := qv v) (lt := rlt v R C K) (rlt_tr A hK) (rlt_ir A hK) (X := upto R) (by rw [upto_len]; exact hR) (upto_pw fun i j hi hj hij => rtell A hK hl hi hj hij)
  refine ⟨Z, z1, z2, ?_⟩
  have e : ¬ 64 < (K.length : Int) := by omega
  have hlp := (keys_halts (v := v) (K := K) (by omega) K.length 0 (by omega) (Nat.zero_le _)).loop (by omega)
  rw [List.drop_zero, if_neg (by rw [hk]; decide)] at hlp
  have hlp' : loop (arrange_Rows_l1 K) ((), (), 0, (v.data.1, (v.data.2.1.1, (v.data.2.1.2.1, (v.data.2.2.1, (v.data.2.2.2.1, (v.data.2.2.2.2.1, (v.data.2.2.2.2.2.1, (v.data.2.2.2.2.2.2.1, (v.kids, ()))))))))), (K, ()), ()) = some (.inl ((), (), qv v, (K, ()), ())) := hlp
  have hf := (fill_halts (R := R) (by omega) (qv v) (K, ()) (w := List.replicate R (0 : Int)) (List.length_replicate ..)).loop (by omega)
  rw [List.take_zero, List.nil_append, List.drop_zero] at hf
  have hmk : mk (R : Int) (R : Int) (0 : Int) = some (List.replicate R 0) := mk_nat (by omega)
  have hr : (qv v).2.2.2.2.2.2.1 = (R : Int) := A.rows
  unfold arrange_Rows
  simp only [tn_eq, array_prog hb, Option.bind_some, h, decide_true, Bool.not_true, cond_false, e, decide_false]
  rw [hlp']
  simp only [Option.bind_some, hr, hmk]
  have hf' : loop (arrange_Rows_l2 (List.replicate R (0 : Int))) ((), (), (), 0, qv v, (K, ()), List.replicate R (0 : Int), ()) = some ((), (), (), qv v, (K, ()), upto R, ()) := hf
  rw [hf']
  simp only [Option.bind_some]
  rw [z3]
  rfl
end Go.Proofs.YtmkpdineahbfkaaGreatDoor
