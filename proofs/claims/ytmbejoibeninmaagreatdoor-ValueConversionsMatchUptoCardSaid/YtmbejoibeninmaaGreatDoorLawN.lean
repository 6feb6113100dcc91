import Derived.Test.YtmbejoibeninmaaGreatDoorLawD
import Derived.Test.YtmbejoibeninmaaGreatDoorLawJ
import Derived.Test.YtmbejoibeninmaaGreatDoorRLawW
namespace Go.Proofs.YtmbejoibeninmaaGreatDoor
open Go Go.Fe
theorem digs_of_txt (n : Nat) : Digs (txt n) = true := by
 unfold Digs
 rw [txt_digits n, Bool.true_and, decide_eq_true_eq]
 refine ⟨txt_ne n, ?_⟩
 by_cases h0 : n = 0
 ·subst h0
  right
  exact decDigits_small (by omega)
 ·left
  intro h
  have hl := txt_len (n := n) (by omega)
  have hd := dec_txt n
  have ha := txt_digits n
  cases ht : txt n with
  | nil => exact txt_ne n ht
  | cons c r =>
   rw [ht] at h hl hd ha
   have hc : c = 48 := Option.some.inj h
   subst hc
   have e : dec (48 :: r) = dec r := by
    have := dec_append [48] r
    rw [show ([48] ++ r : Str) = 48 :: r from rfl, show dec [48] = 0 from rfl, Nat.zero_mul, Nat.zero_add] at this
    exact this
   have hr : r.all isDigit = true := by
    rw [List.all_cons, Bool.and_eq_true] at ha
    exact ha.2
   have := dec_lt _ r rfl hr
   have hk : dl n <= r.length := dl_le.2 (by omega)
   rw [List.length_cons] at hl
   omega
theorem frac_one : fracErr ([48], [49], ()) = 0 := by kernel_rfl
theorem cop_unique {a b u v : Nat} (h1 : a.gcd b = 1) (h2 : u.gcd v = 1) (h : a * v = u * b) : a = u /\ b = v := by
 have d1 : a ∣ u := (Nat.Coprime.dvd_of_dvd_mul_right (show Nat.Coprime a b from h1) ⟨v, h.symm⟩)
 have d2 : u ∣ a := (Nat.Coprime.dvd_of_dvd_mul_right (show Nat.Coprime u v from h2) ⟨b, h⟩)
 have e : a = u := Nat.dvd_antisymm d1 d2
 refine ⟨e, ?_⟩
 subst e
 by_cases ha : a = 0
 ·subst ha
  rw [Nat.gcd_zero_left] at h1 h2
  rw [h1, h2]
 ·exact (Nat.eq_of_mul_eq_mul_left (by omega) h).symm
theorem div_gcd_cop {n d : Nat} (hd : 0 < d) : (n / n.gcd d).gcd (d / n.gcd d) = 1 := Nat.gcd_div_gcd_div_gcd_of_pos_right hd
theorem fracOut_congr {m m' : Bool} {n d u v : Nat} (hd : 0 < d) (hv : 0 < v) (h : n * v = u * d) (hm : n ≠ 0 -> m = m') : fracOut m n d = fracOut m' u v := by
 have hg1 : 0 < n.gcd d := Nat.gcd_pos_of_pos_right _ hd
 have hg2 : 0 < u.gcd v := Nat.gcd_pos_of_pos_right _ hv
 have c1 := Nat.div_mul_cancel (Nat.gcd_dvd_left n d)
 have c2 := Nat.div_mul_cancel (Nat.gcd_dvd_right n d)
 have c3 := Nat.div_mul_cancel (Nat.gcd_dvd_left u v)
 have c4 := Nat.div_mul_cancel (Nat.gcd_dvd_right u v)
 have hx := cop_unique (div_gcd_cop (n := n) hd) (div_gcd_cop (n := u) hv) (by
  apply Nat.eq_of_mul_eq_mul_right (Nat.mul_pos hg1 hg2)
  have : n / n.gcd d * (v / u.gcd v) * (n.gcd d * u.gcd v) = (n / n.gcd d * n.gcd d) * (v / u.gcd v * u.gcd v) := by grind
  rw [this, c1, c4]
  have : u / u.gcd v * (d / n.gcd d) * (n.gcd d * u.gcd v) = (u / u.gcd v * u.gcd v) * (d / n.gcd d * n.gcd d) := by grind
  rw [this, c3, c2, h])
 unfold fracOut
 by_cases h0 : n = 0
 ·have hu : u = 0 := by
   subst h0
   rw [Nat.zero_mul] at h
   rcases Nat.mul_eq_zero.1 h.symm with e | e
   ·exact e
   ·omega
  rw [if_pos h0, if_pos hu]
 ·have hu : u ≠ 0 := fun e => by
   subst e
   rw [Nat.zero_mul] at h
   rcases Nat.mul_eq_zero.1 h with e | e <;> omega
  rw [if_neg h0, if_neg hu, hx.1, hx.2, hm h0]
theorem out_read {m : Bool} {n d : Nat} (hd : 0 < d) (h : (fracOut m n d).2.1 = 0) :
  fracErr (fracOut m n d).1 = 0 /\ (signOf (fracOut m n d).1.1 = (m && decide (n ≠ 0))) /\ dec (body (fracOut m n d).1.1) * d = n * dec (fracOut m n d).1.2.1 /\ 0 < dec (fracOut m n d).1.2.1 /\
   dl (dec (body (fracOut m n d).1.1)) <= 300 /\ dl (dec (fracOut m n d).1.2.1) <= 300 /\ (fracOut m n d).1.1.length <= 301 /\ (fracOut m n d).1.2.1.length <= 300 := by
 by_cases h0 : n = 0
 ·have e : fracOut m n d = (([48], [49], ()), 0, ()) := if_pos h0
  rw [e]
  refine ⟨frac_one, ?_, ?_, by decide, by decide, by decide, by decide, by decide⟩
  ·rw [decide_eq_false (fun x => x h0), Bool.and_false]; rfl
  ·rw [h0, Nat.zero_mul]
   show dec [48] * d = 0
   rw [show dec [48] = 0 from rfl, Nat.zero_mul]
 ·have hg1 : 0 < n.gcd d := Nat.gcd_pos_of_pos_right _ hd
  have c1 := Nat.div_mul_cancel (Nat.gcd_dvd_left n d)
  have c2 := Nat.div_mul_cancel (Nat.gcd_dvd_right n d)
  have cop := div_gcd_cop (n := n) hd
  have p1 := Nat.div_pos (Nat.gcd_le_left d (show 0 < n by omega)) hg1
  have p2 := Nat.div_pos (Nat.gcd_le_right n hd) hg1
  have hq : n / n.gcd d * d = n * (d / n.gcd d) := by
   have : n / n.gcd d * (d / n.gcd d * n.gcd d) = (n / n.gcd d * n.gcd d) * (d / n.gcd d) := by grind
   rw [c1, c2] at this
   exact this
  unfold fracOut at h ⊢
  rw [if_neg h0] at h ⊢
  by_cases hl : 300 < dl (n / n.gcd d) \/ 300 < dl (d / n.gcd d)
  ·rw [if_pos hl] at h
   exact absurd h (by decide)
  rw [if_neg hl]
  generalize n / n.gcd d = a at *
  generalize d / n.gcd d = b at *
  have s1 : signOf (bif m then 45 :: txt a else txt a) = m := by
   cases m
   ·exact sign_txt a
   ·rfl
  have b1 : body (bif m then 45 :: txt a else txt a) = txt a := by
   unfold body
   rw [s1]
   cases m <;> rfl
  have l1 := txt_len (n := a) p1
  have l2 := txt_len (n := b) p2
  refine ⟨?_, ?_, ?_, ?_, ?_, ?_, ?_, ?_⟩
  ·have hbad : badForm ((bif m then 45 :: txt a else txt a), txt b, ()) = false := by
    unfold badForm
    simp only
    rw [b1, s1, digs_of_txt a, digs_of_txt b, decide_eq_true (p := txt b ≠ [48]) (fun e => by have := (digs_zero (digs_of_txt b)).1 e; rw [dec_txt] at this; omega),
     decide_eq_false (p := txt a = [48]) (fun e => by have := (digs_zero (digs_of_txt a)).1 e; rw [dec_txt] at this; omega)]
    simp
   unfold fracErr
   rw [hbad, if_neg (by simp)]
   simp only
   rw [b1, dec_txt, dec_txt, if_neg (by omega), if_neg (fun e => e cop)]
  ·simp only
   rw [s1, decide_eq_true h0, Bool.and_true]
  ·simp only
   rw [b1, dec_txt, dec_txt, hq]
  ·simp only
   rw [dec_txt]; exact p2
  ·simp only
   rw [b1, dec_txt]; omega
  ·simp only
   rw [dec_txt]; omega
  ·cases m <;> simp only [cond_true, cond_false, List.length_cons] <;> omega
  ·simp only; omega
structure W (f : FracD) (m : Bool) (n d : Nat) : Prop where
 out : fracOut m n d = (f, 0, ())
 pos : 0 < d
theorem W.err {f : FracD} {m : Bool} {n d : Nat} (w : W f m n d) : fracErr f = 0 := by
 have h := (out_read (m := m) (n := n) w.pos (by rw [w.out])).1
 rwa [w.out] at h
theorem W.read {f : FracD} {m : Bool} {n d : Nat} (w : W f m n d) : signOf f.1 = (m && decide (n ≠ 0)) /\ dec (body f.1) * d = n * dec f.2.1 /\ 0 < dec f.2.1 /\ dl (dec (body f.1)) <= 300 /\ dl (dec f.2.1) <= 300 /\ f.1.length <= 301 /\ f.2.1.length <= 300 := by
 have h := (out_read (m := m) (n := n) w.pos (by rw [w.out])).2
 rwa [w.out] at h
theorem W.len {f : FracD} {m : Bool} {n d : Nat} (w : W f m n d) : f.1.length < 100000000 /\ f.2.1.length < 100000000 := by
 obtain ⟨_, _, _, _, _, h1, h2⟩ := w.read
 omega
theorem W.both {f g : FracD} {m m' : Bool} {n d n' d' : Nat} (a : W f m n d) (b : W g m' n' d') : exact_both f g = some (num9 f, num9 g, 0, ()) := both_good a.len.1 a.len.2 b.len.1 b.len.2 a.err b.err
theorem W.add {f g : FracD} {n d n' d' : Nat} (a : W f false n d) (b : W g false n' d') : exact_Add f g = some (fracOut false (n * d' + n' * d) (d * d')) := by
 obtain ⟨s1, e1, p1, l1, k1, _⟩ := a.read
 obtain ⟨s2, e2, p2, l2, k2, _⟩ := b.read
 have h := Add_good (a.both b) p1 p2 l1 k1 l2 k2
 rw [h, s1, s2]
 have hs : ∀ x y : Bool, x = false -> y = false -> sumM x (dec (body f.1)) (dec f.2.1) y (dec (body g.1)) (dec g.2.1) = false /\ sumN x (dec (body f.1)) (dec f.2.1) y (dec (body g.1)) (dec g.2.1) = dec (body f.1) * dec g.2.1 + dec (body g.1) * dec f.2.1 := by
  rintro x y rfl rfl
  exact ⟨rfl, rfl⟩
 obtain ⟨q1, q2⟩ := hs (false && decide (n ≠ 0)) (false && decide (n' ≠ 0)) rfl rfl
 rw [q1, q2]
 refine congrArg some (fracOut_congr (Nat.mul_pos p1 p2) (Nat.mul_pos a.pos b.pos) ?_ (fun _ => rfl))
 generalize dec (body f.1) = u1 at *
 generalize dec (body g.1) = u2 at *
 generalize dec f.2.1 = v1 at *
 generalize dec g.2.1 = v2 at *
 have e3 : (u1 * v2 + u2 * v1) * (d * d') = (u1 * d) * (v2 * d') + (u2 * d') * (v1 * d) := by grind
 rw [e3, e1, e2]
 grind
theorem W.div {f g : FracD} {m : Bool} {n d n' d' : Nat} (a : W f m n d) (b : W g false n' d') (h0 : 0 < n') : exact_Div f g = some (fracOut m (n * d') (d * n')) := by
 obtain ⟨s1, e1, p1, l1, k1, _⟩ := a.read
 obtain ⟨s2, e2, p2, l2, k2, _⟩ := b.read
 have h := Div_good (a.both b) p1 l1 k1 l2 k2
 have hn : 0 < dec (body g.1) := by
  rcases Nat.eq_zero_or_pos (dec (body g.1)) with e | e
  ·rw [e, Nat.zero_mul] at e2
   exact absurd e2.symm (Nat.ne_of_gt (Nat.mul_pos h0 p2))
  ·exact e
 rw [h, if_neg (by omega), s1, s2]
 refine congrArg some (fracOut_congr (Nat.mul_pos p1 hn) (Nat.mul_pos a.pos h0) ?_ ?_)
 ·generalize dec (body f.1) = u1 at *
  generalize dec (body g.1) = u2 at *
  generalize dec f.2.1 = v1 at *
  generalize dec g.2.1 = v2 at *
  have e3 : u1 * v2 * (d * n') = (u1 * d) * (n' * v2) := by grind
  have e4 : n * d' * (v1 * u2) = (n * v1) * (u2 * d') := by grind
  rw [e3, e4, e1, e2]
 ·intro hx
  have hn0 : n ≠ 0 := by
   intro e
   rw [e, Nat.zero_mul] at e1
   rcases Nat.mul_eq_zero.1 e1 with z | z
   ·exact hx (by rw [z, Nat.zero_mul])
   ·have := a.pos; omega
  rw [decide_eq_true hn0, Bool.and_true, Bool.false_and]
  cases m <;> rfl
theorem W.div0 {f g : FracD} {m m' : Bool} {n d d' : Nat} (a : W f m n d) (b : W g m' 0 d') : exact_Div f g = some (([], [], ()), 1, ()) := by
 obtain ⟨s1, e1, p1, l1, k1, _⟩ := a.read
 obtain ⟨s2, e2, p2, l2, k2, _⟩ := b.read
 have h := Div_good (a.both b) p1 l1 k1 l2 k2
 have hn : dec (body g.1) = 0 := by
  rw [Nat.zero_mul] at e2
  rcases Nat.mul_eq_zero.1 e2 with z | z
  ·exact z
  ·have := b.pos; omega
 rw [h, if_pos hn]
theorem W.neg {f : FracD} {m : Bool} {n d : Nat} (a : W f m n d) : exact_Neg f = some (fracOut (!m) n d) := by
 obtain ⟨s1, e1, p1, l1, k1, _⟩ := a.read
 rw [Neg_good a.len.1 a.len.2 a.err, s1]
 refine congrArg some (fracOut_congr p1 a.pos e1 ?_)
 intro hx
 have hn0 : n ≠ 0 := by
  intro e
  rw [e, Nat.zero_mul] at e1
  rcases Nat.mul_eq_zero.1 e1 with z | z
  ·exact hx z
  ·have := a.pos; omega
 rw [decide_eq_true hn0, Bool.and_true]
theorem W.of {k : Nat} (h : (k : Int) <= 9223372036854775807) : ∃ f, exact_Of (k : Int) = some (f, ()) /\ W f false k 1 := by
 obtain ⟨h1, h2⟩ := Of_eq (p := (k : Int)) (by omega) h
 have e : decide ((k : Int) < 0) = false := decide_eq_false (by omega)
 rw [e, show (k : Int).natAbs = k from rfl] at h1 h2
 exact ⟨_, h1, ⟨Prod.ext rfl (Prod.ext h2 rfl), by omega⟩⟩
theorem Whole_nat {k : Nat} (h : (k : Int) <= 9223372036854775807) : chanceryref2_Whole (k : Int) = some (N10 false k 1, ()) := by
 have := Whole_eq (p := (k : Int)) (by omega) h
 rwa [decide_eq_false (show ¬ (k : Int) < 0 by omega)] at this
theorem out_cases (m : Bool) (n d : Nat) : (fracOut m n d).2.1 = 0 \/ (fracOut m n d).2.1 = 19 := by
 unfold fracOut
 split
 ·exact Or.inl rfl
 split
 ·exact Or.inr rfl
 ·exact Or.inl rfl
theorem W.of_out {m : Bool} {n d : Nat} (hd : 0 < d) (h : (fracOut m n d).2.1 = 0) : W (fracOut m n d).1 m n d := ⟨Prod.ext rfl (Prod.ext h rfl), hd⟩
theorem W.num {f : FracD} {m : Bool} {n d : Nat} (w : W f m n d) : value_Number f = some (vNum f, ()) := by
 have hs : SmallV (vNum f) := small_flat w.len
 rw [Number_eq hs]
 have e : verr (vNum f) = 0 := by
  rw [verr_flat (v := vNum f) (show (1 : Int) ≠ 5 by decide)]
  have hb : formBad (vNum f) = false := rfl
  exact (if_neg (show ¬ ((1 : Int) < 0 \/ (5 : Int) < 1) by decide)).trans ((if_neg (by rw [hb]; exact Bool.false_ne_true)).trans ((if_pos rfl).trans w.err))
 unfold soundV
 rw [if_pos e]
theorem W.rnum {f : FracD} {m : Bool} {n d : Nat} (w : W f m n d) (h1 : dl n < 100000) (h2 : dl d < 100000) : chanceryref2_Number (N10 m n d) = some (vNum f, ()) := by
 unfold chanceryref2_Number
 have hf : chanceryref2_Rat__Frac (N10 m n d) = _ := frac_eq (m := m) w.pos h1 h2
 simp only [tn_eq]
 rw [hf, w.out]
 rfl
def Agree (p : Option (FracD × (Bool × Unit))) (q : Option (NumD × (Bool × Unit))) : Prop :=
 (∃ f r, p = some (f, false, ()) /\ q = some (r, false, ())) \/ ∃ f m n d, p = some (f, true, ()) /\ q = some (N10 m n d, true, ()) /\ W f m n d /\ dl n < 100000 /\ dl d < 100000
def cutB (c : UInt8) : Str -> Str × Str × Bool
 | [] => ([], [], false)
 | x :: r => if x = c then ([], r, true) else (x :: (cutB c r).1, (cutB c r).2.1, (cutB c r).2.2)
theorem cutB_none {c : UInt8} : ∀ {s : Str}, (∀ i : Nat, s[i]? ≠ some c) -> cutB c s = (s, [], false)
 | [], _ => rfl
 | x :: r, h => by
  have h0 : x ≠ c := by simpa using h 0
  have ih := cutB_none (c := c) (s := r) (fun i => by simpa using h (i + 1))
  simp [cutB, h0, ih]
theorem cutB_some {c : UInt8} : ∀ {s : Str} {i : Nat}, s[i]? = some c -> (∀ k : Nat, k < i -> s[k]? ≠ some c) -> cutB c s = (s.take i, s.drop (i + 1), true)
 | [], i, h, _ => by simp at h
 | x :: r, 0, h, _ => by
  have : x = c := by simpa using h
  simp [cutB, this]
 | x :: r, i + 1, h, hk => by
  have h0 : x ≠ c := by simpa using hk 0 (by omega)
  have ih := cutB_some (c := c) (s := r) (i := i) (by simpa using h) (fun k hk' => by simpa using hk (k + 1) (by omega))
  simp [cutB, h0, ih]
theorem cutB_len (c : UInt8) : ∀ s : Str, (cutB c s).1.length <= s.length /\ (cutB c s).2.1.length <= s.length
 | [] => by simp [cutB]
 | x :: r => by
  have := cutB_len c r
  simp only [cutB]
  split <;> simp <;> omega
theorem strings_Cut_eq {s : Str} {c : UInt8} (h : s.length < 1099511627776) : strings_Cut s [c] = some ((cutB c s).1, (cutB c s).2.1, (cutB c s).2.2, ()) := by
 have hs : sIndex (s, [c], ()) = some (Lib.indexByte s c, ()) := rfl
 simp only [strings_Cut, stringslite_Cut, hs, Option.bind_some]
 by_cases hi : Lib.indexByte s c = -1
 ·have hn := Lib.indexByte_none hi
  have hneg : ¬ (0 : Int) <= Lib.indexByte s c := by omega
  simp [hneg, cutB_none hn]
 ·have hge := Lib.indexByte_ge s c
  obtain ⟨i, hi'⟩ : ∃ i : Nat, Lib.indexByte s c = i := ⟨(Lib.indexByte s c).toNat, by omega⟩
  obtain ⟨h1, h2⟩ := Lib.indexByte_some hi'
  have hil : i < s.length := by
   rcases Nat.lt_or_ge i s.length with h | h
   ·exact h
   ·rw [List.getElem?_eq_none h] at h1; cases h1
  have w : IntKind.i64.wrap ((i : Int) + (([c] : Str).length : Int)) = ((i + 1 : Nat) : Int) := wsuc (by omega)
  have c1 : cut s 0 (i : Int) = some (s.take i) := by
   have := cut_nat (xs := s) (a := 0) (b := i) (by omega) (by omega)
   simpa using this
  have c2 : cut s ((i + 1 : Nat) : Int) (s.length : Int) = some (s.drop (i + 1)) := by
   rw [cut_nat (by omega) (by omega), List.take_length]
  have hp : (0 : Int) <= (i : Int) := by omega
  simp only [hi', hp, decide_true, cond_true, w, c1, c2, Option.bind_some, cutB_some h1 h2]
theorem cutB_eq (c : UInt8) : ∀ s : Str, s = (cutB c s).1 ++ (bif (cutB c s).2.2 then c :: (cutB c s).2.1 else [])
 | [] => rfl
 | x :: r => by
  have ih := cutB_eq c r
  simp only [cutB]
  by_cases h : x = c
  ·rw [if_pos h, h]; rfl
  ·rw [if_neg h]
   simp only [List.cons_append]
   rw [<- ih]
def spl (c : UInt8) : Str -> List Str
 | [] => [[]]
 | x :: r => if x = c then [] :: spl c r else (x :: (spl c r).headD []) :: (spl c r).tail
theorem spl_ne (c : UInt8) (s : Str) : spl c s ≠ [] := by
 cases s with
 | nil => simp [spl]
 | cons x r => simp only [spl]; split <;> simp
theorem spl_cons (c : UInt8) (s : Str) : (spl c s).headD [] :: (spl c s).tail = spl c s := by
 cases h : spl c s with
 | nil => exact absurd h (spl_ne c s)
 | cons x r => rfl
theorem spl_cut (c : UInt8) : ∀ s : Str, spl c s = (cutB c s).1 :: (bif (cutB c s).2.2 then spl c (cutB c s).2.1 else [])
 | [] => rfl
 | x :: r => by
  have ih := spl_cut c r
  simp only [spl, cutB]
  by_cases h : x = c
  ·rw [if_pos h, if_pos h]; rfl
  ·rw [if_neg h, if_neg h, ih]; rfl
theorem spl_count (c : UInt8) : ∀ s : Str, (spl c s).length = Lib.countByte s c + 1
 | [] => rfl
 | x :: r => by
  have ih := spl_count c r
  unfold Lib.countByte at *
  simp only [spl]
  by_cases h : x = c
  ·rw [if_pos h, List.length_cons, ih, h, List.count_cons_self]
  ·rw [if_neg h, List.length_cons, List.count_cons_of_ne h, <- ih, List.length_tail]
   have := List.length_pos_iff.2 (spl_ne c r)
   omega
theorem spl_len (c : UInt8) (s : Str) : (spl c s).length <= s.length + 1 := by
 rw [spl_count]
 unfold Lib.countByte
 have := List.count_le_length (a := c) (l := s)
 omega
theorem spl_part (c : UInt8) : ∀ (s : Str) (p : Str), p ∈ spl c s -> p.length <= s.length
 | [], p, h => by simp [spl] at h; rw [h]; exact Nat.zero_le _
 | x :: r, p, h => by
  have ih := spl_part c r
  simp only [spl] at h
  by_cases e : x = c
  ·rw [if_pos e] at h
   rcases List.mem_cons.1 h with h | h
   ·rw [h]; exact Nat.zero_le _
   ·have := ih p h; simp only [List.length_cons]; omega
  ·rw [if_neg e] at h
   rcases List.mem_cons.1 h with h | h
   ·have := ih ((spl c r).headD []) (by rw [<- spl_cons c r]; exact List.mem_cons_self ..)
    rw [h]; simp only [List.length_cons]; omega
   ·have := ih p (List.mem_of_mem_tail h); simp only [List.length_cons]; omega
theorem rsplit_halts {s : Str} {c : UInt8} (hl : s.length < 1000000000) : ∀ (k i f : Nat) (out : List Str), i + k = s.length -> f <= i -> out.length <= i -> (∀ j, f <= j -> j < i -> s[j]? ≠ some c) ->
  ∃ (f' : Nat) (out' : List Str), Halts (chanceryref2_Split_l1 s (ofByte c)) (k + 1) ((), (f : Int), (i : Int), out, ()) ((), (f' : Int), out', ()) /\ f' <= s.length /\ out' ++ [s.drop f'] = out ++ spl c (s.drop f) /\ out'.length <= s.length
 | 0, i, f, out, hk, hf, ho, hn => by
  have hi : i = s.length := by omega
  subst hi
  refine ⟨f, out, Halts.done ?_, hf, ?_, ho⟩
  ·unfold chanceryref2_Split_l1
   rw [decide_eq_false (show ¬ ((s.length : Int) < (s.length : Int)) by omega), cond_false]
  ·have hcut : cutB c (s.drop f) = (s.drop f, [], false) := cutB_none (fun j => by
    rw [List.getElem?_drop]
    rcases Nat.lt_or_ge (f + j) s.length with h | h
    ·exact hn _ (by omega) h
    ·rw [List.getElem?_eq_none h]; simp)
   rw [spl_cut, hcut]; rfl
 | k + 1, i, f, out, hk, hf, ho, hn => by
  have hi : i < s.length := by omega
  have hx := byte_lt s[i]
  by_cases h : s[i] = c
  ·have hc1 : cut s (f : Int) (i : Int) = some ((s.take i).drop f) := cut_nat hf (by omega)
   have hs : chanceryref2_Split_l1 s (ofByte c) ((), (f : Int), (i : Int), out, ()) = some (.inl ((), ((i + 1 : Nat) : Int), ((i + 1 : Nat) : Int), out ++ [(s.take i).drop f], ())) := by
    unfold chanceryref2_Split_l1
    simp only []
    rw [decide_eq_true (by omega), cond_true, idx_lt hi, Option.bind_some, decide_eq_true (by rw [h]), cond_true, hc1, Option.bind_some, cat_ok (by simp; omega), Option.bind_some, wsuc (by omega), Option.bind_some]
   obtain ⟨f', out', h1, h2, h3, h4⟩ := rsplit_halts hl k (i + 1) (i + 1) (out ++ [(s.take i).drop f]) (by omega) (by omega) (by simp; omega) (fun j a b => absurd a (by omega))
   refine ⟨f', out', Halts.step hs h1, h2, ?_, h4⟩
   rw [h3]
   have hcut : cutB c (s.drop f) = ((s.drop f).take (i - f), (s.drop f).drop (i - f + 1), true) := cutB_some (by
    rw [List.getElem?_drop, show f + (i - f) = i by omega, List.getElem?_eq_getElem hi, h]) (fun j hj => by
    rw [List.getElem?_drop]
    exact hn _ (by omega) (by omega))
   rw [spl_cut c (s.drop f), hcut]
   simp only [cond_true, List.drop_drop]
   rw [show f + (i - f + 1) = i + 1 by omega, List.append_assoc, List.drop_take]
   rfl
  ·have hs : chanceryref2_Split_l1 s (ofByte c) ((), (f : Int), (i : Int), out, ()) = some (.inl ((), (f : Int), ((i + 1 : Nat) : Int), out, ())) := by
    unfold chanceryref2_Split_l1
    simp only []
    have hne : ¬ ofByte s[i] = ofByte c := fun e => h (by
     rw [ofByte_eq, ofByte_eq] at e
     exact UInt8.toNat_inj.1 (by omega))
    rw [decide_eq_true (by omega), cond_true, idx_lt hi, Option.bind_some, decide_eq_false hne, cond_false, Option.bind_some, wsuc (by omega)]
   obtain ⟨f', out', h1, h2, h3, h4⟩ := rsplit_halts hl k (i + 1) f out (by omega) (by omega) (by omega) (fun j a b => by
    rcases Nat.lt_or_ge j i with g | g
    ·exact hn j a g
    ·have : j = i := by omega
     subst this
     rw [List.getElem?_eq_getElem hi]
     exact fun e => h (Option.some.inj e))
   exact ⟨f', out', Halts.step hs h1, h2, h3, h4⟩
theorem rSplit_eq {s : Str} (c : UInt8) (hl : s.length < 1000000000) : chanceryref2_Split s (ofByte c) = some (spl c s, ()) := by
 obtain ⟨f, out, h1, h2, h3, h4⟩ := rsplit_halts (s := s) (c := c) hl s.length 0 0 [] (by omega) (by omega) (by simp) (fun j _ h => absurd h (by omega))
 unfold chanceryref2_Split
 have := h1.loop (by omega)
 rw [show ((() : Unit), (0 : Int), (0 : Int), ([] : List Str), ()) = ((), ((0 : Nat) : Int), ((0 : Nat) : Int), [], ()) from rfl, this, Option.bind_some]
 have hc : cut s (f : Int) (s.length : Int) = some (s.drop f) := by rw [cut_nat h2 (Nat.le_refl _), List.take_length]
 simp only [hc, Option.bind_some]
 rw [cat_ok (by simp; omega), Option.bind_some, h3]
 rfl
theorem spl_one {c : UInt8} {s : Str} (h : (spl c s).length = 1) : spl c s = [s] := by
 have hc := spl_cut c s
 have he := cutB_eq c s
 cases hb : (cutB c s).2.2 with
 | false =>
  rw [hb, cond_false] at hc he
  rw [List.append_nil] at he
  rw [hc, <- he]
 | true =>
  rw [hb, cond_true] at hc
  rw [hc, List.length_cons] at h
  have := List.length_pos_iff.2 (spl_ne c (cutB c s).2.1)
  omega
theorem psplit_halts {c : UInt8} {S : List Str} (hS : S.length < 2000000000) : ∀ (k i : Nat) (s : Str) (arr : List Str), i + k + 1 = S.length -> s.length < 1000000000 -> arr.length = S.length -> arr.take i ++ spl c s = S ->
  ∃ (s' : Str) (i' : Nat) (arr' : List Str), Halts (strings_genSplit_l1 ((S.length - 1 : Nat) : Int) [c] 0) (k + 1) (s, (), (i : Int), arr, ()) (s', (), (i' : Int), arr', ()) /\ i' < arr'.length /\ arr'.length = S.length /\ arr'.take i' ++ [s'] = S
 | 0, i, s, arr, hk, hs, ha, he => by
  have h1 : (spl c s).length = 1 := by
   have := congrArg List.length he
   rw [List.length_append, List.length_take] at this
   omega
  refine ⟨s, i, arr, Halts.done ?_, by omega, ha, by rw [<- spl_one h1]; exact he⟩
  unfold strings_genSplit_l1
  rw [decide_eq_false (show ¬ ((i : Int) < ((S.length - 1 : Nat) : Int)) by omega), cond_false]
 | k + 1, i, s, arr, hk, hs, ha, he => by
  have hx : sIndex (s, [c], ()) = some (Lib.indexByte s c, ()) := rfl
  have h2 : (spl c s).length = k + 2 := by
   have := congrArg List.length he
   rw [List.length_append, List.length_take] at this
   omega
  have hne : Lib.indexByte s c ≠ -1 := fun e => by
   rw [spl_cut, cutB_none (Lib.indexByte_none e)] at h2
   simp at h2
  have hge := Lib.indexByte_ge s c
  obtain ⟨m, hm⟩ : ∃ m : Nat, Lib.indexByte s c = m := ⟨(Lib.indexByte s c).toNat, by omega⟩
  obtain ⟨g1, g2⟩ := Lib.indexByte_some hm
  have hml : m < s.length := by
   rcases Nat.lt_or_ge m s.length with h | h
   ·exact h
   ·rw [List.getElem?_eq_none h] at g1; cases g1
  have hcut := cutB_some g1 g2
  have c1 : cut s 0 (m : Int) = some (s.take m) := by
   have := cut_nat (xs := s) (a := 0) (b := m) (by omega) (by omega)
   simpa using this
  have c2 : cut s ((m + 1 : Nat) : Int) (s.length : Int) = some (s.drop (m + 1)) := by
   rw [cut_nat (by omega) (by omega), List.take_length]
  have ci : chk (inb (i : Int) arr.length) = some () := by rw [inb_nat (by omega)]; rfl
  have st : strings_genSplit_l1 ((S.length - 1 : Nat) : Int) [c] 0 (s, (), (i : Int), arr, ()) = some (.inl (s.drop (m + 1), (), ((i + 1 : Nat) : Int), arr.set i (s.take m), ())) := by
   unfold strings_genSplit_l1 strings_Index
   simp only []
   rw [decide_eq_true (show ((i : Int) < ((S.length - 1 : Nat) : Int)) by omega), cond_true, hx, Option.bind_some, Option.bind_some]
   simp only [hm]
   rw [decide_eq_false (by omega), cond_false, Int.add_zero, wrap_i64 (by omega) (by omega), c1, Option.bind_some, ci, Option.bind_some]
   rw [show IntKind.i64.wrap ((m : Int) + (([c] : Str).length : Int)) = ((m + 1 : Nat) : Int) from wsuc (by omega), c2, Option.bind_some, wsuc (by omega)]
   rfl
  have he' : (arr.set i (s.take m)).take (i + 1) ++ spl c (s.drop (m + 1)) = S := by
   rw [spl_cut, hcut] at he
   have e : (arr.set i (s.take m)).take (i + 1) = arr.take i ++ [s.take m] := by
    rw [List.take_succ_eq_append_getElem (by rw [List.length_set]; omega), List.getElem_set_self, List.take_set_of_le (Nat.le_refl i)]
   rw [e, List.append_assoc]
   exact he
  obtain ⟨s', i', arr', h3, h4, h5, h6⟩ := psplit_halts hS k (i + 1) (s.drop (m + 1)) (arr.set i (s.take m)) (by omega) (by rw [List.length_drop]; omega) (by rw [List.length_set]; exact ha) he'
  exact ⟨s', i', arr', Halts.step st h3, h4, h5, h6⟩
theorem Split_eq {s : Str} (c : UInt8) (hl : s.length < 1000000000) : strings_Split s [c] = some (spl c s, ()) := by
 have hlen := spl_len c s
 have hcnt := spl_count c s
 have hx : sCount (s, [c], ()) = some (((Lib.countByte s c : Nat) : Int), ()) := rfl
 obtain ⟨s', i', arr', h3, h4, h5, h6⟩ := psplit_halts (c := c) (S := spl c s) (by omega) (Lib.countByte s c) 0 s (List.replicate (spl c s).length []) (by omega) hl (by rw [List.length_replicate]) (by simp)
 have hlp := h3.loop (by omega)
 unfold strings_Split strings_genSplit
 rw [decide_eq_false (by decide : ¬ (-1 : Int) = 0), cond_false, decide_eq_false (by simp : ¬ ([c] : Str) = []), cond_false, decide_eq_true (by decide : (-1 : Int) < 0), cond_true, hx, Option.bind_some, Option.bind_some]
 simp only []
 have w1 : IntKind.i64.wrap (((Lib.countByte s c : Nat) : Int) + 1) = ((spl c s).length : Int) := by rw [wsuc (by omega), hcnt]
 have w2 : IntKind.i64.wrap ((s.length : Int) + 1) = ((s.length + 1 : Nat) : Int) := wsuc (by omega)
 have w3 : mn ((spl c s).length : Int) ((s.length + 1 : Nat) : Int) = ((spl c s).length : Int) := by unfold mn; split <;> omega
 have w4 : IntKind.i64.wrap (((spl c s).length : Int) - 1) = (((spl c s).length - 1 : Nat) : Int) := by rw [wrap_i64 (by omega) (by omega)]; omega
 have hmk : mk ((spl c s).length : Int) ((spl c s).length : Int) ([] : Str) = some (List.replicate (spl c s).length []) := mk_nat (by omega)
 have hlp' : loop (strings_genSplit_l1 (((spl c s).length - 1 : Nat) : Int) [c] 0) (s, (), 0, List.replicate (spl c s).length [], ()) = _ := hlp
 have ci : chk (inb (i' : Int) arr'.length) = some () := by rw [inb_nat h4]; rfl
 have hc : cut (arr'.set i' s') 0 ((i' + 1 : Nat) : Int) = some (spl c s) := by
  have := cut_nat (xs := arr'.set i' s') (a := 0) (b := i' + 1) (by omega) (by rw [List.length_set]; omega)
  rw [List.drop_zero, List.take_succ_eq_append_getElem (by rw [List.length_set]; omega), List.getElem_set_self, List.take_set_of_le (Nat.le_refl i'), h6] at this
  exact this
 rw [w1, w2, w3, hmk, Option.bind_some, w4, hlp', Option.bind_some]
 simp only [ci, Option.bind_some]
 rw [wsuc (by omega)]
 have : (arr'.set (i' : Int).toNat s') = arr'.set i' s' := rfl
 rw [this, hc]
 rfl
theorem add_total {a b : FracD} (h1 : a.1.length < 100000000) (h2 : a.2.1.length < 100000000) (h3 : b.1.length < 100000000) (h4 : b.2.1.length < 100000000) : ∃ f e, exact_Add a b = some (f, e, ()) /\ (fracErr a = 0 -> fracErr b ≠ 0 -> e = fracErr b) := by
 by_cases h : errOf a b = 0
 ·have ha : fracErr a = 0 := by
   unfold errOf at h
   by_cases x : fracErr a = 0
   ·exact x
   ·rw [if_neg x] at h; exact h
  have hb : fracErr b = 0 := by rw [errOf_right ha] at h; exact h
  have ga := good_of ha
  have gb := good_of hb
  have := Add_good (both_good h1 h2 h3 h4 ha hb) ga.pos gb.pos ga.dln ga.dld gb.dln gb.dld
  exact ⟨_, _, this, fun _ x => absurd hb x⟩
 ·obtain ⟨x, y, hb⟩ := both_bad h1 h2 h3 h4 h
  refine ⟨([], [], ()), errOf a b, ?_, fun x _ => errOf_right x⟩
  simp only [exact_Add, exact_two_Add_1, hb, Option.bind_some, h, decide_false, Bool.not_false, cond_true]
theorem out_ok {m : Bool} {n d : Nat} (h1 : dl n <= 300) (h2 : dl d <= 300) : (fracOut m n d).2.1 = 0 := by
 have l1 := dl_mono (Nat.div_le_self n (n.gcd d))
 have l2 := dl_mono (Nat.div_le_self d (n.gcd d))
 unfold fracOut
 split
 ·rfl
 rw [if_neg (by omega)]
theorem vdigits_eq {s : Str} (h : s.length < 1000000000) : value_digits s = some (s.takeWhile isDigit, s.dropWhile isDigit, ()) := by
 have hl := tw_len s
 have w : IntKind.i64.wrap ((s.length : Int) - ((s.dropWhile isDigit).length : Int)) = ((s.takeWhile isDigit).length : Int) := by rw [wrap_i64 (by omega) (by omega)]; omega
 have hc : cut s 0 ((s.takeWhile isDigit).length : Int) = some (s.takeWhile isDigit) := by
  have := cut_nat (xs := s) (a := 0) (b := (s.takeWhile isDigit).length) (by omega) (by omega)
  rw [List.drop_zero] at this
  have e : s.take (s.takeWhile isDigit).length = s.takeWhile isDigit := by
   conv => lhs; rw [<- tw_dw s]
   rw [tw_dw s]
   have := List.take_left (l₁ := s.takeWhile isDigit) (l₂ := s.dropWhile isDigit)
   rwa [tw_dw] at this
  rw [e] at this
  exact this
 unfold value_digits
 rw [trimLeft_eq h, Option.bind_some]
 dsimp only
 rw [w, hc, Option.bind_some]
def okD (s : Str) : Bool := decide (s ≠ []) && s.all isDigit
theorem okD_iff (s : Str) : okD s = true ↔ s ≠ [] /\ s.all isDigit = true := by
 unfold okD
 rw [Bool.and_eq_true, decide_eq_true_eq]
theorem okD_tw (s : Str) : okD s = (!decide (s.takeWhile isDigit = []) && decide (s.dropWhile isDigit = [])) := by
 have e := tw_dw s
 cases h : s.all isDigit with
 | true =>
  unfold okD
  rw [h, tw_of_all h, decide_eq_true (all_dw.2 h)]
  by_cases h0 : s = []
  ·subst h0; rfl
  ·rw [decide_eq_true h0, decide_eq_false h0]; rfl
 | false =>
  have : ¬ s.dropWhile isDigit = [] := fun x => by rw [all_dw.1 x] at h; cases h
  unfold okD
  rw [h, decide_eq_false this]
  simp
theorem signOf_digit {s : Str} (h : s.all isDigit = true) : signOf s = false := by
 refine decide_eq_false fun e => ?_
 cases s with
 | nil => cases e
 | cons c r =>
  have hc : c = 45 := Option.some.inj e
  subst hc
  rw [List.all_cons, Bool.and_eq_true] at h
  exact absurd h.1 (by decide)
theorem decOf_digits {s : Str} (h0 : s ≠ []) (h : s.all isDigit = true) : decOf s = some (false, dec s, 0) := by
 have hb : body s = s := by unfold body; rw [signOf_digit h]; rfl
 unfold decOf
 simp only [hb, tw_of_all h, all_dw.2 h]
 rw [if_neg (by simp)]
 unfold decFin expo
 simp only []
 rw [if_neg h0, signOf_digit h, List.append_nil]
 rfl
theorem whole_eq {s : Str} (hs : s.length < 1000000) : ∃ f, value_whole s = some (f, okD s && decide (s.length <= 100), ()) /\ ((okD s && decide (s.length <= 100)) = true -> W f false (dec s) 1) /\ f.1.length < 100000000 /\ f.2.1.length < 100000000 := by
 unfold value_whole
 rw [vdigits_eq (by omega), Option.bind_some]
 simp only [cond_some', cond_pair, Bool.cond_self, Option.bind_some]
 rw [okD_tw]
 by_cases h1 : s.takeWhile isDigit = []
 ·rw [decide_eq_true h1]
  exact ⟨_, rfl, fun h => by simp at h, by decide, by decide⟩
 by_cases h2 : s.dropWhile isDigit = []
 ·have hall := all_dw.1 h2
  have ht := tw_of_all hall
  have h0 : s ≠ [] := fun e => h1 (by rw [e]; rfl)
  rw [decide_eq_false h1, decide_eq_true h2, ht]
  by_cases h3 : s.length <= 100
  ·have hp := Parse_eq (s := s) (by omega)
   rw [decOf_digits h0 hall] at hp
   have hdl := all_dl hall
   have e0 : finN (dec s) 0 = dec s := by
    unfold finN
    rw [if_neg (by omega)]
    simp
   have e1 : finD 0 = 1 := rfl
   simp only [e0, e1] at hp
   have ho : (fracOut false (dec s) 1).2.1 = 0 := out_ok (by omega) (by rw [show dl 1 = 1 from dl_ten 0]; omega)
   have hw : W (fracOut false (dec s) 1).1 false (dec s) 1 := W.of_out (by omega) ho
   refine ⟨(fracOut false (dec s) 1).1, ?_, fun _ => hw, hw.len.1, hw.len.2⟩
   rw [decide_eq_false (by omega : ¬ (100 : Int) < (s.length : Int)), decide_eq_true h3]
   simp only [cond_false, Bool.not_true, Bool.not_false, Bool.true_and]
   rw [hp, Option.bind_some, ho]
   rfl
  ·rw [decide_eq_true (by omega : (100 : Int) < (s.length : Int)), decide_eq_false h3]
   exact ⟨_, rfl, fun h => by simp at h, by decide, by decide⟩
 ·rw [decide_eq_false h1, decide_eq_false h2]
  exact ⟨_, rfl, fun h => by simp at h, by decide, by decide⟩
end Go.Proofs.YtmbejoibeninmaaGreatDoor
