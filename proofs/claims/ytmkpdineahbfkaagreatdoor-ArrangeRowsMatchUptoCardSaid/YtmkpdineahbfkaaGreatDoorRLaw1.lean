import Derived.Test.YtmkpdineahbfkaaGreatDoorFun
import Derived.Test.YtmkpdineahbfkaaGreatDoorFeRun
namespace Go.Proofs.YtmkpdineahbfkaaGreatDoor
open Go Go.Fe

/-! ### Numbers as lists of digits, the lowest first -/
def val (B : Nat) : List Int → Nat
  | [] => 0
  | x :: r => x.toNat + B * val B r
def InB (B : Nat) (xs : List Int) : Prop := ∀ x ∈ xs, 0 ≤ x ∧ x < B
def trimL (xs : List Int) : List Int := (xs.reverse.dropWhile fun x => decide (x = 0)).reverse
theorem trimL_snoc (xs : List Int) (x : Int) : trimL (xs ++ [x]) = if x = 0 then trimL xs else xs ++ [x] := by
  unfold trimL
  rw [List.reverse_append]
  by_cases h : x = 0
  · simp [h]
  · simp [h]
theorem val_append (B : Nat) (xs ys : List Int) : val B (xs ++ ys) = val B xs + B ^ xs.length * val B ys := by
  induction xs with
  | nil => simp [val]
  | cons x r ih =>
    simp only [List.cons_append, val, ih, List.length_cons, Nat.pow_succ]
    rw [Nat.mul_add, Nat.mul_comm (B ^ r.length) B, Nat.mul_assoc, Nat.add_assoc]
theorem val_trim (B : Nat) (xs : List Int) : val B (trimL xs) = val B xs := by
  generalize hn : xs.length = n
  induction n generalizing xs with
  | zero =>
    have : xs = [] := List.length_eq_zero_iff.1 hn
    subst this
    rfl
  | succ n ih =>
    obtain ⟨ys, x, rfl⟩ : ∃ ys x, xs = ys ++ [x] := ⟨xs.dropLast, xs.getLast (by intro e; simp [e] at hn), (List.dropLast_concat_getLast _).symm⟩
    rw [trimL_snoc]
    by_cases h : x = 0
    · rw [if_pos h, ih ys (by simpa using hn), val_append]
      simp [val, h]
    · rw [if_neg h]
theorem wrapS {i : Nat} (h : i < 9223372036854775807) : IntKind.i64.wrap (((i + 1 : Nat) : Int) - 1) = (i : Int) := by rw [wrap_i64 (by omega) (by omega)]; omega
theorem trim_step {xs : List Int} {x : Int} (h : xs.length < 1000000000) : exact_nat__trim_l1 (xs ++ [x], ()) = if x = 0 then some (.inl (xs, ())) else some (.inr (xs ++ [x], ())) := by
  have hl : ((xs ++ [x]).length : Int) = ((xs.length + 1 : Nat) : Int) := by simp
  have c : (0 : Int) < ((xs.length + 1 : Nat) : Int) := by omega
  have w := wrapS (i := xs.length) (by omega)
  have hi : idx (xs ++ [x]) (xs.length : Int) = some x := by rw [idx_lt (by simp)]; simp
  have hc : cut (xs ++ [x]) 0 (xs.length : Int) = some xs := by
    have := cut_nat (xs := xs ++ [x]) (a := 0) (b := xs.length) (by omega) (by simp)
    simpa using this
  unfold exact_nat__trim_l1
  dsimp only
  rw [hl, decide_eq_true c, cond_true, w, hi]
  by_cases g : x = 0
  · simp only [g, Option.bind_some, decide_true, cond_true, if_true]
    rw [g] at hc
    rw [hc]
    rfl
  · simp only [g, Option.bind_some, decide_false, cond_false, if_false]
theorem trim_halts : ∀ (n : Nat) (xs : List Int), xs.length = n → n < 1000000000 → Halts exact_nat__trim_l1 n (xs, ()) (trimL xs, ())
  | 0, xs, h, _ => by
    have : xs = [] := List.length_eq_zero_iff.1 h
    subst this
    exact .done rfl
  | n + 1, xs, h, hn => by
    obtain ⟨ys, x, rfl⟩ : ∃ ys x, xs = ys ++ [x] := ⟨xs.dropLast, xs.getLast (by intro e; simp [e] at h), (List.dropLast_concat_getLast _).symm⟩
    have hy : ys.length = n := by simpa using h
    have hs := trim_step (xs := ys) (x := x) (by omega)
    rw [trimL_snoc]
    by_cases g : x = 0
    · rw [if_pos g] at hs ⊢
      exact .step hs (trim_halts n ys hy (by omega))
    · rw [if_neg g] at hs ⊢
      exact .done hs
theorem trim_eq {xs : List Int} (h : xs.length < 1000000000) : exact_nat__trim xs = some (trimL xs, ()) := by
  have := (trim_halts xs.length xs rfl h).loop (by omega)
  unfold exact_nat__trim
  rw [this]
  rfl
theorem rtrim_eq {xs : List Int} (h : xs.length < 1000000000) : chanceryref2_Nat__trim xs = some (trimL xs, ()) := trim_eq h
end Go.Proofs.YtmkpdineahbfkaaGreatDoor

namespace Go.Proofs.YtmkpdineahbfkaaGreatDoor
open Go Go.Fe

/-! ### Canonical lists -/
theorem InB.tail {B : Nat} {x : Int} {r : List Int} (h : InB B (x :: r)) : InB B r := fun y hy => h y (List.mem_cons_of_mem _ hy)
theorem InB.head {B : Nat} {x : Int} {r : List Int} (h : InB B (x :: r)) : 0 ≤ x ∧ x < B := h x (List.mem_cons_self ..)
theorem val_lt {B : Nat} : ∀ {xs : List Int}, InB B xs → val B xs < B ^ xs.length
  | [], _ => by simp [val]
  | x :: r, h => by
    have ih := val_lt (h.tail)
    have hx := h.head
    have h1 : B * val B r + B ≤ B * B ^ r.length := by
      have : B * (val B r + 1) ≤ B * B ^ r.length := Nat.mul_le_mul_left B ih
      rw [Nat.mul_add, Nat.mul_one] at this
      exact this
    rw [List.length_cons, Nat.pow_succ, Nat.mul_comm _ B]
    simp only [val]
    omega
/-- No digit is out of range, and the highest is not zero. -/
def Ok (B : Nat) (xs : List Int) : Prop := InB B xs ∧ xs.getLast? ≠ some 0
theorem ok_ge {B : Nat} {xs : List Int} (h : Ok B xs) (h0 : xs ≠ []) : B ^ (xs.length - 1) ≤ val B xs := by
  have e := List.dropLast_concat_getLast h0
  have hl : xs.getLast? = some (xs.getLast h0) := List.getLast?_eq_some_getLast h0
  have hx := h.1 (xs.getLast h0) (List.getLast_mem h0)
  have hne : xs.getLast h0 ≠ 0 := fun g => h.2 (by rw [hl, g])
  have hlen : xs.dropLast.length = xs.length - 1 := List.length_dropLast
  rw [← e, val_append, hlen] 
  have h1 : 1 ≤ val B [xs.getLast h0] := by simp [val]; omega
  have h2 := Nat.mul_le_mul_left (B ^ (xs.length - 1)) h1
  rw [Nat.mul_one] at h2
  have h3 : (xs.dropLast ++ [xs.getLast h0]).length - 1 = xs.length - 1 := by rw [e]
  rw [h3]
  omega
theorem val_inj {B : Nat} (hB : 1 < B) : ∀ {xs ys : List Int}, InB B xs → InB B ys → xs.length = ys.length → val B xs = val B ys → xs = ys
  | [], [], _, _, _, _ => rfl
  | [], _ :: _, _, _, h, _ => by simp at h
  | _ :: _, [], _, _, h, _ => by simp at h
  | x :: r, y :: t, hx, hy, hl, hv => by
    have h1 := hx.head
    have h2 := hy.head
    simp only [val] at hv
    have hm : x.toNat = y.toNat := by
      have := congrArg (· % B) hv
      simp only [Nat.add_mul_mod_self_left] at this
      rwa [Nat.mod_eq_of_lt (by omega), Nat.mod_eq_of_lt (by omega)] at this
    have hr : val B r = val B t := by
      have : B * val B r = B * val B t := by omega
      exact Nat.eq_of_mul_eq_mul_left (by omega) this
    rw [val_inj hB hx.tail hy.tail (by simpa using hl) hr, show x = y by omega]
theorem ok_inj {B : Nat} (hB : 1 < B) {xs ys : List Int} (hx : Ok B xs) (hy : Ok B ys) (hv : val B xs = val B ys) : xs = ys := by
  refine val_inj hB hx.1 hy.1 ?_ hv
  have key : ∀ {as1 bs : List Int}, Ok B as1 → Ok B bs → val B as1 = val B bs → as1.length ≤ bs.length := by
    intro as1 bs ha hb hv
    by_cases h0 : as1 = []
    · subst h0
      exact Nat.zero_le _
    · have h1 := ok_ge ha h0
      have h2 := val_lt hb.1
      have h3 : B ^ (as1.length - 1) < B ^ bs.length := by omega
      have := (Nat.pow_lt_pow_iff_right hB).1 h3
      omega
  have := key hx hy hv
  have := key hy hx hv.symm
  omega
end Go.Proofs.YtmkpdineahbfkaaGreatDoor

namespace Go.Proofs.YtmkpdineahbfkaaGreatDoor
open Go Go.Fe

/-! ### Comparing -/
theorem InB.take {B : Nat} {xs : List Int} (h : InB B xs) (n : Nat) : InB B (xs.take n) := fun x hx => h x (List.mem_of_mem_take hx)
theorem val_take {B : Nat} {xs : List Int} {n : Nat} (h : n < xs.length) : val B (xs.take (n + 1)) = val B (xs.take n) + B ^ n * (xs[n]).toNat := by
  rw [List.take_succ_eq_append_getElem h, val_append, List.length_take, Nat.min_eq_left (by omega)]
  simp [val]
theorem top_lt {B n x y : Nat} {p q : Nat} (hp : p < B ^ n) (h : x < y) : p + B ^ n * x < q + B ^ n * y := by
  have h1 : B ^ n * (x + 1) ≤ B ^ n * y := Nat.mul_le_mul_left _ h
  rw [Nat.mul_add, Nat.mul_one] at h1
  omega
theorem cmp_halts {B : Nat} {a b : List Int} (ha : InB B a) (hb : InB B b) (hl : a.length = b.length) (hs : a.length < 1000000000) : ∀ n, n ≤ a.length →
    ∃ r, Halts (exact_nat__compare_l1 a b) n ((n : Int) - 1, ()) r ∧ match r with
      | .inl _ => val B (a.take n) = val B (b.take n)
      | .inr z => (z.1 = -1 ∧ val B (a.take n) < val B (b.take n)) ∨ (z.1 = 1 ∧ val B (b.take n) < val B (a.take n))
  | 0, _ => ⟨.inl (), .done (by simp [exact_nat__compare_l1]), by simp⟩
  | n + 1, h => by
    have e : (((n + 1 : Nat) : Int) - 1) = (n : Int) := by omega
    rw [e]
    have c : (0 : Int) ≤ (n : Int) := by omega
    have i1 : idx a (n : Int) = some a[n] := idx_lt (by omega)
    have i2 : idx b (n : Int) = some b[n] := idx_lt (by omega)
    have w : IntKind.i64.wrap ((n : Int) - 1) = (n : Int) - 1 := wrap_i64 (by omega) (by omega)
    have la := val_lt (ha.take n)
    have lb := val_lt (hb.take n)
    rw [List.length_take, Nat.min_eq_left (by omega)] at la lb
    have ra := ha a[n] (List.getElem_mem _)
    have rb := hb b[n] (List.getElem_mem _)
    rw [val_take (by omega), val_take (by omega)]
    by_cases g : a[n] = b[n]
    · obtain ⟨r, h1, h2⟩ := cmp_halts ha hb hl hs n (by omega)
      refine ⟨r, .step ?_ h1, ?_⟩
      · simp only [exact_nat__compare_l1, c, decide_true, cond_true, i1, i2, Option.bind_some, g, Bool.not_true, cond_false, w]
      · rw [g]
        cases r with
        | inl u => dsimp only at h2 ⊢; omega
        | inr z => dsimp only at h2 ⊢; omega
    · by_cases g2 : a[n] < b[n]
      · refine ⟨.inr (-1, ()), .done ?_, .inl ⟨rfl, top_lt la (by omega)⟩⟩
        simp only [exact_nat__compare_l1, c, decide_true, cond_true, i1, i2, Option.bind_some, g, decide_false, Bool.not_false, g2]
      · refine ⟨.inr (1, ()), .done ?_, .inr ⟨rfl, top_lt lb (by omega)⟩⟩
        simp only [exact_nat__compare_l1, c, decide_true, cond_true, i1, i2, Option.bind_some, g, decide_false, Bool.not_false, g2, cond_false]
theorem compare_eq {B : Nat} (hB : 1 < B) {a b : List Int} (ha : Ok B a) (hb : Ok B b) (hs : a.length < 1000000000) (hs' : b.length < 1000000000) :
    ∃ c : Int, exact_nat__compare a b = some (c, ()) ∧ (c < 0 ↔ val B a < val B b) ∧ (c = 0 ↔ val B a = val B b) := by
  unfold exact_nat__compare
  by_cases hl : a.length = b.length
  · have hl' : (a.length : Int) = (b.length : Int) := by omega
    rw [decide_eq_true hl', Bool.not_true, cond_false]
    have w : IntKind.i64.wrap ((a.length : Int) - 1) = (a.length : Int) - 1 := wrap_i64 (by omega) (by omega)
    obtain ⟨r, h1, h2⟩ := cmp_halts ha.1 hb.1 hl hs a.length (Nat.le_refl _)
    rw [w, h1.loop (by omega), Option.bind_some]
    rw [List.take_length, hl, List.take_length] at h2
    cases r with
    | inl u => exact ⟨0, rfl, by dsimp only at h2; omega, by dsimp only at h2; omega⟩
    | inr z => exact ⟨z.1, rfl, by dsimp only at h2; omega, by dsimp only at h2; omega⟩
  · have hl' : ¬(a.length : Int) = (b.length : Int) := by omega
    rw [decide_eq_false hl', Bool.not_false, cond_true]
    have w : IntKind.i64.wrap ((a.length : Int) - (b.length : Int)) = (a.length : Int) - (b.length : Int) := wrap_i64 (by omega) (by omega)
    refine ⟨_, by rw [w], ?_⟩
    have key : ∀ {as1 bs : List Int}, Ok B as1 → Ok B bs → as1.length < bs.length → val B as1 < val B bs := by
      intro as1 bs h1 h2 h3
      have h4 := val_lt h1.1
      have h5 := ok_ge h2 (by intro e; subst e; simp at h3)
      have h6 : B ^ as1.length ≤ B ^ (bs.length - 1) := Nat.pow_le_pow_right (by omega) (by omega)
      omega
    rcases Nat.lt_or_gt_of_ne hl with h | h
    · have := key ha hb h
      omega
    · have := key hb ha h
      omega
end Go.Proofs.YtmkpdineahbfkaaGreatDoor

namespace Go.Proofs.YtmkpdineahbfkaaGreatDoor
open Go Go.Fe

/-! ### Adding -/
theorem ok_of_ge {B : Nat} {xs : List Int} (h : InB B xs) (hv : xs ≠ [] → B ^ (xs.length - 1) ≤ val B xs) : Ok B xs := by
  refine ⟨h, fun e => ?_⟩
  have h0 : xs ≠ [] := by intro e'; simp [e'] at e
  have hg := hv h0
  have e1 := List.dropLast_concat_getLast h0
  have hl : xs.getLast? = some (xs.getLast h0) := List.getLast?_eq_some_getLast h0
  rw [hl] at e
  have e2 : xs.getLast h0 = 0 := Option.some.inj e
  have hd : InB B xs.dropLast := fun x hx => h x (List.dropLast_subset _ hx)
  have h2 := val_lt hd
  rw [List.length_dropLast] at h2
  have h3 : val B xs = val B xs.dropLast := by
    conv => lhs; rw [← e1]
    rw [val_append, e2]
    simp [val]
  omega
/-- The digit at a place, or 0. -/
def dig (xs : List Int) (i : Nat) : Nat := (xs[i]?.getD 0).toNat
theorem val_drop {B : Nat} (xs : List Int) (i : Nat) : val B (xs.drop i) = dig xs i + B * val B (xs.drop (i + 1)) := by
  unfold dig
  by_cases h : i < xs.length
  · rw [List.drop_eq_getElem_cons h]
    simp [val, h]
  · rw [List.drop_of_length_le (by omega), List.drop_of_length_le (by omega)]
    simp [val, h]
theorem dig_lt {B : Nat} (hB : 0 < B) {xs : List Int} (h : InB B xs) (i : Nat) : dig xs i < B := by
  unfold dig
  by_cases hi : i < xs.length
  · have := h xs[i] (List.getElem_mem _)
    simp [hi]
    omega
  · simp [hi]
    exact hB
theorem wrap_u32i {n : Int} (h : 0 ≤ n) (h' : n < 4294967296) : IntKind.wrap .u32 n = n := by
  obtain ⟨m, rfl⟩ := Int.eq_ofNat_of_zero_le h
  rw [wrap_u32]
  omega
theorem quo_u32 {a b : Nat} (h : b ≠ 0) (ha : a < 4294967296) : quo .u32 (a : Int) (b : Int) = some ((a / b : Nat) : Int) := by
  unfold quo
  rw [if_neg (by omega), show (a : Int).tdiv (b : Int) = ((a / b : Nat) : Int) from rfl]
  have := Nat.div_le_self a b
  generalize a / b = c at this
  rw [wrap_u32i (by omega) (by omega)]
theorem plus_step {a b : List Int} (ha : InB 1000000000 a) (hb : InB 1000000000 b) {c i : Nat} {acc : List Int} (hc : c ≤ 1) (hi : i < 1000000000) (hacc : acc.length ≤ 1000000000) :
    exact_nat__plus_l1 a b ((), (c : Int), (i : Int), acc, ()) = if i < a.length ∨ i < b.length ∨ 0 < c then some (.inl ((), (((c + dig a i + dig b i) / 1000000000 : Nat) : Int), ((i + 1 : Nat) : Int), acc ++ [(((c + dig a i + dig b i) % 1000000000 : Nat) : Int)], ())) else some (.inr ((), acc, ())) := by
  have w : IntKind.i64.wrap ((i : Int) + 1) = ((i + 1 : Nat) : Int) := by rw [wrap_i64 (by omega) (by omega)]; omega
  have da := dig_lt (B := 1000000000) (by omega) ha i
  have db := dig_lt (B := 1000000000) (by omega) hb i
  have hcat : ∀ x : Int, cat acc [x] = some (acc ++ [x]) := fun x => cat_ok (by simp; omega)
  have ea : ∀ h : i < a.length, a[i] = (dig a i : Int) := fun h => by
    have := ha a[i] (List.getElem_mem _)
    simp only [dig, List.getElem?_eq_getElem h, Option.getD_some]
    omega
  have eb : ∀ h : i < b.length, b[i] = (dig b i : Int) := fun h => by
    have := hb b[i] (List.getElem_mem _)
    simp only [dig, List.getElem?_eq_getElem h, Option.getD_some]
    omega
  have za : ¬i < a.length → dig a i = 0 := fun h => by simp [dig, h]
  have zb : ¬i < b.length → dig b i = 0 := fun h => by simp [dig, h]
  have hq := quo_u32 (a := c + dig a i + dig b i) (b := 1000000000) (by omega) (by omega)
  have hr := rem_nat (a := c + dig a i + dig b i) (b := 1000000000) (by omega)
  have w1 : IntKind.u32.wrap ((c : Int) + (dig a i : Int)) = ((c + dig a i : Nat) : Int) := by rw [wrap_u32i (by omega) (by omega)]; omega
  have w2 : IntKind.u32.wrap (((c + dig a i : Nat) : Int) + (dig b i : Int)) = ((c + dig a i + dig b i : Nat) : Int) := by rw [wrap_u32i (by omega) (by omega)]; omega
  have w3 : IntKind.u32.wrap ((c : Int) + (dig b i : Int)) = ((c + dig b i : Nat) : Int) := by rw [wrap_u32i (by omega) (by omega)]; omega
  have hq' : quo .u32 ((c + dig a i + dig b i : Nat) : Int) 1000000000 = some (((c + dig a i + dig b i) / 1000000000 : Nat) : Int) := hq
  have hr' : rem ((c + dig a i + dig b i : Nat) : Int) 1000000000 = some (((c + dig a i + dig b i) % 1000000000 : Nat) : Int) := hr
  unfold exact_nat__plus_l1
  dsimp only
  by_cases h1 : i < a.length
  · have c1 : (i : Int) < (a.length : Int) := by omega
    rw [if_pos (.inl h1)]
    by_cases h2 : i < b.length
    · have c2 : (i : Int) < (b.length : Int) := by omega
      simp only [c1, c2, decide_true, cond_true, Option.bind_some, idx_lt h1, idx_lt h2, ea h1, eb h2, w1, w2, hq', hr', hcat, w]
    · have c2 : ¬(i : Int) < (b.length : Int) := by omega
      rw [zb h2, Nat.add_zero] at hq' hr' ⊢
      simp only [c1, c2, decide_true, decide_false, cond_true, cond_false, Option.bind_some, idx_lt h1, ea h1, w1, hq', hr', hcat, w]
  · have c1 : ¬(i : Int) < (a.length : Int) := by omega
    rw [za h1, Nat.add_zero] at hq' hr' ⊢
    by_cases h2 : i < b.length
    · have c2 : (i : Int) < (b.length : Int) := by omega
      rw [if_pos (.inr (.inl h2))]
      simp only [c1, c2, decide_true, decide_false, cond_true, cond_false, Option.bind_some, idx_lt h2, eb h2, w3, hq', hr', hcat, w]
    · have c2 : ¬(i : Int) < (b.length : Int) := by omega
      rw [zb h2, Nat.add_zero] at hq' hr' ⊢
      by_cases h3 : 0 < c
      · have c3 : (0 : Int) < (c : Int) := by omega
        rw [if_pos (.inr (.inr h3))]
        simp only [c1, c2, c3, decide_true, decide_false, cond_true, cond_false, Option.bind_some, hq', hr', hcat, w]
      · have c3 : ¬(0 : Int) < (c : Int) := by omega
        rw [if_neg (by omega)]
        simp only [c1, c2, c3, decide_false, cond_false, Option.bind_some]
theorem ok_long {B : Nat} (hB : 1 < B) {a : List Int} (h : Ok B a) {i : Nat} (hi : i < a.length) : B ^ i ≤ val B a := by
  have h1 := ok_ge h (by intro e; subst e; simp at hi)
  have h2 : B ^ i ≤ B ^ (a.length - 1) := Nat.pow_le_pow_right (by omega) (by omega)
  omega
theorem plus_halts {a b : List Int} (ha : Ok 1000000000 a) (hb : Ok 1000000000 b) (hs : a.length < 100000000) (hs' : b.length < 100000000) : ∀ f i c (acc : List Int), a.length + b.length + 1 ≤ i + f → i ≤ a.length + b.length + 1 → c ≤ 1 → acc.length = i → InB 1000000000 acc →
    val 1000000000 acc + 1000000000 ^ i * (c + val 1000000000 (a.drop i) + val 1000000000 (b.drop i)) = val 1000000000 a + val 1000000000 b → (0 < i → 1000000000 ^ (i - 1) ≤ val 1000000000 a + val 1000000000 b) →
    ∃ out, Halts (exact_nat__plus_l1 a b) f ((), (c : Int), (i : Int), acc, ()) ((), out, ()) ∧ Ok 1000000000 out ∧ val 1000000000 out = val 1000000000 a + val 1000000000 b ∧ out.length ≤ a.length + b.length + 1
  | f, i, c, acc, h1, h1', hc, hl, hacc, hv, hg => by
    have hstep := plus_step ha.1 hb.1 hc (i := i) (acc := acc) (by omega) (by omega)
    by_cases hgo : i < a.length ∨ i < b.length ∨ 0 < c
    · rw [if_pos hgo] at hstep
      have hf : i < a.length + b.length + 1 := by
        rcases Nat.lt_or_ge i (a.length + b.length + 1) with h | h
        · exact h
        · exfalso
          have e1 : a.drop i = [] := List.drop_of_length_le (by omega)
          have e2 : b.drop i = [] := List.drop_of_length_le (by omega)
          have ei : i = a.length + b.length + 1 := by omega
          have c1 : c = 1 := by omega
          rw [e1, e2, c1] at hv
          simp only [val, Nat.add_zero, Nat.mul_one] at hv
          have l1 := val_lt ha.1
          have l2 := val_lt hb.1
          have p1 : (1000000000 : Nat) ^ a.length ≤ 1000000000 ^ (a.length + b.length) := Nat.pow_le_pow_right (by omega) (by omega)
          have p2 : (1000000000 : Nat) ^ b.length ≤ 1000000000 ^ (a.length + b.length) := Nat.pow_le_pow_right (by omega) (by omega)
          rw [ei, Nat.pow_succ] at hv
          generalize (1000000000 : Nat) ^ (a.length + b.length) = P at *
          omega
      cases f with
      | zero => omega
      | succ f =>
        have va := val_drop (B := 1000000000) a i
        have vb := val_drop (B := 1000000000) b i
        have da := dig_lt (B := 1000000000) (by omega) ha.1 i
        have db := dig_lt (B := 1000000000) (by omega) hb.1 i
        have hdm := Nat.div_add_mod (c + dig a i + dig b i) 1000000000
        have hml := Nat.mod_lt (c + dig a i + dig b i) (show 0 < 1000000000 by omega)
        generalize hq : (c + dig a i + dig b i) / 1000000000 = q at *
        generalize hr : (c + dig a i + dig b i) % 1000000000 = r at *
        have hq1 : q ≤ 1 := by omega
        obtain ⟨out, o1, o2, o3, o4⟩ := plus_halts ha hb hs hs' f (i + 1) q (acc ++ [(r : Int)]) (by omega) (by omega) hq1 (by simp [hl]) (by
          intro x hx
          rcases List.mem_append.1 hx with hx | hx
          · exact hacc x hx
          · rw [List.mem_singleton] at hx
            subst hx
            omega) (by
          rw [val_append, hl, Nat.pow_succ, ← hv, va, vb]
          simp only [val, Nat.mul_zero, Nat.add_zero, Int.toNat_natCast]
          generalize val 1000000000 (a.drop (i + 1)) = A
          generalize val 1000000000 (b.drop (i + 1)) = Bv
          generalize (1000000000 : Nat) ^ i = P
          rw [Nat.mul_assoc P, Nat.add_assoc, ← Nat.mul_add]
          congr 2
          omega) (by
          intro _
          rw [Nat.add_sub_cancel]
          rcases hgo with h | h | h
          · have := ok_long (by omega) ha h
            omega
          · have := ok_long (by omega) hb h
            omega
          · have c1 : c = 1 := by omega
            rw [c1] at hv
            have : (1000000000 : Nat) ^ i * 1 ≤ 1000000000 ^ i * (1 + val 1000000000 (a.drop i) + val 1000000000 (b.drop i)) := Nat.mul_le_mul_left _ (by omega)
            omega)
        exact ⟨out, .step hstep o1, o2, o3, o4⟩
    · rw [if_neg hgo] at hstep
      have e1 : a.drop i = [] := List.drop_of_length_le (by omega)
      have e2 : b.drop i = [] := List.drop_of_length_le (by omega)
      have c0 : c = 0 := by omega
      rw [e1, e2, c0] at hv
      simp only [val, Nat.add_zero, Nat.mul_zero] at hv
      refine ⟨acc, .done hstep, ok_of_ge hacc (fun hne => ?_), hv, by omega⟩
      have h0 : 0 < acc.length := List.length_pos_iff.2 hne
      rw [hv, hl]
      exact hg (by omega)
theorem plus_eq {a b : List Int} (ha : Ok 1000000000 a) (hb : Ok 1000000000 b) (hs : a.length < 100000000) (hs' : b.length < 100000000) :
    ∃ out, exact_nat__plus a b = some (out, ()) ∧ Ok 1000000000 out ∧ val 1000000000 out = val 1000000000 a + val 1000000000 b ∧ out.length ≤ a.length + b.length + 1 := by
  obtain ⟨out, o1, o2, o3, o4⟩ := plus_halts ha hb hs hs' (a.length + b.length + 1) 0 0 [] (by omega) (by omega) (by omega) rfl (fun _ h => by cases h) (by simp [val]) (fun h => by omega)
  refine ⟨out, ?_, o2, o3, o4⟩
  have hm : mx (a.length : Int) (b.length : Int) = ((max a.length b.length : Nat) : Int) := by unfold mx; split <;> omega
  have w : IntKind.i64.wrap (((max a.length b.length : Nat) : Int) + 1) = ((max a.length b.length + 1 : Nat) : Int) := by rw [wrap_i64 (by omega) (by omega)]; omega
  have hk : mk 0 ((max a.length b.length + 1 : Nat) : Int) (0 : Int) = some [] := by
    unfold mk
    rw [if_pos (by simp only [lim]; omega)]
    rfl
  unfold exact_nat__plus
  dsimp only
  rw [hm, w, hk, Option.bind_some]
  have := o1.loop (by omega)
  erw [this]
  rfl
end Go.Proofs.YtmkpdineahbfkaaGreatDoor

namespace Go.Proofs.YtmkpdineahbfkaaGreatDoor
open Go Go.Fe

/-! ### The list of a number -/
def repGo (B : Nat) : Nat → Nat → List Int
  | 0, _ => []
  | f + 1, n => if n = 0 then [] else ((n % B : Nat) : Int) :: repGo B f (n / B)
def rep (B n : Nat) : List Int := repGo B n n
theorem repGo_ok {B : Nat} (hB : 1 < B) : ∀ f n, n ≤ f → val B (repGo B f n) = n ∧ Ok B (repGo B f n) ∧ (n = 0 ↔ repGo B f n = [])
  | 0, n, h => by
    have : n = 0 := by omega
    subst this
    exact ⟨rfl, ⟨(fun _ h => by cases h), by simp [repGo]⟩, by simp [repGo]⟩
  | f + 1, n, h => by
    unfold repGo
    by_cases h0 : n = 0
    · subst h0
      simp [val, Ok, InB]
    · rw [if_neg h0]
      have hd : n / B < n := Nat.div_lt_self (by omega) hB
      obtain ⟨h1, h2, h3⟩ := repGo_ok hB f (n / B) (by omega)
      have hm := Nat.mod_lt n (show B > 0 by omega)
      refine ⟨?_, ⟨?_, ?_⟩, by simp [h0]⟩
      · simp only [val, h1, Int.toNat_natCast]
        exact Nat.mod_add_div n B
      · intro x hx
        rcases List.mem_cons.1 hx with rfl | hx
        · omega
        · exact h2.1 x hx
      · by_cases h4 : repGo B f (n / B) = []
        · have h5 := h3.2 h4
          rw [h4]
          have := Nat.mod_add_div n B
          rw [h5] at this
          simp
          omega
        · rw [List.getLast?_cons_of_ne_nil h4]
          exact h2.2
theorem val_rep {B : Nat} (hB : 1 < B) (n : Nat) : val B (rep B n) = n := (repGo_ok hB n n (Nat.le_refl _)).1
theorem ok_rep {B : Nat} (hB : 1 < B) (n : Nat) : Ok B (rep B n) := (repGo_ok hB n n (Nat.le_refl _)).2.1
theorem rep_eq {B : Nat} (hB : 1 < B) {xs : List Int} {n : Nat} (h : Ok B xs) (hv : val B xs = n) : xs = rep B n := ok_inj hB h (ok_rep hB n) (by rw [hv, val_rep hB])
@[simp] theorem rep_zero (B : Nat) : rep B 0 = [] := rfl
theorem rep_nil {B : Nat} {n : Nat} (hB : 1 < B) : rep B n = [] ↔ n = 0 := (repGo_ok hB n n (Nat.le_refl _)).2.2.symm
theorem rep_small {B n : Nat} (h0 : 0 < n) (h : n < B) : rep B n = [(n : Int)] := by
  refine (rep_eq (by omega) ⟨fun x hx => ?_, ?_⟩ ?_).symm
  · rw [List.mem_singleton] at hx; omega
  · simp; omega
  · simp [val]
/-- The number of decimal digits; 0 has none. -/
def dl (n : Nat) : Nat := (rep 10 n).length
theorem lt_ten (n : Nat) : n < 10 ^ dl n := by
  have := val_lt (ok_rep (B := 10) (by omega) n).1
  rwa [val_rep (by omega)] at this
theorem ge_ten {n : Nat} (h : 0 < n) : 10 ^ (dl n - 1) ≤ n := by
  have := ok_ge (ok_rep (B := 10) (by omega) n) (by rw [Ne, rep_nil (by omega)]; omega)
  rwa [val_rep (by omega)] at this
theorem dl_le {n k : Nat} : dl n ≤ k ↔ n < 10 ^ k := by
  constructor
  · intro h
    exact Nat.lt_of_lt_of_le (lt_ten n) (Nat.pow_le_pow_right (by omega) h)
  · intro h
    by_cases h0 : n = 0
    · subst h0
      exact Nat.zero_le _
    · have := Nat.lt_of_le_of_lt (ge_ten (n := n) (by omega)) h
      have := (Nat.pow_lt_pow_iff_right (show 1 < 10 by omega)).1 this
      omega
theorem dl_mono {m n : Nat} (h : m ≤ n) : dl m ≤ dl n := dl_le.2 (Nat.lt_of_le_of_lt h (lt_ten n))
theorem dl_mul (m n : Nat) : dl (m * n) ≤ dl m + dl n := by
  rw [dl_le, Nat.pow_add]
  exact Nat.mul_lt_mul'' (lt_ten m) (lt_ten n)
theorem dl_ten (k : Nat) : dl (10 ^ k) = k + 1 := by
  have h1 : dl (10 ^ k) ≤ k + 1 := dl_le.2 (Nat.pow_lt_pow_right (by omega) (by omega))
  have h2 : ¬dl (10 ^ k) ≤ k := fun h => Nat.lt_irrefl _ (dl_le.1 h)
  omega
theorem rep_len (n : Nat) : (rep 1000000000 n).length ≤ dl n := by
  by_cases h0 : n = 0
  · subst h0
    exact Nat.zero_le _
  · have h1 := ok_ge (ok_rep (B := 1000000000) (by omega) n) (by rw [Ne, rep_nil (by omega)]; omega)
    rw [val_rep (by omega)] at h1
    have h2 := lt_ten n
    have h3 : (1000000000 : Nat) ^ ((rep 1000000000 n).length - 1) = 10 ^ (9 * ((rep 1000000000 n).length - 1)) := by rw [Nat.pow_mul]
    rw [h3] at h1
    have := (Nat.pow_lt_pow_iff_right (show 1 < 10 by omega)).1 (Nat.lt_of_le_of_lt h1 h2)
    have h4 : 0 < dl n := by
      have : ¬dl n ≤ 0 := fun h => by have := dl_le.1 h; omega
      omega
    omega
theorem dl_pos {n : Nat} (h : 0 < n) : 0 < dl n := by
  have : ¬dl n ≤ 0 := fun h => by have := dl_le.1 h; omega
  omega
theorem lt_two (n : Nat) : n < 2 ^ (4 * dl n) := by
  rw [Nat.pow_mul]
  exact Nat.lt_of_lt_of_le (lt_ten n) (Nat.pow_le_pow_left (by omega) _)
end Go.Proofs.YtmkpdineahbfkaaGreatDoor

namespace Go.Proofs.YtmkpdineahbfkaaGreatDoor
open Go Go.Fe

/-! ### Quotients -/
theorem quot_low {P bk bl h rl : Nat} (hb : bl < P) (h0 : 0 < bk * P + bl) : h / (bk + 1) ≤ (h * P + rl) / (bk * P + bl) := by
  rw [Nat.le_div_iff_mul_le h0]
  have h1 : h / (bk + 1) * (bk + 1) ≤ h := Nat.div_mul_le_self h (bk + 1)
  have h2 : h / (bk + 1) * (bk * P + bl) ≤ h / (bk + 1) * ((bk + 1) * P) := Nat.mul_le_mul_left _ (by rw [Nat.add_mul]; omega)
  have h3 := Nat.mul_le_mul_right P h1
  rw [Nat.mul_assoc] at h3
  omega
theorem quot_high {P bk bl h rl : Nat} (hr : rl < P) (h0 : 0 < bk) : (h * P + rl) / (bk * P + bl) ≤ h / bk := by
  rw [Nat.le_div_iff_mul_le h0]
  have h1 := Nat.div_mul_le_self (h * P + rl) (bk * P + bl)
  generalize (h * P + rl) / (bk * P + bl) = q at *
  have h2 : q * (bk * P) ≤ q * (bk * P + bl) := Nat.mul_le_mul_left _ (by omega)
  have h3 : q * bk * P < (h + 1) * P := by rw [Nat.mul_assoc, Nat.add_mul]; omega
  have := Nat.lt_of_mul_lt_mul_right h3
  omega
/-! ### The root -/
/-! ### The greatest common divisor by halves -/
theorem gcd_halves {m n : Nat} (hm : m % 2 = 0) (hn : n % 2 = 0) : m.gcd n = 2 * (m / 2).gcd (n / 2) := by
  have h1 : m = 2 * (m / 2) := by omega
  have h2 : n = 2 * (n / 2) := by omega
  conv => lhs; rw [h1, h2]
  exact Nat.gcd_mul_left 2 _ _
theorem gcd_half {m n : Nat} (hm : m % 2 = 0) (hn : n % 2 ≠ 0) : (m / 2).gcd n = m.gcd n := by
  have h1 : m = 2 * (m / 2) := by omega
  have hc : Nat.Coprime n 2 := by
    rw [Nat.coprime_comm, Nat.Coprime, Nat.gcd_rec, show n % 2 = 1 by omega]
    rfl
  conv => rhs; rw [h1]
  rw [Nat.gcd_comm, Nat.gcd_comm (2 * _), Nat.Coprime.gcd_mul_left_cancel_right _ hc.symm]
end Go.Proofs.YtmkpdineahbfkaaGreatDoor

namespace Go.Proofs.YtmkpdineahbfkaaGreatDoor
open Go Go.Fe

abbrev B9 : Nat := 1000000000
theorem trim_rep {B : Nat} (hB : 1 < B) {xs : List Int} (h : InB B xs) : trimL xs = rep B (val B xs) := by
  refine rep_eq hB ⟨fun x hx => ?_, ?_⟩ (val_trim B xs)
  · refine h x ?_
    unfold trimL at hx
    rw [List.mem_reverse] at hx
    have := (List.dropWhile_sublist (fun x : Int => decide (x = 0)) (l := xs.reverse)).subset hx
    exact List.mem_reverse.1 this
  · unfold trimL
    rw [List.getLast?_reverse]
    intro e
    have := List.head?_dropWhile_not (fun x : Int => decide (x = 0)) xs.reverse
    rw [e] at this
    simp at this
theorem getD_mid {α : Type} {acc ys : List α} {x z : α} {i : Nat} (h : acc.length = i) : (acc ++ x :: ys).getD i z = x := by
  subst h
  simp
theorem set_mid {α : Type} {acc ys : List α} {x y : α} {i : Nat} (h : acc.length = i) : (acc ++ x :: ys).set i y = acc ++ y :: ys := by
  subst h
  simp
theorem rep_len9 (n : Nat) : (rep B9 n).length ≤ dl n := rep_len n
/-! ### Subtracting -/
theorem clone_eq {a : List Int} (h : a.length < 1000000000) : exact_nat_uint32_ a = some ((), a, ()) := by
  unfold exact_nat_uint32_
  have hc : cat [] a = some a := cat_ok (by simp; omega)
  cases a with
  | nil =>
    rw [hc]
    simp [agree]
  | cons x r =>
    rw [hc]
    rfl
theorem idx_dig {a : List Int} {i : Nat} {B : Nat} (ha : InB B a) (h : i < a.length) : idx a (i : Int) = some (dig a i : Int) := by
  rw [idx_lt h]
  have := ha a[i] (List.getElem_mem _)
  simp only [dig, List.getElem?_eq_getElem h, Option.getD_some]
  congr 1
  omega
theorem dig_over {a : List Int} {i : Nat} (h : ¬i < a.length) : dig a i = 0 := by simp [dig, h]
theorem drop_dig {a : List Int} {i : Nat} {B : Nat} (ha : InB B a) (h : i < a.length) : a.drop i = (dig a i : Int) :: a.drop (i + 1) := by
  rw [List.drop_eq_getElem_cons h]
  have := ha a[i] (List.getElem_mem _)
  simp only [dig, List.getElem?_eq_getElem h, Option.getD_some]
  congr 1
  omega
theorem wrapI1 {i : Nat} (h : i < 9223372036854775807) : IntKind.i64.wrap ((i : Int) + 1) = ((i + 1 : Nat) : Int) := by rw [wrap_i64 (by omega) (by omega)]; omega
theorem minus_step {a b : List Int} (ha : InB B9 a) (hb : InB B9 b) {c i : Nat} {acc : List Int} (hc : c ≤ 1) (hl : acc.length = i) (hs : a.length < 1000000000) (hi : i < a.length) :
    exact_nat__minus_l1 ((), a, ()) b ((), (c : Int), (i : Int), acc ++ a.drop i, ()) =
      some (.inl ((), ((if dig a i < c + dig b i then 1 else 0 : Nat) : Int), ((i + 1 : Nat) : Int), (acc ++ [(((if dig a i < c + dig b i then dig a i + B9 else dig a i) - (c + dig b i) : Nat) : Int)]) ++ a.drop (i + 1), ())) := by
  have da := dig_lt (B := B9) (by decide) ha i
  have db := dig_lt (B := B9) (by decide) hb i
  simp only [B9] at da db ⊢
  have hlen : ∀ x : Int, (acc ++ x :: a.drop (i + 1)).length = a.length := fun x => by simp; omega
  have hin : inb (i : Int) a.length = true := inb_nat hi
  have c1 : (i : Int) < (a.length : Int) := by omega
  have w := wrapI1 (i := i) (by omega)
  have w3 : IntKind.u32.wrap ((c : Int) + (dig b i : Int)) = ((c + dig b i : Nat) : Int) := by rw [wrap_u32i (by omega) (by omega)]; omega
  have w4 : IntKind.u32.wrap ((dig a i : Int) + 1000000000) = ((dig a i + 1000000000 : Nat) : Int) := by rw [wrap_u32i (by omega) (by omega)]; omega
  rw [drop_dig ha hi]
  unfold exact_nat__minus_l1
  dsimp only
  rw [decide_eq_true c1, cond_true]
  have key : ∀ n : Nat, n = c + dig b i → (((cond (decide ((dig a i : Int) < (n : Int)))
      (some ((), (1 : Int), acc ++ ((dig a i + 1000000000 : Nat) : Int) :: a.drop (i + 1), ()))
      (some ((), (0 : Int), acc ++ (dig a i : Int) :: a.drop (i + 1), ())) : Option (Unit × (Int × ((List Int) × Unit)))).bind fun r6 =>
  (chk (inb (i : Int) r6.2.2.1.length)).bind fun _ =>
  let v7 : Int := IntKind.u32.wrap ((r6.2.2.1.getD (i : Int).toNat 0) - n)
  (chk (inb (i : Int) r6.2.2.1.length)).bind fun _ =>
  let v8 : List Int := r6.2.2.1.set (i : Int).toNat v7
  some (.inl ((), r6.2.1, IntKind.i64.wrap ((i : Int) + 1), v8, ()))) : Option ((Unit × (Int × (Int × ((List Int) × Unit)))) ⊕ (Unit × ((List Int) × Unit)))) =
      some (.inl ((), ((if dig a i < c + dig b i then 1 else 0 : Nat) : Int), ((i + 1 : Nat) : Int), (acc ++ [(((if dig a i < c + dig b i then dig a i + 1000000000 else dig a i) - (c + dig b i) : Nat) : Int)]) ++ a.drop (i + 1), ())) := by
    intro n hn
    rw [← hn]
    by_cases g : dig a i < n
    · have g' : (dig a i : Int) < (n : Int) := by omega
      have w5 : IntKind.u32.wrap (((dig a i + 1000000000 : Nat) : Int) - (n : Int)) = ((dig a i + 1000000000 - n : Nat) : Int) := by rw [wrap_u32i (by omega) (by omega)]; omega
      simp only [g, g', if_true, decide_true, cond_true, Option.bind_some, hlen, hin, chk_t, Int.toNat_natCast, getD_mid hl, set_mid hl, w5, w, List.append_assoc, List.singleton_append]
      rfl
    · have g' : ¬(dig a i : Int) < (n : Int) := by omega
      have w5 : IntKind.u32.wrap ((dig a i : Int) - (n : Int)) = ((dig a i - n : Nat) : Int) := by rw [wrap_u32i (by omega) (by omega)]; omega
      simp only [g, g', if_false, decide_false, cond_false, Option.bind_some, hlen, hin, chk_t, Int.toNat_natCast, getD_mid hl, set_mid hl, w5, w, List.append_assoc, List.singleton_append]
      rfl
  by_cases h2 : i < b.length
  · have c2 : (i : Int) < (b.length : Int) := by omega
    rw [decide_eq_true c2, cond_true, idx_dig hb h2]
    simp only [Option.bind_some, w3, hlen, hin, chk_t, Int.toNat_natCast, getD_mid hl, set_mid hl, w4]
    exact key _ rfl
  · have c2 : ¬(i : Int) < (b.length : Int) := by omega
    rw [decide_eq_false c2, cond_false]
    simp only [Option.bind_some, hlen, hin, chk_t, Int.toNat_natCast, getD_mid hl, set_mid hl, w4]
    exact key _ (by rw [dig_over h2]; omega)
theorem minus_halts {a b : List Int} (ha : InB B9 a) (hb : InB B9 b) (hs : a.length < 1000000000) (hle : val B9 b ≤ val B9 a) : ∀ f i c (acc : List Int), i + f = a.length → c ≤ 1 → acc.length = i → InB B9 acc →
    val B9 acc + B9 ^ i * val B9 (a.drop i) + val B9 b = val B9 a + B9 ^ i * (val B9 (b.drop i) + c) →
    ∃ out, Halts (exact_nat__minus_l1 ((), a, ()) b) f ((), (c : Int), (i : Int), acc ++ a.drop i, ()) ((), out, ()) ∧ InB B9 out ∧ out.length = a.length ∧ val B9 out + val B9 b = val B9 a
  | 0, i, c, acc, hf, hc, hl, hacc, hv => by
    have e1 : a.drop i = [] := List.drop_of_length_le (by omega)
    rw [e1] at hv ⊢
    rw [List.append_nil]
    refine ⟨acc, .done ?_, hacc, by omega, ?_⟩
    · have c1 : ¬(i : Int) < (a.length : Int) := by omega
      unfold exact_nat__minus_l1
      dsimp only
      rw [decide_eq_false c1, cond_false]
    · have h1 := val_lt hacc
      rw [hl] at h1
      simp only [val, Nat.mul_zero, Nat.add_zero] at hv
      by_cases g : val B9 (b.drop i) + c = 0
      · rw [g] at hv
        omega
      · have := Nat.mul_le_mul_left (B9 ^ i) (show 1 ≤ val B9 (b.drop i) + c by omega)
        omega
  | f + 1, i, c, acc, hf, hc, hl, hacc, hv => by
    have da := dig_lt (B := B9) (by decide) ha i
    have db := dig_lt (B := B9) (by decide) hb i
    have va := val_drop (B := B9) a i
    have vb := val_drop (B := B9) b i
    have hstep := minus_step ha hb hc hl hs (by omega)
    have hc' : (if dig a i < c + dig b i then 1 else 0 : Nat) ≤ 1 := by split <;> omega
    have hd : (if dig a i < c + dig b i then dig a i + B9 else dig a i) - (c + dig b i) < B9 := by split <;> omega
    have hq : (if dig a i < c + dig b i then dig a i + B9 else dig a i) - (c + dig b i) + (c + dig b i) = dig a i + B9 * (if dig a i < c + dig b i then 1 else 0) := by split <;> omega
    generalize (if dig a i < c + dig b i then 1 else 0 : Nat) = c' at *
    generalize (if dig a i < c + dig b i then dig a i + B9 else dig a i) - (c + dig b i) = d at *
    obtain ⟨out, h1, h2, h3, h4⟩ := minus_halts ha hb hs hle f (i + 1) c' (acc ++ [(d : Int)]) (by omega) hc' (by simp [hl]) (by
      intro x hx
      rcases List.mem_append.1 hx with hx | hx
      · exact hacc x hx
      · rw [List.mem_singleton] at hx
        subst hx
        omega) (by
      rw [val_append, hl, Nat.pow_succ]
      rw [va, vb] at hv
      simp only [val, Nat.mul_zero, Nat.add_zero, Int.toNat_natCast]
      generalize val B9 (a.drop (i + 1)) = A at *
      generalize val B9 (b.drop (i + 1)) = Bv at *
      generalize B9 ^ i = P at *
      have := congrArg (P * ·) hq
      simp only [Nat.mul_add] at this hv ⊢
      generalize B9 = K at *
      rw [← Nat.mul_assoc] at this hv
      rw [← Nat.mul_assoc] at hv
      omega)
    exact ⟨out, .step hstep h1, h2, h3, h4⟩
theorem minus_eq {a b : Nat} (h : b ≤ a) (hs : dl a < 1000000) : exact_nat__minus (rep B9 a) (rep B9 b) = some (rep B9 (a - b), ()) := by
  have hl := rep_len9 a
  have va := val_rep (B := B9) (by decide) a
  have vb := val_rep (B := B9) (by decide) b
  have ha := ok_rep (B := B9) (by decide) a
  have hb := ok_rep (B := B9) (by decide) b
  obtain ⟨out, h1, h2, h3, h4⟩ := minus_halts ha.1 hb.1 (by omega) (by omega) (rep B9 a).length 0 0 [] (by omega) (by omega) rfl (fun _ h => by cases h) (by simp [val])
  unfold exact_nat__minus
  rw [clone_eq (by omega), Option.bind_some]
  have := h1.loop (by omega)
  simp only [List.nil_append, List.drop_zero] at this
  dsimp only
  erw [this]
  rw [Option.bind_some]
  dsimp only
  rw [trim_eq (by omega), trim_rep (by decide) h2]
  rw [va, vb] at h4
  rw [show val B9 out = a - b by omega]
  rfl
end Go.Proofs.YtmkpdineahbfkaaGreatDoor

namespace Go.Proofs.YtmkpdineahbfkaaGreatDoor
open Go Go.Fe

/-! ### Multiplying -/
theorem wrap_u64i {n : Int} (h : 0 ≤ n) (h' : n < 18446744073709551616) : IntKind.wrap .u64 n = n := by
  obtain ⟨m, rfl⟩ := Int.eq_ofNat_of_zero_le h
  simp only [IntKind.wrap, IntKind.bits, IntKind.signed, Bool.false_and, Bool.false_eq_true, if_false]
  omega
theorem quo_u64 {a b : Nat} (h : b ≠ 0) (ha : a < 18446744073709551616) : quo .u64 (a : Int) (b : Int) = some ((a / b : Nat) : Int) := by
  unfold quo
  rw [if_neg (by omega), show (a : Int).tdiv (b : Int) = ((a / b : Nat) : Int) from rfl]
  have := Nat.div_le_self a b
  generalize a / b = c at this
  rw [wrap_u64i (by omega) (by omega)]
theorem prod_lt {x y c d : Nat} (hx : x < B9) (hy : y < B9) (hc : c < B9) (hd : d < B9) : x * y + c + d < B9 * B9 := by
  have := Nat.mul_le_mul (show x ≤ B9 - 1 by simp only [B9] at *; omega) (show y ≤ B9 - 1 by simp only [B9] at *; omega)
  simp only [B9] at *
  omega
theorem InB.append {B : Nat} {xs ys : List Int} (h : InB B xs) (h' : InB B ys) : InB B (xs ++ ys) := fun x hx => by
  rcases List.mem_append.1 hx with hx | hx
  · exact h x hx
  · exact h' x hx
theorem InB.one {B x : Nat} (h : x < B) : InB B [(x : Int)] := fun y hy => by
  rw [List.mem_singleton] at hy
  omega
theorem InB.drop {B : Nat} {xs : List Int} (h : InB B xs) (n : Nat) : InB B (xs.drop n) := fun x hx => h x (List.mem_of_mem_drop hx)
theorem InB.rep {B n : Nat} (h : 1 < B) : InB B (rep B n) := (ok_rep h n).1
theorem times_step {b pre acc mid zs : List Int} (hb : InB B9 b) {x c i k y : Nat} {p : Unit × List Int × Unit} (hx : x < B9) (hy : y < B9) (hc : c < B9) (hi : pre.length = i) (hk : acc.length = k) (hkb : k < b.length) (hs : (pre ++ (acc ++ (y : Int) :: mid) ++ zs).length < 1000000000) :
    exact_nat__times_l1 b (x : Int) ((), (i : Int), p.2) ((), (c : Int), (k : Int), pre ++ (acc ++ (y : Int) :: mid) ++ zs, ()) =
      some (.inl ((), (((x * dig b k + y + c) / B9 : Nat) : Int), ((k + 1 : Nat) : Int), pre ++ ((acc ++ [(((x * dig b k + y + c) % B9 : Nat) : Int)]) ++ mid) ++ zs, ())) := by
  have db := dig_lt (B := B9) (by decide) hb k
  have hp := prod_lt hx db hy hc
  have hxy : x * dig b k < B9 * B9 := by omega
  have hm := Nat.mod_lt (x * dig b k + y + c) (show B9 > 0 by decide)
  have e : pre ++ (acc ++ (y : Int) :: mid) ++ zs = (pre ++ acc) ++ (y : Int) :: (mid ++ zs) := by simp
  have hlen : ((pre ++ acc) ++ (y : Int) :: (mid ++ zs)).length < 1000000000 := by rw [← e]; exact hs
  have hl : (pre ++ acc).length = i + k := by simp [hi, hk]
  have hlen2 : i + k < ((pre ++ acc) ++ (y : Int) :: (mid ++ zs)).length := by
    rw [← hl]
    simp
  have w1 : IntKind.i64.wrap ((i : Int) + (k : Int)) = ((i + k : Nat) : Int) := by rw [wrap_i64 (by omega) (by omega)]; omega
  have w2 := wrapI1 (i := k) (by omega)
  have hin := inb_nat hlen2
  have c1 : (k : Int) < (b.length : Int) := by omega
  simp only [B9] at hx hy hc db hp hxy hm
  have m1 : IntKind.u64.wrap (IntKind.u64.wrap (x : Int) * IntKind.u64.wrap (dig b k : Int)) = ((x * dig b k : Nat) : Int) := by
    rw [wrap_u64i (n := (x : Int)) (by omega) (by omega), wrap_u64i (n := (dig b k : Int)) (by omega) (by omega), ← Int.natCast_mul]
    generalize x * dig b k = z at *
    rw [wrap_u64i (by omega) (by omega)]
  have m2 : IntKind.u64.wrap (IntKind.u64.wrap (((x * dig b k : Nat) : Int) + IntKind.u64.wrap (y : Int)) + (c : Int)) = ((x * dig b k + y + c : Nat) : Int) := by
    generalize x * dig b k = z at *
    rw [wrap_u64i (n := (y : Int)) (by omega) (by omega), wrap_u64i (n := (z : Int) + _) (by omega) (by omega), wrap_u64i (by omega) (by omega)]
    omega
  have q1 := quo_u64 (a := x * dig b k + y + c) (b := 1000000000) (by omega) (by generalize x * dig b k = z at *; omega)
  have q2 := rem_nat (a := x * dig b k + y + c) (b := 1000000000) (by omega)
  have q1' : quo .u64 ((x * dig b k + y + c : Nat) : Int) 1000000000 = _ := q1
  have q2' : rem ((x * dig b k + y + c : Nat) : Int) 1000000000 = _ := q2
  have w3 : IntKind.u32.wrap (((x * dig b k + y + c) % 1000000000 : Nat) : Int) = (((x * dig b k + y + c) % 1000000000 : Nat) : Int) := by
    generalize (x * dig b k + y + c) % 1000000000 = z at *
    rw [wrap_u32i (by omega) (by omega)]
  rw [e]
  unfold exact_nat__times_l1
  dsimp only
  rw [decide_eq_true c1, cond_true, idx_dig hb hkb]
  simp only [Option.bind_some, w1, hin, chk_t, Int.toNat_natCast, getD_mid hl, set_mid hl, m1, m2, q1', q2', w3, w2]
  simp
theorem times_inner {b pre mid zs : List Int} (hb : InB B9 b) {x i : Nat} {p : Unit × List Int × Unit} (hx : x < B9) (hi : pre.length = i) (hmid : InB B9 mid) (hml : mid.length = b.length) (hs : (pre ++ mid ++ zs).length < 1000000000) :
    ∀ f k c (acc : List Int), k + f = b.length → acc.length = k → InB B9 acc → c < B9 →
    val B9 acc + B9 ^ k * (c + x * val B9 (b.drop k) + val B9 (mid.drop k)) = x * val B9 b + val B9 mid →
    ∃ acc' c', Halts (exact_nat__times_l1 b (x : Int) ((), (i : Int), p.2)) f ((), (c : Int), (k : Int), pre ++ (acc ++ mid.drop k) ++ zs, ()) ((), ((c' : Nat) : Int), pre ++ acc' ++ zs, ()) ∧ InB B9 acc' ∧ acc'.length = b.length ∧ c' < B9 ∧ val B9 acc' + B9 ^ b.length * c' = x * val B9 b + val B9 mid
  | 0, k, c, acc, hf, hk, hacc, hc, hv => by
    have e1 : b.drop k = [] := List.drop_of_length_le (by omega)
    have e2 : mid.drop k = [] := List.drop_of_length_le (by omega)
    rw [e1, e2] at hv
    rw [e2, List.append_nil]
    refine ⟨acc, c, .done ?_, hacc, by omega, hc, ?_⟩
    · have c1 : ¬(k : Int) < (b.length : Int) := by omega
      unfold exact_nat__times_l1
      dsimp only
      rw [decide_eq_false c1, cond_false]
    · simp only [val, Nat.mul_zero, Nat.add_zero] at hv
      rw [← hv, show b.length = k by omega]
  | f + 1, k, c, acc, hf, hk, hacc, hc, hv => by
    have db := dig_lt (B := B9) (by decide) hb k
    have dm := dig_lt (B := B9) (by decide) hmid k
    have hp := prod_lt hx db dm hc
    have e := drop_dig hmid (show k < mid.length by omega)
    have hlen : (pre ++ (acc ++ (dig mid k : Int) :: mid.drop (k + 1)) ++ zs).length < 1000000000 := by
      have : (mid.drop (k + 1)).length = mid.length - (k + 1) := List.length_drop
      simp only [List.length_append, List.length_cons] at hs ⊢
      omega
    have hstep := times_step (p := p) hb hx dm hc hi hk (show k < b.length by omega) hlen
    have va := val_drop (B := B9) b k
    have vb := val_drop (B := B9) mid k
    have hdm := Nat.div_add_mod (x * dig b k + dig mid k + c) B9
    have hml := Nat.mod_lt (x * dig b k + dig mid k + c) (show B9 > 0 by decide)
    have hq : (x * dig b k + dig mid k + c) / B9 < B9 := Nat.div_lt_of_lt_mul hp
    generalize hqq : (x * dig b k + dig mid k + c) / B9 = q at *
    generalize hrr : (x * dig b k + dig mid k + c) % B9 = r at *
    obtain ⟨acc', c', h1, h2, h3, h4, h5⟩ := times_inner hb hx hi hmid (by omega) hs (p := p) f (k + 1) q (acc ++ [(r : Int)]) (by omega) (by simp [hk]) (hacc.append (.one hml)) hq (by
      rw [val_append, hk, Nat.pow_succ, ← hv, va, vb]
      simp only [val, Nat.mul_zero, Nat.add_zero, Int.toNat_natCast]
      generalize val B9 (b.drop (k + 1)) = V
      generalize val B9 (mid.drop (k + 1)) = W
      generalize B9 ^ k = P
      generalize B9 = K at *
      grind)
    rw [e]
    exact ⟨acc', c', .step hstep h1, h2, h3, h4, h5⟩
theorem times_outer {a b : List Int} (ha : InB B9 a) (hb : InB B9 b) (hs : a.length + b.length < 1000000000) : ∀ f i (pre mid : List Int), i + f = a.length → pre.length = i → mid.length = b.length → InB B9 pre → InB B9 mid →
    val B9 pre + B9 ^ i * (val B9 mid + val B9 (a.drop i) * val B9 b) = val B9 a * val B9 b →
    ∃ out, Halts (exact_nat__times_l2 a b) f ((), (i : Int), pre ++ mid ++ List.replicate f 0, ()) ((), out, ()) ∧ InB B9 out ∧ val B9 out = val B9 a * val B9 b ∧ out.length = a.length + b.length
  | 0, i, pre, mid, hf, hi, hm, hpre, hmid, hv => by
    have e1 : a.drop i = [] := List.drop_of_length_le (by omega)
    rw [e1] at hv
    rw [List.replicate_zero, List.append_nil]
    refine ⟨pre ++ mid, .done ?_, hpre.append hmid, ?_, by simp; omega⟩
    · have c1 : ¬(i : Int) < (a.length : Int) := by omega
      unfold exact_nat__times_l2
      dsimp only
      rw [decide_eq_false c1, cond_false]
    · rw [val_append, hi, ← hv]
      simp [val]
  | f + 1, i, pre, mid, hf, hi, hm, hpre, hmid, hv => by
    have da := dig_lt (B := B9) (by decide) ha i
    have hlen : (pre ++ mid ++ List.replicate (f + 1) (0 : Int)).length < 1000000000 := by
      simp only [List.length_append, List.length_replicate]
      omega
    obtain ⟨acc, c, h1, h2, h3, h4, h5⟩ := times_inner (pre := pre) (mid := mid) (zs := List.replicate (f + 1) 0) (p := ((), pre ++ mid ++ List.replicate (f + 1) 0, ())) hb da hi hmid hm hlen b.length 0 0 [] (by omega) rfl (fun _ h => by cases h) (by decide) (by simp [val])
    have va := val_drop (B := B9) a i
    obtain ⟨hd, tl, hcons⟩ : ∃ hd tl, acc ++ [(c : Int)] = hd :: tl := by
      cases h : acc ++ [(c : Int)] with
      | nil => simp at h
      | cons x r => exact ⟨x, r, rfl⟩
    have hall : InB B9 (hd :: tl) := by rw [← hcons]; exact h2.append (.one h4)
    have hlt : (hd :: tl).length = b.length + 1 := by rw [← hcons]; simp [h3]
    have hval : val B9 (hd :: tl) = dig a i * val B9 b + val B9 mid := by
      rw [← hcons, val_append, h3, ← h5]
      simp [val]
    have hlt' : tl.length = b.length := by simpa using hlt
    obtain ⟨out, o1, o2, o3, o4⟩ := times_outer ha hb hs f (i + 1) (pre ++ [hd]) tl (by omega) (by simp [hi]) hlt' (hpre.append (fun x hx => by
      rw [List.mem_singleton] at hx
      subst hx
      exact hall.head)) hall.tail (by
      simp only [val] at hval
      rw [va] at hv
      rw [val_append, hi, Nat.pow_succ, ← hv]
      simp only [val, Nat.mul_zero, Nat.add_zero]
      generalize val B9 (a.drop (i + 1)) = V at *
      generalize B9 ^ i = P at *
      generalize B9 = K at *
      grind)
    refine ⟨out, .step ?_ o1, o2, o3, o4⟩
    have c1 : (i : Int) < (a.length : Int) := by omega
    have w1 : IntKind.i64.wrap ((i : Int) + (b.length : Int)) = ((i + b.length : Nat) : Int) := by rw [wrap_i64 (by omega) (by omega)]; omega
    have w2 := wrapI1 (i := i) (by omega)
    have hl : (pre ++ acc).length = i + b.length := by simp [hi, h3]
    have hin : inb ((i + b.length : Nat) : Int) (pre ++ acc ++ List.replicate (f + 1) (0 : Int)).length = true := inb_nat (by
      rw [List.length_append, hl, List.length_replicate]
      omega)
    have w3 : IntKind.u32.wrap (c : Int) = (c : Int) := by
      simp only [B9] at h4
      rw [wrap_u32i (by omega) (by omega)]
    have := h1.loop (by omega)
    simp only [List.nil_append, List.drop_zero] at this
    unfold exact_nat__times_l2
    dsimp only
    rw [decide_eq_true c1, cond_true, idx_dig ha (by omega), Option.bind_some]
    erw [this]
    simp only [Option.bind_some, w1, hin, chk_t, Int.toNat_natCast, w2, w3]
    have hset : (pre ++ acc ++ List.replicate (f + 1) (0 : Int)).set (i + b.length) (c : Int) = pre ++ [hd] ++ tl ++ List.replicate f 0 := by
      rw [List.replicate_succ, set_mid hl]
      have : pre ++ acc ++ (c : Int) :: List.replicate f 0 = pre ++ (acc ++ [(c : Int)]) ++ List.replicate f 0 := by simp
      rw [this, hcons]
      simp
    rw [hset]
theorem times_list {a b : List Int} (ha : InB B9 a) (hb : InB B9 b) (hs : a.length + b.length < 1000000000) : exact_nat__times a b = some (rep B9 (val B9 a * val B9 b), ()) := by
  obtain ⟨out, o1, o2, o3, o4⟩ := times_outer ha hb hs a.length 0 [] (List.replicate b.length 0) (by omega) rfl (by simp) (fun _ h => by cases h) (fun x hx => by
    rw [(List.mem_replicate.1 hx).2]
    decide) (by
    have : ∀ n, val B9 (List.replicate n 0) = 0 := fun n => by
      induction n with
      | zero => rfl
      | succ n ih => simp [List.replicate_succ, val, ih]
    simp [val, this])
  have w1 : IntKind.i64.wrap ((a.length : Int) + (b.length : Int)) = ((a.length + b.length : Nat) : Int) := by rw [wrap_i64 (by omega) (by omega)]; omega
  have hr : [] ++ List.replicate b.length (0 : Int) ++ List.replicate a.length 0 = List.replicate (a.length + b.length) 0 := by rw [List.nil_append, List.replicate_append_replicate, Nat.add_comm]
  rw [hr] at o1
  have := o1.loop (by omega)
  unfold exact_nat__times
  rw [w1, mk_nat (by omega), Option.bind_some]
  erw [this]
  rw [Option.bind_some]
  dsimp only
  rw [trim_eq (by omega), trim_rep (by decide) o2, o3]
  rfl
theorem times_eq {a b : Nat} (ha : dl a < 1000000) (hb : dl b < 1000000) : exact_nat__times (rep B9 a) (rep B9 b) = some (rep B9 (a * b), ()) := by
  have h1 := rep_len9 a
  have h2 := rep_len9 b
  rw [times_list (.rep (by decide)) (.rep (by decide)) (by omega), val_rep (by decide), val_rep (by decide)]
theorem nplus_eq {a b : Nat} (ha : dl a < 1000000) (hb : dl b < 1000000) : exact_nat__plus (rep B9 a) (rep B9 b) = some (rep B9 (a + b), ()) := by
  have h1 := rep_len9 a
  have h2 := rep_len9 b
  obtain ⟨out, o1, o2, o3, o4⟩ := plus_eq (ok_rep (B := B9) (by decide) a) (ok_rep (B := B9) (by decide) b) (by omega) (by omega)
  rw [o1, rep_eq (by decide) o2 o3]
  congr 3
  rw [show val 1000000000 (rep B9 a) = a from val_rep (B := B9) (by decide) a, show val 1000000000 (rep B9 b) = b from val_rep (B := B9) (by decide) b]
theorem ncompare_eq {a b : Nat} (ha : dl a < 1000000) (hb : dl b < 1000000) : ∃ c : Int, exact_nat__compare (rep B9 a) (rep B9 b) = some (c, ()) ∧ (c < 0 ↔ a < b) ∧ (c = 0 ↔ a = b) := by
  have h1 := rep_len9 a
  have h2 := rep_len9 b
  obtain ⟨c, o1, o2, o3⟩ := compare_eq (B := B9) (by decide) (ok_rep (by decide) a) (ok_rep (by decide) b) (by omega) (by omega)
  rw [val_rep (by decide), val_rep (by decide)] at o2 o3
  exact ⟨c, o1, o2, o3⟩
end Go.Proofs.YtmkpdineahbfkaaGreatDoor

namespace Go.Proofs.YtmkpdineahbfkaaGreatDoor
open Go Go.Fe

/-! ### A digit of a quotient -/
theorem trim_one {q : Nat} (h : q < B9) : exact_nat__trim [(q : Int)] = some (rep B9 q, ()) := by
  rw [trim_eq (by simp), trim_rep (by decide) (.one h)]
  simp [val]
theorem dl_small {n : Nat} (h : n < B9) : dl n ≤ 9 := dl_le.2 h
theorem high_halts {r b : List Int} (hr : InB B9 r) (hb : b ≠ []) (hl : r.length ≤ b.length + 1) (hs : b.length < 1000000000) : ∀ n i, i = b.length - 1 + n → i ≤ r.length →
    Halts (exact_digit_l1 b r) n ((val B9 (r.drop i) : Int), (i : Int) - 1, ()) ((val B9 (r.drop (b.length - 1)) : Int), ())
  | 0, i, hi, _ => by
    have h0 : 0 < b.length := List.length_pos_iff.2 hb
    have w : IntKind.i64.wrap ((b.length : Int) - 1) = ((b.length - 1 : Nat) : Int) := by rw [wrap_i64 (by omega) (by omega)]; omega
    refine .done ?_
    have c : ¬((b.length - 1 : Nat) : Int) ≤ (i : Int) - 1 := by omega
    unfold exact_digit_l1
    dsimp only
    rw [w, decide_eq_false c, cond_false, hi]
    rfl
  | n + 1, i, hi, hir => by
    have h0 : 0 < b.length := List.length_pos_iff.2 hb
    obtain ⟨j, rfl⟩ : ∃ j, i = j + 1 := ⟨i - 1, by omega⟩
    have ih := high_halts hr hb hl hs n j (by omega) (by omega)
    refine .step ?_ ih
    have w : IntKind.i64.wrap ((b.length : Int) - 1) = ((b.length - 1 : Nat) : Int) := by rw [wrap_i64 (by omega) (by omega)]; omega
    have e : ((j + 1 : Nat) : Int) - 1 = (j : Int) := by omega
    have c : ((b.length - 1 : Nat) : Int) ≤ (j : Int) := by omega
    have w2 : IntKind.i64.wrap ((j : Int) - 1) = (j : Int) - 1 := wrap_i64 (by omega) (by omega)
    have dr := dig_lt (B := B9) (by decide) hr j
    have hv := val_drop (B := B9) r j
    have h1 := val_lt (hr.drop (j + 1))
    have h2 : B9 ^ (r.drop (j + 1)).length ≤ B9 ^ 1 := Nat.pow_le_pow_right (by decide) (by rw [List.length_drop]; omega)
    rw [Nat.pow_one] at h2
    unfold exact_digit_l1
    dsimp only
    rw [e, w, decide_eq_true c, cond_true, idx_dig hr (by omega)]
    simp only [B9] at *
    have m1 : IntKind.u64.wrap (IntKind.u64.wrap ((val 1000000000 (r.drop (j + 1)) : Int) * 1000000000) + IntKind.u64.wrap (dig r j : Int)) = (val 1000000000 (r.drop j) : Int) := by
      rw [hv]
      generalize val 1000000000 (r.drop (j + 1)) = V at *
      rw [wrap_u64i (n := (dig r j : Int)) (by omega) (by omega), wrap_u64i (n := (V : Int) * 1000000000) (by omega) (by omega), wrap_u64i (by omega) (by omega)]
      omega
    simp only [Option.bind_some, m1, w2]
theorem search_halts {r b : Nat} (hb : 0 < b) (hsr : dl r < 1000000) (hsb : dl b < 100000) : ∀ d low top, top ≤ low + d → low ≤ r / b → r / b ≤ top → top < B9 →
    Halts (exact_digit_l2 (rep B9 b) (rep B9 r)) d ((low : Int), (top : Int), ()) (((r / b : Nat) : Int), ())
  | d, low, top, hd, h1, h2, h3 => by
    by_cases g : low < top
    · cases d with
      | zero => omega
      | succ d =>
        have c : (low : Int) < (top : Int) := by omega
        simp only [B9] at h3
        have w1 : IntKind.u64.wrap (IntKind.u64.wrap ((low : Int) + (top : Int)) + 1) = ((low + top + 1 : Nat) : Int) := by
          rw [wrap_u64i (n := (low : Int) + (top : Int)) (by omega) (by omega), wrap_u64i (by omega) (by omega)]
          omega
        have q1 : quo .u64 ((low + top + 1 : Nat) : Int) 2 = some (((low + top + 1) / 2 : Nat) : Int) := quo_u64 (b := 2) (by omega) (by omega)
        generalize hm : (low + top + 1) / 2 = m at *
        have w2 : IntKind.u32.wrap (m : Int) = (m : Int) := wrap_u32i (by omega) (by omega)
        have w3 : IntKind.u64.wrap ((m : Int) - 1) = ((m - 1 : Nat) : Int) := by rw [wrap_u64i (by omega) (by omega)]; omega
        have hm9 : m < B9 := by simp only [B9]; omega
        have dm := dl_small hm9
        obtain ⟨c', hc1, hc2, hc3⟩ := ncompare_eq (a := b * m) (b := r) (by have := dl_mul b m; omega) hsr
        have hmq : b * m ≤ r ↔ m ≤ r / b := by rw [Nat.le_div_iff_mul_le hb, Nat.mul_comm]
        have hst : exact_digit_l2 (rep B9 b) (rep B9 r) ((low : Int), (top : Int), ()) = if m ≤ r / b then some (.inl ((m : Int), (top : Int), ())) else some (.inl ((low : Int), ((m - 1 : Nat) : Int), ())) := by
          unfold exact_digit_l2
          dsimp only
          rw [decide_eq_true c, cond_true, w1, q1]
          simp only [Option.bind_some, w2, trim_one hm9, times_eq (show dl b < 1000000 by omega) (show dl m < 1000000 by omega), hc1, w3]
          by_cases g2 : m ≤ r / b
          · have : c' ≤ 0 := by
              have := hmq.2 g2
              omega
            rw [decide_eq_true this, cond_true, if_pos g2]
          · have : ¬c' ≤ 0 := by
              have : ¬b * m ≤ r := fun h => g2 (hmq.1 h)
              omega
            rw [decide_eq_false this, cond_false, if_neg g2]
        by_cases g2 : m ≤ r / b
        · rw [if_pos g2] at hst
          exact .step hst (search_halts hb hsr hsb d m top (by omega) g2 h2 h3)
        · rw [if_neg g2] at hst
          exact .step hst (search_halts hb hsr hsb d low (m - 1) (by omega) h1 (by omega) (by simp only [B9]; omega))
    · have c : ¬(low : Int) < (top : Int) := by omega
      refine .done ?_
      unfold exact_digit_l2
      dsimp only
      rw [decide_eq_false c, cond_false, show low = r / b by omega]
theorem digit_eq {r b : Nat} (hb : 0 < b) (hr : r < b * B9) (hsr : dl r < 1000000) (hsb : dl b < 100000) : exact_digit (rep B9 r) (rep B9 b) = some (((r / b : Nat) : Int), ()) := by
  obtain ⟨c, hc1, hc2, hc3⟩ := ncompare_eq (a := r) (b := b) hsr (by omega)
  unfold exact_digit
  rw [hc1, Option.bind_some]
  dsimp only
  by_cases g : r < b
  · rw [decide_eq_true (hc2.2 g), cond_true, Nat.div_eq_of_lt g]
    rfl
  · rw [decide_eq_false (fun h => g (hc2.1 h)), cond_false]
    have hq : r / b < B9 := Nat.div_lt_of_lt_mul hr
    have lr := rep_len9 r
    have lb := rep_len9 b
    have vr := val_rep (B := B9) (by decide) r
    have vb := val_rep (B := B9) (by decide) b
    have ir : InB B9 (rep B9 r) := .rep (by decide)
    have okb := ok_rep (B := B9) (by decide) b
    have okr := ok_rep (B := B9) (by decide) r
    have hbn : rep B9 b ≠ [] := by rw [Ne, rep_nil (by decide)]; omega
    have hb0 : 0 < (rep B9 b).length := List.length_pos_iff.2 hbn
    have hlen : (rep B9 r).length ≤ (rep B9 b).length + 1 := by
      have h1 := val_lt okb.1
      have h2 := ok_ge okr (by rw [Ne, rep_nil (by decide)]; omega)
      rw [vr] at h2
      rw [vb] at h1
      have h3 : B9 ^ ((rep B9 r).length - 1) < B9 ^ ((rep B9 b).length + 1) := by
        rw [Nat.pow_succ]
        have := Nat.mul_le_mul_right B9 (Nat.le_of_lt h1)
        omega
      have := (Nat.pow_lt_pow_iff_right (show 1 < B9 by decide)).1 h3
      omega
    have hlen2 : (rep B9 b).length ≤ (rep B9 r).length := by
      rcases Nat.lt_or_ge (rep B9 r).length (rep B9 b).length with h | h
      · exfalso
        have h1 := ok_ge okb hbn
        have h2 := val_lt okr.1
        rw [vr] at h2
        rw [vb] at h1
        have := Nat.pow_le_pow_right (show 0 < B9 by decide) (show (rep B9 r).length ≤ (rep B9 b).length - 1 by omega)
        omega
      · exact h
    generalize hx : rep B9 r = xs at *
    generalize hy : rep B9 b = ys at *
    obtain ⟨k, hk⟩ : ∃ k, ys.length = k + 1 := ⟨ys.length - 1, by omega⟩
    have wx : IntKind.i64.wrap ((xs.length : Int) - 1) = (xs.length : Int) - 1 := wrap_i64 (by omega) (by omega)
    have wy : IntKind.i64.wrap ((ys.length : Int) - 1) = (k : Int) := by rw [wrap_i64 (by omega) (by omega)]; omega
    have hh := high_halts ir hbn hlen (by omega) (xs.length - k) xs.length (by omega) (Nat.le_refl _)
    have e0 : val B9 (xs.drop xs.length) = 0 := by rw [List.drop_of_length_le (Nat.le_refl _)]; rfl
    rw [e0, show ys.length - 1 = k by omega] at hh
    have hloop := hh.loop (by omega)
    have dy := dig_lt (B := B9) (by decide) okb.1 k
    have hhigh := val_lt (ir.drop k)
    have hh2 : B9 ^ (xs.drop k).length ≤ B9 ^ 2 := Nat.pow_le_pow_right (by decide) (by rw [List.length_drop]; omega)
    have py : val B9 ys = dig ys k * B9 ^ k + val B9 (ys.take k) := by
      have := val_append B9 (ys.take k) (ys.drop k)
      rw [List.take_append_drop, drop_dig okb.1 (by omega), List.drop_of_length_le (by omega), List.length_take, Nat.min_eq_left (by omega)] at this
      rw [this]
      simp only [val, Nat.mul_zero, Nat.add_zero, Int.toNat_natCast]
      rw [Nat.mul_comm, Nat.add_comm]
    have px : val B9 xs = val B9 (xs.drop k) * B9 ^ k + val B9 (xs.take k) := by
      have := val_append B9 (xs.take k) (xs.drop k)
      rw [List.take_append_drop, List.length_take, Nat.min_eq_left (by omega)] at this
      rw [this, Nat.mul_comm, Nat.add_comm]
    have ly := val_lt (okb.1.take k)
    have lx := val_lt (ir.take k)
    rw [List.length_take, Nat.min_eq_left (by omega)] at ly lx
    have ytop : 0 < dig ys k := by
      have h1 := ok_ge okb hbn
      rw [py, show ys.length - 1 = k by omega] at h1
      rcases Nat.eq_zero_or_pos (dig ys k) with h | h
      · rw [h] at h1
        omega
      · exact h
    have b1 := quot_low (h := val B9 (xs.drop k)) (rl := val B9 (xs.take k)) ly (by rw [← py, vb]; exact hb)
    have b2 := quot_high (h := val B9 (xs.drop k)) (bl := val B9 (ys.take k)) lx ytop
    rw [← py, ← px, vr, vb] at b1 b2
    generalize val B9 (xs.drop k) = H at *
    have hH : H < 18446744073709551616 := by
      have : B9 ^ 2 = 1000000000000000000 := by decide
      omega
    rw [wx]
    erw [hloop]
    simp only [Option.bind_some]
    rw [wy, idx_dig okb.1 (by omega)]
    simp only [Option.bind_some]
    simp only [B9] at dy hq
    have w1 : IntKind.u64.wrap (dig ys k : Int) = (dig ys k : Int) := wrap_u64i (by omega) (by omega)
    have w2 : IntKind.u64.wrap ((dig ys k : Int) + 1) = ((dig ys k + 1 : Nat) : Int) := by rw [wrap_u64i (by omega) (by omega)]; omega
    rw [w1, w2, quo_u64 (by omega) hH, quo_u64 (by omega) hH]
    simp only [Option.bind_some]
    have hm : mn ((H / dig ys k : Nat) : Int) 999999999 = ((min (H / dig ys k) 999999999 : Nat) : Int) := by
      generalize H / dig ys k = z
      unfold mn
      split <;> omega
    rw [hm]
    have hs := search_halts hb hsr hsb (min (H / dig ys k) 999999999) (H / (dig ys k + 1)) (min (H / dig ys k) 999999999) (Nat.le_add_left _ _) b1 (Nat.le_min.2 ⟨b2, by omega⟩) (Nat.lt_of_le_of_lt (Nat.min_le_right _ _) (by decide))
    rw [hx, hy] at hs
    rw [hs.loop (Nat.lt_of_le_of_lt (Nat.min_le_right _ _) (by decide)), Option.bind_some]
    dsimp only
    generalize r / b = q at *
    rw [wrap_u32i (by omega) (by omega)]
end Go.Proofs.YtmkpdineahbfkaaGreatDoor

namespace Go.Proofs.YtmkpdineahbfkaaGreatDoor
open Go Go.Fe

/-! ### Dividing -/
theorem divide_step {a : List Int} {b : Nat} (ha : InB B9 a) (hb : 0 < b) (hsb : dl b < 100000) (hs : a.length < 1000000) {i r : Nat} {qs : List Int} (hi : i < a.length) (hr : r < b) (hql : (List.replicate (i + 1) (0 : Int) ++ qs).length = a.length) :
    exact_divide_l1 a (rep B9 b) ((), rep B9 r, (i : Int), List.replicate (i + 1) 0 ++ qs, ()) =
      some (.inl ((), rep B9 ((dig a i + B9 * r) % b), (i : Int) - 1, List.replicate i 0 ++ (((dig a i + B9 * r) / b : Nat) : Int) :: qs, ())) := by
  have da := dig_lt (B := B9) (by decide) ha i
  have hdr : dl r ≤ dl b := dl_mono (by omega)
  have lr := rep_len9 r
  have c : (0 : Int) ≤ (i : Int) := by omega
  have w : IntKind.i64.wrap ((i : Int) - 1) = (i : Int) - 1 := wrap_i64 (by omega) (by omega)
  have hcat : cat [(dig a i : Int)] (rep B9 r) = some ((dig a i : Int) :: rep B9 r) := cat_ok (by simp; omega)
  have htrim : exact_nat__trim ((dig a i : Int) :: rep B9 r) = some (rep B9 (dig a i + B9 * r), ()) := by
    have hin : InB B9 ((dig a i : Int) :: rep B9 r) := InB.append (.one da) (.rep (by decide))
    rw [trim_eq (by simp; omega), trim_rep (by decide) hin]
    simp [val, val_rep (B := B9) (by decide)]
  have hR : dig a i + B9 * r < b * B9 := by
    have := Nat.mul_le_mul_right B9 (show r + 1 ≤ b from hr)
    rw [Nat.add_mul, Nat.mul_comm] at this
    omega
  have hdR : dl (dig a i + B9 * r) ≤ dl b + 10 := by
    have h1 := dl_mono (Nat.le_of_lt hR)
    have h2 := dl_mul b B9
    have h3 : dl B9 = 10 := dl_ten 9
    omega
  have hq := digit_eq hb hR (by omega) hsb
  have hqlt : (dig a i + B9 * r) / b < B9 := Nat.div_lt_of_lt_mul hR
  have hle : b * ((dig a i + B9 * r) / b) ≤ dig a i + B9 * r := Nat.mul_div_le _ _
  have hmod : dig a i + B9 * r - b * ((dig a i + B9 * r) / b) = (dig a i + B9 * r) % b := by
    have := Nat.div_add_mod (dig a i + B9 * r) b
    omega
  generalize hRR : dig a i + B9 * r = R at *
  have dq := dl_small hqlt
  have e : List.replicate (i + 1) (0 : Int) ++ qs = List.replicate i 0 ++ 0 :: qs := by rw [List.replicate_succ']; simp
  have hin : inb (i : Int) (List.replicate (i + 1) (0 : Int) ++ qs).length = true := inb_nat (by omega)
  have hset : (List.replicate (i + 1) (0 : Int) ++ qs).set i ((R / b : Nat) : Int) = List.replicate i 0 ++ ((R / b : Nat) : Int) :: qs := by
    rw [e, set_mid (by simp)]
  have hget : (List.replicate i (0 : Int) ++ ((R / b : Nat) : Int) :: qs).getD i 0 = ((R / b : Nat) : Int) := getD_mid (by simp)
  have hin2 : inb (i : Int) (List.replicate i (0 : Int) ++ ((R / b : Nat) : Int) :: qs).length = true := by
    rw [← hset, List.length_set]
    exact hin
  unfold exact_divide_l1
  dsimp only
  rw [decide_eq_true c, cond_true, idx_dig ha hi]
  simp only [Option.bind_some, hcat, htrim, hq, hin, chk_t, Int.toNat_natCast, hset, hin2, hget, trim_one hqlt, times_eq (show dl b < 1000000 by omega) (show dl (R / b) < 1000000 by omega), minus_eq hle (show dl R < 1000000 by omega), hmod, w]
theorem divide_halts {a : List Int} {b : Nat} (ha : InB B9 a) (hb : 0 < b) (hsb : dl b < 100000) (hs : a.length < 1000000) : ∀ i r (qs : List Int), i + qs.length = a.length → r < b → InB B9 qs → val B9 (a.drop i) = val B9 qs * b + r →
    ∃ qs', Halts (exact_divide_l1 a (rep B9 b)) i ((), rep B9 r, (i : Int) - 1, List.replicate i 0 ++ qs, ()) ((), rep B9 (val B9 a % b), qs', ()) ∧ InB B9 qs' ∧ qs'.length = a.length ∧ val B9 qs' = val B9 a / b
  | 0, r, qs, hl, hr, hq, hv => by
    rw [List.drop_zero] at hv
    have h1 : val B9 a / b = val B9 qs ∧ val B9 a % b = r := by
      rw [hv]
      constructor
      · rw [Nat.add_comm, Nat.add_mul_div_right _ _ hb, Nat.div_eq_of_lt hr, Nat.zero_add]
      · rw [Nat.add_comm, Nat.add_mul_mod_self_right, Nat.mod_eq_of_lt hr]
    refine ⟨qs, .done ?_, hq, by omega, h1.1.symm⟩
    rw [h1.2]
    rfl
  | i + 1, r, qs, hl, hr, hq, hv => by
    have hstep := divide_step ha hb hsb hs (i := i) (r := r) (qs := qs) (by omega) hr (by simp; omega)
    have da := dig_lt (B := B9) (by decide) ha i
    have hR : dig a i + B9 * r < b * B9 := by
      have := Nat.mul_le_mul_right B9 (show r + 1 ≤ b from hr)
      rw [Nat.add_mul, Nat.mul_comm] at this
      omega
    have hqlt : (dig a i + B9 * r) / b < B9 := Nat.div_lt_of_lt_mul hR
    have hdm := Nat.div_add_mod (dig a i + B9 * r) b
    obtain ⟨qs', h1, h2, h3, h4⟩ := divide_halts ha hb hsb hs i ((dig a i + B9 * r) % b) ((((dig a i + B9 * r) / b : Nat) : Int) :: qs) (by simp; omega) (Nat.mod_lt _ hb) (InB.append (.one hqlt) hq) (by
      rw [val_drop, hv]
      simp only [val, Int.toNat_natCast]
      generalize (dig a i + B9 * r) % b = m at *
      generalize (dig a i + B9 * r) / b = q at *
      generalize B9 = K at *
      grind)
    refine ⟨qs', .step ?_ h1, h2, h3, h4⟩
    rw [show ((i + 1 : Nat) : Int) - 1 = (i : Int) by omega]
    exact hstep
theorem divide_eq {a b : Nat} (hb : 0 < b) (hsa : dl a < 1000000) (hsb : dl b < 100000) : exact_divide (rep B9 a) (rep B9 b) = some (rep B9 (a / b), rep B9 (a % b), ()) := by
  have la := rep_len9 a
  have va := val_rep (B := B9) (by decide) a
  obtain ⟨qs, h1, h2, h3, h4⟩ := divide_halts (a := rep B9 a) (.rep (by decide)) hb hsb (by omega) (rep B9 a).length 0 [] (by simp) hb (fun _ h => by cases h) (by simp [val])
  have w : IntKind.i64.wrap (((rep B9 a).length : Int) - 1) = ((rep B9 a).length : Int) - 1 := wrap_i64 (by omega) (by omega)
  have := h1.loop (by omega)
  rw [List.append_nil, rep_zero] at this
  unfold exact_divide
  rw [mk_nat (by omega), Option.bind_some, w, this, Option.bind_some]
  dsimp only
  rw [trim_eq (by omega), trim_rep (by decide) h2, h4, va]
  rfl
/-! ### The greatest common divisor -/
theorem zero_eq (n : Nat) : exact_nat__zero (rep B9 n) = some (decide (n = 0), ()) := by
  unfold exact_nat__zero
  by_cases h : n = 0
  · subst h
    rfl
  · have h1 : rep B9 n ≠ [] := by rw [Ne, rep_nil (by decide)]; exact h
    have h2 := List.length_pos_iff.2 h1
    rw [decide_eq_false h, decide_eq_false (by omega)]
theorem common_halts {sz : Nat} (hsz : sz < 100000) : ∀ k a b, a * b < 2 ^ k → b ≤ a → dl a ≤ sz → Halts exact_common_l1 (k + 1) (rep B9 a, rep B9 b, ()) (rep B9 (a.gcd b), ())
  | k, a, b, hk, hba, hs => by
    by_cases h0 : b = 0
    · refine .done ?_
      unfold exact_common_l1
      dsimp only
      rw [zero_eq, Option.bind_some]
      simp only [h0, decide_true, Bool.not_true, cond_false, Nat.gcd_zero_right]
    · have hstep : exact_common_l1 (rep B9 a, rep B9 b, ()) = some (.inl (rep B9 b, rep B9 (a % b), ())) := by
        unfold exact_common_l1
        dsimp only
        rw [zero_eq, Option.bind_some]
        simp only [h0, decide_false, Bool.not_false, cond_true]
        rw [divide_eq (by omega) (by omega) (by have := dl_mono hba; omega), Option.bind_some]
      cases k with
      | zero =>
        have := Nat.mul_le_mul (show 1 ≤ a by omega) (show 1 ≤ b by omega)
        have hm : a * b = 0 := by omega
        omega
      | succ k =>
        have hml := Nat.mod_lt a (show b > 0 by omega)
        have h2 : 2 * (a % b) ≤ a := by
          have := Nat.div_add_mod a b
          have := Nat.mul_le_mul_left b (show 1 ≤ a / b from Nat.div_pos hba (by omega))
          omega
        have hg : a.gcd b = b.gcd (a % b) := by rw [Nat.gcd_comm a b, Nat.gcd_rec b a, Nat.gcd_comm]
        rw [hg]
        refine .step hstep (common_halts hsz k b (a % b) ?_ (by omega) (by have := dl_mono hba; omega))
        have h3 := Nat.mul_le_mul_left b h2
        rw [Nat.pow_succ, Nat.mul_comm a b] at hk
        rw [Nat.mul_left_comm] at h3
        omega
theorem common_eq {a b : Nat} (hsa : dl a < 100000) (hsb : dl b < 100000) : exact_common (rep B9 a) (rep B9 b) = some (rep B9 (a.gcd b), ()) := by
  have key : ∀ {a b : Nat}, b ≤ a → dl a < 100000 → Halts exact_common_l1 1000000 (rep B9 a, rep B9 b, ()) (rep B9 (a.gcd b), ()) := by
    intro a b h hs
    have h1 : a * b < 2 ^ (4 * dl a + 4 * dl a) := by
      rw [Nat.pow_add]
      exact Nat.mul_lt_mul'' (lt_two a) (Nat.lt_of_le_of_lt h (lt_two a))
    exact (common_halts hs _ a b h1 h (Nat.le_refl _)).mono (by omega)
  have : Halts exact_common_l1 1000001 (rep B9 a, rep B9 b, ()) (rep B9 (a.gcd b), ()) := by
    rcases Nat.le_total b a with h | h
    · exact (key h hsa).mono (by omega)
    · by_cases he : a = b
      · subst he
        exact (key h hsa).mono (by omega)
      · refine .step ?_ (by rw [Nat.gcd_comm]; exact key h hsb)
        unfold exact_common_l1
        dsimp only
        rw [zero_eq, Option.bind_some]
        rw [decide_eq_false (by omega)]
        simp only [Bool.not_false, cond_true]
        rw [divide_eq (by omega) (by omega) (by omega), Option.bind_some]
        dsimp only
        rw [Nat.mod_eq_of_lt (by omega)]
  unfold exact_common
  rw [this.loop (by omega)]
  rfl
end Go.Proofs.YtmkpdineahbfkaaGreatDoor

