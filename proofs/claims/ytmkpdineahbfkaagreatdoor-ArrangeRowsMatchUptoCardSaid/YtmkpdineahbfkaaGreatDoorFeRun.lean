/- Words for the laws of plain functions: loops that end, and arithmetic within bounds. -/
import Derived.Test.YtmkpdineahbfkaaGreatDoorFeLaw
namespace Go.Fe
open Go

/-- From s the loop ends with r, after n rounds at the most. -/
def Halts {S R : Type} (f : S → Option (S ⊕ R)) (n : Nat) (s : S) (r : R) : Prop := ∀ m, n < m → loopK f m s = some r

section
variable {S R : Type} {f : S → Option (S ⊕ R)}
theorem Halts.done {s : S} {r : R} {n : Nat} (h : f s = some (.inr r)) : Halts f n s r := by
  intro m hm
  cases m with
  | zero => omega
  | succ m => simp only [loopK, h]
theorem Halts.step {s s' : S} {r : R} {n : Nat} (h : f s = some (.inl s')) (h' : Halts f n s' r) : Halts f (n + 1) s r := by
  intro m hm
  cases m with
  | zero => omega
  | succ m =>
    simp only [loopK, h]
    exact h' m (by omega)
theorem Halts.mono {s : S} {r : R} {n n' : Nat} (h : Halts f n s r) (hn : n ≤ n') : Halts f n' s r := fun m hm => h m (by omega)
theorem Halts.loop {s : S} {r : R} {n : Nat} (h : Halts f n s r) (hn : n < 1099511627776) : Go.Fe.loop f s = some r := h rounds hn
/-- Some rounds along a row of states. -/
theorem Halts.along {n : Nat} (st : Nat → S) {r : R} : ∀ (k : Nat), (∀ i, i < k → f (st i) = some (.inl (st (i + 1)))) → Halts f n (st k) r → Halts f (n + k) (st 0) r
  | 0, _, h => h
  | k + 1, hs, h => Halts.step (hs 0 (by omega)) (Halts.along (fun i => st (i + 1)) k (fun i hi => hs (i + 1) (by omega)) h)
theorem first_fail (p : Nat → Bool) (n : Nat) : (∀ i, i < n → p i = true) ∨ ∃ i, i < n ∧ p i = false ∧ ∀ j, j < i → p j = true := by
  induction n with
  | zero => exact .inl fun i hi => by omega
  | succ k ih =>
    rcases ih with h | ⟨i, h1, h2, h3⟩
    · cases hp : p k with
      | true =>
        refine .inl fun i hi => ?_
        by_cases e : i = k
        · subst e; exact hp
        · exact h i (by omega)
      | false => exact .inr ⟨k, by omega, hp, h⟩
    · exact .inr ⟨i, by omega, h2, h3⟩
/-- A look at each place of a row, up to the first that fails. -/
theorem Halts.scan (st : Nat → S) (p : Nat → Bool) (n : Nat) {r : R} (q : Nat → R) (hs : ∀ i, i < n → (∀ j, j < i → p j = true) → f (st i) = some (if p i = true then .inl (st (i + 1)) else .inr (q i))) (he : (∀ i, i < n → p i = true) → f (st n) = some (.inr r)) :
    (∀ i, i < n → p i = true) ∧ Halts f n (st 0) r ∨ ∃ i, i < n ∧ p i = false ∧ (∀ j, j < i → p j = true) ∧ Halts f n (st 0) (q i) := by
  rcases first_fail p n with h | ⟨i, h1, h2, h3⟩
  · have := Halts.along (f := f) (n := 0) st n (fun i hi => by rw [hs i hi (fun j hj => h j (by omega)), if_pos (h i hi)]) (.done (he h))
    exact .inl ⟨h, this.mono (by omega)⟩
  · have := Halts.along (f := f) (n := 0) st i (fun j hj => by rw [hs j (by omega) (fun k hk => h3 k (by omega)), if_pos (h3 j hj)]) (.done (r := q i) (by rw [hs i h1 h3, if_neg (by rw [h2]; decide)]))
    exact .inr ⟨i, h1, h2, h3, this.mono (by omega)⟩
theorem Halts.all (st : Nat → S) (p : Nat → Bool) (n : Nat) {r : R} {q : Nat → R} (hs : ∀ i, i < n → p i = true → f (st i) = some (.inl (st (i + 1)))) (hq : ∀ i, i < n → p i = false → f (st i) = some (.inr (q i))) (he : f (st n) = some (.inr r)) :
    (∀ i, i < n → p i = true) ∧ Halts f n (st 0) r ∨ ∃ i, i < n ∧ p i = false ∧ (∀ j, j < i → p j = true) ∧ Halts f n (st 0) (q i) :=
  Halts.scan st p n q (fun i hi _ => by
    cases h : p i with
    | true => exact hs i hi h
    | false => exact hq i hi h) (fun _ => he)
end

@[simp] theorem chk_t : chk true = some () := rfl
@[simp] theorem chk_f : chk false = none := rfl
theorem idx_lt {α : Type} {xs : List α} {i : Nat} (h : i < xs.length) : idx xs (i : Int) = some xs[i] := by rw [idx_nat, List.getElem?_eq_getElem h]
@[simp] theorem idx_zero {α : Type} {xs : List α} : idx xs 0 = xs[0]? := rfl
theorem cut_nat {α : Type} {xs : List α} {a b : Nat} (h : a ≤ b) (h' : b ≤ xs.length) : cut xs (a : Int) (b : Int) = some ((xs.take b).drop a) := by
  unfold cut
  rw [if_pos ⟨by omega, by omega, by omega⟩]
  simp
theorem cat_ok {α : Type} {xs ys : List α} (h : xs.length + ys.length ≤ 68719476736) : cat xs ys = some (xs ++ ys) := if_pos h
theorem mk_nat {α : Type} {n : Nat} {z : α} (h : n ≤ 68719476736) : mk (n : Int) (n : Int) z = some (List.replicate n z) := by
  unfold mk
  rw [if_pos ⟨by omega, by omega, by unfold lim; omega⟩]
  simp
theorem inb_nat {i n : Nat} (h : i < n) : inb (i : Int) n = true := by simp [inb, h]

theorem wrap_u8i {n : Int} (h : 0 ≤ n) (h' : n < 256) : IntKind.wrap .u8 n = n := by
  obtain ⟨m, rfl⟩ := Int.eq_ofNat_of_zero_le h
  rw [wrap_u8]
  omega
theorem ofByte_eq (c : UInt8) : ofByte c = (c.toNat : Int) := rfl
theorem byte_lt (c : UInt8) : c.toNat < 256 := c.toNat_lt
theorem byteOfInt_nat (n : Nat) : byteOfInt (n : Int) = UInt8.ofNat n := by simp [byteOfInt]
theorem rem_nat {a b : Nat} (h : b ≠ 0) : rem (a : Int) (b : Int) = some ((a % b : Nat) : Int) := by
  unfold rem
  rw [if_neg (by omega)]
  rfl
theorem quo_nat {a b : Nat} (h : b ≠ 0) (ha : a < 9223372036854775808) : quo .i64 (a : Int) (b : Int) = some ((a / b : Nat) : Int) := by
  unfold quo
  rw [if_neg (by omega), show (a : Int).tdiv (b : Int) = ((a / b : Nat) : Int) from rfl]
  have := Nat.div_le_self a b
  generalize a / b = c at this
  rw [wrap_i64 (by omega) (by omega)]

/-! ### Ways that meet again -/
theorem cond_some' {α : Type} (b : Bool) (x y : α) : (bif b then some x else some y) = some (bif b then x else y) := by cases b <;> rfl
theorem cond_pair {α β : Type} (b : Bool) (x y : α) (u v : β) : (bif b then (x, u) else (y, v)) = (bif b then x else y, bif b then u else v) := by cases b <;> rfl

end Go.Fe
