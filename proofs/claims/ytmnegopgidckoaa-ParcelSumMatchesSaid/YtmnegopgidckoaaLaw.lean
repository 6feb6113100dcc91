/- The plain law of the checksum: the table of bytes and the register of bits come to the same, for every string of at most 2 ^ 40 bytes. -/
import Derived.Test.YtmnegopgidckoaaFeLaw
import Derived.Test.YtmnegopgidckoaaFns
namespace Go.Proofs.Ytmnegopgidckoaa
open Go Go.Fe

def poly : Nat := 3988292384
def step (c : Nat) : Nat := (c / 2) ^^^ (if c % 2 = 1 then poly else 0)
def steps : Nat → Nat → Nat
  | 0, c => c
  | n + 1, c => step (steps n c)
def bit (c k : Nat) : Int := if c.testBit k = true then 1 else 0
def bits (c : Nat) : List Int := (List.range 32).map (bit c)
def table : List Int := (List.range 256).map fun x => (steps 8 x : Int)

theorem step_xor (a b : Nat) : step (a ^^^ b) = step a ^^^ step b := by
  have h := @Nat.xor_mod_two_eq_one a b
  unfold step
  rw [Nat.xor_div_two]
  rcases Nat.mod_two_eq_zero_or_one a with ha | ha <;> rcases Nat.mod_two_eq_zero_or_one b with hb | hb
  · have : ¬ (a ^^^ b) % 2 = 1 := by rw [h]; omega
    simp [this, ha, hb]
  · have : (a ^^^ b) % 2 = 1 := by rw [h]; omega
    simp [this, ha, hb, Nat.xor_assoc]
  · have : (a ^^^ b) % 2 = 1 := by rw [h]; omega
    simp only [this, ha, hb, if_true, Nat.zero_ne_one, if_false, Nat.xor_zero]
    rw [Nat.xor_assoc, Nat.xor_assoc, Nat.xor_comm poly]
  · have : ¬ (a ^^^ b) % 2 = 1 := by rw [h]; omega
    simp only [this, ha, hb, if_true, if_false, Nat.xor_zero]
    rw [Nat.xor_assoc, Nat.xor_comm poly, Nat.xor_assoc, Nat.xor_self, Nat.xor_zero]

theorem step_double (y : Nat) : step (2 * y) = y := by
  unfold step
  rw [if_neg (by omega), Nat.xor_zero]
  omega

theorem step_lt {c : Nat} (h : c < 4294967296) : step c < 4294967296 := by
  unfold step
  refine Nat.xor_lt_two_pow (n := 32) (by omega) ?_
  split <;> decide

theorem steps_lt {c : Nat} (h : c < 4294967296) : ∀ n, steps n c < 4294967296
  | 0 => h
  | n + 1 => step_lt (steps_lt h n)

theorem steps_xor (a b : Nat) : ∀ n, steps n (a ^^^ b) = steps n a ^^^ steps n b
  | 0 => rfl
  | n + 1 => by simp only [steps, steps_xor a b n, step_xor]

theorem steps_high (y : Nat) : ∀ n m, steps n (2 ^ (n + m) * y) = 2 ^ m * y
  | 0, m => by simp [steps]
  | n + 1, m => by
    have := steps_high y n (m + 1)
    rw [show n + 1 + m = n + (m + 1) by omega]
    simp only [steps, this]
    rw [Nat.pow_succ, show 2 ^ m * 2 * y = 2 * (2 ^ m * y) by rw [Nat.mul_comm (2 ^ m) 2, Nat.mul_assoc], step_double]

/-- A byte at once. -/
theorem byte_step {c b : Nat} (hb : b < 256) : steps 8 (c ^^^ b) = steps 8 ((c ^^^ b) % 256) ^^^ (c / 256) := by
  have h : (c ^^^ b) = ((c ^^^ b) % 256) ^^^ (256 * (c / 256)) := by
    have h1 : (c ^^^ b) / 256 = c / 256 := by
      have := @Nat.xor_div_two_pow c b 8
      rw [show (2 : Nat) ^ 8 = 256 from rfl] at this
      rw [this, Nat.div_eq_of_lt hb, Nat.xor_zero]
    have h2 : ((c ^^^ b) % 256) ^^^ (256 * ((c ^^^ b) / 256)) = (c ^^^ b) := by
      have : ∀ x : Nat, (x % 256) ^^^ (256 * (x / 256)) = x := fun x => by
        apply Nat.eq_of_testBit_eq
        intro i
        rw [Nat.testBit_xor, show (256 : Nat) = 2 ^ 8 from rfl, Nat.testBit_mod_two_pow, Nat.testBit_two_pow_mul, Nat.testBit_div_two_pow]
        by_cases hi : i < 8
        · simp [hi, show ¬ 8 ≤ i by omega]
        · simp [hi, show 8 ≤ i by omega]
      exact this _
    rw [h1] at h2
    exact h2.symm
  calc steps 8 (c ^^^ b) = steps 8 (((c ^^^ b) % 256) ^^^ (256 * (c / 256))) := by rw [← h]
    _ = _ := by
      rw [steps_xor]
      have := steps_high (c / 256) 8 0
      simp only [Nat.add_zero, Nat.pow_zero, Nat.one_mul] at this
      rw [show (256 : Nat) = 2 ^ 8 from rfl, this]

/-- A byte bit by bit. -/
def bitwise (c b : Nat) : Nat → Nat
  | 0 => c
  | j + 1 => step (bitwise c b j ^^^ (b / 2 ^ j % 2))

theorem bitwise_eq (c b : Nat) : ∀ j, steps j (c ^^^ b) = bitwise c b j ^^^ (b / 2 ^ j)
  | 0 => by simp [steps, bitwise]
  | j + 1 => by
    have h : b / 2 ^ j = (b / 2 ^ j % 2) ^^^ (2 * (b / 2 ^ (j + 1))) := by
      have h0 : ∀ x : Nat, x = (x % 2) ^^^ (2 * (x / 2)) := fun x => by
        apply Nat.eq_of_testBit_eq
        intro i
        rw [Nat.testBit_xor]
        cases i with
        | zero => simp
        | succ i =>
          rw [show 2 * (x / 2) = 2 ^ 1 * (x / 2) by rfl, Nat.testBit_two_pow_mul, show x % 2 = x % 2 ^ 1 by rfl, Nat.testBit_mod_two_pow]
          simp [Nat.testBit_div_two]
      have := h0 (b / 2 ^ j)
      rw [Nat.div_div_eq_div_mul, ← Nat.pow_succ] at this
      exact this
    simp only [steps, bitwise, bitwise_eq c b j]
    rw [step_xor, step_xor]
    conv => lhs; rw [h, step_xor, step_double]
    rw [Nat.xor_assoc]

theorem bitwise_byte {c b : Nat} (hb : b < 256) : bitwise c b 8 = steps 8 (c ^^^ b) := by
  rw [bitwise_eq, show (2 : Nat) ^ 8 = 256 from rfl, Nat.div_eq_of_lt hb, Nat.xor_zero]
theorem bitwise_lt {c b : Nat} (hc : c < 4294967296) : ∀ j, bitwise c b j < 4294967296
  | 0 => hc
  | j + 1 => step_lt (Nat.xor_lt_two_pow (n := 32) (bitwise_lt hc j) (by omega))

def crc (l : List UInt8) : Nat := l.foldl (fun c b => steps 8 (c ^^^ b.toNat)) 4294967295
theorem crc_lt (l : List UInt8) : crc l < 4294967296 := by
  unfold crc
  have : ∀ (l : List UInt8) c, c < 4294967296 → l.foldl (fun c b => steps 8 (c ^^^ b.toNat)) c < 4294967296 := by
    intro l
    induction l with
    | nil => intro c h; exact h
    | cons b l ih =>
      intro c h
      refine ih _ (steps_lt (Nat.xor_lt_two_pow (n := 32) h ?_) 8)
      have := b.toNat_lt
      omega
  exact this l _ (by decide)
theorem crc_take {s : List UInt8} {i : Nat} (h : i < s.length) : crc (s.take (i + 1)) = steps 8 (crc (s.take i) ^^^ s[i].toNat) := by
  unfold crc
  rw [List.take_add_one, List.getElem?_eq_getElem h, List.foldl_append]
  rfl

theorem table_eq : parcel_table = some (table, ()) := by kernel_rfl

theorem table_get {x : Nat} (h : x < 256) : table.getD x 0 = (steps 8 x : Int) := by
  unfold table
  simp [List.getD_eq_getElem?_getD, h]

/-- The sum by the table. -/
theorem sum_table (s : Str) (h : s.length < 1099511627776) : parcel_Sum s = some (((4294967295 ^^^ crc s : Nat) : Int), ()) := by
  unfold parcel_Sum
  rw [table_eq]
  simp only [Option.bind_some]
  have hl : loop (parcel_Sum_l24 s) ((), 4294967295, 0, table, ()) = some ((crc s : Int), ()) := by
    refine loop_seq (fun i => ((), (crc (s.take i) : Int), (i : Int), table, ())) s.length h (fun i hi => ?_) ?_
    · unfold parcel_Sum_l24
      simp only [idx_nat, List.getElem?_eq_getElem hi, Option.bind_some, show decide ((i : Int) < (s.length : Int)) = true by simpa using hi, cond_true, show shc 8 = some 8 from rfl]
      have hc := crc_lt (s.take i)
      have hb := s[i].toNat_lt
      have e1 : bxor .u8 (IntKind.u8.wrap (crc (s.take i) : Int)) (ofByte s[i]) = ((crc (s.take i) ^^^ s[i].toNat) % 256 : Nat) := by
        rw [wrap_u8, show ofByte s[i] = ((s[i].toNat : Nat) : Int) from rfl, bxor_u8 (by omega) (by omega)]
        congr 1
        rw [show (256 : Nat) = 2 ^ 8 from rfl, Nat.xor_mod_two_pow, Nat.mod_eq_of_lt (show s[i].toNat < 2 ^ 8 by omega)]
      rw [e1]
      have hlt : (crc (s.take i) ^^^ s[i].toNat) % 256 < 256 := Nat.mod_lt _ (by decide)
      rw [chk_some (by simp [inb]; omega)]
      simp only [Int.toNat_natCast, table_get hlt]
      have e2 : shr .u32 (crc (s.take i) : Int) 8 = (crc (s.take i) / 256 : Nat) := by rw [shr_nat]; rfl
      rw [e2, bxor_u32 (by omega) (steps_lt (by omega) 8), crc_take hi, byte_step (by omega), Nat.xor_comm, wrap_i64 (by omega) (by omega)]
      simp
    · unfold parcel_Sum_l24
      simp [List.take_length]
  rw [hl]
  simp only [Option.bind_some]
  have hc := crc_lt s
  have e : bxor .u32 (if IntKind.signed .u32 = true then -1 else IntKind.max .u32) (crc s : Int) = ((4294967295 ^^^ crc s : Nat) : Int) := by
    rw [← bxor_u32 (by decide) hc]; rfl
  rw [e, wrap_i64 (by omega) (by have := Nat.xor_lt_two_pow (n := 32) (show 4294967295 < 2 ^ 32 by decide) hc; omega)]

theorem shift_bits (c : Nat) : loop chanceryref2_Sum_l77 ((), 0, bits c, ()) = some ((), (List.range 32).map (fun k => if k < 31 then bit c (k + 1) else bit c 31), ()) := by kernel_rfl
theorem poly_bits (c : Nat) : loop chanceryref2_Sum_l95 ((), 0, bits c, ()) = some ((), (List.range 32).map (fun k => bxor .i64 (bit c k) (if poly.testBit k = true then 1 else 0)), ()) := by kernel_rfl
theorem init_bits : loop chanceryref2_Sum_l49 ((), 0, List.replicate 32 0, ()) = some ((), bits 4294967295, ()) := by kernel_rfl

theorem bxor_bit (c k : Nat) : bxor .i64 (bit c k) (if poly.testBit k = true then 1 else 0) = bit (c ^^^ poly) k := by
  unfold bit
  rw [Nat.testBit_xor]
  cases c.testBit k <;> cases poly.testBit k <;> rfl

theorem half_bits {c : Nat} (h : c < 4294967296) : ((List.range 32).map (fun k => if k < 31 then bit c (k + 1) else bit c 31)).set 31 0 = bits (c / 2) := by
  have e : ((List.range 32).map (fun k => if k < 31 then bit c (k + 1) else bit c 31)).set 31 0 = (List.range 32).map (fun k => if k < 31 then bit c (k + 1) else 0) := by kernel_rfl
  rw [e]
  unfold bits
  refine List.map_congr_left (fun k hk => ?_)
  have hk' := List.mem_range.1 hk
  split
  · unfold bit; rw [Nat.testBit_div_two]
  · have : k = 31 := by omega
    subst this
    unfold bit
    rw [Nat.testBit_div_two, Nat.testBit_lt_two_pow (show c < 2 ^ (31 + 1) from h)]
    rfl

/-- A bit of a byte. -/
theorem bit_step {s : Str} {p : Unit × Int × List Int × Unit} {c j : Nat} {B : UInt8} (hj : j < 8) (hc : c < 4294967296) (hB : idx s p.2.1 = some B) :
    chanceryref2_Sum_l110 s p ((), (j : Int), bits c, ()) = some (.inl ((), ((j + 1 : Nat) : Int), bits (step (c ^^^ (B.toNat / 2 ^ j % 2))), ())) := by
  have hb := B.toNat_lt
  unfold chanceryref2_Sum_l110
  have e0 : decide ((j : Int) < 8) = true := decide_eq_true (by omega)
  have e1 : shr .i64 (IntKind.i64.wrap (ofByte B)) j = (B.toNat / 2 ^ j : Nat) := by
    rw [show ofByte B = ((B.toNat : Nat) : Int) from rfl, wrap_i64 (by omega) (by omega), shr_nat, Nat.min_eq_left (by simp only [IntKind.bits]; omega)]
  have hlt : B.toNat / 2 ^ j < 9223372036854775808 := Nat.lt_of_le_of_lt (Nat.div_le_self _ _) (by omega)
  have e2 : bxor .i64 ((bits c).getD (0 : Int).toNat 0) (band .i64 (shr .i64 (IntKind.i64.wrap (ofByte B)) j) 1) = ((c ^^^ (B.toNat / 2 ^ j % 2)) % 2 : Nat) := by
    rw [e1, band_i64_one hlt, show (bits c).getD (0 : Int).toNat 0 = bit c 0 from rfl]
    have h := @Nat.xor_mod_two_eq_one c (B.toNat / 2 ^ j % 2)
    unfold bit
    rw [Nat.testBit_zero]
    rcases Nat.mod_two_eq_zero_or_one c with h1 | h1 <;> rcases Nat.mod_two_eq_zero_or_one (B.toNat / 2 ^ j) with h2 | h2
    · have : (c ^^^ (B.toNat / 2 ^ j % 2)) % 2 = 0 := by
        have : ¬ (c ^^^ (B.toNat / 2 ^ j % 2)) % 2 = 1 := by rw [h]; omega
        omega
      rw [this, h1, h2]; rfl
    · have : (c ^^^ (B.toNat / 2 ^ j % 2)) % 2 = 1 := by rw [h]; omega
      rw [this, h1, h2]; rfl
    · have : (c ^^^ (B.toNat / 2 ^ j % 2)) % 2 = 1 := by rw [h]; omega
      rw [this, h1, h2]; rfl
    · have : (c ^^^ (B.toNat / 2 ^ j % 2)) % 2 = 0 := by
        have : ¬ (c ^^^ (B.toNat / 2 ^ j % 2)) % 2 = 1 := by rw [h]; omega
        omega
      rw [this, h1, h2]; rfl
  have e3 : (c ^^^ (B.toNat / 2 ^ j % 2)) / 2 = c / 2 := by rw [Nat.xor_div_two, Nat.div_eq_of_lt (show B.toNat / 2 ^ j % 2 < 2 by omega), Nat.xor_zero]
  have e4 : IntKind.i64.wrap ((j : Int) + 1) = ((j + 1 : Nat) : Int) := by rw [wrap_i64 (by omega) (by omega)]; simp
  simp only [e0, cond_true, hB, shc_nat, Option.bind_some, e2, shift_bits]
  rw [chk_some (by decide)]
  simp only [e4]
  rw [chk_some (by decide)]
  rw [show ((List.range 32).map (fun k => if k < 31 then bit c (k + 1) else bit c 31)).set (31 : Int).toNat 0 = bits (c / 2) from half_bits hc]
  by_cases hv : (c ^^^ (B.toNat / 2 ^ j % 2)) % 2 = 1
  · rw [hv]
    simp only [show decide (((1 : Nat) : Int) = 1) = true from rfl, cond_true, poly_bits, Option.bind_some]
    have : (List.range 32).map (fun k => bxor .i64 (bit (c / 2) k) (if poly.testBit k = true then 1 else 0)) = bits (c / 2 ^^^ poly) := by
      unfold bits
      exact List.map_congr_left (fun k _ => bxor_bit _ _)
    rw [this]
    unfold step
    rw [hv, e3, if_pos rfl]
  · have hv0 : (c ^^^ (B.toNat / 2 ^ j % 2)) % 2 = 0 := by omega
    rw [hv0]
    simp only [show decide (((0 : Nat) : Int) = 1) = false from rfl, cond_false, Option.bind_some]
    unfold step
    rw [if_neg hv, e3, Nat.xor_zero]

theorem byte_loop {s : Str} {i : Nat} {c : Nat} {B : UInt8} {r : List Int} (hi : s[i]? = some B) (hc : c < 4294967296) :
    loop (chanceryref2_Sum_l110 s ((), (i : Int), r, ())) ((), 0, bits c, ()) = some ((), bits (steps 8 (c ^^^ B.toNat)), ()) := by
  have hb := B.toNat_lt
  rw [← bitwise_byte (by omega)]
  refine loop_seq (fun j => ((), (j : Int), bits (bitwise c B.toNat j), ())) 8 (by decide) (fun j hj => ?_) ?_
  · exact bit_step hj (bitwise_lt hc j) (by rw [idx_nat]; exact hi)
  · unfold chanceryref2_Sum_l110
    rfl

theorem bytes_loop (s : Str) (h : s.length < 1099511627776) : loop (chanceryref2_Sum_l119 s) ((), 0, bits 4294967295, ()) = some ((), bits (crc s), ()) := by
  refine loop_seq (fun i => ((), (i : Int), bits (crc (s.take i)), ())) s.length h (fun i hi => ?_) ?_
  · unfold chanceryref2_Sum_l119
    simp only [show decide ((i : Int) < (s.length : Int)) = true by simpa using hi, cond_true]
    rw [byte_loop (List.getElem?_eq_getElem hi) (crc_lt _)]
    simp only [Option.bind_some]
    rw [wrap_i64 (by omega) (by omega), crc_take hi]
    simp
  · unfold chanceryref2_Sum_l119
    simp [List.take_length]

theorem bits_get (c : Nat) {k : Nat} (h : k < 32) : (bits c).getD k 0 = bit c k := by
  unfold bits
  simp [List.getD_eq_getElem?_getD, h]

theorem out_loop {c : Nat} (hc : c < 4294967296) : loop chanceryref2_Sum_l134 ((), 0, 31, bits c, ()) = some (((4294967295 ^^^ c : Nat) : Int), ()) := by
  have hd : 4294967295 ^^^ c < 4294967296 := Nat.xor_lt_two_pow (n := 32) (by decide) hc
  have h0 : (((4294967295 ^^^ c) / 2 ^ (32 - 0) : Nat) : Int) = 0 := by rw [Nat.div_eq_of_lt hd]; rfl
  have := loop_seq (f := chanceryref2_Sum_l134) (fun i => ((), (((4294967295 ^^^ c) / 2 ^ (32 - i) : Nat) : Int), (31 : Int) - (i : Int), bits c, ())) 32 (r := (((4294967295 ^^^ c : Nat) : Int), ())) (by decide) (fun i hi => ?_) ?_
  · simp only [h0] at this
    exact this
  · unfold chanceryref2_Sum_l134
    have hn : (31 : Int) - (i : Int) = ((31 - i : Nat) : Int) := by omega
    have hlt : (4294967295 ^^^ c) / 2 ^ (32 - i) < 4294967296 := Nat.lt_of_le_of_lt (Nat.div_le_self _ _) hd
    have hhalf : (4294967295 ^^^ c) / 2 ^ (31 - i) = 2 * ((4294967295 ^^^ c) / 2 ^ (32 - i)) + (4294967295 ^^^ c) / 2 ^ (31 - i) % 2 := by
      rw [show 32 - i = (31 - i) + 1 by omega, Nat.pow_succ, ← Nat.div_div_eq_div_mul]
      omega
    have hbit : (((4294967295 ^^^ c) / 2 ^ (31 - i) % 2 : Nat) : Int) = 1 - bit c (31 - i) := by
      have e1 : (4294967295 ^^^ c) / 2 ^ (31 - i) % 2 = ((4294967295 ^^^ c).testBit (31 - i)).toNat := by rw [Nat.testBit_eq_decide_div_mod_eq]; rcases Nat.mod_two_eq_zero_or_one ((4294967295 ^^^ c) / 2 ^ (31 - i)) with h | h <;> simp [h]
      have e2 : (4294967295 : Nat).testBit (31 - i) = true := by
        rw [show (4294967295 : Nat) = 2 ^ 32 - 1 from rfl, Nat.testBit_two_pow_sub_one]
        simpa using (by omega : 31 - i < 32)
      rw [e1, Nat.testBit_xor, e2]
      unfold bit
      cases c.testBit (31 - i) <;> rfl
    have hb2 : bit c (31 - i) = 0 ∨ bit c (31 - i) = 1 := by unfold bit; split <;> simp
    simp only [hn, Int.toNat_natCast, bits_get c (show 31 - i < 32 by omega), show decide ((0 : Int) ≤ ((31 - i : Nat) : Int)) = true by simp, cond_true]
    rw [chk_some (by simp [inb]; omega)]
    have e3 : IntKind.i64.wrap (2 * (((4294967295 ^^^ c) / 2 ^ (32 - i) : Nat) : Int)) = 2 * (((4294967295 ^^^ c) / 2 ^ (32 - i) : Nat) : Int) := wrap_i64 (by omega) (by omega)
    have e4 : IntKind.i64.wrap (2 * (((4294967295 ^^^ c) / 2 ^ (32 - i) : Nat) : Int) + 1) = 2 * (((4294967295 ^^^ c) / 2 ^ (32 - i) : Nat) : Int) + 1 := wrap_i64 (by omega) (by omega)
    rw [e3, e4, wrap_i64 (by omega) (by omega), wrap_i64 (by omega) (by omega), show 32 - (i + 1) = 31 - i by omega]
    have e5 : 2 * (((4294967295 ^^^ c) / 2 ^ (32 - i) : Nat) : Int) + 1 - bit c (31 - i) = (((4294967295 ^^^ c) / 2 ^ (31 - i) : Nat) : Int) := by omega
    have e6 : (((31 - i : Nat) : Int)) - 1 = 31 - ((i + 1 : Nat) : Int) := by omega
    rw [e5, e6]
  · unfold chanceryref2_Sum_l134
    simp

/-- The sum by the register. -/
theorem sum_register (s : Str) (h : s.length < 1099511627776) : chanceryref2_Sum s = some (((4294967295 ^^^ crc s : Nat) : Int), ()) := by
  unfold chanceryref2_Sum
  rw [init_bits]
  simp only [Option.bind_some]
  rw [bytes_loop s h]
  simp only [Option.bind_some]
  rw [out_loop (crc_lt s)]
  rfl

theorem sum_known : parcel_Sum [49, 50, 51, 52, 53, 54, 55, 56, 57] = some (3421780262, ()) := by kernel_rfl

/-- THE LAW. -/
theorem law (s : Str) (h : s.length ≤ 9223372036854775807) : chancerylaw2_ParcelSumMatches s = some (true, ()) := by
  unfold chancerylaw2_ParcelSumMatches
  have hm : mn (s.length : Int) 500 = ((min s.length 500 : Nat) : Int) := by
    unfold mn
    split <;> omega
  have hc : cut s 0 (mn (s.length : Int) 500) = some (s.take (min s.length 500)) := by
    rw [hm]
    unfold cut
    rw [if_pos ⟨by omega, by omega, by omega⟩]
    simp
  rw [hc]
  simp only [Option.bind_some]
  have hl : (s.take (min s.length 500)).length < 1099511627776 := by simp; omega
  rw [sum_known, sum_table _ hl, sum_register _ hl]
  simp

end Go.Proofs.Ytmnegopgidckoaa
