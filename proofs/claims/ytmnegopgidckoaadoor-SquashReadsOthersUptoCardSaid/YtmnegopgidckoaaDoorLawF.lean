import Derived.Test.YtmnegopgidckoaaDoorLawE
namespace Go.Proofs.YtmnegopgidckoaaDoor
open Go Go.Fe

/-! ### The reference's steps -/
theorem cut_bits (s : Str) {N a x : Nat} (h : a + x ≤ N) : cut (bitsL s N) (a : Int) ((a + x : Nat) : Int) = some ((List.range x).map fun j => (bitAt s (a + j) : Int)) := by
  rw [cut_nat (by omega) (by rw [bitsL_len]; exact h), bitsL_cut s h]

theorem rcopy_loop (out : Str) {back m : Nat} (hb : 1 ≤ back) (hb' : back ≤ out.length) (hm : out.length + m ≤ 4294967296) (r27 : Int × (Int × Unit)) (v29 v31 : Int × Unit) (h27 : IntKind.i64.wrap (r27.1 + v29.1) = (m : Int)) (h31 : IntKind.i64.wrap (v31.1 + 1) = (back : Int)) :
    loop (chanceryref2_Unsquash_l560 r27 v29 v31) (out, 0, ()) = some (copyN out back m, ()) := by
  have := Halts.along (f := chanceryref2_Unsquash_l560 r27 v29 v31) (n := 0) (r := (copyN out back m, ()))
    (fun i => (copyN out back i, (i : Int), ())) m ?_ ?_
  · exact this.loop (by omega)
  · intro i hi
    have c : ((i : Int) < (m : Int)) := by omega
    have hl := copyN_len out back i
    have e1 : IntKind.i64.wrap (((copyN out back i).length : Int) - (back : Int)) = (((copyN out back i).length - back : Nat) : Int) := wrap_sub (by omega) (by omega)
    have hlt : (copyN out back i).length - back < (copyN out back i).length := by omega
    simp only [chanceryref2_Unsquash_l560, h27, h31, c, decide_true, cond_true, e1, wrap_succ (show (copyN out back i).length - back < 9223372036854775807 by omega)]
    rw [cut_nat (by omega) (by omega)]
    have e2 : ((copyN out back i).take ((copyN out back i).length - back + 1)).drop ((copyN out back i).length - back) = [(copyN out back i).getD ((copyN out back i).length - back) 0] := by
      rw [List.take_add_one, List.getElem?_eq_getElem hlt, List.drop_append_of_le_length (by simp), List.drop_of_length_le (by simp)]
      simp [List.getD, hlt]
    rw [e2]
    simp only [Option.bind_some]
    rw [cat_ok (by simp; omega)]
    simp only [Option.bind_some, wrap_succ (show i < 9223372036854775807 by omega), copyN]
  · refine .done ?_
    simp [chanceryref2_Unsquash_l560, h27]

theorem rstep_eq (s : Str) (hs : s.length ≤ 2000000) (f : Nat → Nat) (hk : sp f 272 15 ≤ 32768) (hf : ∀ k, f k ≤ 15) (q : Bool × Unit) {n a : Nat} {out : Str} (hn : n ≤ 4294967296) (ha : a ≤ 8 * s.length) (hlt : out.length < n) :
    chanceryref2_Unsquash_l579 ((n : Int), ()) (bitsL s (8 * s.length), ()) (codes f 16 0, q) ((a : Int), out, ()) = some (match step s f n a out with
    | .go a' out' => .inl ((a' : Int), out', ())
    | .bad e => .inr (.inr ([], (e : Int), ()))) := by
  have c : ((out.length : Int) < (n : Int)) := by omega
  have hrd := (read_loop s hs a f hk hf q 15 0 (by omega) ha).loop (by omega)
  simp only [Nat.add_zero, bs] at hrd
  have hdec := @dec_sym s a f 15 0
  unfold step
  cases hd : dec s a f 15 0 with
  | short =>
    rw [hd] at hrd
    simp only [chanceryref2_Unsquash_l579, c, decide_true, cond_true, hrd, Option.bind_some, decOutR']
    rfl
  | form =>
    rw [hd] at hrd
    simp only [chanceryref2_Unsquash_l579, c, decide_true, cond_true, hrd, Option.bind_some, decOutR', show ((-1 : Int) < 0) by omega]
    rfl
  | sym k b =>
    rw [hd] at hrd
    obtain ⟨hk', hb1, hb2⟩ := hdec hd
    have c1 : ¬((k : Int) < 0) := by omega
    simp only
    by_cases h256 : k < 256
    · rw [if_pos h256]
      have c2 : ((k : Int) < 256) := by omega
      have e1 : bytesStr [IntKind.u8.wrap (k : Int)] = [UInt8.ofNat k] := by
        rw [wrap_u8i (by omega) (by omega)]
        simp [bytesStr, byteOfInt_nat]
      simp only [chanceryref2_Unsquash_l579, c, decide_true, cond_true, hrd, Option.bind_some, decOutR', c1, c2, decide_false, cond_false, e1]
      rw [cat_ok (by simp; omega)]
      rfl
    · rw [if_neg h256]
      have c2 : ¬((k : Int) < 256) := by omega
      obtain ⟨hx1, hx2, hx3⟩ := span2_le (show 256 ≤ k by omega) hk'
      have hsp := rspan_eq (b : Int) (show 256 ≤ k by omega) hk'
      generalize span2 k = bx at *
      obtain ⟨base, x⟩ := bx
      simp only at *
      have w1 : IntKind.i64.wrap ((b : Int) + (x : Int)) = ((b + x : Nat) : Int) := wrap_add (by omega)
      have w2 : IntKind.i64.wrap (((b + x : Nat) : Int) + 15) = ((b + x + 15 : Nat) : Int) := wrap_add (b := 15) (by omega)
      by_cases hfit : b + x + 15 ≤ 8 * s.length
      · rw [if_pos hfit]
        have c3 : ¬(((bitsL s (8 * s.length)).length : Int) < ((b + x + 15 : Nat) : Int)) := by rw [bitsL_len]; omega
        have k1 := cut_bits s (show b + x ≤ 8 * s.length by omega)
        have k2 := cut_bits s hfit
        have m1 := numberOf_eq s b x (by omega)
        have m2 := numberOf_eq s (b + x) 15 (by omega)
        have v1 := valAt_lt s b x
        have v1' := two_pow_le hx3
        have v2 := valAt_lt s (b + x) 15
        have q8 : (2 : Nat) ^ 8 = 256 := rfl
        have q15 : (2 : Nat) ^ 15 = 32768 := rfl
        generalize valAt s b x = ex at *
        generalize valAt s (b + x) 15 = bk at *
        have w3 : IntKind.i64.wrap ((bk : Int) + 1) = ((bk + 1 : Nat) : Int) := wrap_succ (by omega)
        have w4 : IntKind.i64.wrap ((base : Int) + (ex : Int)) = ((base + ex : Nat) : Int) := wrap_add (by omega)
        have w5 : IntKind.i64.wrap ((out.length : Int) + ((base + ex : Nat) : Int)) = ((out.length + (base + ex) : Nat) : Int) := wrap_add (by omega)
        have w6 : IntKind.i64.wrap ((x : Int) + 15) = ((x + 15 : Nat) : Int) := wrap_add (b := 15) (by omega)
        have w7 : IntKind.i64.wrap ((b : Int) + ((x + 15 : Nat) : Int)) = ((b + x + 15 : Nat) : Int) := by rw [wrap_add (by omega), Nat.add_assoc]
        by_cases h2 : out.length < bk + 1
        · rw [if_pos h2]
          have c4 : ((out.length : Int) < ((bk + 1 : Nat) : Int)) := by omega
          simp only [chanceryref2_Unsquash_l579, c, decide_true, cond_true, hrd, Option.bind_some, decOutR', c1, c2, decide_false, cond_false, hsp, w1, w2, c3, k1, k2, m1, m2, w3, c4]
          rfl
        · rw [if_neg h2]
          have c4 : ¬((out.length : Int) < ((bk + 1 : Nat) : Int)) := by omega
          by_cases h3 : n < out.length + (base + ex)
          · rw [if_pos h3]
            have c5 : ((n : Int) < ((out.length + (base + ex) : Nat) : Int)) := by omega
            simp only [chanceryref2_Unsquash_l579, c, decide_true, cond_true, hrd, Option.bind_some, decOutR', c1, c2, decide_false, cond_false, hsp, w1, w2, c3, k1, k2, m1, m2, w3, c4, w4, w5, c5]
            rfl
          · rw [if_neg h3]
            have c5 : ¬((n : Int) < ((out.length + (base + ex) : Nat) : Int)) := by omega
            have hcp := rcopy_loop out (back := bk + 1) (m := base + ex) (by omega) (by omega) (by omega) ((base : Int), (x : Int), ()) ((ex : Int), ()) ((bk : Int), ()) w4 w3
            simp only [chanceryref2_Unsquash_l579, c, decide_true, cond_true, hrd, Option.bind_some, decOutR', c1, c2, decide_false, cond_false, hsp, w1, w2, c3, k1, k2, m1, m2, w3, c4, w4, w5, c5, hcp, w6, w7]
      · rw [if_neg hfit]
        have c3 : (((bitsL s (8 * s.length)).length : Int) < ((b + x + 15 : Nat) : Int)) := by rw [bitsL_len]; omega
        simp only [chanceryref2_Unsquash_l579, c, decide_true, cond_true, hrd, Option.bind_some, decOutR', c1, c2, decide_false, cond_false, hsp, w1, w2, c3]
        rfl

theorem rrun_eq (s : Str) (hs : s.length ≤ 2000000) (f : Nat → Nat) (hk : sp f 272 15 ≤ 32768) (hf : ∀ k, f k ≤ 15) (q : Bool × Unit) {n : Nat} (hn : n ≤ 4294967296) : ∀ (m a : Nat) (out : Str), n ≤ out.length + m → out.length ≤ n → a ≤ 8 * s.length →
    Halts (chanceryref2_Unsquash_l579 ((n : Int), ()) (bitsL s (8 * s.length), ()) (codes f 16 0, q)) m ((a : Int), out, ()) (match run s f n m a out with
      | .inl e => .inr ([], (e : Int), ())
      | .inr (a', out') => .inl ((a' : Int), out', ()))
  | 0, a, out, hm, ho, ha => by
    have : ¬((out.length : Int) < (n : Int)) := by omega
    refine .done ?_
    simp only [chanceryref2_Unsquash_l579, this, decide_false, cond_false, run]
  | m + 1, a, out, hm, ho, ha => by
    by_cases hlt : out.length < n
    · have hst := rstep_eq s hs f hk hf q hn ha hlt
      have hgo := @step_go s f n a out
      rw [run, if_pos hlt]
      cases hd : step s f n a out with
      | bad e =>
        rw [hd] at hst
        exact .done hst
      | go a' out' =>
        rw [hd] at hst
        obtain ⟨g1, g2, g3⟩ := hgo hlt hd
        exact .step hst (rrun_eq s hs f hk hf q hn m a' out' (by omega) g2 g3)
    · rw [run, if_neg hlt]
      have : ¬((out.length : Int) < (n : Int)) := by omega
      refine .done ?_
      simp only [chanceryref2_Unsquash_l579, this, decide_false, cond_false]

theorem rtail_eq (s : Str) (hs : s.length ≤ 2000000) : ∀ (m a : Nat), m = (8 - a % 8) % 8 → a ≤ 8 * s.length →
    (∃ a' : Nat, a' ≤ 8 * s.length ∧ tailE s m a = (if a' < 8 * s.length then 4 else 0) ∧ Halts (chanceryref2_Unsquash_l597 (bitsL s (8 * s.length), ())) m ((a : Int), ()) (.inl ((a' : Int), ()))) ∨
    (tailE s m a = 4 ∧ Halts (chanceryref2_Unsquash_l597 (bitsL s (8 * s.length), ())) m ((a : Int), ()) (.inr ([], 4, ())))
  | 0, a, hm, ha => by
    refine .inl ⟨a, ha, rfl, .done ?_⟩
    simp only [chanceryref2_Unsquash_l597]
    rw [show (8 : Int) = ((8 : Nat) : Int) from rfl, rem_nat (by omega), show a % 8 = 0 by omega]
    rfl
  | m + 1, a, hm, ha => by
    have hlt : a < 8 * s.length := by omega
    have hb := bitAt_lt s a
    have c1 : ¬(((a % 8 : Nat) : Int) = 0) := by omega
    have hbit : idx (bitsL s (8 * s.length)) (a : Int) = some ((bitAt s a : Nat) : Int) := by
      rw [idx_lt (by rw [bitsL_len]; exact hlt)]
      simp [bitsL]
    by_cases h0 : bitAt s a = 0
    · have c2 : decide (((bitAt s a : Nat) : Int) = 0) = true := by simp [h0]
      have hst : chanceryref2_Unsquash_l597 (bitsL s (8 * s.length), ()) ((a : Int), ()) = some (.inl (((a + 1 : Nat) : Int), ())) := by
        simp only [chanceryref2_Unsquash_l597]
        rw [show (8 : Int) = ((8 : Nat) : Int) from rfl, rem_nat (by omega)]
        simp only [Option.bind_some, c1, decide_false, Bool.not_false, cond_true, hbit, c2, Bool.not_true, cond_false, wrap_succ (show a < 9223372036854775807 by omega)]
      have e : tailE s (m + 1) a = tailE s m (a + 1) := by rw [tailE, if_neg (by omega)]
      rw [e]
      rcases rtail_eq s hs m (a + 1) (by omega) (by omega) with ⟨a', h1, h2, h3⟩ | ⟨h1, h2⟩
      · exact .inl ⟨a', h1, h2, .step hst h3⟩
      · exact .inr ⟨h1, .step hst h2⟩
    · have c2 : decide (((bitAt s a : Nat) : Int) = 0) = false := by simp [h0]
      refine .inr ⟨by rw [tailE, if_pos h0], .done ?_⟩
      simp only [chanceryref2_Unsquash_l597]
      rw [show (8 : Int) = ((8 : Nat) : Int) from rfl, rem_nat (by omega)]
      simp only [Option.bind_some, c1, decide_false, Bool.not_false, cond_true, hbit, c2]

/-! ### The lengths -/
theorem nibs_len (r : Str) : ((List.range 272).map fun i => ((nib r i : Nat) : Int)) = lens (nib r) 272 := rfl

theorem band15 {a : Nat} (ha : a < 9223372036854775808) : band .i64 (a : Int) 15 = ((a % 16 : Nat) : Int) := by
  unfold band
  rw [show (15 : Int) = ((15 : Nat) : Int) from rfl, BitVec.ofInt_natCast, BitVec.ofInt_natCast, BitVec.toNat_and]
  simp only [IntKind.bits, BitVec.toNat_ofNat]
  rw [Nat.mod_eq_of_lt (show a < 2 ^ 64 by omega), show 15 % 2 ^ 64 = 2 ^ 4 - 1 from rfl, Nat.and_two_pow_sub_one_eq_mod, wrap_i64 (by omega) (by omega)]

theorem nib_byte (r : Str) {i : Nat} (hi : i < 272) (hr : 136 ≤ r.length) : ∃ h : i / 2 < r.length, band .i64 (shr .i64 (IntKind.i64.wrap (ofByte (r[i / 2]))) (4 - 4 * (i % 2))) 15 = ((nib r i : Nat) : Int) := by
  have hlt : i / 2 < r.length := by omega
  refine ⟨hlt, ?_⟩
  have := byte_lt r[i / 2]
  have e : min (4 - 4 * (i % 2)) (IntKind.bits .i64) = 4 - 4 * (i % 2) := by simp only [IntKind.bits]; omega
  rw [wrap_byte, shr_nat, e, nib, if_pos hi, getD_lt hlt]
  have hd := Nat.div_le_self r[i / 2].toNat (2 ^ (4 - 4 * (i % 2)))
  rw [band15 (by omega)]
  rcases Nat.mod_two_eq_zero_or_one i with h | h
  · rw [if_pos h, h]
    simp only [Nat.mul_zero, Nat.sub_zero, Nat.reducePow]
    congr 1
    omega
  · rw [if_neg (by omega), h]
    simp only [Nat.mul_one, Nat.sub_self, Nat.pow_zero, Nat.div_one]

def part (g : Nat → Nat) (n : Nat) : List Int := (List.range 272).map fun j => if j < n then (g j : Int) else 0
theorem part_set (g : Nat → Nat) {n : Nat} (h : n < 272) : (part g n).set n (g n : Int) = part g (n + 1) := by
  apply List.ext_getElem
  · simp [part]
  · intro i h1 h2
    rw [List.getElem_set]
    simp only [part, List.getElem_map, List.getElem_range]
    by_cases e : n = i
    · subst e; simp
    · rw [if_neg e]
      by_cases g : i < n
      · rw [if_pos g, if_pos (by omega)]
      · rw [if_neg g, if_neg (by omega)]
theorem part_start (g : Nat → Nat) : part g 0 = List.replicate 272 0 := by
  apply List.ext_getElem
  · rw [List.length_replicate]; simp [part]
  · intro i h1 h2
    rw [List.getElem_replicate]
    simp [part]
theorem part_end (g : Nat → Nat) : part g 272 = lens g 272 := by
  apply List.ext_getElem
  · simp [part, lens]
  · intro i h1 h2
    have : i < 272 := by simpa [part] using h1
    simp [part, lens, this]
theorem part_len (g : Nat → Nat) (n : Nat) : (part g n).length = 272 := by simp [part]

theorem lengths_loop (r : Str) (hr : 136 ≤ r.length) : loop (squash_Unpack_l336 (List.replicate 272 0) r) ((), 0, List.replicate 272 0, ()) = some ((), lens (nib r) 272, ()) := by
  have := Halts.along (f := squash_Unpack_l336 (List.replicate 272 0) r) (n := 0) (r := ((), lens (nib r) 272, ()))
    (fun i => ((), (i : Int), part (nib r) i, ())) 272 ?_ ?_
  · have h := this.loop (by omega)
    simp only [part_start] at h
    exact h
  · intro i hi
    have hl : (List.replicate 272 (0 : Int)).length = 272 := List.length_replicate
    have c : ((i : Int) < ((List.replicate 272 (0 : Int)).length : Int)) := by rw [hl]; omega
    obtain ⟨hlt, hb⟩ := nib_byte r hi hr
    have e2 : IntKind.i64.wrap (4 - IntKind.i64.wrap (4 * ((i % 2 : Nat) : Int))) = ((4 - 4 * (i % 2) : Nat) : Int) := by
      rw [wrap_i64 (n := 4 * ((i % 2 : Nat) : Int)) (by omega) (by omega), wrap_i64 (by omega) (by omega)]
      omega
    have e3 : inb (i : Int) (part (nib r) i).length = true := inb_nat (by rw [part_len]; exact hi)
    simp only [squash_Unpack_l336, c, decide_true, cond_true]
    rw [show (2 : Int) = ((2 : Nat) : Int) from rfl, quo_nat (by omega) (by omega), rem_nat (by omega)]
    simp only [Option.bind_some, idx_lt hlt, e2, shc_nat, hb, e3, chk_t, Int.toNat_natCast, part_set (nib r) hi, wrap_succ (show i < 9223372036854775807 by omega)]
  · refine .done ?_
    have hl : (List.replicate 272 (0 : Int)).length = 272 := List.length_replicate
    have c : ¬(((272 : Nat) : Int) < ((List.replicate 272 (0 : Int)).length : Int)) := by rw [hl]; omega
    simp only [squash_Unpack_l336, c, decide_false, cond_false, part_end]

theorem rlengths_loop (r : Str) (hr : 136 ≤ r.length) : loop (chanceryref2_Unsquash_l427 r) ((), 0, [], ()) = some ((), lens (nib r) 272, ()) := by
  have := Halts.along (f := chanceryref2_Unsquash_l427 r) (n := 0) (r := ((), lens (nib r) 272, ()))
    (fun i => ((), (i : Int), (List.range (2 * i)).map (fun j => ((nib r j : Nat) : Int)), ())) 136 ?_ ?_
  · exact this.loop (by omega)
  · intro i hi
    have c : ((i : Int) < 136) := by omega
    have hlt : i < r.length := by omega
    have hb := byte_lt r[i]
    simp only [chanceryref2_Unsquash_l427, c, decide_true, cond_true, idx_lt hlt, Option.bind_some, wrap_byte]
    rw [show (16 : Int) = ((16 : Nat) : Int) from rfl, quo_nat (by omega) (by omega), rem_nat (by omega)]
    simp only [Option.bind_some]
    rw [cat_ok (by simp; omega)]
    have n1 : nib r (2 * i) = r[i].toNat / 16 := by rw [nib, if_pos (by omega), if_pos (by omega), show 2 * i / 2 = i by omega, getD_lt hlt]
    have n2 : nib r (2 * i + 1) = r[i].toNat % 16 := by rw [nib, if_pos (by omega), if_neg (by omega), show (2 * i + 1) / 2 = i by omega, getD_lt hlt]
    simp only [Option.bind_some, wrap_succ (show i < 9223372036854775807 by omega), show 2 * (i + 1) = 2 * i + 1 + 1 by omega, List.range_succ, List.map_append, List.map_cons, List.map_nil, n1, n2, List.append_assoc]
    rfl
  · exact .done (by simp [chanceryref2_Unsquash_l427, lens])
end Go.Proofs.YtmnegopgidckoaaDoor
