import Derived.Test.YtmnegopgidckoaaDoorLawD
namespace Go.Proofs.YtmnegopgidckoaaDoor
open Go Go.Fe

/-! ### What the compressed bytes come to -/
def span2 (k : Nat) : Nat × Nat := if k < 264 then (k - 253, 0) else (([11, 13, 17, 25, 41, 73, 137, 265] : List Nat).getD (k - 264) 0, k - 263)
def copyN (out : Str) (back : Nat) : Nat → Str
  | 0 => out
  | m + 1 => copyN out back m ++ [(copyN out back m).getD ((copyN out back m).length - back) 0]
theorem copyN_len (out : Str) (back : Nat) : ∀ m, (copyN out back m).length = out.length + m
  | 0 => rfl
  | m + 1 => by simp [copyN, copyN_len out back m]; omega
inductive Stp
  | go (a : Nat) (out : Str)
  | bad (e : Nat)
def step (s : Str) (f : Nat → Nat) (n a : Nat) (out : Str) : Stp := match dec s a f 15 0 with
  | .short => .bad 11
  | .form => .bad 4
  | .sym k b => if k < 256 then .go b (out ++ [UInt8.ofNat k]) else
      if b + (span2 k).2 + 15 ≤ 8 * s.length then
        if out.length < valAt s (b + (span2 k).2) 15 + 1 then .bad 2
        else if n < out.length + ((span2 k).1 + valAt s b (span2 k).2) then .bad 3
        else .go (b + (span2 k).2 + 15) (copyN out (valAt s (b + (span2 k).2) 15 + 1) ((span2 k).1 + valAt s b (span2 k).2))
      else .bad 11
def run (s : Str) (f : Nat → Nat) (n : Nat) : Nat → Nat → Str → Nat ⊕ (Nat × Str)
  | 0, a, out => .inr (a, out)
  | m + 1, a, out => if out.length < n then match step s f n a out with
      | .bad e => .inl e
      | .go a' out' => run s f n m a' out'
    else .inr (a, out)
/-- What stands behind the last symbol. -/
def tailE (s : Str) : Nat → Nat → Nat
  | 0, a => if a < 8 * s.length then 4 else 0
  | m + 1, a => if bitAt s a ≠ 0 then 4 else tailE s m (a + 1)
def nib (r : Str) (i : Nat) : Nat := if i < 272 then (if i % 2 = 0 then (r.getD (i / 2) 0).toNat / 16 else (r.getD (i / 2) 0).toNat % 16) else 0
def body (s : Str) (f : Nat → Nat) (n : Nat) : Str × Nat := match run s f n n 0 [] with
  | .inl e => ([], e)
  | .inr (a, out) => (if tailE s ((8 - a % 8) % 8) a = 0 then out else [], tailE s ((8 - a % 8) % 8) a)
def unpackS (s : Str) : Str × Nat :=
  if s.length < 5 then ([], 11)
  else if 1 < (s.getD 4 0).toNat then ([], 8)
  else if (s.getD 4 0).toNat = 0 then
    if (s.drop 5).length < head s then ([], 11) else if head s < (s.drop 5).length then ([], 4) else (s.drop 5, 0)
  else if (s.drop 5).length < 136 then ([], 11)
  else if sp (nib (s.drop 5)) 272 15 ≤ 32768 then body ((s.drop 5).drop 136) (nib (s.drop 5)) (head s)
  else ([], 4)

theorem nib_le (r : Str) (i : Nat) : nib r i ≤ 15 := by
  unfold nib
  have := byte_lt (r.getD (i / 2) 0)
  split
  · split <;> omega
  · omega

theorem dec_sym (s : Str) (a : Nat) (f : Nat → Nat) : ∀ (m n : Nat) {k b : Nat}, dec s a f m n = .sym k b → k < 272 ∧ a + n < b ∧ b ≤ 8 * s.length
  | 0, n, k, b, h => by simp [dec] at h
  | m + 1, n, k, b, h => by
    rw [dec] at h
    split at h
    · split at h
      · rename_i h1 h2
        simp only [Dec.sym.injEq] at h
        obtain ⟨e1, e2⟩ := h
        have hl : valAt s a (n + 1) - st f 272 (n + 1) < (kth f (n + 1) 272).length := by
          have : (kth f (n + 1) 272).length = cn f 272 (n + 1) := by rw [cn_pos f 272 (by omega)]; rfl
          omega
        have hg := (kth_get f (n + 1) 272 _ _).1 (List.getElem?_eq_getElem hl)
        have : (kth f (n + 1) 272).getD (valAt s a (n + 1) - st f 272 (n + 1)) 0 = (kth f (n + 1) 272)[valAt s a (n + 1) - st f 272 (n + 1)] := by simp [List.getD, hl]
        rw [this] at e1
        rw [e1] at hg
        exact ⟨hg.1, by omega, by omega⟩
      · have := dec_sym s a f m (n + 1) h
        exact ⟨this.1, by omega, this.2.2⟩
    · cases h

theorem span2_le {k : Nat} (h : 256 ≤ k) (h' : k < 272) : 3 ≤ (span2 k).1 ∧ (span2 k).1 ≤ 265 ∧ (span2 k).2 ≤ 8 := by
  have : k = 256 ∨ k = 257 ∨ k = 258 ∨ k = 259 ∨ k = 260 ∨ k = 261 ∨ k = 262 ∨ k = 263 ∨ k = 264 ∨ k = 265 ∨ k = 266 ∨ k = 267 ∨ k = 268 ∨ k = 269 ∨ k = 270 ∨ k = 271 := by omega
  rcases this with rfl | rfl | rfl | rfl | rfl | rfl | rfl | rfl | rfl | rfl | rfl | rfl | rfl | rfl | rfl | rfl <;> decide
theorem span_eq {k : Nat} (h : 256 ≤ k) (h' : k < 272) : squash_span (k : Int) = some (((span2 k).1 : Int), ((span2 k).2 : Int), ()) := by
  have : k = 256 ∨ k = 257 ∨ k = 258 ∨ k = 259 ∨ k = 260 ∨ k = 261 ∨ k = 262 ∨ k = 263 ∨ k = 264 ∨ k = 265 ∨ k = 266 ∨ k = 267 ∨ k = 268 ∨ k = 269 ∨ k = 270 ∨ k = 271 := by omega
  rcases this with rfl | rfl | rfl | rfl | rfl | rfl | rfl | rfl | rfl | rfl | rfl | rfl | rfl | rfl | rfl | rfl <;> (change _ = _; kernel_rfl)

/-- The reference's lengths of matches. -/
theorem rspan_eq {k : Nat} (b : Int) (h : 256 ≤ k) (h' : k < 272) : ((cond (decide (8 ≤ (IntKind.i64.wrap ((k : Int) - 256))))
  ((loop (chanceryref2_Unsquash_l518 (b, (k : Int), ())) (11, 8, ())).bind fun r26 =>
  some (r26.1, IntKind.i64.wrap ((IntKind.i64.wrap ((k : Int) - 256)) - 7), ()))
  (some (IntKind.i64.wrap (3 + (IntKind.i64.wrap ((k : Int) - 256))), 0, ())) : Option (Int × (Int × Unit)))) = some (((span2 k).1 : Int), ((span2 k).2 : Int), ()) := by
  have : k = 256 ∨ k = 257 ∨ k = 258 ∨ k = 259 ∨ k = 260 ∨ k = 261 ∨ k = 262 ∨ k = 263 ∨ k = 264 ∨ k = 265 ∨ k = 266 ∨ k = 267 ∨ k = 268 ∨ k = 269 ∨ k = 270 ∨ k = 271 := by omega
  rcases this with rfl | rfl | rfl | rfl | rfl | rfl | rfl | rfl | rfl | rfl | rfl | rfl | rfl | rfl | rfl | rfl <;> (change _ = _; kernel_rfl)

theorem strBytes_len (s : Str) : (strBytes s).length = s.length := by simp [strBytes]
theorem strBytes_snoc (s : Str) (c : UInt8) : strBytes (s ++ [c]) = strBytes s ++ [(c.toNat : Int)] := by simp [strBytes]
theorem strBytes_get (s : Str) (i : Nat) : (strBytes s).getD i 0 = ((s.getD i 0).toNat : Int) := by
  simp only [strBytes, List.getD, List.getElem?_map]
  cases s[i]? <;> rfl
theorem bytesStr_strBytes (s : Str) : bytesStr (strBytes s) = s := by
  simp only [bytesStr, strBytes, List.map_map]
  conv => rhs; rw [← List.map_id s]
  apply List.map_congr_left
  intro c _
  simp [byteOfInt_nat]

abbrev PS (s : Str) (f : Nat → Nat) (a : Nat) (out : Str) : Unit × (Unit × (Unit × ((Str × (Int × Unit)) × (((List Int) × ((List Int) × (Unit × Unit))) × ((List Int) × ((List Int) × Unit)))))) :=
  ((), (), (), (s, ((a : Int), ())), D0 f, strBytes out, L0 f, ())

theorem copy_loop (s : Str) (f : Nat → Nat) (at_ : Nat) (out : Str) {back m : Nat} (hb : 1 ≤ back) (hb' : back ≤ out.length) (hm : out.length + m ≤ 4294967296) (v3 : Int × (Int × Unit)) (v4 : Int × (Unit × ((Str × (Int × Unit)) × Unit))) (h34 : IntKind.i64.wrap (v3.1 + v4.1) = (m : Int)) (v7 : Int) (h7 : v7 = ((out.length - back : Nat) : Int)) :
    loop (squash_unpacked_l1022 v3 v4 v7) ((), (), (), 0, (s, ((at_ : Int), ())), D0 f, strBytes out, L0 f, ()) = some (PS s f at_ (copyN out back m)) := by
  have := Halts.along (f := squash_unpacked_l1022 v3 v4 v7) (n := 0) (r := PS s f at_ (copyN out back m))
    (fun i => ((), (), (), (i : Int), (s, ((at_ : Int), ())), D0 f, strBytes (copyN out back i), L0 f, ())) m ?_ ?_
  · exact this.loop (by omega)
  · intro i hi
    have c : ((i : Int) < (m : Int)) := by omega
    have hl := copyN_len out back i
    have e1 : IntKind.i64.wrap (((out.length - back : Nat) : Int) + (i : Int)) = ((out.length - back + i : Nat) : Int) := wrap_add (by omega)
    have e2 : inb ((out.length - back + i : Nat) : Int) (strBytes (copyN out back i)).length = true := inb_nat (by rw [strBytes_len, hl]; omega)
    simp only [squash_unpacked_l1022, h34, c, decide_true, cond_true, h7, e1, e2, chk_t, Option.bind_some, Int.toNat_natCast, strBytes_get]
    rw [cat_ok (by rw [strBytes_len, hl]; simp; omega), ← strBytes_snoc, show out.length - back + i = (copyN out back i).length - back by omega]
    simp only [Option.bind_some, wrap_succ (show i < 9223372036854775807 by omega), copyN]
  · refine .done ?_
    simp [squash_unpacked_l1022, h34]

theorem step_eq (s : Str) (hs : s.length ≤ 2000000) (f : Nat → Nat) {n a : Nat} {out : Str} (hn : n ≤ 4294967296) (ha : a ≤ 8 * s.length) (hlt : out.length < n) :
    match step s f n a out with
    | .go a' out' => squash_unpacked_l1036 (n : Int) (PS s f a out) = some (.inl (PS s f a' out'))
    | .bad e => ∃ rd, squash_unpacked_l1036 (n : Int) (PS s f a out) = some (.inr (.inr ((), (), [], (e : Int), rd, D0 f, L0 f, ()))) := by
  have c : (((strBytes out).length : Int) < (n : Int)) := by rw [strBytes_len]; omega
  have c0 : ((out.length : Int) < (n : Int)) := by omega
  have hsym := symbol_eq s hs ha f
  have hdec := @dec_sym s a f 15 0
  unfold step
  cases hd : dec s a f 15 0 with
  | short =>
    rw [hd] at hsym
    refine ⟨(s, (((8 * s.length : Nat) : Int), ())), ?_⟩
    simp only [squash_unpacked_l1036, c, decide_true, cond_true, hsym, Option.bind_some]
    rfl
  | form =>
    rw [hd] at hsym
    refine ⟨(s, (((a + 15 : Nat) : Int), ())), ?_⟩
    simp only [squash_unpacked_l1036, c, decide_true, cond_true, hsym, Option.bind_some]
    rfl
  | sym k b =>
    rw [hd] at hsym
    obtain ⟨hk, hb1, hb2⟩ := hdec hd
    simp only
    by_cases h256 : k < 256
    · rw [if_pos h256]
      have c2 : ((k : Int) < 256) := by omega
      have c3 : decide ((0 : Int) = 0) = true := rfl
      have e1 : IntKind.u8.wrap (k : Int) = ((UInt8.ofNat k).toNat : Int) := by
        rw [wrap_u8i (by omega) (by omega)]
        simp
        omega
      simp only [squash_unpacked_l1036, c, decide_true, cond_true, hsym, Option.bind_some, c3, Bool.not_true, cond_false, c2, e1]
      rw [cat_ok (by rw [strBytes_len]; simp; omega), ← strBytes_snoc]
      rfl
    · rw [if_neg h256]
      have c2 : ¬((k : Int) < 256) := by omega
      have c3 : decide ((0 : Int) = 0) = true := rfl
      obtain ⟨hx1, hx2, hx3⟩ := span2_le (show 256 ≤ k by omega) hk
      have hsp := span_eq (show 256 ≤ k by omega) hk
      generalize span2 k = bx at *
      obtain ⟨base, x⟩ := bx
      simp only at *
      have hn1 := number_eq s hs hb2 (show x ≤ 60 by omega)
      by_cases hfit : b + x + 15 ≤ 8 * s.length
      · rw [if_pos hfit]
        rw [if_pos (by omega)] at hn1
        have hn2 := number_eq s hs (show b + x ≤ 8 * s.length by omega) (show 15 ≤ 60 by omega)
        rw [if_pos hfit] at hn2
        have v1 := valAt_lt s b x
        have v1' := two_pow_le hx3
        have v2 := valAt_lt s (b + x) 15
        have q8 : (2 : Nat) ^ 8 = 256 := rfl
        have q15 : (2 : Nat) ^ 15 = 32768 := rfl
        generalize valAt s b x = ex at *
        generalize valAt s (b + x) 15 = bk at *
        have n1 : ¬((ex : Int) < 0) := by omega
        have n2 : ¬((bk : Int) < 0) := by omega
        have e7 : IntKind.i64.wrap (IntKind.i64.wrap ((out.length : Int) - (bk : Int)) - 1) = (out.length : Int) - (bk : Int) - 1 := by
          rw [wrap_i64 (n := (out.length : Int) - (bk : Int)) (by omega) (by omega), wrap_i64 (by omega) (by omega)]
        have e8 : IntKind.i64.wrap ((n : Int) - (out.length : Int)) = (n : Int) - (out.length : Int) := wrap_i64 (by omega) (by omega)
        have e9 : IntKind.i64.wrap ((base : Int) + (ex : Int)) = ((base + ex : Nat) : Int) := wrap_add (by omega)
        have hn2' : squash_reader__number 15 s ((b + x : Nat) : Int) = some ((bk : Int), (), (s, (((b + x + 15 : Nat) : Int), ())), ()) := hn2
        by_cases h2 : out.length < bk + 1
        · rw [if_pos h2]
          have c7 : (out.length : Int) - (bk : Int) - 1 < 0 := by omega
          refine ⟨(s, (((b + x + 15 : Nat) : Int), ())), ?_⟩
          simp only [squash_unpacked_l1036, c0, decide_true, cond_true, hsym, Option.bind_some, c3, Bool.not_true, cond_false, c2, decide_false, hsp, hn1, hn2', n1, n2, strBytes_len, e7, c7]
          rfl
        · rw [if_neg h2]
          have c7 : ¬((out.length : Int) - (bk : Int) - 1 < 0) := by omega
          by_cases h3 : n < out.length + (base + ex)
          · rw [if_pos h3]
            have c8 : (n : Int) - (out.length : Int) < ((base + ex : Nat) : Int) := by omega
            refine ⟨(s, (((b + x + 15 : Nat) : Int), ())), ?_⟩
            simp only [squash_unpacked_l1036, c0, decide_true, cond_true, hsym, Option.bind_some, c3, Bool.not_true, cond_false, c2, decide_false, hsp, hn1, hn2', n1, n2, strBytes_len, e7, c7, e8, e9, c8]
            rfl
          · rw [if_neg h3]
            have c8 : ¬((n : Int) - (out.length : Int) < ((base + ex : Nat) : Int)) := by omega
            have hcp := copy_loop s f (b + x + 15) out (back := bk + 1) (m := base + ex) (by omega) (by omega) (by omega) ((base : Int), (x : Int), ()) ((ex : Int), (), (s, (((b + x : Nat) : Int), ())), ()) e9 ((out.length : Int) - (bk : Int) - 1) (by omega)
            simp only [squash_unpacked_l1036, c0, decide_true, cond_true, hsym, Option.bind_some, c3, Bool.not_true, cond_false, c2, decide_false, hsp, hn1, hn2', n1, n2, strBytes_len, e7, c7, e8, e9, c8, hcp]
      · rw [if_neg hfit]
        by_cases hx : b + x ≤ 8 * s.length
        · rw [if_pos hx] at hn1
          have hn2 := number_eq s hs hx (show 15 ≤ 60 by omega)
          rw [if_neg hfit] at hn2
          have hn2' : squash_reader__number 15 s ((b + x : Nat) : Int) = some (-1, (), (s, (((8 * s.length : Nat) : Int), ())), ()) := hn2
          have n1 : ¬((valAt s b x : Int) < 0) := by omega
          refine ⟨(s, (((8 * s.length : Nat) : Int), ())), ?_⟩
          simp only [squash_unpacked_l1036, c, decide_true, cond_true, hsym, Option.bind_some, c3, Bool.not_true, cond_false, c2, decide_false, hsp, hn1, hn2', n1, show ((-1 : Int) < 0) by omega]
          rfl
        · rw [if_neg hx] at hn1
          have hn2 := number_eq s hs (show 8 * s.length ≤ 8 * s.length by omega) (show 15 ≤ 60 by omega)
          rw [if_neg (by omega)] at hn2
          have hn2' : squash_reader__number 15 s ((8 * s.length : Nat) : Int) = some (-1, (), (s, (((8 * s.length : Nat) : Int), ())), ()) := hn2
          refine ⟨(s, (((8 * s.length : Nat) : Int), ())), ?_⟩
          simp only [squash_unpacked_l1036, c, decide_true, cond_true, hsym, Option.bind_some, c3, Bool.not_true, cond_false, c2, decide_false, hsp, hn1, hn2', show ((-1 : Int) < 0) by omega]
          rfl

theorem step_go (s : Str) (f : Nat → Nat) {n a : Nat} {out : Str} {a' : Nat} {out' : Str} (hlt : out.length < n) (h : step s f n a out = .go a' out') : out.length < out'.length ∧ out'.length ≤ n ∧ a' ≤ 8 * s.length := by
  unfold step at h
  split at h
  · cases h
  · cases h
  · rename_i k b hd
    obtain ⟨h1, h2, h3⟩ := dec_sym s a f 15 0 hd
    split at h
    · cases h
      simp
      omega
    · have := span2_le (show 256 ≤ k by omega) h1
      split at h
      · split at h
        · cases h
        · split at h
          · cases h
          · cases h
            rw [copyN_len]
            omega
      · cases h

theorem run_eq (s : Str) (hs : s.length ≤ 2000000) (f : Nat → Nat) {n : Nat} (hn : n ≤ 4294967296) : ∀ (m a : Nat) (out : Str), n ≤ out.length + m → out.length ≤ n → a ≤ 8 * s.length →
    (∃ a' out', run s f n m a out = .inr (a', out') ∧ a' ≤ 8 * s.length ∧ out'.length ≤ n ∧ Halts (squash_unpacked_l1036 (n : Int)) m (PS s f a out) (.inl (PS s f a' out'))) ∨
    (∃ e rd, run s f n m a out = .inl e ∧ Halts (squash_unpacked_l1036 (n : Int)) m (PS s f a out) (.inr ((), (), [], (e : Int), rd, D0 f, L0 f, ())))
  | 0, a, out, hm, ho, ha => by
    refine .inl ⟨a, out, rfl, ha, ho, .done ?_⟩
    have : ¬(((strBytes out).length : Int) < (n : Int)) := by rw [strBytes_len]; omega
    simp only [squash_unpacked_l1036, this, decide_false, cond_false]
  | m + 1, a, out, hm, ho, ha => by
    by_cases hlt : out.length < n
    · have hst := step_eq s hs f hn ha hlt
      have hgo := @step_go s f n a out
      rw [run, if_pos hlt]
      cases hd : step s f n a out with
      | bad e =>
        rw [hd] at hst
        obtain ⟨rd, h⟩ := hst
        exact .inr ⟨e, rd, rfl, .done h⟩
      | go a' out' =>
        rw [hd] at hst
        obtain ⟨g1, g2, g3⟩ := hgo hlt hd
        rcases run_eq s hs f hn m a' out' (by omega) g2 g3 with ⟨a2, o2, q1, q2, q3, q4⟩ | ⟨e, rd, q1, q2⟩
        · exact .inl ⟨a2, o2, q1, q2, q3, .step hst q4⟩
        · exact .inr ⟨e, rd, q1, .step hst q2⟩
    · refine .inl ⟨a, out, by rw [run, if_neg hlt], ha, ho, .done ?_⟩
      have : ¬(((strBytes out).length : Int) < (n : Int)) := by rw [strBytes_len]; omega
      simp only [squash_unpacked_l1036, this, decide_false, cond_false]

theorem tail_eq (s : Str) (hs : s.length ≤ 2000000) (f : Nat → Nat) (out : Str) : ∀ (m a : Nat), m = (8 - a % 8) % 8 → a ≤ 8 * s.length →
    (∃ a', a' ≤ 8 * s.length ∧ tailE s m a = (if a' < 8 * s.length then 4 else 0) ∧ Halts squash_unpacked_l1052 m (PS s f a out) (.inl (PS s f a' out))) ∨
    (∃ rd, tailE s m a = 4 ∧ Halts squash_unpacked_l1052 m (PS s f a out) (.inr ((), (), [], 4, rd, D0 f, L0 f, ())))
  | 0, a, hm, ha => by
    refine .inl ⟨a, ha, rfl, .done ?_⟩
    simp only [squash_unpacked_l1052]
    rw [show (8 : Int) = ((8 : Nat) : Int) from rfl, rem_nat (by omega), show a % 8 = 0 by omega]
    rfl
  | m + 1, a, hm, ha => by
    have hne : a % 8 ≠ 0 := by omega
    have hlt : a ≠ 8 * s.length := by omega
    have hb := bitAt_lt s a
    have c1 : ¬(((a % 8 : Nat) : Int) = 0) := by omega
    have hbit := bit_eq s hs ha
    rw [if_neg hlt] at hbit
    by_cases h0 : bitAt s a = 0
    · have c2 : decide (((bitAt s a : Nat) : Int) = 0) = true := by simp [h0]
      have hst : squash_unpacked_l1052 (PS s f a out) = some (.inl (PS s f (a + 1) out)) := by
        simp only [squash_unpacked_l1052]
        rw [show (8 : Int) = ((8 : Nat) : Int) from rfl, rem_nat (by omega)]
        simp only [Option.bind_some, c1, decide_false, Bool.not_false, cond_true, hbit, c2, Bool.not_true, cond_false]
      have e : tailE s (m + 1) a = tailE s m (a + 1) := by rw [tailE, if_neg (by omega)]
      rw [e]
      rcases tail_eq s hs f out m (a + 1) (by omega) (by omega) with ⟨a', h1, h2, h3⟩ | ⟨rd, h1, h2⟩
      · exact .inl ⟨a', h1, h2, .step hst h3⟩
      · exact .inr ⟨rd, h1, .step hst h2⟩
    · have c2 : decide (((bitAt s a : Nat) : Int) = 0) = false := by simp [h0]
      refine .inr ⟨(s, (((a + 1 : Nat) : Int), ())), by rw [tailE, if_pos h0], .done ?_⟩
      simp only [squash_unpacked_l1052]
      rw [show (8 : Int) = ((8 : Nat) : Int) from rfl, rem_nat (by omega)]
      simp only [Option.bind_some, c1, decide_false, Bool.not_false, cond_true, hbit, c2]

theorem unpacked_eq (s : Str) (hs : s.length ≤ 2000000) (f : Nat → Nat) {n : Nat} (hn : n ≤ 4294967296) : ∃ x, squash_unpacked (n : Int) s 0 (arr (st f 272) 16) (arr (off f 272) 16) (L0 f) = some ((body s f n).1, ((body s f n).2 : Int), x) := by
  have h := run_eq s hs f hn n 0 [] (by simp) (by simp) (by omega)
  unfold body
  rcases h with ⟨a', out', h1, h2, h3, h4⟩ | ⟨e, rd, h1, h2⟩
  · rw [h1]
    dsimp only
    have := h4.loop (by omega)
    rcases tail_eq s hs f out' ((8 - a' % 8) % 8) a' rfl h2 with ⟨a2, g1, g2, g3⟩ | ⟨rd, g1, g2⟩
    · have g := g3.loop (by omega)
      rw [g2]
      have e1 : IntKind.i64.wrap (8 * (s.length : Int)) = ((8 * s.length : Nat) : Int) := by rw [wrap_i64 (by omega) (by omega)]; omega
      by_cases c : a2 < 8 * s.length
      · have c' : ((a2 : Int) < ((8 * s.length : Nat) : Int)) := by omega
        refine ⟨((), (), (s, ((a2 : Int), ())), D0 f, L0 f, ()), ?_⟩
        simp only [squash_unpacked]
        rw [show (0 : Int) = ((0 : Nat) : Int) from rfl, show ([] : List Int) = strBytes [] from rfl, this]
        simp only [Option.bind_some, g, e1, c', decide_true, cond_true, if_pos c, show ¬(4 = 0) by omega, if_false]
        rfl
      · have c' : ¬((a2 : Int) < ((8 * s.length : Nat) : Int)) := by omega
        refine ⟨((), (), (s, ((a2 : Int), ())), D0 f, L0 f, ()), ?_⟩
        simp only [squash_unpacked]
        rw [show (0 : Int) = ((0 : Nat) : Int) from rfl, show ([] : List Int) = strBytes [] from rfl, this]
        simp only [Option.bind_some, g, e1, c', decide_false, cond_false, if_neg c, if_true, bytesStr_strBytes]
    · have g := g2.loop (by omega)
      refine ⟨((), (), rd, D0 f, L0 f, ()), ?_⟩
      rw [g1]
      simp only [squash_unpacked]
      rw [show (0 : Int) = ((0 : Nat) : Int) from rfl, show ([] : List Int) = strBytes [] from rfl, this]
      simp only [Option.bind_some, g, show ¬(4 = 0) by omega, if_false]
      rfl
  · rw [h1]
    have := h2.loop (by omega)
    refine ⟨((), (), rd, D0 f, L0 f, ()), ?_⟩
    simp only [squash_unpacked]
    rw [show (0 : Int) = ((0 : Nat) : Int) from rfl, show ([] : List Int) = strBytes [] from rfl, this]
    rfl
end Go.Proofs.YtmnegopgidckoaaDoor
