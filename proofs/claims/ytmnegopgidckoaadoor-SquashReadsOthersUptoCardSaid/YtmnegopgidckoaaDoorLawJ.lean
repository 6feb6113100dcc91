import Derived.Test.YtmnegopgidckoaaDoorLawI
namespace Go.Proofs.YtmnegopgidckoaaDoor
open Go Go.Fe

abbrev TokL := List (Int × (Int × (Int × (Int × Unit))))
/-! ### The lengths and the codes -/
section
variable (g : Nat → Nat) (n : Nat)
/-- The lengths, once they are all set. -/
def fl (k : Nat) : Nat := if g k = 1 then n else 0
/-- .. and while they are set. -/
def mix (s k : Nat) : Nat := if k < s then fl g n k else g k
/-- The codes up to s. -/
def crep (s : Nat) : List Int := (List.range 272).map fun j => if j < s ∧ g j = 1 then ((rk g 1 j : Nat) : Int) else 0
/-- The text of the lengths up to s. -/
def lenT : Nat → Str
  | 0 => []
  | s + 1 => lenT s ++ bs 4 (fl g n s)
theorem lenT_len : ∀ s, (lenT g n s).length = 4 * s
  | 0 => rfl
  | s + 1 => by rw [lenT, List.length_append, lenT_len s, bs_len]; omega
theorem crep_len (s : Nat) : (crep g s).length = 272 := by simp [crep]
theorem crep_set {s : Nat} (hs : s < 272) (h : g s = 1) : (crep g s).set s ((rk g 1 s : Nat) : Int) = crep g (s + 1) := by
  apply List.ext_getElem
  · simp [crep]
  · intro i h1 h2
    rw [List.getElem_set]
    simp only [crep, List.getElem_map, List.getElem_range]
    by_cases e : s = i
    · subst e
      rw [if_pos rfl, if_pos ⟨by omega, h⟩]
    · rw [if_neg e]
      by_cases q : i < s ∧ g i = 1
      · rw [if_pos q, if_pos ⟨by omega, q.2⟩]
      · rw [if_neg q, if_neg (fun q' => q ⟨by omega, q'.2⟩)]
theorem crep_skip {s : Nat} (h : g s ≠ 1) : crep g s = crep g (s + 1) := by
  apply List.ext_getElem
  · simp [crep]
  · intro i h1 h2
    simp only [crep, List.getElem_map, List.getElem_range]
    by_cases q : i < s ∧ g i = 1
    · rw [if_pos q, if_pos ⟨by omega, q.2⟩]
    · rw [if_neg q, if_neg (fun q' => q ⟨by
        have : i ≠ s := fun e => by subst e; exact h q'.2
        omega, q'.2⟩)]
theorem crep_get {k : Nat} (hk : k < 272) (h : g k = 1) : (crep g 272).getD k 0 = ((rk g 1 k : Nat) : Int) := by
  simp [crep, List.getD, hk, h]
theorem mix_set {s : Nat} (hs : s < 272) (h : g s = 1) : (lens (mix g n s) 272).set s (n : Int) = lens (mix g n (s + 1)) 272 := by
  apply List.ext_getElem
  · simp [lens]
  · intro i h1 h2
    rw [List.getElem_set]
    simp only [lens, List.getElem_map, List.getElem_range, mix]
    by_cases e : s = i
    · subst e
      rw [if_pos rfl, if_pos (by omega), fl, if_pos h]
    · rw [if_neg e]
      by_cases q : i < s
      · rw [if_pos q, if_pos (by omega)]
      · rw [if_neg q, if_neg (by omega)]
theorem mix_skip {s : Nat} (h : g s = 0) : lens (mix g n s) 272 = lens (mix g n (s + 1)) 272 := by
  apply List.ext_getElem
  · simp [lens]
  · intro i h1 h2
    simp only [lens, List.getElem_map, List.getElem_range, mix]
    by_cases e : s = i
    · subst e
      rw [if_neg (by omega), if_pos (by omega), fl, if_neg (by omega), h]
    · by_cases q : i < s
      · rw [if_pos q, if_pos (by omega)]
      · rw [if_neg q, if_neg (by omega)]
theorem mix_zero : lens (mix g n 0) 272 = lens g 272 := by
  apply List.ext_getElem
  · simp [lens]
  · intro i h1 h2
    simp [lens, mix]
theorem crep_zero : crep g 0 = List.replicate 272 0 := by
  apply List.ext_getElem
  · rw [crep_len, List.length_replicate]
  · intro i h1 h2
    rw [List.getElem_replicate]
    simp [crep]
end

theorem lens_loop (g : Nat → Nat) (hg : ∀ k, g k ≤ 1) {n : Nat} (hn : 1 ≤ n) (hn' : n ≤ 6) (T : TokL) (r35 : Unit × (Unit × (Int × (TokL × ((List Int) × Unit))))) (h1 : r35.2.2.1 = (n : Int)) (h2 : r35.2.2.2.2.1.length = 272) :
    loop (chancerylaw2_SquashReadsOthers_l170 r35) ((), (), (), ((), ()), (), 0, 0, T, lens g 272, ([], ()), List.replicate 272 0, ()) = some ((), (), ((), ()), (), T, (lenT g n 272, ()), crep g 272, ()) := by
  have := Halts.along (f := chancerylaw2_SquashReadsOthers_l170 r35) (n := 0) (r := ((), (), ((), ()), (), T, (lenT g n 272, ()), crep g 272, ()))
    (fun s => ((), (), (), ((), ()), (), ((rk g 1 s : Nat) : Int), (s : Int), T, lens (mix g n s) 272, (lenT g n s, ()), crep g s, ())) 272 ?_ ?_
  · have h := this.loop (by omega)
    simp only [mix_zero, crep_zero] at h
    exact h
  · intro s hs
    have c : ((s : Int) < ((272 : Nat) : Int)) := by omega
    have hin : inb (s : Int) (lens (mix g n s) 272).length = true := inb_nat (by rw [lens_len]; exact hs)
    have hin2 : inb (s : Int) (crep g s).length = true := inb_nat (by rw [crep_len]; exact hs)
    have hin3 : inb (s : Int) (lens (mix g n (s + 1)) 272).length = true := inb_nat (by rw [lens_len]; exact hs)
    have m0 : mix g n s s = g s := if_neg (by omega)
    have m1 : mix g n (s + 1) s = fl g n s := if_pos (by omega)
    have hr := rk_le g 1 s
    have hput := put_eq (k := fl g n s) (n := 4) (by omega) (by unfold fl; split <;> omega) (o := lenT g n s) (by rw [lenT_len]; omega)
    have hput' : chancerylaw2_SquashReadsOthers_1 ((fl g n s : Nat) : Int) 4 (lenT g n s) = some ((), (lenT g n s ++ bs 4 (fl g n s), ()), ()) := hput
    have e1 : lenT g n (s + 1) = lenT g n s ++ bs 4 (fl g n s) := rfl
    have gs := hg s
    by_cases g1 : g s = 1
    · have d0 : (0 : Int) < ((g s : Nat) : Int) := by omega
      simp only [chancerylaw2_SquashReadsOthers_l170, h2, c, decide_true, cond_true, hin, chk_t, Option.bind_some, Int.toNat_natCast, lens_get _ hs, m0, d0, h1, mix_set g n hs g1, hin2, crep_set g hs g1, hin3, m1, hput', e1, wrap_succ (show s < 9223372036854775807 by omega), wrap_succ (show rk g 1 s < 9223372036854775807 by omega)]
      rw [rk_succ, if_pos g1]
    · have g0 : g s = 0 := by omega
      have d0 : ¬((0 : Int) < ((g s : Nat) : Int)) := by omega
      have e3 := mix_skip g n g0
      have e4 := crep_skip g g1
      rw [e3] at hin
      simp only [chancerylaw2_SquashReadsOthers_l170, h2, c, decide_true, cond_true, e3, hin, chk_t, Option.bind_some, Int.toNat_natCast, lens_get _ hs, m1, fl, if_neg g1]
      have f0 : fl g n s = 0 := if_neg g1
      rw [f0] at hput'
      simp only [show ¬((0 : Int) < ((0 : Nat) : Int)) by omega, decide_false, cond_false, Option.bind_some, hin, chk_t, lens_get _ hs, m1, f0, hput', e1, e4, wrap_succ (show s < 9223372036854775807 by omega)]
      rw [rk_succ, if_neg g1]
      rfl
  · refine .done ?_
    have c : ¬(((272 : Nat) : Int) < ((272 : Nat) : Int)) := by omega
    simp only [chancerylaw2_SquashReadsOthers_l170, h2, c, decide_false, cond_false]

/-- The text of a token. -/
def enc (g : Nat → Nat) (n : Nat) (t : Tok) : Str := bs n (rk g 1 t.1) ++ if 256 ≤ t.1 then bs t.2.2.1 t.2.1 ++ bs 15 t.2.2.2 else []
def encs (g : Nat → Nat) (n : Nat) : List Tok → Str
  | [] => []
  | t :: l => enc g n t ++ encs g n l
theorem encs_snoc (g : Nat → Nat) (n : Nat) (t : Tok) : ∀ l, encs g n (l ++ [t]) = encs g n l ++ enc g n t
  | [] => by simp [encs]
  | u :: l => by rw [List.cons_append, encs, encs, encs_snoc g n t l, List.append_assoc]

/-- What is known of the tokens. -/
def Good (L : List Tok) : Prop := ∀ t ∈ L, t.1 < 272 ∧ t.2.2.1 ≤ 8 ∧ t.2.1 < 256 ∧ t.2.2.2 < 32768
theorem exp_good {l : List Tok} {o : Str} (h : Exp l o) : Good l := by
  induction h with
  | nil => intro t h; cases h
  | byte c _ hc ih =>
    intro t h
    rcases List.mem_append.1 h with h | h
    · exact ih t h
    · simp only [List.mem_singleton] at h
      subst h
      exact ⟨by show c < 272; omega, by show 0 ≤ 8; omega, by show 0 < 256; omega, by show 0 < 32768; omega⟩
  | copy k a b _ h1 h2 h3 h4 _ ih =>
    intro t h
    rcases List.mem_append.1 h with h | h
    · exact ih t h
    · simp only [List.mem_singleton] at h
      subst h
      have q := (span2_le h1 h2).2.2
      have q2 := two_pow_le q
      have q8 : (2 : Nat) ^ 8 = 256 := rfl
      exact ⟨h2, q, by show a < 256; omega, h4⟩

theorem enc_len {g : Nat → Nat} {n : Nat} (hn : n ≤ 6) {t : Tok} (h : t.2.2.1 ≤ 8) : (enc g n t).length ≤ 29 := by
  unfold enc
  split <;> simp [bs_len] <;> omega
theorem encs_len {g : Nat → Nat} {n : Nat} (hn : n ≤ 6) : ∀ {L : List Tok}, Good L → (encs g n L).length ≤ 29 * L.length
  | [], _ => by simp [encs]
  | t :: l, h => by
    have h1 := enc_len (g := g) hn (h t (List.mem_cons_self ..)).2.1
    have h2 := encs_len (g := g) hn (L := l) (fun u hu => h u (List.mem_cons_of_mem _ hu))
    simp only [encs, List.length_append, List.length_cons]
    omega

theorem enc_loop (g : Nat → Nat) {n : Nat} (hn' : n ≤ 6) {L : List Tok} (hG : Good L) (hg : ∀ t ∈ L, g t.1 = 1) (hL : L.length ≤ 60) (b0 : Str) (hb : b0.length ≤ 2000) (r41 : Unit × (Unit × ((Unit × Unit) × (Unit × (TokL × ((Str × Unit) × ((List Int) × Unit))))))) (h41 : r41.2.2.2.2.1 = toks L) (r35 : Unit × (Unit × (Int × (TokL × ((List Int) × Unit))))) (h1 : r35.2.2.1 = (n : Int)) :
    loop (chancerylaw2_SquashReadsOthers_l194 r41 r35) ((), ((), ()), (), (), 0, (b0, ()), crep g 272, toks L, ()) = some ((), (b0 ++ encs g n L, ()), ()) := by
  have := Halts.along (f := chancerylaw2_SquashReadsOthers_l194 r41 r35) (n := 0) (r := ((), (b0 ++ encs g n L, ()), ()))
    (fun i => ((), ((), ()), (), (), (i : Int), (b0 ++ encs g n (L.take i), ()), crep g 272, toks L, ())) L.length ?_ ?_
  · have h := this.loop (by omega)
    simp only [List.take_zero, encs, List.append_nil] at h
    exact h
  · intro i hi
    have c : ((i : Int) < ((toks L).length : Int)) := by rw [toks_len]; omega
    have hin : inb (i : Int) (toks L).length = true := inb_nat (by rw [toks_len]; exact hi)
    have ht : L.take (i + 1) = L.take i ++ [L[i]] := by rw [List.take_add_one, List.getElem?_eq_getElem hi]; rfl
    have hm := List.getElem_mem hi
    obtain ⟨t1, t2, t3, t4⟩ := hG _ hm
    have tg := hg _ hm
    have htk := encs_len (g := g) hn' (L := L.take i) (fun u hu => hG u (List.mem_of_mem_take hu))
    have htl : (L.take i).length ≤ 60 := by simp; omega
    rw [ht, encs_snoc]
    generalize encs g n (L.take i) = e at *
    generalize ht' : L[i] = t at *
    have hin2 : inb (t.1 : Int) (crep g 272).length = true := inb_nat (by rw [crep_len]; exact t1)
    have hr := rk_le g 1 t.1
    have p1 := put_eq (k := rk g 1 t.1) (n := n) (by omega) (by omega) (o := b0 ++ e) (by simp; omega)
    have e1 : (tokI t).1 = ((t.1 : Nat) : Int) := rfl
    have e2 : (tokI t).2.1 = ((t.2.1 : Nat) : Int) := rfl
    have e3 : (tokI t).2.2.1 = ((t.2.2.1 : Nat) : Int) := rfl
    have e4 : (tokI t).2.2.2.1 = ((t.2.2.2 : Nat) : Int) := rfl
    by_cases h256 : 256 ≤ t.1
    · have d : (256 : Int) ≤ ((t.1 : Nat) : Int) := by omega
      have p2 := put_eq (k := t.2.1) (n := t.2.2.1) (by omega) (by omega) (o := b0 ++ e ++ bs n (rk g 1 t.1)) (by simp [bs_len]; omega)
      have p3 := put_eq (k := t.2.2.2) (n := 15) (by omega) (by omega) (o := b0 ++ e ++ bs n (rk g 1 t.1) ++ bs t.2.2.1 t.2.1) (by simp [bs_len]; omega)
      have p3' : chancerylaw2_SquashReadsOthers_1 ((t.2.2.2 : Nat) : Int) 15 (b0 ++ e ++ bs n (rk g 1 t.1) ++ bs t.2.2.1 t.2.1) = _ := p3
      simp only [chancerylaw2_SquashReadsOthers_l194, h41, c, decide_true, cond_true, hin, chk_t, Option.bind_some, Int.toNat_natCast, toks_get hi, ht', e1, e2, e3, e4, hin2, crep_get g t1 tg, h1, p1, d, p2, p3', wrap_succ (show i < 9223372036854775807 by omega)]
      simp only [enc, if_pos h256, List.append_assoc]
    · have d : ¬((256 : Int) ≤ ((t.1 : Nat) : Int)) := by omega
      simp only [chancerylaw2_SquashReadsOthers_l194, h41, c, decide_true, cond_true, hin, chk_t, Option.bind_some, Int.toNat_natCast, toks_get hi, ht', e1, hin2, crep_get g t1 tg, h1, p1, d, decide_false, cond_false, wrap_succ (show i < 9223372036854775807 by omega)]
      simp only [enc, if_neg h256, List.append_assoc, List.append_nil]
  · refine .done ?_
    simp [chancerylaw2_SquashReadsOthers_l194, h41, toks_len]

/-- Zeros up to whole bytes. -/
theorem pad_zeros (x : Str) (hx : x.length ≤ 100000) : loop chancerylaw2_SquashReadsOthers_l205 ((), (x, ()), ()) = some ((), (x ++ List.replicate ((8 - x.length % 8) % 8) 48, ()), ()) := by
  have key : ∀ (m : Nat) (x : Str), x.length ≤ 100010 - m → m ≤ 8 → m = (8 - x.length % 8) % 8 → Halts chancerylaw2_SquashReadsOthers_l205 m ((), (x, ()), ()) ((), (x ++ List.replicate m 48, ()), ()) := by
    intro m
    induction m with
    | zero =>
      intro x _ _ hm
      refine .done ?_
      simp only [chancerylaw2_SquashReadsOthers_l205]
      rw [show (8 : Int) = ((8 : Nat) : Int) from rfl, rem_nat (by omega), show x.length % 8 = 0 by omega]
      simp
    | succ m ih =>
      intro x hx h8 hm
      have := ih (x ++ [48]) (by simp; omega) (by omega) (by simp; omega)
      rw [List.append_assoc] at this
      refine .step ?_ this
      have c : decide (((x.length % 8 : Nat) : Int) = 0) = false := by simp; omega
      simp only [chancerylaw2_SquashReadsOthers_l205]
      rw [show (8 : Int) = ((8 : Nat) : Int) from rfl, rem_nat (by omega)]
      simp only [Option.bind_some, c, Bool.not_false, cond_true]
      rw [cat_ok (by simp; omega)]
      rfl
  exact (key _ x (by omega) (by omega) rfl).loop (by omega)

/-! ### Bytes out of bits -/
/-- Bit i of a text of bits. -/
def tb (T : Str) (i : Nat) : Nat := (T.getD i 0).toNat - 48
def IsBits (T : Str) : Prop := ∀ c ∈ T, c = 48 ∨ c = 49
theorem tb_lt {T : Str} (h : IsBits T) (i : Nat) : tb T i < 2 := by
  unfold tb
  by_cases hi : i < T.length
  · have := h _ (List.getElem_mem hi)
    rw [getD_lt hi]
    rcases this with e | e <;> rw [e] <;> decide
  · simp [List.getD, List.getElem?_eq_none (show T.length ≤ i by omega)]
theorem tb_char {T : Str} (h : IsBits T) {i : Nat} (hi : i < T.length) : IntKind.i64.wrap (IntKind.u8.wrap (ofByte T[i] - 48)) = ((tb T i : Nat) : Int) := by
  have := h _ (List.getElem_mem hi)
  unfold tb
  rw [getD_lt hi]
  rcases this with e | e <;> rw [e] <;> rfl
/-- The number of m bits from i on. -/
def tv (T : Str) (i : Nat) : Nat → Nat
  | 0 => 0
  | m + 1 => 2 * tv T i m + tb T (i + m)
theorem tv_lt {T : Str} (h : IsBits T) (i : Nat) : ∀ m, tv T i m < 2 ^ m
  | 0 => by simp [tv]
  | m + 1 => by
    have := tv_lt h i m
    have := tb_lt h (i + m)
    rw [tv, Nat.pow_succ]
    omega
def packB (T : Str) (m : Nat) : Str := (List.range m).map fun i => UInt8.ofNat (tv T (8 * i) 8)

theorem byte_loop {T : Str} (h : IsBits T) {i : Nat} (hi : 8 * i + 8 ≤ T.length) (hT : T.length ≤ 100000) (p : Unit × (Str × (Int × ((Str × Unit) × Unit)))) (hp : p.2.2.1 = ((8 * i : Nat) : Int)) :
    loop (chancerylaw2_SquashReadsOthers_l229 p) ((), 0, 0, (T, ()), ()) = some ((), ((tv T (8 * i) 8 : Nat) : Int), (T, ()), ()) := by
  have := Halts.along (f := chancerylaw2_SquashReadsOthers_l229 p) (n := 0) (r := ((), ((tv T (8 * i) 8 : Nat) : Int), (T, ()), ()))
    (fun j => ((), ((tv T (8 * i) j : Nat) : Int), (j : Int), (T, ()), ())) 8 ?_ ?_
  · exact this.loop (by omega)
  · intro j hj
    have c : ((j : Int) < 8) := by omega
    have hlt : 8 * i + j < T.length := by omega
    have e1 : IntKind.i64.wrap (((8 * i : Nat) : Int) + (j : Int)) = ((8 * i + j : Nat) : Int) := wrap_add (by omega)
    have hv := tv_lt h (8 * i) j
    have hv2 := two_pow_le (show j ≤ 8 by omega)
    have q8 : (2 : Nat) ^ 8 = 256 := rfl
    simp only [chancerylaw2_SquashReadsOthers_l229, c, decide_true, cond_true, hp, e1, idx_lt hlt, Option.bind_some, tb_char h hlt, wrap_two (show tv T (8 * i) j < 4611686018427387000 by omega) (tb_lt h (8 * i + j)), wrap_succ (show j < 9223372036854775807 by omega), tv]
  · exact .done (by simp [chancerylaw2_SquashReadsOthers_l229])

theorem pack_loop {T : Str} (h : IsBits T) {m : Nat} (hm : T.length = 8 * m) (hT : T.length ≤ 100000) (h0 : Str) (hh : h0.length ≤ 10) :
    loop chancerylaw2_SquashReadsOthers_l239 ((), h0, 0, (T, ()), ()) = some (h0 ++ packB T m, ()) := by
  have := Halts.along (f := chancerylaw2_SquashReadsOthers_l239) (n := 0) (r := (h0 ++ packB T m, ()))
    (fun i => ((), h0 ++ packB T i, ((8 * i : Nat) : Int), (T, ()), ())) m ?_ ?_
  · have h := this.loop (by omega)
    have e : packB T 0 = [] := rfl
    simp only [e, List.append_nil] at h
    exact h
  · intro i hi
    have c : (((8 * i : Nat) : Int) < (T.length : Int)) := by omega
    have hb := byte_loop h (i := i) (by omega) hT ((), h0 ++ packB T i, ((8 * i : Nat) : Int), (T, ()), ()) rfl
    have hv := tv_lt h (8 * i) 8
    have q8 : (2 : Nat) ^ 8 = 256 := rfl
    have e1 : IntKind.i64.wrap (((8 * i : Nat) : Int) + 8) = ((8 * (i + 1) : Nat) : Int) := by rw [wrap_i64 (by omega) (by omega)]; omega
    have e2 : IntKind.u8.wrap ((tv T (8 * i) 8 : Nat) : Int) = ((tv T (8 * i) 8 : Nat) : Int) := wrap_u8i (by omega) (by omega)
    simp only [chancerylaw2_SquashReadsOthers_l239, c, decide_true, cond_true, hb, Option.bind_some, e1, e2, bytes_one]
    rw [cat_ok (by simp [packB]; omega), List.append_assoc]
    have e3 : packB T (i + 1) = packB T i ++ [UInt8.ofNat (tv T (8 * i) 8)] := by simp [packB, List.range_succ]
    rw [e3]
    rfl
  · refine .done ?_
    have c : ¬(((8 * m : Nat) : Int) < (T.length : Int)) := by omega
    simp only [chancerylaw2_SquashReadsOthers_l239, c, decide_false, cond_false]
end Go.Proofs.YtmnegopgidckoaaDoor
