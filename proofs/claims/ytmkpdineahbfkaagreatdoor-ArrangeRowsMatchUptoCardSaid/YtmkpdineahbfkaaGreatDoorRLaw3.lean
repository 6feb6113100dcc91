import Derived.Test.YtmkpdineahbfkaaGreatDoorRLaw2
namespace Go.Proofs.YtmkpdineahbfkaaGreatDoor
open Go Go.Fe

/-! ### Texts of digits -/
def isDigit (c : UInt8) : Bool := decide (48 ≤ c.toNat ∧ c.toNat ≤ 57)
def dec (s : Str) : Nat := s.foldl (fun n c => 10 * n + (c.toNat - 48)) 0
theorem dec_snoc (s : Str) (c : UInt8) : dec (s ++ [c]) = 10 * dec s + (c.toNat - 48) := by simp [dec]
theorem dec_lt : ∀ (k : Nat) (s : Str), s.length = k → s.all isDigit = true → dec s + 1 ≤ 10 ^ k
  | 0, s, h, _ => by
    have : s = [] := List.eq_nil_of_length_eq_zero h
    subst this
    simp [dec]
  | k + 1, s, h, ha => by
    obtain ⟨t, c, rfl⟩ : ∃ t c, s = t ++ [c] := ⟨s.dropLast, s.getLast (by intro e; subst e; simp at h), (List.dropLast_concat_getLast _).symm⟩
    simp only [List.all_append, Bool.and_eq_true] at ha
    have h1 := dec_lt k t (by simpa using h) ha.1
    have h2 : isDigit c = true := by simpa using ha.2
    simp only [isDigit, decide_eq_true_eq] at h2
    rw [dec_snoc, Nat.pow_succ]
    omega
theorem dec_small {s : Str} (h : s.length ≤ 10) (ha : s.all isDigit = true) : dec s < 10000000000 := by
  have h1 := dec_lt _ s rfl ha
  have h2 : 10 ^ s.length ≤ 10 ^ 10 := Nat.pow_le_pow_right (by omega) h
  omega
theorem dec_take {s : Str} {i : Nat} (h : i < s.length) : dec (s.take (i + 1)) = 10 * dec (s.take i) + (s[i].toNat - 48) := by
  rw [List.take_succ_eq_append_getElem h, dec_snoc]

theorem parse_digits : ∀ (s : Str) (acc : Nat), s.all isDigit = true → (acc + 1) * 10 ^ s.length ≤ 10000000000 → Lib.parseUint10 acc s = .ok (s.foldl (fun n c => 10 * n + (c.toNat - 48)) acc)
  | [], acc, _, _ => rfl
  | c :: r, acc, ha, hb => by
    simp only [List.all_cons, Bool.and_eq_true] at ha
    have h1 := ha.1
    simp only [isDigit, decide_eq_true_eq] at h1
    have hp : 1 ≤ 10 ^ r.length := Nat.pow_pos (by omega)
    have hb' : (10 * acc + (c.toNat - 48) + 1) * 10 ^ r.length ≤ 10000000000 := by
      rw [List.length_cons, Nat.pow_succ] at hb
      have : (10 * acc + (c.toNat - 48) + 1) * 10 ^ r.length ≤ ((acc + 1) * 10) * 10 ^ r.length := Nat.mul_le_mul_right _ (by omega)
      have e : (acc + 1) * (10 ^ r.length * 10) = ((acc + 1) * 10) * 10 ^ r.length := by rw [Nat.mul_comm (10 ^ r.length) 10, Nat.mul_assoc]
      omega
    have hacc : 10 * acc + (c.toNat - 48) + 1 ≤ 10000000000 := Nat.le_trans (Nat.le_mul_of_pos_right _ hp) hb'
    have ih := parse_digits r (10 * acc + (c.toNat - 48)) ha.2 hb'
    simp only [Lib.parseUint10]
    rw [if_pos h1, if_neg (by omega), if_neg (by omega), show acc * 10 + (c.toNat - 48) = 10 * acc + (c.toNat - 48) by omega]
    exact ih

theorem sAtoi_digits {s : Str} (h0 : s ≠ []) (h : s.length ≤ 10) (ha : s.all isDigit = true) : sAtoi (no_index (s, ())) = some ((dec s : Int), false, ()) := by
  have hp : 10 ^ s.length ≤ 10 ^ 10 := Nat.pow_le_pow_right (by omega) h
  have hu := parse_digits s 0 ha (by omega)
  have hd := dec_small h ha
  have e : Lib.atoiAll s = .ok (dec s : Int) := by
    cases s with
    | nil => exact absurd rfl h0
    | cons c r =>
      have h1 : isDigit c = true := by simp only [List.all_cons, Bool.and_eq_true] at ha; exact ha.1
      simp only [isDigit, decide_eq_true_eq] at h1
      have n1 : ¬ c.toNat = 43 := by omega
      have n2 : ¬ c.toNat = 45 := by omega
      have n3 : ¬ 9223372036854775808 ≤ dec (c :: r) := by omega
      have hu' : Lib.parseUint10 0 (c :: r) = .ok (dec (c :: r)) := hu
      simp [Lib.atoiAll, n1, n2, Lib.parseMag, hu', n3]
  unfold sAtoi
  rw [if_pos (by show s.length ≤ 281474976710656; omega)]
  simp only [e]
theorem decDigits_small {n : Nat} (h : n < 10) : Lib.decDigits n = [UInt8.ofNat (48 + n)] := by rw [Lib.decDigits, dif_pos h]
theorem decDigits_big {n : Nat} (h : ¬ n < 10) : Lib.decDigits n = Lib.decDigits (n / 10) ++ [UInt8.ofNat (48 + n % 10)] := by rw [Lib.decDigits, dif_neg h]
theorem dec_append (p q : Str) : dec (p ++ q) = dec p * 10 ^ q.length + dec q := by
  generalize hn : q.length = n
  induction n generalizing q with
  | zero =>
    have : q = [] := List.length_eq_zero_iff.1 hn
    subst this
    simp [dec]
  | succ n ih =>
    obtain ⟨r, x, rfl⟩ : ∃ r x, q = r ++ [x] := ⟨q.dropLast, q.getLast (by intro e; simp [e] at hn), (List.dropLast_concat_getLast _).symm⟩
    rw [← List.append_assoc, dec_snoc, dec_snoc, ih r (by simpa using hn), Nat.pow_succ]
    grind
/-- The decimal text of a number. -/
abbrev txt (n : Nat) : Str := Lib.decDigits n
def chr (x : Nat) : UInt8 := UInt8.ofNat (48 + x)
theorem txt_rep {n : Nat} (h : 0 < n) : txt n = (rep 10 n).reverse.map fun x => chr x.toNat := by
  induction n using Nat.strongRecOn with
  | ind n ih =>
    rw [rep_cons (by decide) h]
    by_cases h1 : n < 10
    · rw [txt, decDigits_small h1, Nat.div_eq_of_lt h1, Nat.mod_eq_of_lt h1]
      simp [chr]
    · rw [txt, decDigits_big h1, ← txt, ih (n / 10) (by omega) (by omega)]
      have e : ((n % 10 : Nat) : Int).toNat = n % 10 := Int.toNat_natCast _
      simp only [List.reverse_cons, List.map_append, List.map_cons, List.map_nil, e]
      rfl
theorem dec_txt (n : Nat) : dec (txt n) = n := by
  induction n using Nat.strongRecOn with
  | ind n ih =>
    by_cases h1 : n < 10
    · rw [txt, decDigits_small h1]
      have : (48 + n) % 256 = 48 + n := by omega
      simp [dec, this]
    · rw [txt, decDigits_big h1, dec_snoc, ih (n / 10) (by omega)]
      have : (48 + n % 10) % 256 = 48 + n % 10 := by omega
      simp [this]
      omega
/-! ### The reference's texts -/
theorem text_halts {xs : List Int} (hx : InB 10 xs) (hs : xs.length < 1000000) : ∀ i (acc : List Int), i ≤ xs.length → acc.length + i ≤ xs.length →
    Halts (chanceryref2_Nat__Text_l1 xs) i ((), (i : Int) - 1, acc, ()) ((), acc ++ (xs.take i).reverse.map fun x => 48 + x, ())
  | 0, acc, _, _ => by
    refine .done ?_
    unfold chanceryref2_Nat__Text_l1
    dsimp only
    rw [decide_eq_false (by omega), cond_false]
    simp
  | i + 1, acc, hi, ha => by
    have e : ((i + 1 : Nat) : Int) - 1 = (i : Int) := by omega
    have ih := text_halts hx hs i (acc ++ [48 + xs[i]]) (by omega) (by simp; omega)
    have hb := hx xs[i] (List.getElem_mem _)
    rw [List.take_succ_eq_append_getElem (by omega)]
    simp only [List.reverse_append, List.reverse_cons, List.reverse_nil, List.nil_append, List.map_cons, List.singleton_append, List.append_assoc] at ih ⊢
    refine .step ?_ ih
    have w1 : IntKind.u8.wrap (IntKind.i64.wrap (48 + xs[i])) = 48 + xs[i] := by rw [wrap_i64 (by omega) (by omega), wrap_u8i (by omega) (by omega)]
    have w : IntKind.i64.wrap ((i : Int) - 1) = (i : Int) - 1 := wrap_i64 (by omega) (by omega)
    unfold chanceryref2_Nat__Text_l1
    dsimp only
    rw [e, decide_eq_true (by omega), cond_true, idx_lt (by omega)]
    simp only [Option.bind_some, w1, w]
    rw [cat_ok (by simp; omega)]
    rfl
theorem rtext_eq {n : Nat} (hs : dl n < 1000000) : chanceryref2_Nat__Text (rep 10 n) = some (txt n, ()) := by
  have ln := len10 n
  unfold chanceryref2_Nat__Text
  by_cases h0 : n = 0
  · subst h0
    rw [txt, decDigits_small (by omega)]
    rfl
  · have := dl_pos (n := n) (by omega)
    have w : IntKind.i64.wrap (((rep 10 n).length : Int) - 1) = ((rep 10 n).length : Int) - 1 := wrap_i64 (by omega) (by omega)
    have hl := (text_halts (xs := rep 10 n) (.rep (by decide)) (by omega) (rep 10 n).length [] (by omega) (by simp)).loop (by omega)
    rw [decide_eq_false (by omega), cond_false, w, hl, Option.bind_some]
    dsimp only
    rw [txt_rep (by omega), List.take_length, List.nil_append]
    simp only [bytesStr, List.map_map]
    congr 2
    apply List.map_congr_left
    intro x hx
    have hb : InB 10 (rep 10 n) := .rep (by decide)
    have := hb x (List.mem_reverse.1 hx)
    simp only [Function.comp, byteOfInt, chr]
    congr 1
    omega
theorem natof_halts {s : Str} (ha : s.all isDigit = true) (hs : s.length < 1000000) : ∀ i (acc : List Int), i ≤ s.length → acc.length + i ≤ s.length → InB 10 acc → val 10 acc + 10 ^ acc.length * dec (s.take i) = dec s →
    ∃ out, Halts (chanceryref2_NatOf_l1 s) i ((), (i : Int) - 1, acc, ()) ((), out, ()) ∧ InB 10 out ∧ val 10 out = dec s ∧ out.length < 1000000
  | 0, acc, _, hl, hb, hv => by
    refine ⟨acc, .done ?_, hb, ?_, by omega⟩
    · unfold chanceryref2_NatOf_l1
      dsimp only
      rw [decide_eq_false (by omega), cond_false]
    · rw [← hv]
      simp [dec]
  | i + 1, acc, hi, hl, hb, hv => by
    have e : ((i + 1 : Nat) : Int) - 1 = (i : Int) := by omega
    have hd : isDigit s[i] = true := List.all_eq_true.1 ha _ (List.getElem_mem _)
    simp only [isDigit, decide_eq_true_eq] at hd
    obtain ⟨out, h1, h2⟩ := natof_halts ha hs i (acc ++ [((s[i].toNat - 48 : Nat) : Int)]) (by omega) (by simp; omega) (hb.append (.one (by omega))) (by
      rw [val_append, ← hv, dec_take (by omega)]
      simp only [val, Nat.mul_zero, Nat.add_zero, Int.toNat_natCast, List.length_append, List.length_cons, List.length_nil, Nat.zero_add, Nat.pow_succ]
      grind)
    refine ⟨out, .step ?_ h1, h2⟩
    have w1 : IntKind.i64.wrap (IntKind.u8.wrap (ofByte s[i] - 48)) = ((s[i].toNat - 48 : Nat) : Int) := by
      rw [ofByte_eq, wrap_u8i (by omega) (by omega), wrap_i64 (by omega) (by omega)]
      omega
    have w : IntKind.i64.wrap ((i : Int) - 1) = (i : Int) - 1 := wrap_i64 (by omega) (by omega)
    unfold chanceryref2_NatOf_l1
    dsimp only
    rw [e, decide_eq_true (by omega), cond_true, idx_lt (by omega)]
    simp only [Option.bind_some, w1, w]
    rw [cat_ok (by simp; omega)]
    rfl
theorem natof_eq {s : Str} (ha : s.all isDigit = true) (hs : s.length < 1000000) : chanceryref2_NatOf s = some (rep 10 (dec s), ()) := by
  obtain ⟨out, h1, h2, h3, h4⟩ := natof_halts ha hs s.length [] (by omega) (by simp) (fun _ h => by cases h) (by simp [val])
  have w : IntKind.i64.wrap ((s.length : Int) - 1) = (s.length : Int) - 1 := wrap_i64 (by omega) (by omega)
  unfold chanceryref2_NatOf
  rw [w, h1.loop (by omega), Option.bind_some]
  dsimp only
  rw [rtrim_eq (by omega), trim_rep (by decide) h2, h3]
  rfl
/-! ### The program's texts -/
theorem parse_halts : ∀ (f : Nat) (s : Str) (acc : List Int), s.length ≤ f → s.all isDigit = true → s.length + acc.length < 1000000 → InB B9 acc →
    ∃ out, Halts exact_parse_l1 f (s, (), acc, ()) ((), out, ()) ∧ InB B9 out ∧ val B9 out = val B9 acc + B9 ^ acc.length * dec s ∧ out.length < 1000000
  | f, s, acc, hf, ha, hl, hb => by
    by_cases h0 : s = []
    · subst h0
      refine ⟨acc, .done ?_, hb, by simp [dec], by omega⟩
      unfold exact_parse_l1
      rfl
    · have hp := List.length_pos_iff.2 h0
      cases f with
      | zero => omega
      | succ f =>
        obtain ⟨k, hk⟩ : ∃ k : Nat, k = s.length - 9 := ⟨_, rfl⟩
        have hm : mx 0 (IntKind.i64.wrap ((s.length : Int) - 9)) = (k : Int) := by
          rw [wrap_i64 (by omega) (by omega)]
          unfold mx
          split <;> omega
        have c1 : cut s (k : Int) (s.length : Int) = some (s.drop k) := by
          have := cut_nat (xs := s) (a := k) (b := s.length) (by omega) (by omega)
          rwa [List.take_length] at this
        have c2 : cut s 0 (k : Int) = some (s.take k) := by
          have := cut_nat (xs := s) (a := 0) (b := k) (by omega) (by omega)
          simpa using this
        have hall : (s.take k).all isDigit = true ∧ (s.drop k).all isDigit = true := by
          have := ha
          rw [← List.take_append_drop k s, List.all_append, Bool.and_eq_true] at this
          exact this
        have hdl : (s.drop k).length ≤ 9 := by rw [List.length_drop]; omega
        have hdp : s.drop k ≠ [] := List.length_pos_iff.1 (by rw [List.length_drop]; omega)
        have hat : sAtoi (s.drop k, ()) = some ((dec (s.drop k) : Int), false, ()) := sAtoi_digits hdp (by omega) hall.2
        have hlt := dec_lt _ (s.drop k) rfl hall.2
        have hlt2 : dec (s.drop k) < B9 := by
          have : (10 : Nat) ^ (s.drop k).length ≤ 10 ^ 9 := Nat.pow_le_pow_right (by omega) hdl
          simp only [B9]
          omega
        have w : IntKind.u32.wrap (dec (s.drop k) : Int) = (dec (s.drop k) : Int) := by
          simp only [B9] at hlt2
          rw [wrap_u32i (by omega) (by omega)]
        have hc : cat acc [(dec (s.drop k) : Int)] = some (acc ++ [(dec (s.drop k) : Int)]) := cat_ok (by simp; omega)
        have htl : (s.take k).length = k := by rw [List.length_take]; omega
        obtain ⟨out, h1, h2, h3, h4⟩ := parse_halts f (s.take k) (acc ++ [(dec (s.drop k) : Int)]) (by omega) hall.1 (by simp; omega) (hb.append (.one hlt2))
        refine ⟨out, .step ?_ h1, h2, ?_, h4⟩
        · unfold exact_parse_l1
          dsimp only
          rw [decide_eq_true (by omega), cond_true, hm, c1]
          simp only [Option.bind_some]
          rw [hat]
          simp only [Option.bind_some, w, hc, c2]
        · rw [h3, val_append]
          have hd := dec_append (s.take k) (s.drop k)
          rw [List.take_append_drop, List.length_drop] at hd
          simp only [val, Nat.mul_zero, Nat.add_zero, Int.toNat_natCast, List.length_append, List.length_cons, List.length_nil, Nat.zero_add, Nat.pow_succ]
          rw [hd]
          by_cases hk0 : k = 0
          · rw [hk0]
            simp [dec]
          · rw [show s.length - k = 9 by omega, show (10 : Nat) ^ 9 = B9 from rfl]
            generalize B9 = K
            generalize K ^ acc.length = P
            grind
theorem parse_eq {s : Str} (ha : s.all isDigit = true) (hs : s.length < 1000000) : exact_parse s = some (rep B9 (dec s), ()) := by
  obtain ⟨out, h1, h2, h3, h4⟩ := parse_halts s.length s [] (by omega) ha (by simp; omega) (fun _ h => by cases h)
  unfold exact_parse
  rw [h1.loop (by omega), Option.bind_some]
  dsimp only
  rw [trim_eq (by omega), trim_rep (by decide) h2, h3]
  simp [val]
end Go.Proofs.YtmkpdineahbfkaaGreatDoor

namespace Go.Proofs.YtmkpdineahbfkaaGreatDoor
open Go Go.Fe

/-! ### Strings of digits -/
def tabD : List Bool := (List.range 256).map fun n => decide (48 ≤ n ∧ n ≤ 57)
theorem makeSet_eq : strings_makeASCIISet [48, 49, 50, 51, 52, 53, 54, 55, 56, 57] = some (tabD, true, ()) := by kernel_rfl
theorem tab_get (c : UInt8) : tabD.getD c.toNat false = isDigit c := by
  have := byte_lt c
  simp [tabD, isDigit, this]
theorem contains_eq (c : UInt8) : _strings_asciiSet__contains (ofByte c) tabD = some (isDigit c, (), tabD, ()) := by
  have := byte_lt c
  unfold _strings_asciiSet__contains
  rw [ofByte_eq, inb_nat this]
  simp only [chk_t, Option.bind_some, Int.toNat_natCast, tab_get]
theorem trimR_halts : ∀ (n : Nat) (s : Str), s.length = n → n < 1000000000 → Halts strings_trimRightASCII_l1 n (s, (), tabD, ()) ((s.reverse.dropWhile isDigit).reverse, (), tabD, ())
  | 0, s, h, _ => by
    have : s = [] := List.length_eq_zero_iff.1 h
    subst this
    exact .done rfl
  | n + 1, s, h, hn => by
    obtain ⟨ys, x, rfl⟩ : ∃ ys x, s = ys ++ [x] := ⟨s.dropLast, s.getLast (by intro e; simp [e] at h), (List.dropLast_concat_getLast _).symm⟩
    have hy : ys.length = n := by simpa using h
    have hl : ((ys ++ [x]).length : Int) = ((n + 1 : Nat) : Int) := by rw [h]
    have w := wrapS (i := n) (by omega)
    have hi : idx (ys ++ [x]) (n : Int) = some x := by rw [idx_lt (by simp; omega)]; simp [hy]
    have hc : cut (ys ++ [x]) 0 (n : Int) = some ys := by
      have := cut_nat (xs := ys ++ [x]) (a := 0) (b := n) (by omega) (by simp; omega)
      simpa [hy] using this
    have hst : strings_trimRightASCII_l1 (ys ++ [x], (), tabD, ()) = if isDigit x = true then some (.inl (ys, (), tabD, ())) else some (.inr (ys ++ [x], (), tabD, ())) := by
      unfold strings_trimRightASCII_l1
      dsimp only
      rw [hl, decide_eq_true (by omega), cond_true, w, hi, Option.bind_some, contains_eq, Option.bind_some]
      dsimp only
      cases hd : isDigit x with
      | true => simp [hc]
      | false => simp
    rw [List.reverse_append, List.reverse_cons, List.reverse_nil, List.nil_append, List.singleton_append, List.dropWhile_cons]
    by_cases hd : isDigit x = true
    · rw [if_pos hd] at hst ⊢
      exact .step hst (trimR_halts n ys hy (by omega))
    · rw [if_neg hd] at hst ⊢
      rw [List.reverse_cons, List.reverse_reverse]
      exact .done hst
theorem trimL_halts : ∀ (s : Str), s.length < 1000000000 → Halts strings_trimLeftASCII_l1 s.length (s, (), tabD, ()) (s.dropWhile isDigit, (), tabD, ())
  | [], _ => .done rfl
  | x :: r, h => by
    have hc : cut (x :: r) 1 ((x :: r).length : Int) = some r := by
      have := cut_nat (xs := x :: r) (a := 1) (b := (x :: r).length) (by simp) (by omega)
      simpa using this
    have hst : strings_trimLeftASCII_l1 (x :: r, (), tabD, ()) = if isDigit x = true then some (.inl (r, (), tabD, ())) else some (.inr (x :: r, (), tabD, ())) := by
      unfold strings_trimLeftASCII_l1
      dsimp only
      rw [decide_eq_true (by simp only [List.length_cons]; omega), cond_true, hc, idx_zero, List.getElem?_cons_zero, Option.bind_some, contains_eq, Option.bind_some]
      dsimp only
      cases hd : isDigit x with
      | true => simp
      | false => simp
    rw [List.dropWhile_cons]
    by_cases hd : isDigit x = true
    · rw [if_pos hd] at hst ⊢
      exact .step hst (trimL_halts r (by simp at h; omega))
    · rw [if_neg hd] at hst ⊢
      exact (Halts.done hst)
theorem dropWhile_nil {s : Str} {p : UInt8 → Bool} : s.dropWhile p = [] ↔ s.all p = true := by
  induction s with
  | nil => simp
  | cons c r ih =>
    rw [List.dropWhile_cons, List.all_cons]
    cases h : p c with
    | true => simp [ih]
    | false => simp
theorem digitsTrim {s : Str} (h : s.length < 1000000000) : ∃ t, strings_Trim s [48, 49, 50, 51, 52, 53, 54, 55, 56, 57] = some (t, ()) ∧ (t = [] ↔ s.all isDigit = true) := by
  unfold strings_Trim
  by_cases h0 : s = []
  · subst h0
    exact ⟨[], rfl, by simp⟩
  · have hr := (trimR_halts _ s rfl h).loop (by omega)
    have hl2 : ((s.reverse.dropWhile isDigit).reverse).length < 1000000000 := by
      have := (List.dropWhile_sublist isDigit (l := s.reverse)).length_le
      simp at this ⊢
      omega
    have hl := (trimL_halts _ hl2).loop (by omega)
    refine ⟨(s.reverse.dropWhile isDigit).reverse.dropWhile isDigit, ?_, ?_⟩
    · rw [decide_eq_false h0, cond_false]
      have e1 : (decide (([48, 49, 50, 51, 52, 53, 54, 55, 56, 57] : Str) = [])) = false := rfl
      have e2 : (decide ((([48, 49, 50, 51, 52, 53, 54, 55, 56, 57] : Str).length : Int) = 1)) = false := rfl
      rw [e1, Option.bind_some]
      dsimp only
      rw [cond_false, e2, cond_false, Option.bind_some]
      dsimp only
      rw [cond_false, makeSet_eq, Option.bind_some]
      dsimp only
      rw [cond_true]
      unfold strings_trimRightASCII strings_trimLeftASCII
      rw [hr, Option.bind_some, Option.bind_some]
      dsimp only
      rw [hl]
      rfl
    · rw [dropWhile_nil]
      constructor
      · intro g
        rw [List.all_reverse] at g
        have : s.reverse.dropWhile isDigit = [] := by
          cases hq : s.reverse.dropWhile isDigit with
          | nil => rfl
          | cons c r =>
            have := List.head?_dropWhile_not isDigit s.reverse
            rw [hq] at this g
            simp at this g
            rw [g.1] at this
            cases this
        rw [dropWhile_nil, List.all_reverse] at this
        exact this
      · intro g
        have : s.reverse.dropWhile isDigit = [] := dropWhile_nil.2 (by rw [List.all_reverse]; exact g)
        rw [this]
        rfl
/-- Digits without a wrong zero. -/
def Digs (s : Str) : Bool := s.all isDigit && decide (s ≠ [] ∧ (s.head? ≠ some 48 ∨ s = [48]))
theorem ofByte_48 (c : UInt8) : decide (ofByte c = 48) = decide (c = 48) := by
  rw [ofByte_eq]
  by_cases h : c = 48
  · subst h; rfl
  · rw [decide_eq_false h, decide_eq_false]
    intro e
    exact h (UInt8.toNat_inj.1 (by
      have : (48 : UInt8).toNat = 48 := rfl
      omega))
theorem digits_eq {s : Str} (h : s.length < 1000000000) : exact_digits s = some (Digs s, ()) := by
  obtain ⟨t, h1, h2⟩ := digitsTrim h
  unfold exact_digits
  rw [h1]
  cases s with
  | nil => rfl
  | cons c r =>
    rw [decide_eq_false (by simp), cond_false, idx_zero, List.getElem?_cons_zero, Option.bind_some, ofByte_48]
    have h3 : decide (t = []) = (c :: r).all isDigit := by
      cases ht : (c :: r).all isDigit with
      | true => exact decide_eq_true (h2.2 ht)
      | false => exact decide_eq_false (fun e => by rw [h2.1 e] at ht; cases ht)
    by_cases hc : c = 48
    · subst hc
      rw [decide_eq_true rfl, cond_true, Option.bind_some]
      dsimp only
      cases r with
      | nil => 
        simp only [List.length_cons, List.length_nil]
        rw [decide_eq_false (by omega), cond_false, Option.bind_some]
        dsimp only
        rw [h3]
        simp [Digs]
      | cons d r =>
        rw [decide_eq_true (by simp only [List.length_cons]; omega), cond_true]
        simp [Digs]
    · rw [decide_eq_false hc, cond_false, Option.bind_some]
      dsimp only
      rw [cond_false, Option.bind_some]
      dsimp only
      rw [h3]
      simp [Digs, hc]
theorem rdigits_eq {s : Str} (h : s.length < 1000000000) : chanceryref2_Digits s = some (Digs s, ()) := by
  have hloop : loop (chanceryref2_Digits_l1 s) (0, ()) = some (if s.all isDigit = true then .inl () else .inr (false, ())) := by
    have hst : ∀ i, (hi : i < s.length) → chanceryref2_Digits_l1 s ((i : Int), ()) = if isDigit s[i] = true then some (.inl (((i + 1 : Nat) : Int), ())) else some (.inr (.inr (false, ()))) := fun i hi => by
      unfold chanceryref2_Digits_l1
      dsimp only
      rw [decide_eq_true (by omega), cond_true, idx_lt hi]
      simp only [Option.bind_some, ofByte_eq, wrapI1 (i := i) (by omega)]
      by_cases h1 : s[i].toNat < 48
      · have c1 : (s[i].toNat : Int) < 48 := by omega
        simp only [c1, decide_true, cond_true, Option.bind_some]
        rw [if_neg (by simp [isDigit]; omega)]
      · have c1 : ¬(s[i].toNat : Int) < 48 := by omega
        simp only [c1, decide_false, cond_false, Option.bind_some]
        by_cases h2 : s[i].toNat ≤ 57
        · have c2 : ¬57 < (s[i].toNat : Int) := by omega
          simp only [c2, decide_false, cond_false]
          rw [if_pos (by simp [isDigit]; omega)]
        · have c2 : 57 < (s[i].toNat : Int) := by omega
          simp only [c2, decide_true, cond_true]
          rw [if_neg (by simp [isDigit]; omega)]
    rcases Halts.all (f := chanceryref2_Digits_l1 s) (fun i => ((i : Int), ())) (fun i => if hi : i < s.length then isDigit s[i] else true) s.length (r := .inl ()) (q := fun _ => .inr (false, ())) (fun i hi hp => by
      rw [dif_pos hi] at hp
      rw [hst i hi, if_pos hp]) (fun i hi hp => by
      rw [dif_pos hi] at hp
      rw [hst i hi, if_neg (by rw [hp]; decide)]) (by
      unfold chanceryref2_Digits_l1
      dsimp only
      rw [decide_eq_false (by omega), cond_false]) with ⟨hall, hh⟩ | ⟨i, hi, hp, _, hh⟩
    · have ha : s.all isDigit = true := by
        rw [List.all_eq_true]
        intro c hc
        obtain ⟨i, hi, rfl⟩ := List.mem_iff_getElem.1 hc
        have := hall i hi
        rwa [dif_pos hi] at this
      rw [if_pos ha]
      exact hh.loop (by omega)
    · have ha : ¬s.all isDigit = true := by
        intro g
        rw [dif_pos hi] at hp
        rw [List.all_eq_true.1 g _ (List.getElem_mem _)] at hp
        cases hp
      rw [if_neg ha]
      exact hh.loop (by omega)
  unfold chanceryref2_Digits
  rw [hloop, Option.bind_some]
  by_cases ha : s.all isDigit = true
  · rw [if_pos ha]
    dsimp only
    cases s with
    | nil => rfl
    | cons c r =>
      rw [decide_eq_false (by simp), idx_zero, List.getElem?_cons_zero, Option.bind_some, ofByte_48]
      by_cases hc : c = 48
      · subst hc
        simp [Digs, ha]
      · simp [Digs, ha, hc]
  · rw [if_neg ha]
    simp [Digs, ha]
theorem digs_txt : ∀ {s : Str}, Digs s = true → txt (dec s) = s := by
  intro s
  generalize hn : s.length = n
  induction n generalizing s with
  | zero =>
    intro h
    have : s = [] := List.length_eq_zero_iff.1 hn
    subst this
    cases h
  | succ n ih =>
    intro h
    obtain ⟨r, c, rfl⟩ : ∃ r c, s = r ++ [c] := ⟨s.dropLast, s.getLast (by intro e; simp [e] at hn), (List.dropLast_concat_getLast _).symm⟩
    simp only [Digs, List.all_append, Bool.and_eq_true, decide_eq_true_eq, List.all_cons, List.all_nil, and_true] at h
    obtain ⟨⟨h1, h2⟩, h3, h4⟩ := h
    have hd := h2
    simp only [isDigit, decide_eq_true_eq] at hd
    have hc : UInt8.ofNat (48 + (c.toNat - 48)) = c := by
      rw [show 48 + (c.toNat - 48) = c.toNat by omega]
      exact UInt8.ofNat_toNat
    rw [dec_snoc]
    by_cases h0 : r = []
    · subst h0
      rw [txt, decDigits_small (by simp [dec]; omega)]
      simp only [dec, List.foldl_nil, Nat.mul_zero, Nat.zero_add, List.nil_append, hc]
    · have hh : r.head? ≠ some 48 := by
        cases r with
        | nil => exact absurd rfl h0
        | cons a t =>
          rcases h4 with h4 | h4
          · simpa using h4
          · simp at h4
      have hr : Digs r = true := by simp [Digs, h1, h0, hh]
      have ir := ih (by simpa using hn) hr
      have hpos : 0 < dec r := by
        rcases Nat.eq_zero_or_pos (dec r) with e | e
        · rw [e, txt, decDigits_small (by omega)] at ir
          rw [← ir] at hh
          exact absurd rfl hh
        · exact e
      rw [txt, decDigits_big (by omega), show (10 * dec r + (c.toNat - 48)) / 10 = dec r by omega, show (10 * dec r + (c.toNat - 48)) % 10 = c.toNat - 48 by omega, ← txt, ir, hc]
theorem digs_zero {s : Str} (h : Digs s = true) : s = [48] ↔ dec s = 0 := by
  constructor
  · intro e
    subst e
    rfl
  · intro e
    rw [← digs_txt h, e, txt, decDigits_small (by omega)]
    rfl
theorem digs_all {s : Str} (h : Digs s = true) : s.all isDigit = true := by
  simp only [Digs, Bool.and_eq_true] at h
  exact h.1
theorem digs_dl {s : Str} (h : Digs s = true) : dl (dec s) ≤ s.length := dl_le.2 (by
  have := dec_lt _ s rfl (digs_all h)
  omega)
end Go.Proofs.YtmkpdineahbfkaaGreatDoor

namespace Go.Proofs.YtmkpdineahbfkaaGreatDoor
open Go Go.Fe

/-! ### Fractions -/
abbrev FracD := Str × (Str × Unit)
abbrev NumD := Bool × ((List Int) × ((List Int) × Unit))
def signOf (s : Str) : Bool := decide (s.head? = some 45)
def body (s : Str) : Str := bif signOf s then s.tail else s
theorem cut_sign (s : Str) : sCutPrefix (no_index (s, [45], ())) = some (body s, signOf s, ()) := by
  unfold sCutPrefix Lib.trimPrefix Lib.hasPrefix body signOf
  cases s with
  | nil => simp
  | cons c r =>
    by_cases h : c = 45
    · subst h; simp
    · have e : ([45] : Str).isPrefixOf (c :: r) = false := by
        show ((45 == c) && _) = false
        have : (45 == c) = false := by
          rw [beq_eq_false_iff_ne]
          exact fun e => h e.symm
        rw [this]
        rfl
      simp [h, e]
def badForm (f : FracD) : Bool := !(Digs (body f.1) && Digs f.2.1 && decide (f.2.1 ≠ [48]) && !(signOf f.1 && decide (body f.1 = [48])))
def fracErr (f : FracD) : Int := if badForm f = true then 4 else if 300 < (body f.1).length ∨ 300 < f.2.1.length then 3 else if (dec (body f.1)).gcd (dec f.2.1) ≠ 1 then 4 else 0
theorem body_len (s : Str) : (body s).length ≤ s.length := by
  unfold body
  cases signOf s <;> simp
theorem one_eq (n : Nat) : exact_nat__one (rep B9 n) = some (decide (n = 1), ()) := by
  unfold exact_nat__one
  by_cases h0 : n = 0
  · subst h0; rfl
  · by_cases h1 : n < B9
    · rw [rep_small (by omega) h1]
      have e : decide ((n : Int) = 1) = decide (n = 1) := by
        by_cases h : n = 1
        · subst h; rfl
        · rw [decide_eq_false h, decide_eq_false (by omega)]
      simp [e]
    · have hl : 1 < (rep B9 n).length := by
        rcases Nat.lt_or_ge 1 (rep B9 n).length with h | h
        · exact h
        · have h2 := val_lt (ok_rep (B := B9) (by decide) n).1
          have h3 : B9 ^ (rep B9 n).length ≤ B9 ^ 1 := Nat.pow_le_pow_right (by decide) h
          rw [val_rep (by decide)] at h2
          rw [Nat.pow_one] at h3
          omega
      rw [decide_eq_false (by omega), cond_false, decide_eq_false (by simp only [B9] at h1; omega)]
theorem good_facts {f : FracD} (h : badForm f = false) : Digs (body f.1) = true ∧ Digs f.2.1 = true ∧ f.2.1 ≠ [48] ∧ ¬(signOf f.1 = true ∧ body f.1 = [48]) := by
  simp only [badForm, Bool.not_eq_false', Bool.and_eq_true, decide_eq_true_eq, Bool.not_eq_true', Bool.and_eq_false_iff, decide_eq_false_iff_not] at h
  refine ⟨h.1.1.1, h.1.1.2, h.1.2, fun g => ?_⟩
  rcases h.2 with h2 | h2
  · rw [g.1] at h2; cases h2
  · exact h2 g.2
theorem read_eq {f : FracD} (hs : f.1.length < 100000000) (hs' : f.2.1.length < 100000000) :
    exact_read f = some (if fracErr f = 0 then ((signOf f.1, rep B9 (dec (body f.1)), rep B9 (dec f.2.1), ()), 0, ()) else ((false, [], [], ()), fracErr f, ())) := by
  have hb := body_len f.1
  obtain ⟨num, den, u⟩ := f
  dsimp only at hs hs' hb ⊢
  unfold exact_read
  rw [cut_sign, Option.bind_some]
  dsimp only
  rw [digits_eq (by omega), Option.bind_some]
  dsimp only
  rw [digits_eq (by omega)]
  unfold fracErr
  cases hbad : badForm (num, den, u) with
  | true =>
    rw [if_pos rfl, if_neg (by decide)]
    simp only [badForm, Bool.not_eq_true', Bool.and_eq_false_iff, decide_eq_false_iff_not, Bool.not_eq_false', Bool.and_eq_true, decide_eq_true_eq] at hbad
    cases h1 : Digs (body num) with
    | false => rfl
    | true =>
      cases h2 : Digs den with
      | false => rfl
      | true =>
        simp only [h1, h2] at hbad
        by_cases h3 : den = [48]
        · subst h3; rfl
        · have h4 : signOf num = true ∧ body num = [48] := by simpa [h3] using hbad
          simp only [h3, h4.1, h4.2, Bool.not_true, cond_false, Option.bind_some, decide_true, decide_false, cond_true]
  | false =>
    obtain ⟨h1, h2, h3, h4⟩ := good_facts hbad
    dsimp only at h1 h2 h3 h4
    have h4' : (bif decide (body num = [48]) then some ((), (), signOf num, ((num, den, u) : FracD), ((false, ([], ([], ()))) : NumD), ()) else some ((), (), false, (num, den, u), (false, ([], ([], ()))), ())) = some ((), (), false, ((num, den, u) : FracD), ((false, ([], ([], ()))) : NumD), ()) := by
      by_cases g : body num = [48]
      · cases hsg : signOf num with
        | true => exact absurd ⟨hsg, g⟩ h4
        | false => simp
      · simp [g]
    simp only [h1, h2, h3, h4', Bool.not_true, cond_false, Option.bind_some, decide_false]
    by_cases hl : 300 < (body num).length
    · rw [decide_eq_true (by omega), cond_true, Option.bind_some]
      simp [hl]
    · rw [decide_eq_false (by omega), cond_false, Option.bind_some]
      dsimp only
      by_cases hl2 : 300 < den.length
      · rw [decide_eq_true (by omega), cond_true]
        simp [hl2]
      · rw [decide_eq_false (by omega), cond_false, parse_eq (digs_all h1) (by omega), Option.bind_some, parse_eq (digs_all h2) (by omega), Option.bind_some]
        dsimp only
        have d1 := digs_dl h1
        have d2 := digs_dl h2
        rw [common_eq (by omega) (by omega), Option.bind_some]
        dsimp only
        rw [one_eq, Option.bind_some]
        dsimp only
        by_cases hg : (dec (body num)).gcd (dec den) = 1
        · simp [hg, hl, hl2]
        · simp [hg, hl, hl2]
theorem txt_one_iff (n : Nat) : txt n = [49] ↔ n = 1 := by
  constructor
  · intro h
    have := dec_txt n
    rw [h] at this
    exact this.symm
  · intro h
    subst h
    rw [txt, decDigits_small (by omega)]
    rfl
theorem fracError_eq {f : FracD} (hs : f.1.length < 100000000) (hs' : f.2.1.length < 100000000) : chanceryref2_FracError f = some (fracErr f, ()) := by
  have hb := body_len f.1
  obtain ⟨num, den, u⟩ := f
  dsimp only at hs hs' hb ⊢
  have hsplit : (((cond (!decide (num = []))
  ((idx num 0).bind fun v1 =>
  some ((), (decide ((ofByte v1) = 45)), ((num, den, u) : FracD), ()))
  (some ((), false, ((num, den, u) : FracD), ())) : Option (Unit × (Bool × ((Str × (Str × Unit)) × Unit)))).bind fun r2 =>
  cond r2.2.1
  ((cut num 1 (num.length : Int)).bind fun v3 =>
  some ((), v3, true, r2.2.2.1, ()))
  (some ((), num, false, r2.2.2.1, ())) : Option (Unit × (Str × (Bool × ((Str × (Str × Unit)) × Unit)))))) = some ((), body num, signOf num, (num, den, u), ()) := by
    cases num with
    | nil => rfl
    | cons c r =>
      have hc : cut (c :: r) 1 ((c :: r).length : Int) = some r := by
        have := cut_nat (xs := c :: r) (a := 1) (b := (c :: r).length) (by simp) (by omega)
        simpa using this
      rw [decide_eq_false (by simp), hc, idx_zero, List.getElem?_cons_zero]
      simp only [Option.bind_some, Bool.not_false, cond_true, ofByte_eq]
      by_cases h : c = 45
      · subst h; rfl
      · have h2 : ¬((c.toNat : Nat) : Int) = 45 := fun e => h (UInt8.toNat_inj.1 (by
          have : (45 : UInt8).toNat = 45 := rfl
          omega))
        simp only [h2, decide_false, cond_false]
        simp [body, signOf, h]
  unfold chanceryref2_FracError
  dsimp only
  erw [hsplit]
  rw [Option.bind_some]
  dsimp only
  rw [rdigits_eq (by omega), Option.bind_some]
  dsimp only
  rw [rdigits_eq (by omega)]
  unfold fracErr
  cases hbad : badForm (num, den, u) with
  | true =>
    rw [if_pos rfl]
    simp only [badForm, Bool.not_eq_true', Bool.and_eq_false_iff, decide_eq_false_iff_not, Bool.not_eq_false', Bool.and_eq_true, decide_eq_true_eq] at hbad
    cases h1 : Digs (body num) with
    | false => rfl
    | true =>
      cases h2 : Digs den with
      | false => rfl
      | true =>
        simp only [h1, h2] at hbad
        by_cases h3 : den = [48]
        · subst h3; rfl
        · have h4 : signOf num = true ∧ body num = [48] := by simpa [h3] using hbad
          simp only [h3, h4.1, h4.2, Bool.not_true, cond_false, Option.bind_some, decide_true, decide_false, cond_true]
  | false =>
    obtain ⟨h1, h2, h3, h4⟩ := good_facts hbad
    dsimp only at h1 h2 h3 h4
    have h4' : (bif signOf num then some ((), decide (body num = [48]), ((num, den, u) : FracD), ()) else some ((), false, (num, den, u), ())) = some ((), false, ((num, den, u) : FracD), ()) := by
      cases hsg : signOf num with
      | true =>
        have h5 : ¬body num = [48] := fun g => h4 ⟨hsg, g⟩
        simp [h5]
      | false => simp
    simp only [h1, h2, h3, h4', Bool.not_true, cond_false, Option.bind_some, decide_false]
    by_cases hl : 300 < (body num).length
    · rw [decide_eq_true (by omega), cond_true, Option.bind_some]
      simp [hl]
    · rw [decide_eq_false (by omega), cond_false, Option.bind_some]
      dsimp only
      by_cases hl2 : 300 < den.length
      · rw [decide_eq_true (by omega), cond_true]
        simp [hl2]
      · rw [decide_eq_false (by omega), cond_false, natof_eq (digs_all h1) (by omega), Option.bind_some, natof_eq (digs_all h2) (by omega), Option.bind_some]
        dsimp only
        have d1 := digs_dl h1
        have d2 := digs_dl h2
        have hgl : dl ((dec (body num)).gcd (dec den)) ≤ dl (dec (body num)) + dl (dec den) := by
          rcases Nat.eq_zero_or_pos (dec den) with e | e
          · rw [e, Nat.gcd_zero_right]; omega
          · have := dl_mono (Nat.gcd_le_right (dec (body num)) e)
            omega
        rw [gcd_eq (by omega) (by omega), Option.bind_some]
        dsimp only
        rw [rtext_eq (by omega), Option.bind_some]
        dsimp only
        by_cases hg : (dec (body num)).gcd (dec den) = 1
        · rw [decide_eq_true ((txt_one_iff _).2 hg)]
          simp [hg, hl, hl2]
        · rw [decide_eq_false (fun e => hg ((txt_one_iff _).1 e))]
          simp [hg, hl, hl2]
structure Good (f : FracD) : Prop where
  num : Digs (body f.1) = true
  den : Digs f.2.1 = true
  pos : 0 < dec f.2.1
  ln : (body f.1).length ≤ 300
  ld : f.2.1.length ≤ 300
  cop : (dec (body f.1)).gcd (dec f.2.1) = 1
  neg : signOf f.1 = true → 0 < dec (body f.1)
theorem good_of {f : FracD} (h : fracErr f = 0) : Good f := by
  unfold fracErr at h
  cases hbad : badForm f with
  | true => rw [hbad, if_pos rfl] at h; cases h
  | false =>
    rw [hbad, if_neg (by decide)] at h
    by_cases hl : 300 < (body f.1).length ∨ 300 < f.2.1.length
    · rw [if_pos hl] at h; cases h
    · rw [if_neg hl] at h
      by_cases hg : (dec (body f.1)).gcd (dec f.2.1) ≠ 1
      · rw [if_pos hg] at h; cases h
      · obtain ⟨h1, h2, h3, h4⟩ := good_facts hbad
        refine ⟨h1, h2, ?_, by omega, by omega, by omega, fun hs => ?_⟩
        · rcases Nat.eq_zero_or_pos (dec f.2.1) with e | e
          · exact absurd ((digs_zero h2).2 e) h3
          · exact e
        · rcases Nat.eq_zero_or_pos (dec (body f.1)) with e | e
          · exact absurd ⟨hs, (digs_zero h1).2 e⟩ h4
          · exact e
theorem Good.dln {f : FracD} (h : Good f) : dl (dec (body f.1)) ≤ 300 := by
  have := digs_dl h.num
  have := h.ln
  omega
theorem Good.dld {f : FracD} (h : Good f) : dl (dec f.2.1) ≤ 300 := by
  have := digs_dl h.den
  have := h.ld
  omega
theorem ratOf_eq {f : FracD} (h : Good f) : chanceryref2_RatOf f = some ((signOf f.1, rep 10 (dec (body f.1)), rep 10 (dec f.2.1), ()), ()) := by
  have hn := h.num
  have hln := h.ln
  have hld := h.ld
  have hden := natof_eq (digs_all h.den) (by omega)
  obtain ⟨num, den, u⟩ := f
  dsimp only at *
  unfold chanceryref2_RatOf
  dsimp only
  cases num with
  | nil => cases hn
  | cons c r =>
    have hc : cut (c :: r) 1 ((c :: r).length : Int) = some r := by
      have := cut_nat (xs := c :: r) (a := 1) (b := (c :: r).length) (by simp) (by omega)
      simpa using this
    rw [idx_zero, List.getElem?_cons_zero, Option.bind_some, hc, ofByte_eq]
    by_cases h : c = 45
    · subst h
      have e1 : body (45 :: r) = r := rfl
      have e2 : signOf (45 :: r) = true := rfl
      rw [e1] at hn hln
      rw [e1, e2]
      have hnum := natof_eq (digs_all hn) (by omega)
      have e3 : decide (((45 : UInt8).toNat : Int) = 45) = true := rfl
      rw [e3, cond_true]
      simp only [Option.bind_some, hnum, hden]
    · have h2 : ¬((c.toNat : Nat) : Int) = 45 := fun e => h (UInt8.toNat_inj.1 (by
        have : (45 : UInt8).toNat = 45 := rfl
        omega))
      have e2 : signOf (c :: r) = false := by simp [signOf, h]
      have e1 : body (c :: r) = c :: r := by simp [body, e2]
      rw [e1] at hn hln
      rw [e1, e2]
      have hnum := natof_eq (digs_all hn) (by omega)
      rw [decide_eq_false h2, cond_false]
      simp only [Option.bind_some, hnum, hden]
end Go.Proofs.YtmkpdineahbfkaaGreatDoor

