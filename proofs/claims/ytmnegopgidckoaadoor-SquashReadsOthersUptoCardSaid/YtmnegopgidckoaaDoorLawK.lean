import Derived.Test.YtmnegopgidckoaaDoorLawJ
namespace Go.Proofs.YtmnegopgidckoaaDoor
open Go Go.Fe

/-! ### Bits that were written are read -/
/-- The bits of u are those of T. -/
def Bits (u T : Str) : Prop := ∀ i, i < T.length → bitAt u i = tb T i
theorem tv_bit {T : Str} (h : IsBits T) (a j : Nat) (hj : j < 8) : tv T a 8 / 2 ^ (7 - j) % 2 = tb T (a + j) := by
  have b0 := tb_lt h (a + 0)
  have b1 := tb_lt h (a + 1)
  have b2 := tb_lt h (a + 2)
  have b3 := tb_lt h (a + 3)
  have b4 := tb_lt h (a + 4)
  have b5 := tb_lt h (a + 5)
  have b6 := tb_lt h (a + 6)
  have b7 := tb_lt h (a + 7)
  have : j = 0 ∨ j = 1 ∨ j = 2 ∨ j = 3 ∨ j = 4 ∨ j = 5 ∨ j = 6 ∨ j = 7 := by omega
  simp only [tv]
  rcases this with rfl | rfl | rfl | rfl | rfl | rfl | rfl | rfl <;> simp only [Nat.reduceSub, Nat.reducePow] <;> omega
theorem pack_len (T : Str) (m : Nat) : (packB T m).length = m := by simp [packB]
theorem pack_bits {T : Str} (h : IsBits T) {m : Nat} (hm : T.length = 8 * m) (ext : Str) : Bits (packB T m ++ ext) T := by
  intro i hi
  have hq : i / 8 < m := by omega
  have e : (packB T m ++ ext).getD (i / 8) 0 = UInt8.ofNat (tv T (8 * (i / 8)) 8) := by
    simp only [List.getD]
    rw [List.getElem?_append_left (by rw [pack_len]; exact hq)]
    simp [packB, hq]
  have hv := tv_lt h (8 * (i / 8)) 8
  have q8 : (2 : Nat) ^ 8 = 256 := rfl
  have e2 : (UInt8.ofNat (tv T (8 * (i / 8)) 8)).toNat = tv T (8 * (i / 8)) 8 := by simp; omega
  rw [bitAt, e, e2, tv_bit h _ _ (show i % 8 < 8 by omega), show 8 * (i / 8) + i % 8 = i by omega]
theorem val_tv {u T : Str} (h : Bits u T) (a : Nat) : ∀ n, a + n ≤ T.length → valAt u a n = tv T a n
  | 0, _ => rfl
  | n + 1, hn => by rw [valAt, tv, val_tv h a n (by omega), h (a + n) (by omega)]
theorem tv_of (T : Str) (a : Nat) : ∀ n v, (∀ j, j < n → tb T (a + j) = v / 2 ^ (n - 1 - j) % 2) → v < 2 ^ n → tv T a n = v
  | 0, v, _, hv => by
    have : v = 0 := by simpa using hv
    subst this; rfl
  | n + 1, v, h, hv => by
    have ih := tv_of T a n (v / 2) (fun j hj => by
      rw [h j (by omega), Nat.div_div_eq_div_mul, ← Nat.pow_succ', show (n - 1 - j).succ = n + 1 - 1 - j by omega]) (by rw [Nat.pow_succ] at hv; omega)
    have h0 := h n (by omega)
    rw [show n + 1 - 1 - n = 0 by omega, Nat.pow_zero, Nat.div_one] at h0
    rw [tv, ih, h0]
    omega
theorem tb_mid (pre post : Str) {n v j : Nat} (hj : j < n) : tb (pre ++ (bs n v ++ post)) (pre.length + j) = v / 2 ^ (n - 1 - j) % 2 := by
  have hb := bs_get n v j hj
  unfold tb
  simp only [List.getD]
  rw [List.getElem?_append_right (by omega), Nat.add_sub_cancel_left, List.getElem?_append_left (by rw [bs_len]; exact hj), hb]
  have := Nat.mod_lt (v / 2 ^ (n - 1 - j)) (show 2 > 0 by omega)
  simp
  omega
theorem val_at {u pre post : Str} {n v a : Nat} (h : Bits u (pre ++ (bs n v ++ post))) (hv : v < 2 ^ n) (ha : a = pre.length) : valAt u a n = v := by
  subst ha
  rw [val_tv h _ _ (by simp [bs_len]), tv_of _ _ n v (fun j hj => tb_mid pre post hj) hv]

theorem nib_val {u : Str} {i : Nat} (hi : i < 272) : nib u i = valAt u (4 * i) 4 := by
  have hb := byte_val u (i / 2) (8 * (i / 2)) rfl
  have hs := valAt_add u (8 * (i / 2)) 4 4
  have h1 := valAt_lt u (8 * (i / 2)) 4
  have h2 := valAt_lt u (8 * (i / 2) + 4) 4
  have q4 : (2 : Nat) ^ 4 = 16 := rfl
  rw [q4] at hs h1 h2
  rw [show (4 : Nat) + 4 = 8 from rfl, hb] at hs
  unfold nib
  rw [if_pos hi, hs]
  rcases Nat.mod_two_eq_zero_or_one i with e | e
  · rw [if_pos e, show 8 * (i / 2) = 4 * i by omega] at *
    omega
  · rw [if_neg (by omega), show 8 * (i / 2) + 4 = 4 * i by omega] at *
    omega

theorem lenT_split (g : Nat → Nat) (n : Nat) {i : Nat} : ∀ {s : Nat}, i < s → ∃ post, lenT g n s = lenT g n i ++ (bs 4 (fl g n i) ++ post)
  | 0, h => by omega
  | s + 1, h => by
    by_cases e : i = s
    · subst e
      exact ⟨[], by rw [lenT, List.append_nil]⟩
    · obtain ⟨post, hp⟩ := lenT_split g n (i := i) (s := s) (by omega)
      exact ⟨post ++ bs 4 (fl g n s), by rw [lenT, hp]; simp [List.append_assoc]⟩

section
variable {g : Nat → Nat} {n : Nat} (hg : ∀ k, g k ≤ 1) (hg0 : ∀ k, 272 ≤ k → g k = 0) (hn : 1 ≤ n) (hn' : n ≤ 6)
include hn hn' hg0 in
theorem nib_fl {u rest : Str} (h : Bits u (lenT g n 272 ++ rest)) : nib u = fl g n := by
  funext i
  by_cases hi : i < 272
  · obtain ⟨post, hp⟩ := lenT_split g n hi
    rw [nib_val hi]
    have e : lenT g n 272 ++ rest = lenT g n i ++ (bs 4 (fl g n i) ++ (post ++ rest)) := by rw [hp]; simp [List.append_assoc]
    rw [e] at h
    exact val_at h (by unfold fl; split <;> omega) (by rw [lenT_len])
  · rw [nib, if_neg hi, fl, if_neg (by rw [hg0 i (by omega)]; omega)]
include hn in
theorem rk_fl : ∀ N, rk (fl g n) n N = rk g 1 N
  | 0 => rfl
  | N + 1 => by
    rw [rk_succ, rk_succ, rk_fl N]
    by_cases h : g N = 1
    · rw [if_pos (show fl g n N = n from if_pos h), if_pos h]
    · rw [if_neg (show fl g n N ≠ n by rw [fl, if_neg h]; omega), if_neg h]
theorem rk_none (f : Nat → Nat) {m : Nat} (h : ∀ k, f k ≠ m) : ∀ N, rk f m N = 0
  | 0 => rfl
  | N + 1 => by rw [rk_succ, rk_none f h N, if_neg (h N)]
theorem cn_fl {m : Nat} (h : m ≠ n) : cn (fl g n) 272 m = 0 := by
  by_cases h0 : m = 0
  · rw [cn, if_pos h0]
  · rw [cn_pos _ _ h0]
    refine rk_none _ (fun k => ?_) _
    unfold fl
    split <;> omega
theorem st_fl : ∀ m, m ≤ n → st (fl g n) 272 m = 0
  | 0, _ => rfl
  | m + 1, h => by rw [st, st_fl m (by omega), cn_fl (by omega)]
include hn in
theorem cn_n : cn (fl g n) 272 n = rk g 1 272 := by rw [cn_pos _ _ (by omega), rk_fl hn]
include hn hn' in
theorem sp_fl (hU : rk g 1 272 ≤ 2 ^ n) : sp (fl g n) 272 15 ≤ 32768 := by
  have key : ∀ m, m ≤ 15 → sp (fl g n) 272 m ≤ if m < n then 0 else rk g 1 272 * 2 ^ (15 - n) := by
    intro m
    induction m with
    | zero => intro _; rw [if_pos (by omega)]; exact Nat.le_refl _
    | succ m ih =>
      intro hm
      have ih := ih (by omega)
      rw [sp]
      by_cases e : m + 1 = n
      · rw [if_pos (show m < n by omega)] at ih
        rw [if_neg (by omega), e, cn_n hn]
        omega
      · rw [cn_fl e]
        by_cases q : m < n
        · rw [if_pos q] at ih
          split <;> omega
        · rw [if_neg q] at ih
          rw [if_neg (by omega)]
          omega
  have h := key 15 (by omega)
  rw [if_neg (by omega)] at h
  have e : 2 ^ n * 2 ^ (15 - n) = 32768 := by rw [← Nat.pow_add, show n + (15 - n) = 15 by omega]
  have := Nat.mul_le_mul_right (2 ^ (15 - n)) hU
  omega
theorem rk_lt {k : Nat} (hk : k < 272) (h : g k = 1) : rk g 1 k < rk g 1 272 := by
  have h2 := rk_succ g 1 k
  rw [if_pos h] at h2
  have h3 := rk_mono g 1 (show k + 1 ≤ 272 by omega)
  omega

include hn hn' in
theorem dec_hit {u : Str} {a k : Nat} (hk : k < 272) (h : g k = 1) (hv : valAt u a n = rk g 1 k) (ha : a + n ≤ 8 * u.length) : dec u a (fl g n) 15 0 = .sym k (a + n) := by
  have key : ∀ (d j m : Nat), j + (d + 1) = n → dec u a (fl g n) (m + (d + 1)) j = .sym k (a + n) := by
    intro d
    induction d with
    | zero =>
      intro j m hj
      rw [show m + (0 + 1) = m + 1 from rfl, dec, if_pos (by omega)]
      have e : j + 1 = n := by omega
      have hlt := rk_lt hk h
      have hkk := (kth_get (fl g n) n 272 (rk g 1 k) k).2 ⟨hk, if_pos h, rk_fl hn k⟩
      rw [show a + j + 1 = a + n by omega, e, st_fl n (Nat.le_refl _), cn_n hn, hv, if_pos (by omega), Nat.sub_zero]
      simp [List.getD, hkk]
    | succ d ih =>
      intro j m hj
      have := ih (j + 1) m (by omega)
      rw [show m + (d + 1 + 1) = (m + (d + 1)) + 1 from rfl, dec, if_pos (by omega), cn_fl (by omega), if_neg (by omega)]
      exact this
  have := key (n - 1) 0 (15 - n) (by omega)
  rw [show 15 - n + (n - 1 + 1) = 15 by omega] at this
  exact this

include hn hn' in
theorem step_byte {u pre post o : Str} {c N : Nat} (hc : c < 256) (h : g c = 1) (hU : rk g 1 272 ≤ 2 ^ n) (hB : Bits u (pre ++ (enc g n (c, 0, 0, 0) ++ post))) (hl : (pre ++ (enc g n (c, 0, 0, 0) ++ post)).length ≤ 8 * u.length) :
    step u (fl g n) N pre.length o = .go (pre.length + (enc g n (c, 0, 0, 0)).length) (o ++ [UInt8.ofNat c]) := by
  have e : enc g n (c, 0, 0, 0) = bs n (rk g 1 c) := by simp [enc, show ¬ 256 ≤ c by omega]
  rw [e] at hB hl ⊢
  have hlt := rk_lt (show c < 272 by omega) h
  have hv := val_at hB (by omega) rfl
  have hd := dec_hit hn hn' (show c < 272 by omega) h hv (by simp [bs_len] at hl ⊢; omega)
  rw [step, hd, bs_len]
  simp [hc]

include hn hn' in
theorem step_copy {u pre post o : Str} {k a b N : Nat} (h1 : 256 ≤ k) (h2 : k < 272) (ha : a < 2 ^ (span2 k).2) (hb : b < 32768) (hbo : b + 1 ≤ o.length) (h : g k = 1) (hU : rk g 1 272 ≤ 2 ^ n) (hN : o.length + ((span2 k).1 + a) ≤ N) (hB : Bits u (pre ++ (enc g n (k, a, (span2 k).2, b) ++ post))) (hl : (pre ++ (enc g n (k, a, (span2 k).2, b) ++ post)).length ≤ 8 * u.length) :
    step u (fl g n) N pre.length o = .go (pre.length + (enc g n (k, a, (span2 k).2, b)).length) (copyN o (b + 1) ((span2 k).1 + a)) := by
  have e : enc g n (k, a, (span2 k).2, b) = bs n (rk g 1 k) ++ (bs (span2 k).2 a ++ bs 15 b) := by simp [enc, h1]
  rw [e] at hB hl ⊢
  have hlt := rk_lt h2 h
  have q15 : (2 : Nat) ^ 15 = 32768 := rfl
  have B1 : Bits u (pre ++ (bs n (rk g 1 k) ++ (bs (span2 k).2 a ++ bs 15 b ++ post))) := by simpa only [List.append_assoc] using hB
  have B2 : Bits u ((pre ++ bs n (rk g 1 k)) ++ (bs (span2 k).2 a ++ (bs 15 b ++ post))) := by simpa only [List.append_assoc] using hB
  have B3 : Bits u ((pre ++ bs n (rk g 1 k) ++ bs (span2 k).2 a) ++ (bs 15 b ++ post)) := by simpa only [List.append_assoc] using hB
  have hv := val_at B1 (by omega) rfl
  have hv2 := val_at (a := pre.length + n) B2 ha (by simp [bs_len])
  have hv3 := val_at (a := pre.length + n + (span2 k).2) B3 (by omega) (by simp [bs_len]; omega)
  simp only [List.length_append, bs_len] at hl
  have hd := dec_hit hn hn' h2 h hv (by omega)
  rw [step, hd]
  simp only [hv2, hv3, List.length_append, bs_len]
  rw [if_neg (by omega), if_pos (by omega), if_neg (by omega), if_neg (by omega)]
  congr 1
  omega

theorem exp_len {l : List Tok} {o : Str} (h : Exp l o) : l.length ≤ o.length := by
  induction h with
  | nil => simp
  | byte c _ _ ih => simp; omega
  | copy k a b _ h1 h2 _ _ _ ih =>
    have := span2_le h1 h2
    rw [copyN_len]
    simp
    omega

include hn hn' in
theorem run_tokens {u : Str} {N : Nat} (hU : rk g 1 272 ≤ 2 ^ n) {l : List Tok} {o : Str} (hE : Exp l o) : (∀ t ∈ l, g t.1 = 1) → o.length ≤ N → ∀ (post : Str), Bits u (encs g n l ++ post) → (encs g n l ++ post).length ≤ 8 * u.length → ∀ m, run u (fl g n) N (m + l.length) 0 [] = run u (fl g n) N m (encs g n l).length o := by
  induction hE with
  | nil => intro _ _ _ _ _ m; rfl
  | byte c hE hc ih =>
    rename_i l o
    intro hg hN post hB hl m
    rw [encs_snoc, List.append_assoc] at hB hl
    have ih := ih (fun t ht => hg t (List.mem_append_left _ ht)) (by simp at hN; omega) _ hB hl (m + 1)
    have hs := step_byte hn hn' (N := N) (o := o) hc (hg (c, 0, 0, 0) (by simp)) hU hB hl
    rw [List.length_append, List.length_singleton, show m + (l.length + 1) = m + 1 + l.length by omega, ih, run, if_pos (by simp at hN; omega), hs, encs_snoc, List.length_append]
  | copy k a b hE h1 h2 h3 h4 h5 ih =>
    rename_i l o
    intro hg hN post hB hl m
    rw [copyN_len] at hN
    have hsp := span2_le h1 h2
    rw [encs_snoc, List.append_assoc] at hB hl
    have ih := ih (fun t ht => hg t (List.mem_append_left _ ht)) (by omega) _ hB hl (m + 1)
    have hs := step_copy hn hn' (N := N) (o := o) h1 h2 h3 h4 h5 (hg (k, a, (span2 k).2, b) (by simp)) hU hN hB hl
    rw [List.length_append, List.length_singleton, show m + (l.length + 1) = m + 1 + l.length by omega, ih, run, if_pos (by omega), hs, encs_snoc, List.length_append]

theorem tail_zeros (u : Str) : ∀ (p a : Nat), (∀ i, i < p → bitAt u (a + i) = 0) → tailE u p a = if a + p < 8 * u.length then 4 else 0
  | 0, a, _ => rfl
  | p + 1, a, h => by
    have h0 : bitAt u a = 0 := h 0 (by omega)
    rw [tailE, if_neg (by omega), tail_zeros u p (a + 1) (fun i hi => by rw [show a + 1 + i = a + (i + 1) by omega]; exact h (i + 1) (by omega)), show a + 1 + p = a + (p + 1) by omega]

include hn hn' in
theorem body_tokens {u : Str} (hU : rk g 1 272 ≤ 2 ^ n) {l : List Tok} {o : Str} (hE : Exp l o) (hg : ∀ t ∈ l, g t.1 = 1) (hB : Bits u (encs g n l ++ List.replicate ((8 - (encs g n l).length % 8) % 8) 48)) (hl : (encs g n l ++ List.replicate ((8 - (encs g n l).length % 8) % 8) 48).length ≤ 8 * u.length) :
    body u (fl g n) o.length = if (encs g n l ++ List.replicate ((8 - (encs g n l).length % 8) % 8) 48).length < 8 * u.length then ([], 4) else (o, 0) := by
  have h := run_tokens hn hn' hU hE hg (Nat.le_refl _) _ hB hl (o.length - l.length)
  have hx := exp_len hE
  rw [show o.length - l.length + l.length = o.length by omega] at h
  have hr : run u (fl g n) o.length (o.length - l.length) (encs g n l).length o = .inr ((encs g n l).length, o) := by
    cases o.length - l.length with
    | zero => rfl
    | succ m => rw [run, if_neg (by omega)]
  have ht := tail_zeros u ((8 - (encs g n l).length % 8) % 8) (encs g n l).length (fun i hi => by
    rw [hB _ (by simp; omega)]
    unfold tb
    simp only [List.getD]
    rw [List.getElem?_append_right (by omega), Nat.add_sub_cancel_left, List.getElem?_replicate, if_pos hi]
    rfl)
  unfold body
  rw [h, hr]
  dsimp only
  rw [ht, List.length_append, List.length_replicate]
  split <;> rfl
end
end Go.Proofs.YtmnegopgidckoaaDoor
