import Derived.Test.YtmnegopgidckoaaDoorLawK
namespace Go.Proofs.YtmnegopgidckoaaDoor
open Go Go.Fe

theorem bs_bits : ∀ n v, IsBits (bs n v)
  | 0, v => fun c h => by cases h
  | n + 1, v => fun c h => by
    rw [bs] at h
    rcases List.mem_append.1 h with h | h
    · exact bs_bits n _ c h
    · simp only [List.mem_singleton] at h
      subst h
      rcases Nat.mod_two_eq_zero_or_one v with e | e <;> rw [e]
      · exact .inl rfl
      · exact .inr rfl
theorem isBits_app {a b : Str} (ha : IsBits a) (hb : IsBits b) : IsBits (a ++ b) := fun c h => (List.mem_append.1 h).elim (ha c) (hb c)
theorem lenT_bits (g : Nat → Nat) (n : Nat) : ∀ s, IsBits (lenT g n s)
  | 0 => fun c h => by cases h
  | s + 1 => isBits_app (lenT_bits g n s) (bs_bits _ _)
theorem enc_bits (g : Nat → Nat) (n : Nat) (t : Tok) : IsBits (enc g n t) := by
  unfold enc
  split
  · exact isBits_app (bs_bits _ _) (isBits_app (bs_bits _ _) (bs_bits _ _))
  · exact isBits_app (bs_bits _ _) (fun c h => by cases h)
theorem encs_bits (g : Nat → Nat) (n : Nat) : ∀ l, IsBits (encs g n l)
  | [] => fun c h => by cases h
  | t :: l => isBits_app (enc_bits g n t) (encs_bits g n l)
theorem zeros_bits (p : Nat) : IsBits (List.replicate p 48) := fun c h => .inl (List.eq_of_mem_replicate h)

/-- The head of a packed string. -/
def hdr (N : Nat) : Str := [0, UInt8.ofNat (N / 65536 % 256), UInt8.ofNat (N / 256 % 256), UInt8.ofNat (N % 256), 1]

theorem bits_drop {u a b : Str} {m : Nat} (hB : Bits u (a ++ b)) (ha : a.length = 8 * m) : Bits (u.drop m) b := by
  intro i hi
  have h := hB (8 * m + i) (by simp; omega)
  have e1 : bitAt u (8 * m + i) = bitAt (u.drop m) i := by
    simp only [bitAt, List.getD, List.getElem?_drop]
    rw [show (8 * m + i) / 8 = m + i / 8 by omega, show (8 * m + i) % 8 = i % 8 by omega]
  have e2 : tb (a ++ b) (8 * m + i) = tb b i := by
    simp only [tb, List.getD]
    rw [List.getElem?_append_right (by omega), ha, Nat.add_sub_cancel_left]
  rw [← e1, h, e2]

theorem unpack_packed {g : Nat → Nat} {n : Nat} (hg0 : ∀ k, 272 ≤ k → g k = 0) (hn : 1 ≤ n) (hn' : n ≤ 6) (hU : rk g 1 272 ≤ 2 ^ n) {L : List Tok} {o : Str} (hE : Exp L o) (hg : ∀ t ∈ L, g t.1 = 1) (ho : o.length ≤ 10000)
    {T : Str} (hT : T = lenT g n 272 ++ (encs g n L ++ List.replicate ((8 - (encs g n L).length % 8) % 8) 48)) {m : Nat} (hm : T.length = 8 * m) (ext : Str) :
    unpackS (hdr o.length ++ (packB T m ++ ext)) = if ext = [] then (o, 0) else ([], 4) := by
  have hbits : IsBits T := by
    rw [hT]
    exact isBits_app (lenT_bits g n 272) (isBits_app (encs_bits g n L) (zeros_bits _))
  have hB := pack_bits hbits hm ext
  have hlT : T.length = 1088 + (encs g n L ++ List.replicate ((8 - (encs g n L).length % 8) % 8) 48).length := by rw [hT, List.length_append, lenT_len]
  have hB1 : Bits (packB T m ++ ext) (lenT g n 272 ++ (encs g n L ++ List.replicate ((8 - (encs g n L).length % 8) % 8) 48)) := by rw [← hT]; exact hB
  have hnib := nib_fl hg0 hn hn' hB1
  have hB2 := bits_drop (m := 136) hB1 (by rw [lenT_len])
  have hlu : ((packB T m ++ ext).drop 136).length = m - 136 + ext.length := by
    simp only [List.length_drop, List.length_append, pack_len]
    omega
  have hbody := body_tokens hn hn' hU hE hg hB2 (by rw [hlu]; omega)
  have hhead : head (hdr o.length ++ (packB T m ++ ext)) = o.length := by
    have e1 : ((hdr o.length ++ (packB T m ++ ext)).getD 0 0).toNat = 0 := rfl
    have e2 : ((hdr o.length ++ (packB T m ++ ext)).getD 1 0) = UInt8.ofNat (o.length / 65536 % 256) := rfl
    have e3 : ((hdr o.length ++ (packB T m ++ ext)).getD 2 0) = UInt8.ofNat (o.length / 256 % 256) := rfl
    have e4 : ((hdr o.length ++ (packB T m ++ ext)).getD 3 0) = UInt8.ofNat (o.length % 256) := rfl
    rw [head, e1, e2, e3, e4]
    simp
    omega
  have hmd : ((hdr o.length ++ (packB T m ++ ext)).getD 4 0).toNat = 1 := rfl
  have hdrop : (hdr o.length ++ (packB T m ++ ext)).drop 5 = packB T m ++ ext := rfl
  have hlen : (hdr o.length ++ (packB T m ++ ext)).length = 5 + (m + ext.length) := by
    simp only [List.length_append, pack_len]
    rfl
  unfold unpackS
  rw [hlen, hmd, hdrop, hhead, hnib, if_neg (by omega), if_neg (by omega), if_neg (by omega), if_neg (by simp only [List.length_append, pack_len]; omega), if_pos (sp_fl hn hn' hU), hbody, hlu]
  cases ext with
  | nil => rw [if_neg (by simp only [List.length_nil]; omega), if_pos rfl]
  | cons c r => rw [if_pos (by simp only [List.length_cons]; omega), if_neg (by simp)]

theorem shr_byte {N k : Nat} (h : N < 4294967296) (hk : k ≤ 24) : IntKind.u8.wrap (shr .i64 (N : Int) k) = ((N / 2 ^ k % 256 : Nat) : Int) := by
  have e3 : min k (IntKind.bits .i64) = k := by simp only [IntKind.bits]; omega
  rw [shr_nat, e3, wrap_u8]

theorem hdr_eq {N : Nat} (h : N < 4294967296) : bytesStr [0, IntKind.u8.wrap (shr .i64 (N : Int) 16), IntKind.u8.wrap (shr .i64 (N : Int) 8), IntKind.u8.wrap (N : Int), 1] = hdr N := by
  have e : IntKind.u8.wrap (N : Int) = ((N % 256 : Nat) : Int) := wrap_u8 N
  have e0 : byteOfInt 0 = 0 := rfl
  have e1 : byteOfInt 1 = 1 := rfl
  rw [shr_byte h (by omega), shr_byte h (by omega), e]
  simp only [bytesStr, List.map_cons, List.map_nil, byteOfInt_nat, e0, e1]
  rfl

theorem readOthers_law (raw : List Int) : chancerylaw2_SquashReadsOthers raw = some (true, ()) := by
  have hc : cut raw 0 (mn (raw.length : Int) 60) = some (raw.take (min raw.length 60)) := by
    have e : mn (raw.length : Int) 60 = ((min raw.length 60 : Nat) : Int) := by
      unfold mn
      split <;> omega
    have h := cut_nat (xs := raw) (a := 0) (b := min raw.length 60) (by omega) (by omega)
    rw [e]
    exact h
  have hl : (raw.take (min raw.length 60)).length ≤ 60 := by simp; omega
  generalize raw.take (min raw.length 60) = v1 at *
  obtain ⟨L, o, h1, hE, ho, hL⟩ := gen_loop v1 hl
  have hgood := exp_good hE
  obtain ⟨g, g1, g2, g3, g4, g5⟩ := used_loop (fun t ht => (hgood t ht).1) hL ((), o, toks L, ()) rfl
  obtain ⟨n, n1, n2, n3, n4⟩ := bits_loop (U := rk g 1 272) g4 (toks L) (lens g 272) ((), (), ((rk g 1 272 : Nat) : Int), toks L, lens g 272, ()) rfl
  have l1 := lens_loop g g1 n1 n2 (toks L) ((), (), (n : Int), toks L, lens g 272, ()) rfl (lens_len g 272)
  have l2 := enc_loop g n2 hgood g3 hL (lenT g n 272) (by rw [lenT_len]; omega) ((), (), ((), ()), (), toks L, (lenT g n 272, ()), crep g 272, ()) rfl ((), (), (n : Int), toks L, lens g 272, ()) rfl
  have hle := encs_len (g := g) n2 hgood
  have l3 := pad_zeros (lenT g n 272 ++ encs g n L) (by rw [List.length_append, lenT_len]; omega)
  have hpad : (lenT g n 272 ++ encs g n L).length % 8 = (encs g n L).length % 8 := by rw [List.length_append, lenT_len]; omega
  rw [hpad, List.append_assoc] at l3
  have hmk : mk (272 : Int) 272 (0 : Int) = some (List.replicate 272 0) := mk_int 272 rfl (by omega) 0
  obtain ⟨T, hT⟩ : ∃ T, T = lenT g n 272 ++ (encs g n L ++ List.replicate ((8 - (encs g n L).length % 8) % 8) 48) := ⟨_, rfl⟩
  have hlT : T.length = 1088 + ((encs g n L).length + (8 - (encs g n L).length % 8) % 8) := by
    rw [hT]
    simp only [List.length_append, lenT_len, List.length_replicate]
  obtain ⟨m, hm⟩ : ∃ m, T.length = 8 * m := ⟨T.length / 8, by omega⟩
  have hbits : IsBits T := by
    rw [hT]
    exact isBits_app (lenT_bits g n 272) (isBits_app (encs_bits g n L) (zeros_bits _))
  rw [← hT] at l3
  have l4 := pack_loop hbits hm (by omega) (hdr o.length) (by simp [hdr])
  have u1 := unpack_packed g2 n1 n2 n3 hE g3 (by omega) hT hm []
  have u2 := unpack_packed g2 n1 n2 n3 hE g3 (by omega) hT hm [0]
  rw [if_pos rfl, List.append_nil] at u1
  rw [if_neg (by simp)] at u2
  have hlen : (hdr o.length ++ packB T m).length ≤ 100000 := by
    simp only [List.length_append, pack_len]
    have : (hdr o.length).length = 5 := rfl
    omega
  have U1 := Unpack_eq (hdr o.length ++ packB T m) (by omega)
  have U2 := Unpack_eq (hdr o.length ++ (packB T m ++ [0])) (by
    have : (hdr o.length ++ (packB T m ++ [0])).length = (hdr o.length ++ packB T m).length + 1 := by simp; omega
    omega)
  rw [u1] at U1
  rw [u2, ← List.append_assoc] at U2
  have hcat : cat (hdr o.length ++ packB T m) [0] = some (hdr o.length ++ packB T m ++ [0]) := cat_ok (by simp only [List.length_singleton]; omega)
  have hh := hdr_eq (N := o.length) (by omega)
  have s16 : shc 16 = some 16 := rfl
  have s8 : shc 8 = some 8 := rfl
  clear u1 u2 hE hgood hT hbits
  unfold chancerylaw2_SquashReadsOthers
  rw [hc, Option.bind_some, h1, Option.bind_some, hmk, Option.bind_some]
  dsimp only
  rw [g5, Option.bind_some]
  dsimp only
  rw [n4, Option.bind_some, Option.bind_some]
  dsimp only
  rw [l1, Option.bind_some]
  dsimp only
  rw [l2, Option.bind_some]
  dsimp only
  rw [l3, Option.bind_some, s16, Option.bind_some, s8, Option.bind_some]
  dsimp only
  rw [hh, l4, Option.bind_some]
  dsimp only
  rw [U1, Option.bind_some, hcat, Option.bind_some, U2, Option.bind_some]
  simp
end Go.Proofs.YtmnegopgidckoaaDoor
