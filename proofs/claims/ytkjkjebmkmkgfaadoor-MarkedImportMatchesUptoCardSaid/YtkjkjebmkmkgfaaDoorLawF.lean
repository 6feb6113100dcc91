/- The link that begins at a [, continued: both searches as a whole. -/
import Derived.Test.YtkjkjebmkmkgfaaDoorLawE
namespace Go.Proofs.YtkjkjebmkmkgfaaDoor
open Go Go.Fe

theorem nx_len {w : Str} (h : w ≠ []) : (nx w).length < w.length := by
  have := szS_bounds h
  unfold nx
  rw [List.length_drop]
  omega
theorem inS_fuel : ∀ (n m : Nat) (out w : Str), w.length < n → w.length < m → inS n out w = inS m out w
  | 0, _, _, _, h, _ => by omega
  | _, 0, _, _, _, h => by omega
  | n + 1, m + 1, out, w, h1, h2 => by
    unfold inS
    by_cases hw : w = []
    · rw [if_pos hw, if_pos hw]
    · have := nx_len hw
      rw [if_neg hw, if_neg hw, inS_fuel n m _ _ (by omega) (by omega)]

/-! ### The program: where the text's ] is -/
section
variable {u : Str} {p : Nat}
theorem l1_end (h : ¬ p < u.length) : marked_target_l1 u ((p : Int), ()) = some (.inr (.inr ([], 0, 0, false, ()))) := by
  have e1 : (u.length : Int) ≤ (p : Int) := by omega
  unfold marked_target_l1
  simp only [e1, decide_true, cond_true, Option.bind_some]
variable (h : p < u.length) (hu : u.length ≤ 100000)
include h hu
theorem l1_at : idx u (p : Int) = some u[p] ∧ ofByte u[p] = (at0 (u.drop p) 0 : Int) := by
  have _ := hu
  refine ⟨idx_lt h, ?_⟩
  rw [ofByte_eq]
  unfold at0
  rw [List.getD_eq_getElem?_getD, List.getElem?_drop, Nat.add_zero, List.getElem?_eq_getElem h]
  rfl
theorem l1_91 (h91 : at0 (u.drop p) 0 = 91) : marked_target_l1 u ((p : Int), ()) = some (.inr (.inr ([], 0, 0, false, ()))) := by
  obtain ⟨b1, b2⟩ := l1_at h hu
  have e1 : ¬ (u.length : Int) ≤ (p : Int) := by omega
  have e2 : ((at0 (u.drop p) 0 : Nat) : Int) = 91 := by rw [h91]; rfl
  unfold marked_target_l1
  simp only [e1, decide_false, cond_false, b1, Option.bind_some, b2, e2, decide_true, cond_true]
theorem l1_92 (h92 : at0 (u.drop p) 0 = 92) : marked_target_l1 u ((p : Int), ()) = some (.inl (((p + 2 : Nat) : Int), ())) := by
  obtain ⟨b1, b2⟩ := l1_at h hu
  have e1 : ¬ (u.length : Int) ≤ (p : Int) := by omega
  have e2 : ((at0 (u.drop p) 0 : Nat) : Int) = 92 := by rw [h92]; rfl
  have d91 : decide ((92 : Int) = 91) = false := rfl
  have w1 := wsuc (show p < 9223372036854775807 by omega)
  have w2 := wsuc (show p + 1 < 9223372036854775807 by omega)
  unfold marked_target_l1
  simp only [e1, decide_false, cond_false, b1, Option.bind_some, b2, e2, d91, decide_true, cond_true, w1, w2]
theorem l1_link (n91 : at0 (u.drop p) 0 ≠ 91) (n92 : at0 (u.drop p) 0 ≠ 92) (hp : Lib.hasPrefix (u.drop p) [93, 40] = true) : marked_target_l1 u ((p : Int), ()) = some (.inr (.inl ((p : Int), ()))) := by
  obtain ⟨b1, b2⟩ := l1_at h hu
  have e1 : ¬ (u.length : Int) ≤ (p : Int) := by omega
  have e2 : ¬ ((at0 (u.drop p) 0 : Nat) : Int) = 91 := by omega
  have e3 : ¬ ((at0 (u.drop p) 0 : Nat) : Int) = 92 := by omega
  unfold marked_target_l1
  simp only [e1, decide_false, cond_false, b1, Option.bind_some, b2, e2, e3, cut_end (Nat.le_of_lt h), sHasPrefix, hp, cond_true]
theorem l1_go (n91 : at0 (u.drop p) 0 ≠ 91) (n92 : at0 (u.drop p) 0 ≠ 92) (hp : Lib.hasPrefix (u.drop p) [93, 40] = false) : marked_target_l1 u ((p : Int), ()) = some (.inl (((p + 1 : Nat) : Int), ())) := by
  obtain ⟨b1, b2⟩ := l1_at h hu
  have e1 : ¬ (u.length : Int) ≤ (p : Int) := by omega
  have e2 : ¬ ((at0 (u.drop p) 0 : Nat) : Int) = 91 := by omega
  have e3 : ¬ ((at0 (u.drop p) 0 : Nat) : Int) = 92 := by omega
  have w1 := wsuc (show p < 9223372036854775807 by omega)
  unfold marked_target_l1
  simp only [e1, decide_false, cond_false, b1, Option.bind_some, b2, e2, e3, cut_end (Nat.le_of_lt h), sHasPrefix, hp, w1]
end
theorem pre_two {w : Str} {a b : Nat} (ha : a < 256) (hb : b < 256) : Lib.hasPrefix w [UInt8.ofNat a, UInt8.ofNat b] = (decide (1 < w.length) && (decide (at0 w 0 = a) && decide (at0 w 1 = b))) := by
  have ea : (UInt8.ofNat a).toNat = a := by rw [UInt8.toNat_ofNat']; omega
  have eb : (UInt8.ofNat b).toNat = b := by rw [UInt8.toNat_ofNat']; omega
  unfold Lib.hasPrefix
  cases w with
  | nil => simp
  | cons x w =>
    cases w with
    | nil => simp [List.isPrefixOf]
    | cons y w =>
      have e1 : at0 (x :: y :: w) 0 = x.toNat := rfl
      have e2 : at0 (x :: y :: w) 1 = y.toNat := rfl
      have e0 : decide (1 < (x :: y :: w).length) = true := by simp
      rw [e0, e1, e2, Bool.true_and]
      have p1 : (UInt8.ofNat a = x) ↔ x.toNat = a := by
        rw [← UInt8.toNat_inj, ea]
        exact eq_comm
      have p2 : (UInt8.ofNat b = y) ↔ y.toNat = b := by
        rw [← UInt8.toNat_inj, eb]
        exact eq_comm
      rw [Bool.eq_iff_iff]
      simp [List.isPrefixOf, p1, p2]
theorem pre_one {w : Str} {a : Nat} (ha : a < 256) : Lib.hasPrefix w [UInt8.ofNat a] = (decide (0 < w.length) && decide (at0 w 0 = a)) := by
  have ea : (UInt8.ofNat a).toNat = a := by rw [UInt8.toNat_ofNat']; omega
  unfold Lib.hasPrefix
  cases w with
  | nil => simp
  | cons x w =>
    have e1 : at0 (x :: w) 0 = x.toNat := rfl
    have p1 : (UInt8.ofNat a = x) ↔ x.toNat = a := by
      rw [← UInt8.toNat_inj, ea]
      exact eq_comm
    rw [e1, Bool.eq_iff_iff]
    simp [List.isPrefixOf, p1]
theorem skip_cont {u : Str} (hu : u.length ≤ 100000) {q k n : Nat} {R : (Int × Unit) ⊕ (Str × (Int × (Int × TA10)))} (hq : q + k ≤ u.length) (hb : ∀ j, j < k → 128 ≤ at0 u (q + j)) (hR : Halts (marked_target_l1 u) n (((q + k : Nat) : Int), ()) R) :
    Halts (marked_target_l1 u) (n + k) ((q : Int), ()) R := by
  have := Halts.along (f := marked_target_l1 u) (n := n) (fun j => (((q + j : Nat) : Int), ())) k (fun j hj => by
    have h1 := hb j hj
    have h2 : at0 (u.drop (q + j)) 0 = at0 u (q + j) := at0_drop u (q + j) 0
    exact l1_go (p := q + j) (by omega) hu (by omega) (by omega) (by
      have := pre_two (w := u.drop (q + j)) (a := 93) (b := 40) (by omega) (by omega)
      rw [h2, decide_eq_false (by omega : ¬ at0 u (q + j) = 93), Bool.false_and, Bool.and_false] at this
      exact this)) hR
  exact this
theorem prog_out {u : Str} (hu : u.length ≤ 100000) : ∀ (n p : Nat), u.length - p ≤ n → p ≤ u.length →
    ∃ R, Halts (marked_target_l1 u) (u.length - p) ((p : Int), ()) R ∧
      match outS (n + 1) (u.drop p) with
      | some (txt, v, rest) => ∃ x : Nat, R = .inl ((x : Int), ()) ∧ u.drop x = v ∧ x + 2 ≤ u.length ∧ inS (u.length + 1) [] (u.drop (x + 2)) = some (txt, rest)
      | none => R = .inr ([], 0, 0, false, ()) ∨ ∃ x : Nat, R = .inl ((x : Int), ()) ∧ x + 2 ≤ u.length ∧ inS (u.length + 1) [] (u.drop (x + 2)) = none
  | n, p, hn, hp => by
    by_cases hpl : p < u.length
    · obtain ⟨v, hv⟩ : ∃ v, u.drop p = v := ⟨_, rfl⟩
      have hvl : v.length = u.length - p := by rw [← hv, List.length_drop]
      have hvn : v ≠ [] := ne_of_len (by omega)
      have hz := szS_bounds hvn
      have hnx : nx v = u.drop (p + szS v) := by unfold nx; rw [← hv, List.drop_drop]
      have atv : ∀ j, at0 u (p + j) = at0 v j := fun j => by rw [← hv, at0_drop]
      rw [hv]
      cases n with
      | zero => omega
      | succ n =>
      -- on to the next token
      have onward : isB (tk v) 91 = false → ¬ (isB (tk v) 93 = true ∧ nx v ≠ [] ∧ isB (tk (nx v)) 40 = true) → (∀ R, Halts (marked_target_l1 u) (u.length - (p + szS v)) (((p + szS v : Nat) : Int), ()) R → Halts (marked_target_l1 u) (u.length - p) ((p : Int), ()) R) →
          ∃ R, Halts (marked_target_l1 u) (u.length - p) ((p : Int), ()) R ∧
            match outS (n + 1 + 1) v with
            | some (txt, v, rest) => ∃ x : Nat, R = .inl ((x : Int), ()) ∧ u.drop x = v ∧ x + 2 ≤ u.length ∧ inS (u.length + 1) [] (u.drop (x + 2)) = some (txt, rest)
            | none => R = .inr ([], 0, 0, false, ()) ∨ ∃ x : Nat, R = .inl ((x : Int), ()) ∧ x + 2 ≤ u.length ∧ inS (u.length + 1) [] (u.drop (x + 2)) = none := by
        intro h91 h93 hgo
        obtain ⟨R, hR, hm⟩ := prog_out hu n (p + szS v) (by omega) (by omega)
        refine ⟨R, hgo R hR, ?_⟩
        have : outS (n + 1 + 1) v = outS (n + 1) (u.drop (p + szS v)) := by
          conv => lhs; unfold outS
          rw [if_neg hvn, if_neg (by rw [h91]; decide), if_neg h93, hnx]
        rw [this]
        exact hm
      have is91 : isB (tk v) 91 = (!escS v && decide (at0 v 0 = 91)) := is_tk hvn (c := 91) (by omega) (by omega)
      have is93 : isB (tk v) 93 = (!escS v && decide (at0 v 0 = 93)) := is_tk hvn (c := 93) (by omega) (by omega)
      by_cases h91 : at0 v 0 = 91
      · refine ⟨_, Halts.done (l1_91 hpl hu (by rw [hv]; exact h91)), ?_⟩
        rw [not_esc (w := v) (by omega), decide_eq_true h91] at is91
        unfold outS
        rw [if_neg hvn, if_pos (show isB (tk v) 91 = true from is91)]
        exact .inl rfl
      · rw [decide_eq_false h91, Bool.and_false] at is91
        by_cases h92 : at0 v 0 = 92
        · have n93 : isB (tk v) 93 = false := by
            rw [decide_eq_false (by omega : ¬ at0 v 0 = 93), Bool.and_false] at is93
            exact is93
          refine onward is91 (by rw [n93]; rintro ⟨h, _⟩; cases h) (fun R hR => ?_)
          have hstep := l1_92 hpl hu (by rw [hv]; exact h92)
          by_cases hl1 : 1 < v.length
          · have he : escS v = true := by unfold escS; rw [decide_eq_true h92, decide_eq_true hl1]; rfl
            have hzz := sz_esc he
            have hv1 : v.drop 1 ≠ [] := ne_of_len (by rw [List.length_drop]; omega)
            have hr := rune_n hv1
            have := skip_cont hu (q := p + 2) (k := szS v - 2) (n := u.length - (p + szS v)) (by omega) (fun j hj => by
              have h1 := cont hv1 (j := 1 + j) (by omega) (by omega)
              rw [at0_drop] at h1
              rw [show p + 2 + j = p + (1 + (1 + j)) by omega, atv]
              exact h1) (by rw [show p + 2 + (szS v - 2) = p + szS v by omega]; exact hR)
            exact (Halts.step hstep this).mono (by omega)
          · have he : escS v = false := by unfold escS; rw [decide_eq_false hl1, Bool.and_false]
            have hz1 : szS v = 1 := by rw [sz_plain he, ascii_rune hvn (by omega)]
            have hd := l1_end (u := u) (p := p + szS v) (by omega)
            have hd2 := l1_end (u := u) (p := p + 2) (by omega)
            have hRe : R = .inr ([], 0, 0, false, ()) := by
              have h1 := hR (u.length - (p + szS v) + 1) (by omega)
              simp only [loopK, hd] at h1
              exact (Option.some.inj h1).symm
            rw [hRe]
            exact (Halts.step hstep (Halts.done (n := 0) hd2)).mono (by omega)
        · have he := not_esc h92
          by_cases hpre : Lib.hasPrefix v [93, 40] = true
          · have hp2 := pre_two (w := v) (a := 93) (b := 40) (by omega) (by omega)
            have hp3 : (decide (1 < v.length) && (decide (at0 v 0 = 93) && decide (at0 v 1 = 40))) = true := by rw [← hp2]; exact hpre
            simp only [Bool.and_eq_true, decide_eq_true_eq] at hp3
            obtain ⟨g1, g2, g3⟩ := hp3
            have hz1 : szS v = 1 := by rw [sz_plain he, ascii_rune hvn (by omega)]
            have hnx1 : nx v = u.drop (p + 1) := by rw [hnx, hz1]
            have hn1 : nx v ≠ [] := ne_of_len (by rw [hnx1, List.length_drop]; omega)
            have ha1 : at0 (nx v) 0 = 40 := by rw [hnx1, at0_drop, Nat.add_zero, atv]; exact g3
            have he1 := not_esc (w := nx v) (by omega)
            have i40 : isB (tk (nx v)) 40 = true := by
              have := is_tk hn1 (c := 40) (by omega) (by omega)
              rw [he1, decide_eq_true ha1] at this
              exact this
            have i93 : isB (tk v) 93 = true := by
              rw [he, decide_eq_true g2] at is93
              exact is93
            have hz2 : szS (nx v) = 1 := by rw [sz_plain he1, ascii_rune hn1 (by omega)]
            have hnx2 : nx (nx v) = u.drop (p + 2) := by
              have : nx (nx v) = (nx v).drop 1 := by
                show (nx v).drop (szS (nx v)) = _
                rw [hz2]
              rw [this, hnx1, List.drop_drop]
            refine ⟨_, Halts.done (l1_link hpl hu (by rw [hv]; exact h91) (by rw [hv]; exact h92) (by rw [hv]; exact hpre)), ?_⟩
            have hf : inS (n + 1) [] (u.drop (p + 2)) = inS (u.length + 1) [] (u.drop (p + 2)) := inS_fuel _ _ _ _ (by rw [List.length_drop]; omega) (by rw [List.length_drop]; omega)
            have hO : outS (n + 1 + 1) v = (inS (u.length + 1) [] (u.drop (p + 2))).map fun q => (q.1, v, q.2) := by
              conv => lhs; unfold outS
              rw [if_neg hvn, if_neg (by rw [is91]; decide), if_pos ⟨i93, hn1, i40⟩, hnx2, hf]
            rw [hO]
            cases hin : inS (u.length + 1) [] (u.drop (p + 2)) with
            | none => exact .inr ⟨p, rfl, by omega, hin⟩
            | some r => exact ⟨p, rfl, hv, by omega, hin⟩
          · have hpre : Lib.hasPrefix v [93, 40] = false := by simpa using hpre
            have hstep := l1_go hpl hu (by rw [hv]; exact h91) (by rw [hv]; exact h92) (by rw [hv]; exact hpre)
            refine onward is91 ?_ (fun R hR => ?_)
            · rintro ⟨h1, h2, h3⟩
              rw [he] at is93
              have g2 : at0 v 0 = 93 := by
                have h4 : (!false && decide (at0 v 0 = 93)) = true := by rw [← is93]; exact h1
                simpa using h4
              have hz1 : szS v = 1 := by rw [sz_plain he, ascii_rune hvn (by omega)]
              have hnx1 : nx v = u.drop (p + 1) := by rw [hnx, hz1]
              have hl2 := List.length_pos_iff.2 h2
              rw [hnx1, List.length_drop] at hl2
              have i40 := is_tk h2 (c := 40) (by omega) (by omega)
              have g3 : at0 (nx v) 0 = 40 := by
                have h4 : (!escS (nx v) && decide (at0 (nx v) 0 = 40)) = true := by rw [← i40]; exact h3
                simp only [Bool.and_eq_true, decide_eq_true_eq] at h4
                exact h4.2
              rw [hnx1, at0_drop, Nat.add_zero, atv] at g3
              have hp2 := pre_two (w := v) (a := 93) (b := 40) (by omega) (by omega)
              rw [decide_eq_true (by omega : 1 < v.length), decide_eq_true g2, decide_eq_true g3] at hp2
              have : Lib.hasPrefix v [93, 40] = true := hp2
              rw [hpre] at this
              cases this
            · have hzz := sz_plain he
              have := skip_cont hu (q := p + 1) (k := szS v - 1) (n := u.length - (p + szS v)) (by omega) (fun j hj => by
                have h1 := cont hvn (j := 1 + j) (by omega) (by omega)
                rw [show p + 1 + j = p + (1 + j) by omega, atv]
                exact h1) (by rw [show p + 1 + (szS v - 1) = p + szS v by omega]; exact hR)
              exact (Halts.step hstep this).mono (by omega)
    · have hv : u.drop p = [] := List.drop_of_length_le (by omega)
      refine ⟨_, Halts.done (l1_end hpl), ?_⟩
      rw [hv]
      unfold outS
      rw [if_pos rfl]
      exact .inl rfl
/-- What the program finds. -/
theorem target_eq {u : Str} (hu : u.length ≤ 100000) :
    match outS (u.length + 1) u with
    | some (txt, v, rest) => ∃ x y : Nat, marked_target u = some (txt, (x : Int), (y : Int), true, ()) ∧ u.drop x = v ∧ u.drop y = rest ∧ x + 2 ≤ u.length ∧ y ≤ u.length
    | none => ∃ x y z, marked_target u = some (x, y, z, false, ()) := by
  obtain ⟨R, hR, hm⟩ := prog_out hu u.length 0 (by omega) (Nat.zero_le _)
  rw [List.drop_zero] at hm
  have hlp := hR.loop (by omega)
  have inner : ∀ x : Nat, R = .inl ((x : Int), ()) → x + 2 ≤ u.length → match inS (u.length + 1) [] (u.drop (x + 2)) with
      | some (txt, rest) => ∃ y : Nat, marked_target u = some (txt, (x : Int), (y : Int), true, ()) ∧ u.drop y = rest ∧ y ≤ u.length
      | none => ∃ x y z, marked_target u = some (x, y, z, false, ()) := by
    intro x hx hx2
    obtain ⟨R2, hR2, hm2⟩ := prog_in hu ((x : Int), ()) u.length (x + 2) [] (by omega) (by omega) (by simp)
    have w : IntKind.i64.wrap ((x : Int) + 2) = ((x + 2 : Nat) : Int) := by rw [wrap_i64 (by omega) (by omega)]; rfl
    have hlp2 := hR2.loop (by omega)
    have hlp2' : loop (marked_target_l2 u ((x : Int), ())) ((), ((x + 2 : Nat) : Int), ((), (), ()), [], ()) = some R2 := hlp2
    rw [hx] at hlp
    cases hin : inS (u.length + 1) [] (u.drop (x + 2)) with
    | some r =>
      rw [hin] at hm2
      obtain ⟨y, hy, hd, hyl⟩ := hm2
      refine ⟨y, ?_, hd, hyl⟩
      unfold marked_target
      rw [show (0 : Int) = ((0 : Nat) : Int) from rfl, hlp]
      simp only [Option.bind_some, w, hlp2', hy]
    | none =>
      rw [hin] at hm2
      unfold marked_target
      rw [show (0 : Int) = ((0 : Nat) : Int) from rfl, hlp]
      simp only [Option.bind_some, w, hlp2']
      rcases hm2 with h | ⟨a, b, c, h⟩
      · rw [h]
        exact ⟨_, _, _, rfl⟩
      · rw [h]
        exact ⟨_, _, _, rfl⟩
  cases ho : outS (u.length + 1) u with
  | some r =>
    obtain ⟨txt, v, rest⟩ := r
    rw [ho] at hm
    obtain ⟨x, hx, hxv, hx2, hin⟩ := hm
    have := inner x hx hx2
    rw [hin] at this
    obtain ⟨y, h1, h2, h3⟩ := this
    exact ⟨x, y, h1, hxv, h2, hx2, h3⟩
  | none =>
    rw [ho] at hm
    rcases hm with h | ⟨x, hx, hx2, hin⟩
    · rw [h] at hlp
      unfold marked_target
      rw [show (0 : Int) = ((0 : Nat) : Int) from rfl, hlp]
      exact ⟨_, _, _, rfl⟩
    · have := inner x hx hx2
      rw [hin] at this
      exact this
end Go.Proofs.YtkjkjebmkmkgfaaDoor
