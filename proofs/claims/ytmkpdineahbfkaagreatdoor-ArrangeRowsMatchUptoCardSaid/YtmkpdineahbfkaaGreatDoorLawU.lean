/- The merge as a whole. -/
import Derived.Test.YtmkpdineahbfkaaGreatDoorLawT
namespace Go.Proofs.YtmkpdineahbfkaaGreatDoor
open Go Go.Fe

section
variable {K : TA11} {Q : TA0} {lt : Int → Int → Prop}
theorem q_eta (Q : TA0) : (Q.1, (Q.2.1, (Q.2.2.1, (Q.2.2.2.1, (Q.2.2.2.2.1, (Q.2.2.2.2.2.1, (Q.2.2.2.2.2.2.1, (Q.2.2.2.2.2.2.2.1, (Q.2.2.2.2.2.2.2.2.1, ()))))))))) = Q := rfl
/-- The merge, told how deep it goes. -/
noncomputable def symF (n : Nat) (a m b : Int) (d : List Int) (K : TA11) (Q : TA0) : Option TA14 :=
  slices_symMergeCmpFunc_int__Rows_1_f n a m b d K Q.1 Q.2.1 Q.2.2.1 Q.2.2.2.1 Q.2.2.2.2.1 Q.2.2.2.2.2.1 Q.2.2.2.2.2.2.1 Q.2.2.2.2.2.2.2.1 Q.2.2.2.2.2.2.2.2.1
theorem sym_eq (tr : ∀ x y z, lt x y → lt y z → lt x z) (ir : ∀ x, ¬ lt x x) : ∀ (n : Nat) (P X Y S : List Int) (a m b : Nat), X.length + Y.length ≤ n → X ≠ [] → Y ≠ [] → P.length = a → a + X.length = m → m + Y.length = b → b + S.length < 1000000 →
    Srt lt X → Srt lt Y → (∀ x ∈ X, ∀ y ∈ Y, Tell K Q lt x y) →
    ∃ Z, Srt lt Z ∧ Z.Perm (X ++ Y) ∧ symF n (a : Int) (m : Int) (b : Int) (P ++ (X ++ (Y ++ S))) K Q = some ((), ((), ((), ())), P ++ (Z ++ S), (K, ()), Q, ())
  | 0, P, X, Y, S, a, m, b, hn, hX, hY, _, _, _, _, _, _, _ => by
    have := List.length_pos_iff.2 hX
    omega
  | n + 1, P, X, Y, S, a, m, b, hn, hX, hY, ha, hm, hb, hl, hsX, hsY, hc => by
    have lX := List.length_pos_iff.2 hX
    have lY := List.length_pos_iff.2 hY
    have w1 := zsub (i := m) (j := a) (by omega) (by omega)
    have w2 := zsub (i := b) (j := m) (by omega) (by omega)
    have e1 : m - a = X.length := by omega
    have e2 : b - m = Y.length := by omega
    rw [e1] at w1
    rw [e2] at w2
    show ∃ Z, Srt lt Z ∧ Z.Perm (X ++ Y) ∧ slices_symMergeCmpFunc_int__Rows_1_s (slices_symMergeCmpFunc_int__Rows_1_f n) (a : Int) (m : Int) (b : Int) (P ++ (X ++ (Y ++ S))) K Q.1 Q.2.1 Q.2.2.1 Q.2.2.2.1 Q.2.2.2.2.1 Q.2.2.2.2.2.1 Q.2.2.2.2.2.2.1 Q.2.2.2.2.2.2.2.1 Q.2.2.2.2.2.2.2.2.1 = some ((), ((), ((), ())), P ++ (Z ++ S), (K, ()), Q, ())
    by_cases hx1 : X.length = 1
    · obtain ⟨x, rfl⟩ := List.length_eq_one_iff.1 hx1
      obtain ⟨Y1, Y2, rfl, f1, f2, f3⟩ := find1 (K := K) (Q := Q) tr ir (P := P) (Y := Y) (S := S) (x := x) (m := m) (b := b) (by omega) hb hl hsY (hc x (by simp))
      have hs' := srt_app.1 hsY
      have hlp := f3.loop (by omega)
      rw [ha] at hlp
      rw [List.length_append] at hb
      have mv := (move1 (K := K) (Q := Q) (P := P) (R := Y2 ++ S) (x := x) (r5 := ((), ((), ((), ())), ((m + Y1.length : Nat) : Int), P ++ (x :: (Y1 ++ Y2 ++ S)), (K, ()), Q, ())) (t := m + Y1.length) Y1 [] (by rw [List.length_nil]; omega) (by rw [List.length_append]; omega) rfl).loop (by omega)
      rw [List.length_nil, Nat.add_zero, List.nil_append, List.nil_append, ha] at mv
      refine ⟨Y1 ++ x :: Y2, srt_app.2 ⟨hs'.1, List.pairwise_cons.2 ⟨f2, hs'.2.1⟩, fun u hu v hv => ?_⟩, ?_, ?_⟩
      · rcases List.mem_cons.1 hv with rfl | hv
        · exact f1 u hu
        · exact hs'.2.2 u hu v hv
      · exact List.perm_middle
      · have d1 : decide (((1 : Nat) : Int) = 1) = true := rfl
        have ed : P ++ ([x] ++ (Y1 ++ Y2 ++ S)) = P ++ (x :: (Y1 ++ Y2 ++ S)) := rfl
        have em : P ++ (x :: (Y1 ++ Y2 ++ S)) = P ++ (x :: (Y1 ++ (Y2 ++ S))) := by rw [List.append_assoc]
        have ef : P ++ (Y1 ++ (x :: (Y2 ++ S))) = P ++ (Y1 ++ x :: Y2 ++ S) := by simp
        unfold slices_symMergeCmpFunc_int__Rows_1_s
        simp only [w1, hx1, d1, cond_true, q_eta]
        rw [ed, hlp]
        simp only [Option.bind_some]
        rw [em] at mv ⊢
        rw [mv]
        simp only [Option.bind_some]
        rw [ef]
    · have d1 : decide ((X.length : Int) = 1) = false := decide_eq_false (by omega)
      by_cases hy1 : Y.length = 1
      · obtain ⟨y, rfl⟩ := List.length_eq_one_iff.1 hy1
        obtain ⟨X1, X2, rfl, f1, f2, f3⟩ := find2 (K := K) (Q := Q) tr ir (P := P) (X := X) (S := S) (y := y) (m := m) (by omega) (by rw [List.length_singleton] at hb; omega) hsX (fun x hx => hc x hx y (by simp))
        have hs' := srt_app.1 hsX
        have hlp := f3.loop (by omega)
        rw [ha] at hlp
        rw [List.length_append] at hm
        rw [List.length_singleton] at hb
        have mv := (move2 (K := K) (Q := Q) (P := P ++ X1) (R := S) (y := y) (r14 := ((), ((), ((), ())), ((a + X1.length : Nat) : Int), P ++ (X1 ++ X2 ++ (y :: S)), (K, ()), Q, ())) (t := a + X1.length) X2.length X2 [] rfl (by rw [List.length_append]; omega) (by rw [List.length_nil]; omega) rfl).loop (by omega)
        rw [List.nil_append, List.append_nil, show a + X1.length + X2.length = m by omega] at mv
        refine ⟨X1 ++ y :: X2, srt_app.2 ⟨hs'.1, List.pairwise_cons.2 ⟨f2, hs'.2.1⟩, fun u hu v hv => ?_⟩, ?_, ?_⟩
        · rcases List.mem_cons.1 hv with rfl | hv
          · exact f1 u hu
          · exact hs'.2.2 u hu v hv
        · have : (X1 ++ X2 ++ [y]).Perm (X1 ++ y :: X2) := by
            rw [List.append_assoc]
            exact List.Perm.append_left X1 (List.perm_append_singleton y X2)
          exact this.symm
        · have d2 : decide (((1 : Nat) : Int) = 1) = true := rfl
          have ed : P ++ (X1 ++ X2 ++ ([y] ++ S)) = P ++ (X1 ++ X2 ++ (y :: S)) := rfl
          have em : P ++ (X1 ++ X2 ++ (y :: S)) = P ++ X1 ++ (X2 ++ (y :: S)) := by simp
          have ef : P ++ X1 ++ (y :: (X2 ++ S)) = P ++ (X1 ++ y :: X2 ++ S) := by simp
          unfold slices_symMergeCmpFunc_int__Rows_1_s
          simp only [w1, d1, cond_false, w2, hy1, d2, cond_true, q_eta]
          rw [ed, hlp]
          simp only [Option.bind_some]
          rw [em] at mv ⊢
          rw [mv]
          simp only [Option.bind_some]
          rw [ef]
      · have d2 : decide ((Y.length : Int) = 1) = false := decide_eq_false (by omega)
        obtain ⟨mid, hmid⟩ : ∃ mid, (a + b) / 2 = mid := ⟨_, rfl⟩
        have hh := half (i := a) (j := b) (by omega)
        rw [hmid] at hh
        have wn := zadd (i := mid) (j := m) (by omega)
        -- the range of the search
        obtain ⟨lo, hi, h1, h2, h3, h4, h5, h6, hr21⟩ : ∃ lo hi : Nat, a ≤ lo ∧ lo ≤ hi ∧ hi ≤ m ∧ hi ≤ mid ∧ mid + m ≤ lo + b ∧ (lo = a ∧ hi = m ∧ m ≤ mid ∨ lo + b = mid + m ∧ hi = mid ∧ mid < m) ∧
            (cond (decide ((mid : Int) < (m : Int))) (some ((), ((), ((), ())), IntKind.i64.wrap (((mid + m : Nat) : Int) - (b : Int)), (mid : Int), P ++ (X ++ (Y ++ S)), (K, ()), Q, ())) (some ((), ((), ((), ())), (a : Int), (m : Int), P ++ (X ++ (Y ++ S)), (K, ()), Q, ())) : Option TA9) = some ((), ((), ((), ())), (lo : Int), (hi : Int), P ++ (X ++ (Y ++ S)), (K, ()), Q, ()) := by
          by_cases hlt : mid < m
          · refine ⟨mid + m - b, mid, by omega, by omega, by omega, Nat.le_refl _, by omega, .inr ⟨by omega, rfl, hlt⟩, ?_⟩
            rw [decide_eq_true (by omega : (mid : Int) < (m : Int)), cond_true, zsub (by omega) (by omega)]
          · refine ⟨a, m, Nat.le_refl _, by omega, Nat.le_refl _, by omega, by omega, .inl ⟨rfl, rfl, by omega⟩, ?_⟩
            rw [decide_eq_false (by omega : ¬ (mid : Int) < (m : Int)), cond_false]
        obtain ⟨t, t1, t2, t3, t4, t5⟩ := find3 (K := K) (Q := Q) tr ir (P := P) (X := X) (Y := Y) (S := S) (mid := mid) ha hm hb hl hsX hsY hc h1 h2 h3 h4 h5
        have hlp := t3.loop (by omega)
        have we := zsub (i := mid + m) (j := t) (by omega) (by omega)
        -- the four parts
        obtain ⟨X1, X2, rfl, hX1⟩ : ∃ X1 X2, X = X1 ++ X2 ∧ X1.length = t - a := ⟨X.take (t - a), X.drop (t - a), (List.take_append_drop _ _).symm, by rw [List.length_take]; omega⟩
        obtain ⟨Y1, Y2, rfl, hY1⟩ : ∃ Y1 Y2, Y = Y1 ++ Y2 ∧ Y1.length = mid - t := ⟨Y.take (mid - t), Y.drop (mid - t), (List.take_append_drop _ _).symm, by rw [List.length_take]; omega⟩
        have sX := srt_app.1 hsX
        have sY := srt_app.1 hsY
        rw [List.length_append] at hm hb hn lX lY d1 d2 hx1 hy1 w1 w2
        have c12 : ∀ x ∈ X1, ∀ y ∈ Y2, lt x y := by
          intro x hx y hy
          obtain ⟨i, hi', rfl⟩ := List.getElem_of_mem hx
          obtain ⟨j, hj, rfl⟩ := List.getElem_of_mem hy
          have q : lo ≤ t - 1 := by
            rcases h6 with ⟨g1, g2, g3⟩ | ⟨g1, g2, g3⟩
            · omega
            · omega
          obtain ⟨i1, i2, hlt⟩ := t4 (t - 1) q (by omega)
          have hA : lt ((X1 ++ X2)[t - 1 - a]) ((Y1 ++ Y2)[mid - 1 - (t - 1)]) := hlt
          have hx' : i = t - 1 - a ∨ lt X1[i] ((X1 ++ X2)[t - 1 - a]) := by
            by_cases e : i = t - 1 - a
            · exact .inl e
            · refine .inr ?_
              have := srt_get hsX (show i < t - 1 - a by omega) i1
              rwa [List.getElem_append_left hi'] at this
          have hy' : j = 0 ∨ lt ((Y1 ++ Y2)[mid - 1 - (t - 1)]) Y2[j] := by
            by_cases e : j = 0
            · exact .inl e
            · refine .inr ?_
              have := srt_get hsY (show mid - 1 - (t - 1) < Y1.length + j by omega) (by rw [List.length_append]; omega)
              rw [List.getElem_append_right (by omega : Y1.length ≤ Y1.length + j)] at this
              simpa only [Nat.add_sub_cancel_left] using this
          have hB : lt X1[i] ((Y1 ++ Y2)[mid - 1 - (t - 1)]) := by
            rcases hx' with e | e
            · subst e
              rwa [List.getElem_append_left hi'] at hA
            · exact tr _ _ _ e hA
          rcases hy' with e | e
          · subst e
            rw [List.getElem_append_right (by omega : Y1.length ≤ mid - 1 - (t - 1))] at hB
            have e0 : mid - 1 - (t - 1) - Y1.length = 0 := by omega
            simpa only [e0] using hB
          · exact tr _ _ _ hB e
        have c21 : ∀ y ∈ Y1, ∀ x ∈ X2, lt y x := by
          intro y hy x hx
          obtain ⟨j, hj, rfl⟩ := List.getElem_of_mem hy
          obtain ⟨i, hi', rfl⟩ := List.getElem_of_mem hx
          have q : t < hi := by
            rcases h6 with ⟨g1, g2, g3⟩ | ⟨g1, g2, g3⟩
            · omega
            · omega
          obtain ⟨i1, i2, hlt⟩ := t5 t (Nat.le_refl _) q
          have hA : lt ((Y1 ++ Y2)[mid - 1 - t]) ((X1 ++ X2)[t - a]) := hlt
          have hy' : j = mid - 1 - t ∨ lt Y1[j] ((Y1 ++ Y2)[mid - 1 - t]) := by
            by_cases e : j = mid - 1 - t
            · exact .inl e
            · refine .inr ?_
              have := srt_get hsY (show j < mid - 1 - t by omega) i2
              rwa [List.getElem_append_left hj] at this
          have hx' : i = 0 ∨ lt ((X1 ++ X2)[t - a]) X2[i] := by
            by_cases e : i = 0
            · exact .inl e
            · refine .inr ?_
              have := srt_get hsX (show t - a < X1.length + i by omega) (by rw [List.length_append]; omega)
              rw [List.getElem_append_right (by omega : X1.length ≤ X1.length + i)] at this
              simpa only [Nat.add_sub_cancel_left] using this
          have hB : lt Y1[j] ((X1 ++ X2)[t - a]) := by
            rcases hy' with e | e
            · subst e
              rwa [List.getElem_append_left hj] at hA
            · exact tr _ _ _ e hA
          rcases hx' with e | e
          · subst e
            rw [List.getElem_append_right (by omega : X1.length ≤ t - a)] at hB
            have e0 : t - a - X1.length = 0 := by omega
            simpa only [e0] using hB
          · exact tr _ _ _ hB e
        obtain ⟨e, he⟩ : ∃ e, mid + m - t = e := ⟨_, rfl⟩
        rw [he] at we
        have hX2 : X2.length = m - t := by omega
        have hY2 : Y2.length = b - e := by omega
        have hrot : (cond (cond (decide ((t : Int) < (m : Int))) (decide ((m : Int) < (e : Int))) false) ((slices_rotateCmpFunc_int__Rows_1 (t : Int) (m : Int) (e : Int) (P ++ (X1 ++ X2 ++ (Y1 ++ Y2 ++ S))) K Q.1 Q.2.1 Q.2.2.1 Q.2.2.2.1 Q.2.2.2.2.1 Q.2.2.2.2.2.1 Q.2.2.2.2.2.2.1 Q.2.2.2.2.2.2.2.1 Q.2.2.2.2.2.2.2.2.1).bind
              fun r9 => some ((), ((), ((), ())), r9.2.2.1, r9.2.2.2.1, r9.2.2.2.2.1, ())) (some ((), ((), ((), ())), P ++ (X1 ++ X2 ++ (Y1 ++ Y2 ++ S)), (K, ()), Q, ())) : Option TA14) = some ((), ((), ((), ())), P ++ (X1 ++ (Y1 ++ (X2 ++ (Y2 ++ S)))), (K, ()), Q, ()) := by
          have ed : P ++ (X1 ++ X2 ++ (Y1 ++ Y2 ++ S)) = (P ++ X1) ++ (X2 ++ (Y1 ++ (Y2 ++ S))) := by simp
          by_cases g1 : t < m
          · by_cases g2 : m < e
            · rw [decide_eq_true (by omega : (t : Int) < (m : Int)), decide_eq_true (by omega : (m : Int) < (e : Int)), cond_true, cond_true, ed,
                rot_eq (K := K) (Q := Q) (P := P ++ X1) (X := X2) (Y := Y1) (S := Y2 ++ S) (fun h => by rw [h, List.length_nil] at hX2; omega) (fun h => by rw [h, List.length_nil] at hY1; omega) (by rw [List.length_append]; omega) (by omega) (by omega) (by rw [List.length_append]; omega)]
              simp only [Option.bind_some, List.append_assoc]
            · have : Y1 = [] := List.eq_nil_of_length_eq_zero (by omega)
              subst this
              rw [decide_eq_false (by omega : ¬ (m : Int) < (e : Int)), Bool.cond_self, cond_false, ed]
              simp only [List.nil_append, List.append_assoc]
          · have : X2 = [] := List.eq_nil_of_length_eq_zero (by omega)
            subst this
            rw [decide_eq_false (by omega : ¬ (t : Int) < (m : Int)), cond_false, cond_false, ed]
            simp only [List.nil_append, List.append_assoc]
        obtain ⟨Z1, z1, z2, hh1⟩ : ∃ Z, Srt lt Z ∧ Z.Perm (X1 ++ Y1) ∧ (cond (cond (decide ((a : Int) < (t : Int))) (decide ((t : Int) < (mid : Int))) false) ((slices_symMergeCmpFunc_int__Rows_1_f n (a : Int) (t : Int) (mid : Int) (P ++ (X1 ++ (Y1 ++ (X2 ++ (Y2 ++ S))))) K Q.1 Q.2.1 Q.2.2.1 Q.2.2.2.1 Q.2.2.2.2.1 Q.2.2.2.2.2.1 Q.2.2.2.2.2.2.1 Q.2.2.2.2.2.2.2.1 Q.2.2.2.2.2.2.2.2.1).bind
              fun r9 => some ((), ((), ((), ())), r9.2.2.1, r9.2.2.2.1, r9.2.2.2.2.1, ())) (some ((), ((), ((), ())), P ++ (X1 ++ (Y1 ++ (X2 ++ (Y2 ++ S)))), (K, ()), Q, ())) : Option TA14) = some ((), ((), ((), ())), P ++ (Z ++ (X2 ++ (Y2 ++ S))), (K, ()), Q, ()) := by
          by_cases g1 : a < t
          · by_cases g2 : t < mid
            · obtain ⟨Z, q1, q2, q3⟩ := sym_eq tr ir n P X1 Y1 (X2 ++ (Y2 ++ S)) a t mid (by omega) (fun h => by rw [h, List.length_nil] at hX1; omega) (fun h => by rw [h, List.length_nil] at hY1; omega) ha (by omega) (by omega) (by simp only [List.length_append]; omega) sX.1 sY.1
                (fun x hx y hy => hc x (by simp [hx]) y (by simp [hy]))
              unfold symF at q3
              exact ⟨Z, q1, q2, by rw [decide_eq_true (by omega : (a : Int) < (t : Int)), decide_eq_true (by omega : (t : Int) < (mid : Int)), cond_true, cond_true, q3]; rfl⟩
            · have : Y1 = [] := List.eq_nil_of_length_eq_zero (by omega)
              subst this
              exact ⟨X1, sX.1, by simp, by rw [decide_eq_false (by omega : ¬ (t : Int) < (mid : Int)), Bool.cond_self, cond_false, List.nil_append]⟩
          · have : X1 = [] := List.eq_nil_of_length_eq_zero (by omega)
            subst this
            exact ⟨Y1, sY.1, by simp, by rw [decide_eq_false (by omega : ¬ (a : Int) < (t : Int)), cond_false, cond_false, List.nil_append]⟩
        have lZ1 : (P ++ Z1).length = mid := by rw [List.length_append, z2.length_eq, List.length_append]; omega
        obtain ⟨Z2, z3, z4, hh2⟩ : ∃ Z, Srt lt Z ∧ Z.Perm (X2 ++ Y2) ∧ (cond (cond (decide ((mid : Int) < (e : Int))) (decide ((e : Int) < (b : Int))) false) ((slices_symMergeCmpFunc_int__Rows_1_f n (mid : Int) (e : Int) (b : Int) (P ++ (Z1 ++ (X2 ++ (Y2 ++ S)))) K Q.1 Q.2.1 Q.2.2.1 Q.2.2.2.1 Q.2.2.2.2.1 Q.2.2.2.2.2.1 Q.2.2.2.2.2.2.1 Q.2.2.2.2.2.2.2.1 Q.2.2.2.2.2.2.2.2.1).bind
              fun r9 => some ((), ((), ((), ())), r9.2.2.1, r9.2.2.2.1, r9.2.2.2.2.1, ())) (some ((), ((), ((), ())), P ++ (Z1 ++ (X2 ++ (Y2 ++ S))), (K, ()), Q, ())) : Option TA14) = some ((), ((), ((), ())), P ++ (Z1 ++ (Z ++ S)), (K, ()), Q, ()) := by
          have ed : ∀ T : List Int, P ++ (Z1 ++ T) = (P ++ Z1) ++ T := fun T => by simp
          by_cases g1 : mid < e
          · by_cases g2 : e < b
            · obtain ⟨Z, q1, q2, q3⟩ := sym_eq tr ir n (P ++ Z1) X2 Y2 S mid e b (by omega) (fun h => by rw [h, List.length_nil] at hX2; omega) (fun h => by rw [h, List.length_nil] at hY2; omega) lZ1 (by omega) (by omega) hl sX.2.1 sY.2.1
                (fun x hx y hy => hc x (by simp [hx]) y (by simp [hy]))
              unfold symF at q3
              rw [ed] 
              refine ⟨Z, q1, q2, ?_⟩
              rw [decide_eq_true (by omega : (mid : Int) < (e : Int)), decide_eq_true (by omega : (e : Int) < (b : Int)), cond_true, cond_true, q3, ed]
              rfl
            · have : Y2 = [] := List.eq_nil_of_length_eq_zero (by omega)
              subst this
              exact ⟨X2, sX.2.1, by simp, by rw [decide_eq_false (by omega : ¬ (e : Int) < (b : Int)), Bool.cond_self, cond_false, List.nil_append]⟩
          · have : X2 = [] := List.eq_nil_of_length_eq_zero (by omega)
            subst this
            exact ⟨Y2, sY.2.1, by simp, by rw [decide_eq_false (by omega : ¬ (mid : Int) < (e : Int)), cond_false, cond_false, List.nil_append]⟩
        refine ⟨Z1 ++ Z2, srt_app.2 ⟨z1, z3, fun u hu v hv => ?_⟩, ?_, ?_⟩
        · rcases List.mem_append.1 (z2.mem_iff.1 hu) with hu | hu
          · rcases List.mem_append.1 (z4.mem_iff.1 hv) with hv | hv
            · exact sX.2.2 u hu v hv
            · exact c12 u hu v hv
          · rcases List.mem_append.1 (z4.mem_iff.1 hv) with hv | hv
            · exact c21 u hu v hv
            · exact sY.2.2 u hu v hv
        · refine (z2.append z4).trans ?_
          have : (X1 ++ Y1 ++ (X2 ++ Y2)).Perm (X1 ++ (X2 ++ (Y1 ++ Y2))) := by
            rw [List.append_assoc]
            refine List.Perm.append_left X1 ?_
            have p1 : (Y1 ++ (X2 ++ Y2)).Perm ((Y1 ++ X2) ++ Y2) := by rw [List.append_assoc]
            have p2 : ((Y1 ++ X2) ++ Y2).Perm ((X2 ++ Y1) ++ Y2) := List.perm_append_comm.append_right Y2
            have p3 : ((X2 ++ Y1) ++ Y2).Perm (X2 ++ (Y1 ++ Y2)) := by rw [List.append_assoc]
            exact p1.trans (p2.trans p3)
          simpa only [List.append_assoc] using this
        unfold slices_symMergeCmpFunc_int__Rows_1_s
        simp only [w1, w2, d1, d2, cond_false, shc1, Option.bind_some, hh, wn, q_eta]
        rw [hr21]
        simp only [Option.bind_some]
        rw [hlp]
        simp only [Option.bind_some, we, cond_some', cond_pair, Bool.cond_self]
        rw [hrot]
        simp only [Option.bind_some]
        rw [hh1]
        simp only [Option.bind_some]
        rw [hh2]
        simp only [List.append_assoc]
end
end Go.Proofs.YtmkpdineahbfkaaGreatDoor
