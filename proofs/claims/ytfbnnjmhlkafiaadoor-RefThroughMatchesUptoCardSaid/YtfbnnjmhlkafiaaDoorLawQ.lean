import Derived.Test.YtfbnnjmhlkafiaaDoorLawP
namespace Go.Proofs.YtfbnnjmhlkafiaaDoor
open Go Go.Fe

theorem hull1_eq {n low old high now first last : Int} {found : Bool} (h1 : 1 ≤ n ∧ n ≤ 2147483648) (h2 : 0 ≤ old ∧ old ≤ 4294967296) (h3 : 0 ≤ now ∧ now ≤ 4294967296) (h4 : 0 ≤ low ∧ low ≤ 4294967296) (h5 : -4294967296 ≤ high ∧ high ≤ 4294967296) :
    cellref_hull_1 n low old high found now first last = some ((), (), (), (), (), (), (), (low, ()), (old, ()), (high, ()), ((kp low high old now n (first, last, found)).2.2, ()), (now, ()), ((kp low high old now n (first, last, found)).1, ()), ((kp low high old now n (first, last, found)).2.1, ()), ()) := by
  have w1 : IntKind.i64.wrap ((IntKind.i64.wrap (old + n)) - 1) = old + n - 1 := by rw [wrap_i64 (n := old + n) (by omega) (by omega), wrap_i64 (by omega) (by omega)]
  simp only [cellref_hull_1, w1, kp]
  by_cases hc : mx low old ≤ mn high (old + n - 1)
  · have c1 : 0 ≤ mx low old ∧ mx low old ≤ 4294967296 := by rw [mx_eq]; split <;> omega
    have c2 : mn high (old + n - 1) ≤ 4294967296 := by rw [mn_eq]; split <;> omega
    generalize mx low old = P at *
    generalize mn high (old + n - 1) = Q at *
    have w2 : IntKind.i64.wrap ((IntKind.i64.wrap (now + P)) - old) = now + P - old := by rw [wrap_i64 (n := now + P) (by omega) (by omega), wrap_i64 (by omega) (by omega)]
    have w3 : IntKind.i64.wrap ((IntKind.i64.wrap (now + Q)) - old) = now + Q - old := by rw [wrap_i64 (n := now + Q) (by omega) (by omega), wrap_i64 (by omega) (by omega)]
    simp only [hc, decide_true, cond_true, if_true, cond_some', cond_pair, Bool.cond_self, Option.bind_some, w2, w3]
    cases found <;> rfl
  · simp only [hc, decide_false, cond_false, if_false]

abbrev U7 : Unit × (Unit × (Unit × (Unit × (Unit × (Unit × (Unit × Unit)))))) := ((), ((), ((), ((), ((), ((), ((), ())))))))

theorem hull_loop {a : Steps} {low high : Int} (hl : a.length < 1000000000) (h4 : 0 ≤ low ∧ low < 1073741824) (h5 : 0 ≤ high ∧ high < 1073741824) : ∀ (r : Steps) (i : Nat) (old now : Int) (h : HullS), a.drop i = r → i ≤ a.length → Fine r → 0 ≤ old → old + bsum r ≤ 2147483647 → 0 ≤ now → now + asum r ≤ 2147483647 →
    (0 ≤ (hrun low high r old now h).1 ∧ (hrun low high r old now h).1 ≤ 2147483647 ∧ 0 ≤ (hrun low high r old now h).2.1 ∧ (hrun low high r old now h).2.1 ≤ 2147483647) ∧
    Halts (cellref_hull_l1856 a) r.length ((), (), (), (), (), U7, (i : Int), (h.1, ()), (h.2.1, ()), (h.2.2, ()), (old, ()), (now, ()), (low, ()), (high, ()), ())
      ((), (), (), U7, ((hrun low high r old now h).2.2.1, ()), ((hrun low high r old now h).2.2.2.1, ()), ((hrun low high r old now h).2.2.2.2, ()), (low, ()), ((hrun low high r old now h).1, ()), (high, ()), ((hrun low high r old now h).2.1, ()), ())
  | [], i, old, now, h, hd, hi, hf, ho, hb, hn, ha => by
    have hle : a.length ≤ i := by
      have := congrArg List.length hd
      simp at this
      omega
    have hg : ¬ ((i : Int) < (a.length : Int)) := by omega
    simp only [bsum, asum] at hb ha
    refine ⟨⟨ho, by show old ≤ _; omega, hn, by show now ≤ _; omega⟩, .done ?_⟩
    simp only [cellref_hull_l1856, hg, decide_false, cond_false]
    rfl
  | v :: r, i, old, now, h, hd, hi, hf, ho, hb, hn, ha => by
    obtain ⟨hl', hv, hr⟩ := dropS hd
    have h0 := hf v (List.mem_cons_self ..)
    have hsr := hf.tail.sums
    have hg : ((i : Int) < (a.length : Int)) := by omega
    have hix : idx a (i : Int) = some v := by rw [idx_nat, hv]
    have w1 := wrap_succ (i := i) (by omega)
    simp only [bsum, asum] at hb ha
    have hb' : (if v.1 = 1 then old else old + v.2.1) + bsum r ≤ 2147483647 := by split <;> (rename_i k; simp only [k, if_true, if_false] at hb; omega)
    have ha' : (if v.1 = 2 then now else now + v.2.1) + asum r ≤ 2147483647 := by split <;> (rename_i k; simp only [k, if_true, if_false] at ha; omega)
    have ih := hull_loop hl h4 h5 r (i + 1) (if v.1 = 1 then old else old + v.2.1) (if v.1 = 2 then now else now + v.2.1) (if v.1 = 0 then kp low high old now v.2.1 h else h) hr (by omega) hf.tail (by split <;> omega) hb' (by split <;> omega) ha'
    refine ⟨ih.1, .step ?_ ih.2⟩
    have hk := hull1_eq (n := v.2.1) (low := low) (old := old) (high := high) (now := now) (first := h.1) (last := h.2.1) (found := h.2.2) (by omega) (by have := hsr.1; split at hb <;> omega) (by have := hsr.2; split at ha <;> omega) (by omega) (by omega)
    have w2 : IntKind.i64.wrap (now + v.2.1) = now + v.2.1 := wrap_i64 (by have := hsr.2; split at ha <;> omega) (by have := hsr.2; split at ha <;> omega)
    have w3 : IntKind.i64.wrap (old + v.2.1) = old + v.2.1 := wrap_i64 (by have := hsr.1; split at hb <;> omega) (by have := hsr.1; split at hb <;> omega)
    simp only [cellref_hull_l1856, hg, decide_true, cond_true, hix, Option.bind_some, hk, cond_some', cond_pair, Bool.cond_self, w1, w2, w3]
    by_cases k1 : v.1 = 1 <;> by_cases k2 : v.1 = 2 <;> by_cases k0 : v.1 = 0 <;> simp [k1, k2, k0]

theorem hull_eq {a : Steps} {low high : Int} (hl : a.length < 1000000000) (hv : Valid a) (h4 : 0 ≤ low ∧ low < 1073741824) (h5 : 0 ≤ high ∧ high < 1073741824) : cellref_hull a low high = some ((hull a low high).1, (hull a low high).2.1, (hull a low high).2.2, ()) := by
  have hs := hv.fine.sums
  obtain ⟨hb, h⟩ := hull_loop hl h4 h5 a 0 0 0 (0, 0, false) rfl (by omega) hv.fine (by omega) (by have := hv.2.1; omega) (by omega) (by have := hv.2.2; omega)
  have h' := h.loop (by omega)
  rw [show ((0 : Nat) : Int) = 0 from rfl] at h'
  have h'' : loop (cellref_hull_l1856 a) ((), (), (), (), (), ((), ((), ((), ((), ((), ((), ((), ()))))))), 0, (0, ()), (0, ()), (false, ()), (0, ()), (0, ()), (low, ()), (high, ()), ()) = _ := h'
  have hk := hull1_eq (n := 1073741824) (low := low) (old := (hrun low high a 0 0 (0, 0, false)).1) (high := high) (now := (hrun low high a 0 0 (0, 0, false)).2.1) (first := (hrun low high a 0 0 (0, 0, false)).2.2.1) (last := (hrun low high a 0 0 (0, 0, false)).2.2.2.1) (found := (hrun low high a 0 0 (0, 0, false)).2.2.2.2) (by omega) (by omega) (by omega) (by omega) (by omega)
  simp only [cellref_hull, h'', Option.bind_some, hk]
  rfl
end Go.Proofs.YtfbnnjmhlkafiaaDoor
