/- Sets of numbers kept as maps from numbers to true: the laws at the operations, for a walk by hand. -/
import Derived.Maps.RangeWalk
import Derived.Maps.Ext
import Derived.WalkKit
namespace Go.Fe
open Go Go.Maps Go.RowKit
open Classical

/-- Block b of w is a map from numbers to true; its keys are those of S, none above L. -/
def IsSetD (L : Nat) (S : Nat → Prop) (D : DataW Unit) : Prop :=
  (∀ k : Nat, k ≤ L → (Maps.has D (.int .i64 (k : Int)) = true ↔ S k)) ∧ (∀ kl, Maps.has D kl = true → ∃ k : Nat, k ≤ L ∧ kl = .int .i64 (k : Int)) ∧ ∀ kl z, Maps.has D kl = true → D.atKey kl z = .lit (.bool true)
def IsSet (P : Program) (K E : TypeId) (w : World) (b n L : Nat) (S : Nat → Prop) : Prop :=
  ∃ D : DataW Unit, w.ownsMap P K (plainElem P E) b n D ∧ IsSetD L S D

theorem key_wf {k : Nat} (h : k ≤ 9223372036854775807) : (Lit.int .i64 (k : Int)).wf = true := WalkArith.wf_i64 (by omega)
theorem key_lit {k : Nat} (h : k ≤ 9223372036854775807) {P : Program} {K : TypeId} (hK : P.underlying K = some (.int .i64)) : WideAt.IsKeyLit (.int .i64 (k : Int)) :=
  (int_keyed hK).key (keyOf_int_mk hK (key_wf h))

theorem plainElem_bool_inv {H : Type} {P : Program} {e : TypeId} (he : P.underlying e = some .bool) {v : Value} {z : DataW H × List MemPlace} (h : plainElem P e v = some z) : ∃ a, v = .bool a ∧ z = (.lit (.bool a), []) := by
  unfold plainElem at h
  rw [he] at h
  cases v <;> simp at h
  exact ⟨_, rfl, h.symm⟩

theorem IsSetD.start (L : Nat) : IsSetD L (fun _ => False) (.map []) := ⟨fun k _ => by simp [Maps.has], fun kl h => by simp [Maps.has] at h, fun kl z h => by simp [Maps.has] at h⟩

section
variable {P : Program} {K E T : TypeId}

theorem IsSetD.put (hK : P.underlying K = some (.int .i64)) {L : Nat} (hL : L ≤ 9223372036854775807) {S : Nat → Prop} {D : DataW Unit} (h : IsSetD L S D) (hm : IsMap D) {k : Nat} (hk : k ≤ L) : IsSetD L (fun j => j = k ∨ S j) (D.put (.int .i64 (k : Int)) (.lit (.bool true))) := by
  have hkl := key_lit (P := P) (K := K) (k := k) (by omega) hK
  refine ⟨fun j hj => ?_, fun kl hkl' => ?_, fun kl z hkl' => ?_⟩
  · by_cases e : j = k
    · subst e
      simp [has_put_same hm hkl]
    · rw [has_put_other (by intro e'; apply e; cases e'; omega), h.1 j hj]
      simp [e]
  · by_cases e : kl = .int .i64 (k : Int)
    · exact ⟨k, hk, e⟩
    · rw [has_put_other e] at hkl'
      exact h.2.1 kl hkl'
  · by_cases e : kl = .int .i64 (k : Int)
    · subst e
      exact atKey_put_same hm hkl _ _
    · rw [has_put_other e] at hkl'
      rw [atKey_put_other e]
      exact h.2.2 kl z hkl'

theorem IsSet.look (hK : P.underlying K = some (.int .i64)) (hE : P.underlying E = some .bool) (hT : P.underlying T = some (.map K E)) {w : World} {b n L : Nat} (hL : L ≤ 9223372036854775807) {S : Nat → Prop} (h : IsSet P K E w b n L S) (hz : (zeroValue E).run P w = .ok (.bool false) w) {k : Nat} (hk : k ≤ L) :
    (Instr.lookup T (.map (some b)) (.int .i64 (k : Int)) false).run P w = .ok (.bool (decide (S k))) w := by
  obtain ⟨D, hown, h1, h2, h3⟩ := h
  obtain ⟨v, ps, hrun, hv⟩ := hown.lookup (int_keyed hK) hT hz (plainElem_bool hE false) (keyOf_int_mk hK (key_wf (k := k) (by omega)))
  obtain ⟨c, rfl, hc⟩ := plainElem_bool_inv hE hv
  have hc := congrArg Prod.fst hc
  simp only at hc
  rw [hrun]
  by_cases hs : S k
  · rw [h3 _ _ ((h1 k hk).2 hs)] at hc
    cases hc
    simp [hs]
  · rw [atKey_of_not_has (by simpa [hs] using h1 k hk)] at hc
    cases hc
    simp [hs]

theorem IsSet.put (hK : P.underlying K = some (.int .i64)) (hE : P.underlying E = some .bool) (hT : P.underlying T = some (.map K E)) {w : World} {b n L : Nat} (hL : L ≤ 9223372036854775807) {S : Nat → Prop} (h : IsSet P K E w b n L S) (hn : n < maxLen) {k : Nat} (hk : k ≤ L) :
    ∃ w', (Instr.mapUpdate T (.map (some b)) (.int .i64 (k : Int)) (.bool true)).run P w = .ok () w' ∧ IsSet P K E w' b (n + 1) L (fun j => j = k ∨ S j) ∧ w.grownBy w' (some b) := by
  obtain ⟨D, hown, hD⟩ := h
  obtain ⟨w', hrun, hown', hg⟩ := hown.update (int_keyed hK) hT hn (keyOf_int_mk hK (key_wf (k := k) (by omega))) (plainElem_bool hE true)
  exact ⟨w', hrun, ⟨_, hown', hD.put hK hL hown.isMap hk⟩, hg⟩
theorem IsSet.kept {w w' : World} {b n L : Nat} {S : Nat → Prop} {row : Option Nat} (h : IsSet P K E w b n L S) (hg : w.grownBy w' row) (hne : some b ≠ row) : IsSet P K E w' b n L S := by
  obtain ⟨D, hown, hD⟩ := h
  exact ⟨D, hown.kept hg hne, hD⟩
theorem IsSet.lt {w : World} {b n L : Nat} {S : Nat → Prop} (h : IsSet P K E w b n L S) : b < w.heap.size := by
  obtain ⟨D, hown, hD⟩ := h
  exact hown.lt
theorem IsSet.congr {w : World} {b n L : Nat} {S S' : Nat → Prop} (h : IsSet P K E w b n L S) (he : ∀ k, k ≤ L → (S k ↔ S' k)) : IsSet P K E w b n L S' := by
  obtain ⟨D, hown, h1, h2, h3⟩ := h
  exact ⟨D, hown, fun k hk => (h1 k hk).trans (he k hk), h2, h3⟩
theorem IsSet.mono {w : World} {b n n' L : Nat} {S : Nat → Prop} (h : IsSet P K E w b n L S) (hn : n ≤ n') : IsSet P K E w b n' L S := by
  obtain ⟨D, hown, hD⟩ := h
  exact ⟨D, hown.mono hn, hD⟩

/-- A loop over a set under way: the keys that are still to come. -/
def InSet (P : Program) (K E : TypeId) (w : World) (b r n L : Nat) (S left : Nat → Prop) (cnt : Nat) : Prop :=
  ∃ (D : DataW Unit) (lf : Lit → Bool), (∃ c, w.ranges P K (plainElem P E) b r n D lf c ∧ c ≤ cnt) ∧ IsSetD L S D ∧ ∀ k : Nat, k ≤ L → (lf (.int .i64 (k : Int)) = true ↔ left k)

/-- 'range m' over a set. -/
theorem wpList_range_set (hK : P.underlying K = some (.int .i64)) (_hE : P.underlying E = some .bool) (hT : P.underlying T = some (.map K E)) (w : World) {ops : Array Oper} {rest : List Oper} {o : Oper} {a : Act} {Q : Exit → Act → World → Prop} (hg : o.guard = none) (m : Operand) (hop : o.op = Op.range T m) {b n L : Nat} {S : Nat → Prop}
    (hm : a.eval m = .map (some b)) (h : IsSet P K E w b n L S)
    (hQ : ∀ w', InSet P K E w' b w.heap.size n L S S n → w.grownBy w' none → w'.heap.size = w.heap.size + 1 → wpList P ops Q rest (a.put o.dst (.pointer (some ⟨w.heap.size, 0, none⟩))) w') :
    wpList P ops Q (o :: rest) a w := by
  obtain ⟨D, hown, hD⟩ := h
  refine wpList_range_own w hg m T hop K E (int_keyed hK) hT (plainElem P E) b n D hm hown (fun w' hr hg' hs => hQ w' ⟨D, _, ⟨_, hr, hown.size_le⟩, hD, hD.1⟩ hg' hs)

/-- The loop's step: nothing is left, or some key that is still to come. -/
theorem wpList_next_set (hK : P.underlying K = some (.int .i64)) (hE : P.underlying E = some .bool) (_hT : P.underlying T = some (.map K E)) (w : World) {ops : Array Oper} {rest : List Oper} {o : Oper} {a : Act} {Q : Exit → Act → World → Prop} (hg : o.guard = none) (it : Operand) (hop : o.op = Op.next it false) {b r n L : Nat} (hL : L ≤ 9223372036854775807) {S left : Nat → Prop} {cnt : Nat}
    (hit : a.eval it = .pointer (some ⟨r, 0, none⟩)) (h : InSet P K E w b r n L S left cnt)
    (hDone : (∀ k, k ≤ L → ¬ left k) → wpList P ops Q rest (a.put o.dst (.tuple #[.bool false])) w)
    (hMore : ∀ (k : Nat) (w' : World) (cnt' : Nat), k ≤ L → S k → left k → InSet P K E w' b r n L S (fun j => left j ∧ j ≠ k) cnt' → cnt' < cnt → w'.rangeLeft b r < w.rangeLeft b r →
      w.grownBy w' (some r) → w'.heap.size = w.heap.size → (Instr.entry (.pointer (some ⟨r, 0, none⟩))).run P w' = .ok (.tuple #[.int .i64 (k : Int), .bool true]) w' → wpList P ops Q rest (a.put o.dst (.tuple #[.bool true, .int .i64 (k : Int), .bool true])) w') :
    wpList P ops Q (o :: rest) a w := by
  obtain ⟨D, lf, ⟨c, hr, hc⟩, hD, hl⟩ := h
  refine wpList_next_ranges w hg it hop K (int_keyed hK) (plainElem P E) (Value.int .i64) Value.bool (fun key kl hkey => by obtain ⟨x, rfl, _⟩ := Maps.keyOf_int_inv hK hkey; exact ⟨x, rfl⟩) (fun v y hv => by obtain ⟨c, rfl, _⟩ := plainElem_bool_inv hE hv; exact ⟨c, rfl⟩)
    b r n D lf c hit hr (fun _ hn => hDone fun k hk hlk => ?_) ?_
  · have := (hl k hk).2 hlk
    rw [hn] at this
    cases this
  · intro x v kl y w' cnt' hkey hlk hv hat hrg hlt hgr hsz hen
    have hhas : Maps.has D kl = true := Maps.has_true_of_atKey hat
    obtain ⟨k, hk, rfl⟩ := hD.2.1 kl hhas
    obtain ⟨x', ex, e2, _⟩ := Maps.keyOf_int_inv hK hkey
    cases ex
    cases e2
    obtain ⟨v', ev, rfl⟩ := plainElem_bool_inv hE hv
    cases ev
    have h2 := (hat .nil).symm.trans (hD.2.2 _ .nil hhas)
    cases h2
    refine hMore k w' cnt' hk ((hD.1 k hk).1 hhas) ((hl k hk).1 hlk) ⟨D, _, ⟨cnt', hrg, Nat.le_refl _⟩, hD, fun j hj => ?_⟩ (by omega) (by rw [hrg.left_eq, hr.left_eq]; exact hlt) hgr hsz hen
    by_cases e : j = k
    · subst e
      simp [WideAt.sameKey_self (key_lit (k := j) (by omega) hK)]
    · rw [Maps.sameKey_ne (by intro e'; cases e'; exact e rfl)]
      simp [hl j hj, e]
theorem InSet.kept {w w' : World} {b r n L : Nat} {S left : Nat → Prop} {cnt : Nat} {row : Option Nat} (h : InSet P K E w b r n L S left cnt) (hg : w.grownBy w' row) (hb : some b ≠ row) (hr : some r ≠ row) : InSet P K E w' b r n L S left cnt := by
  obtain ⟨D, lf, ⟨c, h1, h2⟩, hD, hl⟩ := h
  exact ⟨D, lf, ⟨c, h1.kept hg hb hr, h2⟩, hD, hl⟩
theorem InSet.left_kept {w w' : World} {b r n L : Nat} {S left : Nat → Prop} {cnt : Nat} {row : Option Nat} (h : InSet P K E w b r n L S left cnt) (hg : w.grownBy w' row) (hb : some b ≠ row) (hr : some r ≠ row) : w'.rangeLeft b r = w.rangeLeft b r := by
  obtain ⟨D, lf, ⟨c, h1, h2⟩, hD, hl⟩ := h
  rw [(h1.kept hg hb hr).left_eq, h1.left_eq]
/-- 'len(m)'. -/
theorem IsSet.len (_hK : P.underlying K = some (.int .i64)) (hT : P.underlying T = some (.map K E)) {w : World} {b n L : Nat} {S : Nat → Prop} (h : IsSet P K E w b n L S) (ty : TypeId) : ∃ m : Nat, (Builtin.len_ #[T] ty #[.map (some b)]).run P w = .ok (.int .i64 (m : Int)) w ∧ m ≤ n ∧ (m = 0 → ∀ k, k ≤ L → ¬ S k) := by
  obtain ⟨D, hown, hD⟩ := h
  refine ⟨_, hown.len hT ty, hown.size_le, fun hm k hk hS => ?_⟩
  have := (hD.1 k hk).2 hS
  cases D <;> simp [Maps.has, Maps.size] at this hm
  subst hm
  simp at this
/-- The map's literal with one key. -/
theorem IsSet.made (_hK : P.underlying K = some (.int .i64)) (_hT : P.underlying T = some (.map K E)) {w : World} (L : Nat) : IsSet P K E (w.alloc (.map #[] 0)) w.heap.size 0 L (fun _ => False) := ⟨.map [], World.ownsMap_made _ _ _ _, IsSetD.start L⟩
end
end Go.Fe
