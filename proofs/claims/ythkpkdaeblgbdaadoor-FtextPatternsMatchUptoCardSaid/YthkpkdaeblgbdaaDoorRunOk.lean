/- The contract of the program's matching of pieces as a word of the evaluator: sRun. -/
import Derived.Test.YthkpkdaeblgbdaaDoorRun
import Derived.Test.YthkpkdaeblgbdaaDoorShelf
import Derived.Test.YthkpkdaeblgbdaaDoorFeCtx
namespace Go.Proofs
open Go Go.RowKit Go.Fe Go.Maps
theorem Tryd.pAt {F : Froz} {w : World} {l : List Piece} {v : Value} (hF : ∀ b o, F b = some o → w.heap[b]? = some o) (hl : l.length ≤ 100000) (hz : 0 < w.heap.size) (h : RepV F (.sl PieceT) l v) :
    ∃ a cap b off, v = .slice a l.length cap ∧ Tryd.PAt l a b off w := by
  obtain ⟨cs, h1, hv⟩ := h
  simp only [RepT] at h1
  obtain ⟨a, cap, rfl, hcap, hx⟩ := h1
  have hv : v = .slice a l.length cap := by simpa [pack, Ty.agg] using hv
  subst hv
  rcases hx with rfl | ⟨b, off, c, T, fr, rfl, hb, hel⟩
  · exact ⟨a, cap, 0, 0, rfl, by simp, .inr rfl, hz, fun k hk => by simp at hk⟩
  · refine ⟨_, cap, b, off, rfl, by omega, .inl rfl, (Array.getElem?_eq_some_iff.1 (hF _ _ hb)).1, fun k hk => ?_⟩
    obtain ⟨c1, c2, e0, e1, d1, d2, e2, e3, d3, d4, e4, e5, e6⟩ := hel k hk
    subst e1 e3 e5 e6
    rw [e2, e4] at e0
    have e0 := fun j : Nat => congrArg (fun l : List Value => l[j]?) e0
    have g0 := e0 0
    have g1 := e0 1
    have g2 := e0 2
    simp only [List.getElem?_take, List.getElem?_drop, Ty.size, Nat.add_zero] at g0 g1 g2
    rw [if_pos (by omega), Array.getElem?_toList] at g0 g1 g2
    have hk' : l[k]? = some l[k] := List.getElem?_eq_getElem hk
    refine ⟨?_, ?_, ?_⟩
    · rw [cell_at (hF _ _ hb), pChr, hk', show off + k * 3 = off + k * (1 + (1 + 1)) from by omega, g0]
      rfl
    · rw [cell_at (hF _ _ hb), pOne, hk', show off + k * 3 + 1 = off + k * (1 + (1 + 1)) + 1 from by omega, g1]
      rfl
    · rw [cell_at (hF _ _ hb), pMany, hk', show off + k * 3 + 2 = off + k * (1 + (1 + 1)) + 2 from by omega, g2]
      rfl
theorem Tryd.okRun {Γ : Ctx} (hΓ : CtxOK Γ Tryd.prog) {lw : Str → Option (Str × Unit)} (hg0 : Γ.glob 0 = some ⟨.arr 256 (.int .u8), some runeFirst⟩) (hg1 : Γ.glob 1 = some ⟨.arr 16 (.pair (.int .u8) (.pair (.int .u8) .unit)), some runeAccept⟩)
    (h11 : ∀ s : Str, ∃ r : Str × Unit → Out, Γ.fn 11 (.cons (.val .str s) .unit) [] = some (.mk 0 (lw s) r) ∧ ∀ y, r y = ⟨.val .str y.1, [], []⟩) :
    FnOK Tryd.prog Γ.glob 6 (shelfSem [.sl PieceT, .str, .bool] [.bool] (sRun lw)) := fn_shelf (fun F w x y vs hF hG hf hr => by
  obtain ⟨v1, q1, rfl, h1, hr⟩ := ra_cons.1 hr
  obtain ⟨v2, q2, rfl, h2, hr⟩ := ra_cons.1 hr
  obtain ⟨v3, q3, rfl, h3, hr⟩ := ra_cons.1 hr
  have := ra_nil.1 hr; subst this
  obtain rfl := rv_str.1 h2
  obtain rfl := rv_bool.1 h3
  unfold sRun at hf
  split at hf
  case isFalse => cases hf
  rename_i hl
  cases ht : lw x.2.1 with
  | none => rw [ht] at hf; cases hf
  | some t =>
    rw [ht] at hf
    simp only [Option.bind_some] at hf
    split at hf
    case isFalse => cases hf
    rename_i htl
    cases hf
    have hz : 0 < w.heap.size := by
      obtain ⟨c, T, fr, x', hFg, _⟩ := hG 0 _ hg0
      have := (Array.getElem?_eq_some_iff.1 (hF _ _ hFg)).1
      omega
    obtain ⟨a, cap, b, off, rfl, hP⟩ := Tryd.pAt hF hl hz h1
    have hF' : ∀ w', SameOld w w' → ∀ b o, F b = some o → w'.heap[b]? = some o := fun w' h b o hb => (h.same b (Array.getElem?_eq_some_iff.1 (hF _ _ hb)).1).trans (hF _ _ hb)
    refine (Tryd.run_any x.1 a cap b off x.2.1 t.1 x.2.2.1 w hP hl htl (fun w' ho => ?_) (fun u w' ho => ?_)).mono fun e w' ⟨he, hw⟩ => ⟨⟨[_], he, ra1 (rv_bool.2 rfl)⟩, hw⟩
    · obtain ⟨r, hs, hr⟩ := h11 x.2.1
      refine (Tryd.calls_of_ok (hΓ.fns 11 _ _ _ hs).1 hs ht (hr t) (F := F) (hF' w' ho) hG (vals := [.string ⟨x.2.1.toArray⟩]) ⟨_, _, rfl, rep_val.2 (rv_str.2 rfl), rfl⟩ rfl).mono ?_
      rintro e w2 ⟨⟨v, F', κ, he, hv⟩, hw⟩
      refine ⟨?_, hw⟩
      rw [he, rv_str.1 (rep_val.1 hv)]
    · exact (Tryd.utf8_DecodeRuneInString ⟨u.toArray⟩ w' (rune_tabs hg0 hg1 (hF' w' ho) hG)).mono fun e w2 ⟨he, hw⟩ => ⟨he, sameOld_below hw⟩)
end Go.Proofs
