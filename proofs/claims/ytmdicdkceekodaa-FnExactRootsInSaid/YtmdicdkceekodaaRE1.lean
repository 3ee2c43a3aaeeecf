/- The program's search for all roots comes to what the reference's comes to. -/
import Derived.Test.YtmdicdkceekodaaRT7
set_option linter.unusedVariables false
set_option linter.unusedSimpArgs false
namespace Go.Proofs.Ytmdicdkceekodaa.TX
open Go.RowKit Go.RX Go.G880
theorem ok_of {x : Iv} (h : spec_l04Ok x = true) : -1152921504606846976 < x.lo ∧ x.lo ≤ x.hi ∧ x.hi < 1152921504606846976 := by
 unfold spec_l04Ok at h
 cases h1 : decide (-1152921504606846976 < x.lo) <;> simp only [h1, cond_true, cond_false] at h
 ·cases h
 cases h2 : decide (x.lo ≤ x.hi) <;> simp only [h2, cond_true, cond_false] at h
 ·cases h
 exact ⟨of_decide_eq_true h1, of_decide_eq_true h2, of_decide_eq_true h⟩
theorem of_ok {x : Iv} (h : -1152921504606846976 < x.lo ∧ x.lo ≤ x.hi ∧ x.hi < 1152921504606846976) : spec_l04Ok x = true := by
 unfold spec_l04Ok
 rw [decide_eq_true h.1, decide_eq_true h.2.1, decide_eq_true h.2.2]
 rfl
theorem whole_not (x : Iv) : impl_IsWhole x = !spec_l04Ok x := rfl
theorem atFix {n : Int} (h : -1152921504606846976 < n ∧ n < 1152921504606846976) : spec_l08At n = ⟨n, n⟩ := by
 have hk : spec_l04Ok ⟨n, n⟩ = true := of_ok ⟨h.1, Int.le_refl _, h.2⟩
 simp only [spec_l08At, spec_l04Make, hk, Bool.not_true, cond_false]
theorem mid_in {x : Iv} (h : spec_l04Ok x = true) : x.lo ≤ mid x ∧ mid x ≤ x.hi := by
 obtain ⟨h1, h2, h3⟩ := ok_of h
 unfold mid wrap64
 omega
theorem midI_eq {x : Iv} (h : spec_l04Ok x = true) : impl_MidI x = mid x := by
 obtain ⟨h1, h2, h3⟩ := ok_of h
 unfold impl_MidI mid
 rw [whole_not, h, Bool.not_true, cond_false, w64_id (by omega) (by omega), Int.fdiv_eq_ediv_of_nonneg _ (show (0 : Int) ≤ 2 by decide), show wrap64 (x.lo + x.hi) = x.lo + x.hi by unfold wrap64; omega]
theorem widthI_eq {x : Iv} (h : spec_l04Ok x = true) : impl_WidthI x = wrap64 (x.hi - x.lo) := by
 obtain ⟨h1, h2, h3⟩ := ok_of h
 unfold impl_WidthI
 rw [whole_not, h, Bool.not_true, cond_false, w64_id (by omega) (by omega), show wrap64 (x.hi - x.lo) = x.hi - x.lo by unfold wrap64; omega]
theorem low_ok {x : Iv} (h : spec_l04Ok x = true) : spec_l04Ok ⟨x.lo, mid x⟩ = true := by
 have h1 := ok_of h
 have h2 := mid_in h
 exact of_ok ⟨h1.1, h2.1, by simp only; omega⟩
theorem high_ok {x : Iv} (h : spec_l04Ok x = true) : spec_l04Ok ⟨mid x, x.hi⟩ = true := by
 have h1 := ok_of h
 have h2 := mid_in h
 exact of_ok ⟨by simp only; omega, h2.2, h1.2.2⟩
section
variable {l s : List Value} (hl : (l.length : Int) ≤ 1048576) (hv : spec_l09Ok l = true) (hs : s = [] ∨ ((s.length : Int) ≤ 1048576 ∧ spec_l09Ok s = true))
include hl hv hs
theorem rootless_eq {x : Iv} (hx : spec_l04Ok x = true) : rootless l s x = ((spec_l09Sign (spec_l09At l x) != 0) || (spec_l09Sign (mean l s x) != 0)) := by
 unfold rootless
 rw [SignI_eq, PolyAt_eq hl hv hx]
 cases h1 : spec_l09Sign (spec_l09At l x) != 0 with
 | true => rfl
 | false =>
 rw [cond_false, Bool.false_or]
 rcases hs with rfl | ⟨hsl, hsv⟩
 ·rfl
 ·have hne : s.isEmpty = false := by
   cases s with
   | nil => exact absurd hsv (by decide +kernel)
   | cons a r => rfl
  have hm := mid_in hx
  have hxo := ok_of hx
  have hmo : spec_l04Ok ⟨mid x, mid x⟩ = true := of_ok ⟨by simp only; omega, Int.le_refl _, by simp only; omega⟩
  have ha : impl_at (impl_MidI x) = ⟨mid x, mid x⟩ := by rw [midI_eq hx]; rfl
  unfold mean
  rw [hne, cond_false, cond_false, ha, atFix ⟨by omega, by omega⟩, PolyAt_eq hl hv hmo, PolyAt_eq hsl hsv hx, SignI_eq, AddI_eq, MulI_eq, SubI_eq]
end
theorem ssrch_full (l s : List Value) (k : Nat) (x : Iv) (d : Int) (u v : List Iv) (h : 64 < u.length + v.length) : ssrch l s k x d u v = (u, v) := by
 cases k with
 | zero => rfl
 | succ k => unfold ssrch; rw [decide_eq_true h]; rfl
theorem slopes_eq {l : List Value} (hl : (l.length : Int) ≤ 1048576) : slopes l = (spec_PolyDerivative l).1.reverse := by
 unfold slopes
 rw [Der_eq l hl]
 cases h : ((spec_PolyDerivative l).2 == 0) with
 | true => rfl
 | false =>
  have : (spec_PolyDerivative l).1 = [] := by
   revert h
   simp only [spec_PolyDerivative, Bool.cond_eq_ite]
   repeat' split
   all_goals (first | (intro _; rfl) | (intro h; simp at h))
  rw [this]; rfl
theorem slopes_ok {l : List Value} (hl : (l.length : Int) ≤ 1048576) : slopes l = [] ∨ (((slopes l).length : Int) ≤ 1048576 ∧ spec_l09Ok (slopes l) = true) := by
 cases h : ((spec_PolyDerivative l).2 == 0) with
 | true =>
  right
  rw [slopes_eq hl]
  have := der_ok hl h
  exact ⟨this.2.2, this.2.1⟩
 | false =>
  left
  unfold slopes
  rw [Der_eq l hl, h]; rfl
theorem unique_eq {l : List Value} (hl : (l.length : Int) ≤ 1048576) {x : Iv} (hx : spec_l04Ok x = true) : impl_UniqueRoot l x = (!(slopes l).isEmpty && spec_l09Unique l (slopes l) x) := by
 rw [Unique_eq l hl]
 unfold spec_UniqueRoot
 rw [hx]
 cases h : ((spec_PolyDerivative l).2 == 0) with
 | true =>
  have hd := der_ok hl h
  rw [slopes_eq hl]
  have hne : (spec_PolyDerivative l).1.reverse.isEmpty = false := by
   cases hr : (spec_PolyDerivative l).1.reverse with
   | nil => rw [hr] at hd; exact absurd hd.2.1 (by decide +kernel)
   | cons a r => rfl
  simp only [hne, h, cond_true, Bool.not_false, Bool.true_and]
 | false =>
  have : slopes l = [] := by unfold slopes; rw [Der_eq l hl, h]; rfl
  simp only [this, h, cond_false, List.isEmpty_nil, Bool.not_true, Bool.false_and]
theorem srch_eq {l : List Value} (hl : (l.length : Int) ≤ 1048576) (hv : spec_l09Ok l = true) : ∀ (k : Nat) (x : Iv) (d : Int) (u v : List Iv), spec_l04Ok x = true → 0 ≤ d → d < (k : Int) → u.length + v.length ≤ 64 →
  ((srch l (slopes l) k x d u v).1 = true → ssrch l (slopes l) k x d u v = ((srch l (slopes l) k x d u v).2.1, (srch l (slopes l) k x d u v).2.2)) ∧
  ((srch l (slopes l) k x d u v).1 = false → 64 < (ssrch l (slopes l) k x d u v).1.length + (ssrch l (slopes l) k x d u v).2.length) := by
 intro k
 induction k with
 | zero => intro x d u v _ h0 h1; omega
 | succ k ih =>
  intro x d u v hx h0 hk hc
  have hf : decide (64 < u.length + v.length) = false := decide_eq_false (by omega)
  unfold srch ssrch
  rw [rootless_eq hl hv (slopes_ok hl) hx, unique_eq hl hx, widthI_eq hx, midI_eq hx, hf, cond_false]
  cases h1 : spec_l09Sign (spec_l09At l x) != 0 with
  | true => exact ⟨fun _ => rfl, fun h => by simp at h⟩
  | false =>
  cases h2 : spec_l09Sign (mean l (slopes l) x) != 0 with
  | true => exact ⟨fun _ => rfl, fun h => by simp at h⟩
  | false =>
  simp only [Bool.or_self, cond_false]
  cases h3 : !(slopes l).isEmpty && spec_l09Unique l (slopes l) x with
  | true => exact ⟨fun _ => rfl, fun h => by have := of_decide_eq_false h; simp only [cond_true]; omega⟩
  | false =>
  have e4 : (d == 0) = decide (d ≤ 0) := by
   cases hd : decide (d ≤ 0) with
   | true => exact beq_iff_eq.2 (by have := of_decide_eq_true hd; omega)
   | false => exact beq_eq_false_iff_ne.2 (by have := of_decide_eq_false hd; omega)
  simp only [cond_false, e4]
  cases h4 : decide (d ≤ 0) || decide (wrap64 (x.hi - x.lo) < 2) with
  | true => exact ⟨fun _ => rfl, fun h => by have := of_decide_eq_false h; simp only [cond_true]; omega⟩
  | false =>
  simp only [cond_false]
  have hd : ¬ d ≤ 0 := fun hd => by rw [decide_eq_true hd] at h4; simp at h4
  obtain ⟨i1, i2⟩ := ih ⟨x.lo, mid x⟩ (d - 1) u v (low_ok hx) (by omega) (by omega) hc
  cases h5 : (srch l (slopes l) k ⟨x.lo, mid x⟩ (d - 1) u v).1 with
  | true =>
   rw [i1 h5]
   exact ih ⟨mid x, x.hi⟩ (d - 1) _ _ (high_ok hx) (by omega) (by omega) (srch_few l (slopes l) k _ _ u v hc h5)
  | false =>
   have := i2 h5
   rw [ssrch_full l (slopes l) k _ _ _ _ this]
   exact ⟨fun h => by simp at h, fun _ => this⟩
theorem rootsIn_eq (l : List Value) (hl : (l.length : Int) ≤ 1048576) (x : Iv) (d : Int) : rootsIn l x d = srootsIn l x d := by
 unfold rootsIn srootsIn impl_rootCode
 rw [Valid_eq l hl, whole_not]
 cases hv : spec_l09Ok l with
 | false => rfl
 | true =>
 cases hx : spec_l04Ok x with
 | false => rfl
 | true =>
 have e3 : impl_within d 0 60 = spec_l00In d 0 60 := rfl
 rw [e3]
 cases h3 : spec_l00In d 0 60 with
 | false => rfl
 | true =>
 have hd : 0 ≤ d ∧ d ≤ 60 := by
  unfold spec_l00In at h3
  cases h4 : decide (d ≥ 0) <;> simp only [h4, cond_true, cond_false] at h3
  ·cases h3
  exact ⟨of_decide_eq_true h4, of_decide_eq_true h3⟩
 obtain ⟨i1, i2⟩ := srch_eq hl hv 70 x d [] [] hx hd.1 (by omega) (by decide)
 unfold sfound
 rw [← slopes_eq hl]
 cases h5 : (srch l (slopes l) 70 x d [] []).1 with
 | true =>
  have h6 := srch_few l (slopes l) 70 x d [] [] (by decide) h5
  rw [i1 h5, decide_eq_false (show ¬ 64 < (srch l (slopes l) 70 x d [] []).2.1.length + (srch l (slopes l) 70 x d [] []).2.2.length by omega)]
  rfl
 | false =>
  rw [decide_eq_true (i2 h5)]
  rfl
end Go.Proofs.Ytmdicdkceekodaa.TX
