/- Plain lemmas: angles of points, eccentricities. -/
import Derived.Test.YtogpbandlpjccaaGreatP10
set_option linter.unusedVariables false
set_option linter.unusedSimpArgs false
namespace Go.G880
open Go Go.RX

theorem NegI_eq (a : Iv) : impl_NegI a = spec_NegI a := by
  cases h : spec_l04Ok a
  · rw [NegI_whole h]
    simp only [spec_NegI, h, Bool.not_false, cond_true]
  · have hh := (ok_iff a).1 h
    rw [NegI_ok h]
    simp only [spec_NegI, h, Bool.not_true, cond_false]
    rw [w64_id (by omega) (by omega), w64_id (by omega) (by omega), make_ok (by omega)]
    simp
theorem Integer_eq (n : Int) : impl_Integer n = spec_Integer n := by
  simp only [impl_Integer, spec_Integer, whole_eq, bounded_true, within_eq, within_not]
  by_cases h : -268435455 ≤ n ∧ n ≤ 268435455
  · rw [decide_eq_true h, decide_eq_true (by omega : -268435456 ≤ n ∧ n ≤ 268435456)]
  · rw [decide_eq_false h]
    by_cases h2 : -268435456 ≤ n ∧ n ≤ 268435456
    · rw [decide_eq_true h2]
      have : n = 268435456 ∨ n = -268435456 := by omega
      rcases this with rfl | rfl <;> rfl
    · rw [decide_eq_false h2]
theorem pi_pos : In64 7244019458077122842 ∧ In64 7244019458077122843 := by simp only [In64]; omega
theorem RadiansA_eq (n : Int) : impl_RadiansOf.A n = spec_RadiansOf.A n := by
  simp only [impl_RadiansOf.A, spec_RadiansOf.A, whole_eq, spec_Whole, within_eq]
  cases h : spec_l00In n (-36000000000) 36000000000
  · simp only [Bool.not_false, cond_true]
  · have hh := (l00In_iff _ _ _).1 h
    have hn : In64 n := by simp only [In64]; omega
    simp only [Bool.not_true, cond_false, MulDivFloor_eq hn pi_pos.1 (show (966367641600000000 : Int) ≤ 9223372036854775807 by omega), MulDivFloor_eq hn pi_pos.2 (show (966367641600000000 : Int) ≤ 9223372036854775807 by omega)]
theorem RadiansOf_eq (n : Int) : impl_RadiansOf n = spec_RadiansOf n := by
  simp only [impl_RadiansOf, spec_RadiansOf, RadiansA_eq, NegI_eq, whole_eq, spec_Whole, within_eq]
  cases h : spec_l00In n (-36000000000) 36000000000
  · simp only [Bool.not_false, cond_true]
  · have hh := (l00In_iff _ _ _).1 h
    have hn : In64 n := by simp only [In64]; omega
    simp only [Bool.not_true, cond_false, MulDivFloor_eq hn pi_pos.1 (show (966367641600000000 : Int) ≤ 9223372036854775807 by omega), MulDivFloor_eq hn pi_pos.2 (show (966367641600000000 : Int) ≤ 9223372036854775807 by omega)]
    by_cases h0 : n = 0
    · subst h0
      rfl
    · have e : (n == 0) = false := by simp [h0]
      rw [e]
      simp only [cond_false]
theorem LatOf_eq (p : Pt) : impl_LatOf p = spec_LatOf p := by simp only [impl_LatOf, spec_LatOf, ValidPoint_eq, RadiansOf_eq, whole_eq, spec_Whole]
theorem LonOf_eq (p : Pt) : impl_LonOf p = spec_LonOf p := by simp only [impl_LonOf, spec_LonOf, ValidPoint_eq, RadiansOf_eq, whole_eq, spec_Whole]
theorem laws_FnExactLatOf.holds (a0 : Pt) (w0 : a0.In) : laws_FnExactLatOf a0 = true := by
  simp only [laws_FnExactLatOf, toP, LatOf_eq, eqI_refl, Bool.not_true, cond_false]
theorem laws_FnExactLonOf.holds (a0 : Pt) (w0 : a0.In) : laws_FnExactLonOf a0 = true := by
  simp only [laws_FnExactLonOf, toP, LonOf_eq, eqI_refl, Bool.not_true, cond_false]
theorem AtPoint_eq (lat lon : Iv) (p : Pt) : impl_AtPoint lat lon p = spec_AtPoint lat lon p := by
  simp only [impl_AtPoint, spec_AtPoint, ValidPoint_eq, OverlapI_eq, LatOf_eq, RadiansOf_eq]
  cases h : spec_l11Ok p
  · simp only [Bool.not_false, cond_true]
  · simp only [Bool.not_true, cond_false, isPole_eq h]
    cases h2 : spec_OverlapI lat (spec_LatOf p)
    · simp only [Bool.not_false, cond_true]
    · simp only [Bool.not_true, cond_false]
      cases h3 : spec_l11Pole p
      · simp only [cond_false]
      · simp only [cond_true]
theorem laws_FnExactAtPoint.holds (a0 a1 : Iv) (a2 : Pt) (w0 : a0.In) (w1 : a1.In) (w2 : a2.In) : laws_FnExactAtPoint a0 a1 a2 = true := by
  unfold laws_FnExactAtPoint
  exact law_beq (by rw [toI, toI, toP, AtPoint_eq])
theorem EccI_eq (e : El) : impl_EccI e = spec_EccI e := by simp only [impl_EccI, spec_EccI, FlatteningI_eq, MulI_eq, SubI_eq, Integer_eq]
theorem SecondEccI_eq (e : El) : impl_SecondEccI e = spec_SecondEccI e := by simp only [impl_SecondEccI, spec_SecondEccI, impl_oneLess, EccI_eq, DivI_eq, SubI_eq, Integer_eq]
theorem laws_FnExactEccI.holds (a0 : El) (w0 : a0.In) : laws_FnExactEccI a0 = true := by
  simp only [laws_FnExactEccI, toE, EccI_eq, eqI_refl, Bool.not_true, cond_false]
theorem laws_FnExactSecondEccI.holds (a0 : El) (w0 : a0.In) : laws_FnExactSecondEccI a0 = true := by
  simp only [laws_FnExactSecondEccI, toE, SecondEccI_eq, eqI_refl, Bool.not_true, cond_false]
end Go.G880
