/- Plain lemmas: whole numbers as Go keeps them; points, ellipsoids, longitudes. -/
import Derived.Test.YtogpbandlpjccaaGreatD
import Derived.Test.YtogpbandlpjccaaGreatRxG
import Derived.Test.YtogpbandlpjccaaGreatRxN
set_option linter.unusedVariables false
set_option linter.unusedSimpArgs false
namespace Go.G880
open Go Go.RX


theorem within_eq (x l h : Int) : impl_within x l h = spec_l00In x l h := rfl
theorem l00In_iff (x l h : Int) : spec_l00In x l h = true ↔ l ≤ x ∧ x ≤ h := by
  simp [spec_l00In, cond_eq_ite]
theorem inside_iff (x l h : Int) : impl_within x l h = true ↔ l ≤ x ∧ x ≤ h := by
  simp [impl_within, cond_eq_ite]

theorem laws_FnExactSameVec.holds (a0 a1 : V3) (w0 : a0.In) (w1 : a1.In) : laws_FnExactSameVec a0 a1 = true := by
  simp [laws_FnExactSameVec, spec_SameVec, impl_SameVec]
theorem ValidPoint_eq (a0 : Pt) : impl_ValidPoint a0 = spec_l11Ok a0 := by
  have h : ∀ a b c d : Bool, (c = true ↔ d = true) → (bif a then c else b) = (bif a then d else b) := by
    intro a b c d h
    cases a
    · rfl
    · exact Bool.eq_iff_iff.2 h
  refine h _ _ _ _ ?_
  simp only [spec_l00In, cond_eq_ite, decide_eq_true_eq]
  split <;> split <;> simp <;> omega
theorem laws_FnExactValidPoint.holds (a0 : Pt) (w0 : a0.In) : laws_FnExactValidPoint a0 = true := by
  simp [laws_FnExactValidPoint, laws_toPoint, spec_ValidPoint, ValidPoint_eq]
theorem ValidEllipsoid_eq (a0 : El) : impl_ValidEllipsoid a0 = spec_l12Ok a0 := by
  simp only [impl_ValidEllipsoid, spec_l12Ok, impl_within, spec_l00In]
theorem laws_FnExactValidEllipsoid.holds (a0 : El) (w0 : a0.In) : laws_FnExactValidEllipsoid a0 = true := by
  simp [laws_FnExactValidEllipsoid, laws_toEllipsoid, spec_ValidEllipsoid, ValidEllipsoid_eq]
theorem laws_FnExactWgs.holds : laws_FnExactWgs = true := by decide
theorem WrapLon_eq (a0 : Int) : impl_WrapLon a0 = spec_l11Wrap a0 := by
  have ⟨h1, h2⟩ := tmod_bounds a0 3600000000 (by omega)
  simp only [impl_WrapLon, spec_l11Wrap, cond_eq_ite, decide_eq_true_eq]
  generalize Int.tmod a0 3600000000 = n at *
  by_cases h : n > 1800000000
  · rw [if_pos h, if_pos h, w64_id (by omega) (by omega), if_neg (by omega)]
  · rw [if_neg h, if_neg h]
theorem laws_FnExactWrapLon.holds (a0 : Int) (w0 : In64 a0) : laws_FnExactWrapLon a0 = true := by
  unfold laws_FnExactWrapLon
  exact law_ne (by rw [WrapLon_eq]; rfl)
end Go.G880
