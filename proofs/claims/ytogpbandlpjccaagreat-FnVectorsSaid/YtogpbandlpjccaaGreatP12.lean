/- Plain lemmas: angles in units, the middle of a place. -/
import Derived.Test.YtogpbandlpjccaaGreatP11
set_option linter.unusedVariables false
set_option linter.unusedSimpArgs false
namespace Go.G880
open Go Go.RX

theorem unit_range {a d : Int} (h : -1152921504606846976 < a ∧ a < 1152921504606846976) (hd : d = 7244019458077122842 ∨ d = 7244019458077122843) :
    -288230376151711744 ≤ a * 966367641600000000 / d ∧ a * 966367641600000000 / d ≤ 288230376151711744 := by
  constructor
  · rw [Int.le_ediv_iff_mul_le (by omega)]
    rcases hd with rfl | rfl <;> omega
  · apply Int.le_of_lt_add_one
    rw [Int.ediv_lt_iff_lt_mul (by omega)]
    rcases hd with rfl | rfl <;> omega
theorem mulDivCeil_val {a b d : Int} (ha : In64 a) (hb : In64 b) (h : 0 < d) (hd : d ≤ 9223372036854775807) (hq : -9223372036854775808 ≤ a * b / d ∧ a * b / d < 9223372036854775807) :
    impl_mulDivCeil a b d = (-((-(a * b)) / d), true) := by
  have hz := in128_mul ha hb
  have hi := WideInt_W (quot_range hz h).1 (quot_range hz h).2
  have hn := neg_div (z := -(a * b)) h
  rw [Int.neg_neg] at hn
  have m1 := Int.emod_nonneg (a * b) (show d ≠ 0 by omega)
  simp only [impl_mulDivCeil, WideMul_eq ha hb, WideDiv_eq hz h hd, Bool.not_true, cond_false, WideInt_eq, hi]
  rw [if_pos (by omega)]
  simp only [Bool.not_true, cond_false]
  by_cases hr : a * b % d = 0
  · rw [if_pos hr] at hn
    have e : decide (a * b % d > 0) = false := decide_eq_false (by omega)
    rw [e, cond_false, cond_false, hn.1, Int.neg_neg]
  · rw [if_neg hr] at hn
    have e : decide (a * b % d > 0) = true := decide_eq_true (by omega)
    have e2 : (a * b / d == 9223372036854775807) = false := by simp; omega
    rw [e, cond_true, e2, cond_false, cond_true, w64_id (by omega) (by omega), hn.1]
    congr 1
    omega
theorem floor_val {a d : Int} (h : -1152921504606846976 < a ∧ a < 1152921504606846976) (hd : d = 7244019458077122842 ∨ d = 7244019458077122843) :
    spec_MulDivFloor a 966367641600000000 d = (a * 966367641600000000 / d, true) := by
  have hr := unit_range h hd
  rw [spec_MulDivFloor_val (by simp only [In64]; omega) (by simp only [In64]; omega) (by omega) (by omega), if_pos (by omega)]
theorem UnitsOf_eq (x : Iv) : impl_UnitsOf x = spec_UnitsOf x := by
  simp only [impl_UnitsOf, spec_UnitsOf, isWhole_eq, spec_IsWhole]
  cases h : spec_l04Ok x
  · simp only [Bool.not_false, cond_true]
  have hh := (ok_iff x).1 h
  simp only [Bool.not_true, cond_false]
  have h64 : ∀ {a : Int}, -1152921504606846976 < a ∧ a < 1152921504606846976 → In64 a := fun hx => by simp only [In64]; omega
  have s64 : In64 966367641600000000 := by simp only [In64]; omega
  have wn : w64 (0 - x.hi) = -x.hi := by rw [w64_id (by omega) (by omega)]; omega
  have lo1 : ∀ d, d = 7244019458077122842 ∨ d = 7244019458077122843 → impl_MulDivFloor x.lo 966367641600000000 d = (x.lo * 966367641600000000 / d, true) := fun d hd => by
    rw [MulDivFloor_eq (h64 (by omega)) s64 (by omega), floor_val (by omega) hd]
  have hi1 : ∀ d, d = 7244019458077122842 ∨ d = 7244019458077122843 → impl_mulDivCeil x.hi 966367641600000000 d = (-((-x.hi) * 966367641600000000 / d), true) := fun d hd => by
    have hr := unit_range (a := x.hi) (by omega) hd
    rw [mulDivCeil_val (h64 (by omega)) s64 (by omega) (by omega) (by omega), Int.neg_mul]
  have u1 : spec_l05Units x.lo = bif decide (x.lo > 0) then x.lo * 966367641600000000 / 7244019458077122843 else x.lo * 966367641600000000 / 7244019458077122842 := by
    simp only [spec_l05Units, floor_val (a := x.lo) (by omega) (Or.inl rfl), floor_val (a := x.lo) (by omega) (Or.inr rfl)]
  have u2 : spec_l05Units (-x.hi) = bif decide (x.hi < 0) then (-x.hi) * 966367641600000000 / 7244019458077122843 else (-x.hi) * 966367641600000000 / 7244019458077122842 := by
    have e : decide (-x.hi > 0) = decide (x.hi < 0) := by apply Bool.eq_iff_iff.2; simp only [decide_eq_true_eq]; omega
    simp only [spec_l05Units, floor_val (a := -x.hi) (by omega) (Or.inl rfl), floor_val (a := -x.hi) (by omega) (Or.inr rfl), e]
  have wq : ∀ d, d = 7244019458077122842 ∨ d = 7244019458077122843 → w64 (0 - (-x.hi) * 966367641600000000 / d) = -((-x.hi) * 966367641600000000 / d) := fun d hd => by
    have hr := unit_range (a := -x.hi) (by omega) hd
    rw [w64_id (by omega) (by omega)]
    omega
  simp only [wn, u1, u2, lo1 _ (Or.inl rfl), lo1 _ (Or.inr rfl), hi1 _ (Or.inl rfl), hi1 _ (Or.inr rfl)]
  cases decide (x.lo > 0) <;> cases decide (x.hi < 0) <;> simp only [cond_true, cond_false, Bool.not_true, wq _ (Or.inl rfl), wq _ (Or.inr rfl)]
theorem half_floor {z : Int} (h : In64 z) : spec_l06Floor z 2 = Int.fdiv z 2 := by
  simp only [In64] at h
  have e := Int.tmod_add_mul_tdiv z 2
  have hb := tmod_bounds z 2 (by omega)
  have hf : Int.fdiv z 2 = z / 2 := fdiv_pos z (by omega)
  have hs : z < 0 → Int.tmod z 2 ≤ 0 := fun hz => by
    have := Int.tmod_nonneg (a := -z) 2 (by omega)
    rw [Int.neg_tmod] at this
    omega
  have hs2 : 0 ≤ z → 0 ≤ Int.tmod z 2 := fun hz => Int.tmod_nonneg 2 hz
  have hq : -9223372036854775808 ≤ Int.tdiv z 2 ∧ Int.tdiv z 2 ≤ 9223372036854775807 := by omega
  rw [hf]
  simp only [spec_l06Floor, w64_id hq.1 hq.2]
  by_cases hc : Int.tmod z 2 < 0
  · rw [decide_eq_true hc, cond_true, w64_id (by omega) (by omega)]
    omega
  · rw [decide_eq_false hc, cond_false]
    omega
theorem MiddlePoint_eq (lat lon : Iv) : impl_MiddlePoint lat lon = spec_MiddlePoint lat lon := by
  simp only [impl_MiddlePoint, spec_MiddlePoint, UnitsOf_eq, half_floor (in64_w64 _), WrapLon_eq, ValidPoint_eq, mx_eq]
theorem laws_FnExactMiddlePoint.holds (a0 a1 : Iv) (w0 : a0.In) (w1 : a1.In) : laws_FnExactMiddlePoint a0 a1 = true := by
  simp only [laws_FnExactMiddlePoint, toI, MiddlePoint_eq, eqPoint_refl, bne_self_eq_false, Bool.not_true, cond_false]
end Go.G880
