/- Quarter turns, and the circle's series. -/
import Derived.Test.YtogpbandlpjccaaGreatP12
set_option linter.unusedSimpArgs false
set_option linter.unusedVariables false
namespace Go.G880
open Go Go.RX

/-! ### The nearest quarter turn -/
theorem tdiv_val (m : Int) : Int.tdiv m 6746518852 = (if 0 ≤ m then m / 6746518852 else -((-m) / 6746518852)) ∧ Int.tmod m 6746518852 = (if 0 ≤ m then m % 6746518852 else -((-m) % 6746518852)) := by
  by_cases h : 0 ≤ m
  · rw [if_pos h, if_pos h]; exact ⟨tdiv_nn _ h, tmod_nn _ h⟩
  · rw [if_neg h, if_neg h]
    have e : m = -(-m) := by omega
    have hn : 0 ≤ -m := by omega
    constructor
    · conv => lhs; rw [e]
      rw [Int.neg_tdiv, tdiv_nn _ hn]
    · conv => lhs; rw [e]
      rw [Int.neg_tmod, tmod_nn _ hn]
theorem Quarter_val {n : Int} (h : -1099511627776 ≤ n ∧ n ≤ 1099511627776) : impl_QuarterOf n = (n + 3373259426) / 6746518852 ∧ spec_QuarterOf n = (n + 3373259426) / 6746518852 := by
  have ha : impl_isAngle n = true := (inside_iff _ _ _).2 h
  have hb : spec_l06Angle n = true := (l00In_iff _ _ _).2 h
  have hm : w64 (n + 3373259426) = n + 3373259426 := w64_id (by omega) (by omega)
  obtain ⟨hd, hr⟩ := tdiv_val (n + 3373259426)
  have hq : -200 ≤ Int.tdiv (n + 3373259426) 6746518852 ∧ Int.tdiv (n + 3373259426) 6746518852 ≤ 200 := by rw [hd]; split <;> omega
  have hw : w64 (Int.tdiv (n + 3373259426) 6746518852) = Int.tdiv (n + 3373259426) 6746518852 := w64_id (by omega) (by omega)
  have hw2 : w64 (Int.tdiv (n + 3373259426) 6746518852 * 6746518852) = Int.tdiv (n + 3373259426) 6746518852 * 6746518852 := w64_id (by omega) (by omega)
  have hw3 : w64 (Int.tdiv (n + 3373259426) 6746518852 - 1) = Int.tdiv (n + 3373259426) 6746518852 - 1 := w64_id (by omega) (by omega)
  constructor
  · simp only [impl_QuarterOf, ha, Bool.not_true, cond_false, hm, hw, hw2, hw3, Bool.cond_eq_ite, decide_eq_true_eq, Bool.false_eq_true, if_false]
    by_cases h0 : 0 ≤ n + 3373259426
    · rw [if_pos h0] at hd; split <;> omega
    · rw [if_neg h0] at hd; split <;> omega
  · simp only [spec_QuarterOf, spec_l06Floor, hb, Bool.not_true, cond_false, hm, hw, hw3, Bool.cond_eq_ite, decide_eq_true_eq, Bool.false_eq_true, if_false]
    by_cases h0 : 0 ≤ n + 3373259426
    · rw [if_pos h0] at hd hr; split <;> omega
    · rw [if_neg h0] at hd hr; split <;> omega
theorem angle_eq (n : Int) : impl_isAngle n = spec_l06Angle n := rfl
theorem QuarterOf_eq (n : Int) : impl_QuarterOf n = spec_QuarterOf n := by
  cases h : spec_l06Angle n
  · simp only [impl_QuarterOf, spec_QuarterOf, angle_eq, h, Bool.not_false, cond_true]
  · have := Quarter_val ((l00In_iff _ _ _).1 h)
    rw [this.1, this.2]
theorem Quarter_rng (n : Int) : -200 ≤ spec_QuarterOf n ∧ spec_QuarterOf n ≤ 200 := by
  cases h : spec_l06Angle n
  · simp only [spec_QuarterOf, h, Bool.not_false, cond_true]; omega
  · have hh := (l00In_iff _ _ _).1 h
    rw [(Quarter_val hh).2]; omega

/-! ### Quarter turns -/
theorem Shift30 {z : Int} (h1 : -170141183460469231731687303715884105728 ≤ z) (h2 : z < 170141183460469231731687303715884105728) : impl_WideShift (W z) 30 = W (z / 1073741824) ∧ spec_l02Shift (W z) 30 = W (z / 1073741824) := by
  have fd : ∀ z : Int, Int.fdiv z (2 ^ 30) = z / 1073741824 := fun z => fdiv_pos z (by omega)
  have hm : orI .u64 (u64 z / 1073741824) (u64 (u64 (w64 (z / 18446744073709551616)) * 2 ^ 34)) = u64 (z / 1073741824) := by
    have b0 := u64_nn z
    have b1 := u64_lt z
    have c0 := u64_nn (u64 (w64 (z / 18446744073709551616)) * 2 ^ 34)
    have c1 := u64_lt (u64 (w64 (z / 18446744073709551616)) * 2 ^ 34)
    have d : u64 (u64 (w64 (z / 18446744073709551616)) * 2 ^ 34) % 2 ^ 34 = 0 := by
      rw [u64_def]
      omega
    rw [orI_comm (by omega) (by omega) c0 c1, orI_add 34 c0 c1 d (by omega) (by omega) (by omega)]
    simp only [u64_def, w64_def]
    omega
  have hh : w64 (z / 18446744073709551616) / 1073741824 = w64 (z / 1073741824 / 18446744073709551616) := by
    simp only [w64_def]
    omega
  constructor
  · have e1 : impl_within 30 0 127 = true := by decide
    have e2 : decide ((30 : Int) ≥ 64) = false := by decide
    have e3 : min (Int.toNat 30) 64 = 30 := by decide
    have e4 : min (Int.toNat (w64 (64 - 30))) 64 = 34 := by decide
    simp only [impl_WideShift, e1, e2, e3, e4, fd, Bool.not_true, cond_false, W, hm]
    rw [hh]
  · have e1 : ((30 : Int) == 0) = false := by decide
    have e2 : decide ((30 : Int) < 64) = true := by decide
    have e3 : min (Int.toNat (u64 30)) 64 = 30 := by decide
    have e4 : min (Int.toNat (u64 (w64 (64 - 30)))) 64 = 34 := by decide
    simp only [spec_l02Shift, e1, e2, e3, e4, fd, cond_true, cond_false, W, hm]
    rw [hh]
theorem MulFloor30 {a : Int} (ha : 0 ≤ a ∧ a ≤ 4096) : impl_MulFloor a 7244019458077122842 30 = (a * 7244019458077122842 / 1073741824, true) ∧ spec_MulFloor a 7244019458077122842 30 = (a * 7244019458077122842 / 1073741824, true) := by
  have ha' : In64 a := by simp only [In64]; omega
  have ⟨h1, h2⟩ := prod_range ha' pi_pos.1
  have e1 : impl_within 30 0 126 = true := by decide
  have e2 : spec_l00In 30 0 126 = true := by decide
  have e3 : spec_l02Int (W (a * 7244019458077122842 / 1073741824)) = (a * 7244019458077122842 / 1073741824, true) := by
    rw [WideInt_W (by omega) (by omega), if_pos (by omega)]
  simp only [impl_MulFloor, spec_MulFloor, WideMul_eq ha' pi_pos.1, l02Mul_eq ha' pi_pos.1, (Shift30 h1 h2).1, (Shift30 h1 h2).2, WideInt_eq, e1, e2, e3, Bool.not_true, cond_false, and_self]
theorem TurnI_eq (k : Int) : impl_TurnI k = spec_TurnI k := by
  simp only [impl_TurnI, spec_TurnI, spec_l05Turn, whole_eq, spec_Whole, within_eq]
  cases h : spec_l00In k (-4096) 4096
  · simp only [Bool.not_false, cond_true]
  have hh := (l00In_iff _ _ _).1 h
  simp only [Bool.not_true, cond_false]
  by_cases h0 : k = 0
  · subst h0; rfl
  have e0 : (k == 0) = false := by simp [h0]
  by_cases hn : k < 0
  · have e1 : decide (k < 0) = true := decide_eq_true hn
    have e2 : w64 (0 - k) = -k := by rw [w64_id (by omega) (by omega)]; omega
    have e3 : ((-k : Int) == 0) = false := by simp; omega
    have e4 : spec_l00In (-k) (-4096) 4096 = true := (l00In_iff _ _ _).2 (by omega)
    have hv := MulFloor30 (a := -k) (by omega)
    have hr : 0 ≤ -k * 7244019458077122842 / 1073741824 ∧ -k * 7244019458077122842 / 1073741824 ≤ 27634151458500 := by omega
    have e5 : w64 (-k * 7244019458077122842 / 1073741824 + 1) = -k * 7244019458077122842 / 1073741824 + 1 := w64_id (by omega) (by omega)
    simp only [e0, e1, e2, cond_true, cond_false, impl_TurnI.A, spec_l05Turn.A, e3, within_eq, e4, Bool.not_true, hv.1, hv.2, e5]
    rw [NegI_ok (by rw [ok_iff]; simp only []; omega)]
    simp only []
    rw [w64_id (by omega) (by omega), w64_id (by omega) (by omega)]
    simp only [Iv.mk.injEq]
    omega
  · have e1 : decide (k < 0) = false := decide_eq_false hn
    have hv := MulFloor30 (a := k) (by omega)
    simp only [e0, e1, cond_false, hv.1, hv.2]

/-! ### The series -/
theorem InsideI_eq (a : Iv) {b : Iv} (hb : spec_l04Ok b = true) : impl_InsideI a b = spec_InsideI a b := by
  simp only [impl_InsideI, spec_InsideI, isWhole_eq, hb, Bool.not_true]
  cases spec_l04Ok a <;> simp
theorem SqrI_eq (a : Iv) : impl_SqrI a = spec_SqrI a := by
  simp only [impl_SqrI, spec_SqrI, isWhole_eq, whole_eq]
  cases h : spec_l04Ok a
  · simp only [Bool.not_false, cond_true]
  simp only [Bool.not_true, cond_false]
  obtain ⟨h1, h2, h3, h4⟩ := AbsI_val h
  have h5 : spec_AbsI a = spec_l04Make (spec_l04Ends a).1 (spec_l04Ends a).2 := by simp only [spec_AbsI, h, Bool.not_true, cond_false]
  have h6 : spec_l04Make (spec_l04Ends a).1 (spec_l04Ends a).2 = ⟨(spec_l04Ends a).1, (spec_l04Ends a).2⟩ := by
    unfold spec_l04Make
    cases hk : spec_l04Ok ⟨(spec_l04Ends a).1, (spec_l04Ends a).2⟩
    · rw [h5] at h2 h3 h4
      unfold spec_l04Make at h2 h3 h4
      rw [hk] at h2 h3 h4
      simp only [Bool.not_false, cond_true] at h2 h3 h4
      exact absurd h2 (by decide)
    · rfl
  rw [h1, h5, h6]
  simp only [MulDown_eq, MulUp_eq]
  cases hd : (spec_l03MulDown (spec_l04Ends a).1 (spec_l04Ends a).1).2
  · simp only [cond_false, Bool.not_false, cond_true, bounded_false]
  cases hu : (spec_l03MulUp (spec_l04Ends a).2 (spec_l04Ends a).2).2
  · simp only [cond_true, Bool.not_true, Bool.not_false, cond_false, bounded_false]
  · simp only [cond_true, Bool.not_true, cond_false, bounded_true]
theorem series_sin (y : Iv) : impl_series y 2 = spec_l06Series y 0 := by
  simp only [impl_series, spec_l06Series, SubI_eq, MulI_eq, DivI_eq, Integer_eq]
  rfl
theorem series_cos (y : Iv) : impl_series y 1 = spec_l06Series y (-1) := by
  simp only [impl_series, spec_l06Series, SubI_eq, MulI_eq, DivI_eq, Integer_eq]
  rfl
theorem ring_ok : spec_l04Ok spec_l06Ring = true := by decide
theorem SinSeries_eq (x : Iv) : impl_SinSeries x = spec_SinSeries x := by
  have e : impl_ring = spec_l06Ring := rfl
  have e2 : impl_tiny = spec_l06Tiny := rfl
  simp only [impl_SinSeries, spec_SinSeries, e, e2, InsideI_eq x ring_ok, AddI_eq, MulI_eq, SqrI_eq, series_sin, whole_eq, spec_Whole]
theorem CosSeries_eq (x : Iv) : impl_CosSeries x = spec_CosSeries x := by
  have e : impl_ring = spec_l06Ring := rfl
  have e2 : impl_tiny = spec_l06Tiny := rfl
  simp only [impl_CosSeries, spec_CosSeries, e, e2, InsideI_eq x ring_ok, AddI_eq, SqrI_eq, series_cos, whole_eq, spec_Whole]
theorem HullI_eq (a b : Iv) : impl_HullI a b = spec_HullI a b := by
  simp only [impl_HullI, spec_HullI, areBounded_eq, whole_eq, mx_eq, mn_eq]
  cases ha : spec_l04Ok a
  · simp only [Bool.false_and, Bool.not_false, cond_true]
  cases hb : spec_l04Ok b
  · simp only [Bool.true_and, Bool.not_false, Bool.not_true, cond_true, cond_false]
  simp only [Bool.true_and, Bool.not_true, cond_false]
  have h1 := (ok_iff a).1 ha
  have h2 := (ok_iff b).1 hb
  rw [make_ok]
  simp only [spec_l00Min, spec_l00Max, Bool.cond_eq_ite, decide_eq_true_eq]
  split <;> split <;> omega

end Go.G880
