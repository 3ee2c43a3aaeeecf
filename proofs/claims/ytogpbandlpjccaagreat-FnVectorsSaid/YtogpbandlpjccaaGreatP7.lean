/- Plain lemmas: quotients of fixes, fractions. -/
import Derived.Test.YtogpbandlpjccaaGreatP6
set_option linter.unusedVariables false
set_option linter.unusedSimpArgs false
namespace Go.G880
open Go Go.RX

def In128 (z : Int) : Prop := -170141183460469231731687303715884105728 ≤ z ∧ z < 170141183460469231731687303715884105728
theorem W_hi {z : Int} (h : In128 z) : (W z).hi = z / 18446744073709551616 := by
  simp only [In128] at h
  simp only [W]
  exact w64_id (by omega) (by omega)
theorem W_neg (z : Int) : (W z).hi < 0 ↔ w64 (z / 18446744073709551616) < 0 := Iff.rfl
/-- The halves of a number without a sign. -/
theorem W_halves {z : Int} (h0 : 0 ≤ z) (h1 : z ≤ 170141183460469231731687303715884105728) : u64 (W z).hi = z / 18446744073709551616 ∧ (W z).lo = z % 18446744073709551616 := by
  constructor
  · simp only [W, u64_w64]
    exact u64_id (by omega) (by omega)
  · simp only [W, u64_def]
theorem halves (z : Int) : z / 18446744073709551616 * 18446744073709551616 + z % 18446744073709551616 = z := by omega

theorem parts {z d : Int} (h0 : 0 ≤ z) (h1 : z ≤ 170141183460469231731687303715884105728) (h2 : 0 < d) (h3 : d ≤ 9223372036854775807) :
    impl_divided (u64 (W z).hi) (W z).lo (u64 d) = spec_l02Divide (u64 (W z).hi) (W z).lo (u64 d) ∧ ∃ q1 q0, spec_l02Divide (u64 (W z).hi) (W z).lo (u64 d) = (q1, q0, z % d) ∧ q1 * 18446744073709551616 + q0 = z / d ∧ 0 ≤ q0 ∧ q0 < 18446744073709551616 ∧ 0 ≤ q1 := by
  obtain ⟨e1, e2⟩ := W_halves h0 h1
  have e3 : u64 d = d := u64_id (by omega) (by omega)
  have m1 := Int.emod_nonneg (z / 18446744073709551616) (show d ≠ 0 by omega)
  have m2 := Int.emod_lt_of_pos (z / 18446744073709551616) h2
  rw [e1, e2, e3, divided_eq (by omega) (by omega) (by omega) (by omega) h2 (by omega), Divide_eq (by omega) (by omega) (by omega) (by omega) h2 (by omega)]
  refine ⟨rfl, _, _, Prod.ext rfl (Prod.ext rfl ?_), ?_, ?_, ?_, ?_⟩
  · have := (two_digit (z / 18446744073709551616) (z % 18446744073709551616) h2).2
    rw [halves] at this
    exact this.symm
  · have := (two_digit (z / 18446744073709551616) (z % 18446744073709551616) h2).1
    rw [halves] at this
    exact this.symm
  · exact Int.ediv_nonneg (by omega) (by omega)
  · rw [Int.ediv_lt_iff_lt_mul h2]
    have : (z / 18446744073709551616 % d + 1) * 18446744073709551616 ≤ d * 18446744073709551616 := Int.mul_le_mul_of_nonneg_right (by omega) (by omega)
    omega
  · exact Int.ediv_nonneg (by omega) (by omega)
theorem neg_div {z d : Int} (h2 : 0 < d) : (if (-z) % d = 0 then z / d = -((-z) / d) ∧ z % d = 0 else z / d = -((-z) / d) - 1 ∧ z % d = d - (-z) % d) := by
  have hm := Int.emod_add_mul_ediv (-z) d
  have m1 := Int.emod_nonneg (-z) (show d ≠ 0 by omega)
  have m2 := Int.emod_lt_of_pos (-z) h2
  generalize (-z) / d = q at *
  generalize (-z) % d = r at *
  split
  · rename_i hr
    have e : z = 0 + (-q) * d := by rw [Int.neg_mul, Int.mul_comm]; omega
    rw [e]
    constructor
    · rw [Int.add_mul_ediv_right _ _ (by omega)]; simp
    · rw [Int.add_mul_emod_self_right]; simp
  · rename_i hr
    have e : z = (d - r) + (-q - 1) * d := by rw [Int.sub_mul, Int.neg_mul, Int.mul_comm]; omega
    rw [e]
    constructor
    · rw [Int.add_mul_ediv_right _ _ (by omega), Int.ediv_eq_zero_of_lt (by omega) (by omega)]; omega
    · rw [Int.add_mul_emod_self_right, Int.emod_eq_of_lt (by omega) (by omega)]
theorem l02Div_eq {z d : Int} (hz : In128 z) (h2 : 0 < d) (h3 : d ≤ 9223372036854775807) : spec_l02Div (W z) d = (W (z / d), z % d) := by
  have hh := W_hi hz
  simp only [In128] at hz
  by_cases hs : 0 ≤ z
  · obtain ⟨-, q1, q0, e1, e2, e3, e4, e5⟩ := parts hs (by omega) h2 h3
    have hc : decide ((W z).hi ≥ 0) = true := decide_eq_true (by rw [hh]; omega)
    have m1 := Int.emod_nonneg z (show d ≠ 0 by omega)
    have m2 := Int.emod_lt_of_pos z h2
    simp only [spec_l02Div, hc, cond_true, e1]
    rw [mk_W e3 e4, e2, w64_id (by omega) (by omega)]
  · obtain ⟨-, q1, q0, e1, e2, e3, e4, e5⟩ := parts (z := -z) (by omega) (by omega) h2 h3
    have hc : decide ((W z).hi ≥ 0) = false := decide_eq_false (by rw [hh]; omega)
    have m1 := Int.emod_nonneg (-z) (show d ≠ 0 by omega)
    have m2 := Int.emod_lt_of_pos (-z) h2
    have hn := neg_div (z := z) h2
    have hm1 : spec_l02Of (-1) = W (-1) := (WideOf_eq (by simp only [In64]; omega)).2
    simp only [spec_l02Div, hc, cond_false, minus_W, e1]
    rw [mk_W e3 e4, e2, minus_W]
    by_cases hr : (-z) % d = 0
    · rw [if_pos hr] at hn
      rw [hr, hn.1, hn.2]
      rfl
    · rw [if_neg hr] at hn
      have hb : ((-z) % d == 0) = false := by simp [hr]
      rw [hb, cond_false, hm1, plus_W, hn.1, hn.2, w64_id (n := (-z) % d) (by omega) (by omega), w64_id (by omega) (by omega)]
      rfl
theorem WideDiv_eq {z d : Int} (hz : In128 z) (h2 : 0 < d) (h3 : d ≤ 9223372036854775807) : impl_WideDiv (W z) d = (W (z / d), z % d, true) := by
  have hh := W_hi hz
  simp only [In128] at hz
  have hd : decide (d ≤ 0) = false := decide_eq_false (by omega)
  by_cases hs : 0 ≤ z
  · obtain ⟨e0, q1, q0, e1, e2, e3, e4, e5⟩ := parts hs (by omega) h2 h3
    have hc : decide ((W z).hi ≥ 0) = true := decide_eq_true (by rw [hh]; omega)
    have m1 := Int.emod_nonneg z (show d ≠ 0 by omega)
    have m2 := Int.emod_lt_of_pos z h2
    simp only [impl_WideDiv, hd, hc, cond_true, cond_false, e0, e1]
    rw [mk_W e3 e4, e2, w64_id (by omega) (by omega)]
  · obtain ⟨e0, q1, q0, e1, e2, e3, e4, e5⟩ := parts (z := -z) (by omega) (by omega) h2 h3
    have hc : decide ((W z).hi ≥ 0) = false := decide_eq_false (by rw [hh]; omega)
    have m1 := Int.emod_nonneg (-z) (show d ≠ 0 by omega)
    have m2 := Int.emod_lt_of_pos (-z) h2
    have hn := neg_div (z := z) h2
    simp only [impl_WideDiv, hd, hc, cond_false, neg_W, e0, e1]
    by_cases hr : (-z) % d = 0
    · rw [if_pos hr] at hn
      rw [hr, hn.1, hn.2, mk_W e3 e4, e2, neg_W]
      rfl
    · rw [if_neg hr] at hn
      have hb : ((-z) % d == 0) = false := by simp [hr]
      have ha : bits_Add64 q0 1 0 = ((q0 + 1) % 18446744073709551616, (q0 + 1) / 18446744073709551616) := by
        simp only [bits_Add64, Prod.mk.injEq]
        omega
      have hw : w64 (u64 (q1 + (q0 + 1) / 18446744073709551616)) = w64 (q1 + (q0 + 1) / 18446744073709551616) := w64_u64 _
      rw [hb, cond_false, ha]
      simp only [hw]
      rw [mk_W (by omega) (by omega), neg_W, hn.1, hn.2, w64_id (n := (-z) % d) (by omega) (by omega), w64_id (by omega) (by omega)]
      have e : -((q1 + (q0 + 1) / 18446744073709551616) * 18446744073709551616 + (q0 + 1) % 18446744073709551616) = -(-z / d) - 1 := by omega
      rw [e]
end Go.G880
