/- Plain lemmas: quotients of fixes, fractions. -/
import Derived.Test.YtogpbandlpjccaaGreatDoorPA
set_option linter.unusedVariables false
set_option linter.unusedSimpArgs false
namespace Go.G880
open Go Go.RX
def In128 (z : Int) : Prop := -170141183460469231731687303715884105728 ≤ z ∧ z < 170141183460469231731687303715884105728
theorem W_hi {z : Int} (h : In128 z) : (W z).hi = z / 18446744073709551616 := by
  simp only [In128] at h
  simp only [W]
  exact w64_id (by omega) (by omega)
/-- The halves of a number without a sign. -/
theorem W_halves {z : Int} (h0 : 0 ≤ z) (h1 : z ≤ 170141183460469231731687303715884105728) : u64 (W z).hi = z / 18446744073709551616 ∧ (W z).lo = z % 18446744073709551616 := by
  constructor
  · simp only [W, u64_w64]
    exact u64_id (by omega) (by omega)
  · simp only [W, u64_def]
theorem halves (z : Int) : z / 18446744073709551616 * 18446744073709551616 + z % 18446744073709551616 = z := by omega
theorem parts {z d : Int} (h0 : 0 ≤ z) (h1 : z ≤ 170141183460469231731687303715884105728) (h2 : 0 < d) (h3 : d ≤ 9223372036854775807) :
    impl_divided (u64 (W z).hi) (W z).lo (u64 d) = spec_l02Divide (u64 (W z).hi) (W z).lo (u64 d) ∧ ∃ q1 q0, spec_l02Divide (u64 (W z).hi) (W z).lo (u64 d) = (q1, q0, z % d) ∧ q1 * 18446744073709551616 + q0 = z / d ∧ 0 ≤ q0 ∧ q0 < 18446744073709551616 ∧ 0 ≤ q1 := by
  obtain ⟨e1, e2⟩ := W_halves h0 h1
  have e3 : u64 d = d := u64_id (by omega) (by omega)
  have m1 := Int.emod_nonneg (z / 18446744073709551616) (show d ≠ 0 by omega)
  have m2 := Int.emod_lt_of_pos (z / 18446744073709551616) h2
  rw [e1, e2, e3, divided_eq (by omega) (by omega) (by omega) (by omega) h2 (by omega), Divide_eq (by omega) (by omega) (by omega) (by omega) h2 (by omega)]
  refine ⟨rfl, _, _, Prod.ext rfl (Prod.ext rfl ?_), ?_, ?_, ?_, ?_⟩
  · have := (two_digit (z / 18446744073709551616) (z % 18446744073709551616) h2).2
    rw [halves] at this
    exact this.symm
  · have := (two_digit (z / 18446744073709551616) (z % 18446744073709551616) h2).1
    rw [halves] at this
    exact this.symm
  · exact Int.ediv_nonneg (by omega) (by omega)
  · rw [Int.ediv_lt_iff_lt_mul h2]
    have : (z / 18446744073709551616 % d + 1) * 18446744073709551616 ≤ d * 18446744073709551616 := Int.mul_le_mul_of_nonneg_right (by omega) (by omega)
    omega
  · exact Int.ediv_nonneg (by omega) (by omega)
theorem neg_div {z d : Int} (h2 : 0 < d) : (if (-z) % d = 0 then z / d = -((-z) / d) ∧ z % d = 0 else z / d = -((-z) / d) - 1 ∧ z % d = d - (-z) % d) := by
  have hm := Int.emod_add_mul_ediv (-z) d
  have m1 := Int.emod_nonneg (-z) (show d ≠ 0 by omega)
  have m2 := Int.emod_lt_of_pos (-z) h2
  generalize (-z) / d = q at *
  generalize (-z) % d = r at *
  split
  · rename_i hr
    have e : z = 0 + (-q) * d := by rw [Int.neg_mul, Int.mul_comm]; omega
    rw [e]
    constructor
    · rw [Int.add_mul_ediv_right _ _ (by omega)]; simp
    · rw [Int.add_mul_emod_self_right]; simp
  · rename_i hr
    have e : z = (d - r) + (-q - 1) * d := by rw [Int.sub_mul, Int.neg_mul, Int.mul_comm]; omega
    rw [e]
    constructor
    · rw [Int.add_mul_ediv_right _ _ (by omega), Int.ediv_eq_zero_of_lt (by omega) (by omega)]; omega
    · rw [Int.add_mul_emod_self_right, Int.emod_eq_of_lt (by omega) (by omega)]
theorem l02Div_eq {z d : Int} (hz : In128 z) (h2 : 0 < d) (h3 : d ≤ 9223372036854775807) : spec_l02Div (W z) d = (W (z / d), z % d) := by
  have hh := W_hi hz
  simp only [In128] at hz
  by_cases hs : 0 ≤ z
  · obtain ⟨-, q1, q0, e1, e2, e3, e4, e5⟩ := parts hs (by omega) h2 h3
    have hc : decide ((W z).hi ≥ 0) = true := decide_eq_true (by rw [hh]; omega)
    have m1 := Int.emod_nonneg z (show d ≠ 0 by omega)
    have m2 := Int.emod_lt_of_pos z h2
    simp only [spec_l02Div, hc, cond_true, e1]
    rw [mk_W e3 e4, e2, w64_id (by omega) (by omega)]
  · obtain ⟨-, q1, q0, e1, e2, e3, e4, e5⟩ := parts (z := -z) (by omega) (by omega) h2 h3
    have hc : decide ((W z).hi ≥ 0) = false := decide_eq_false (by rw [hh]; omega)
    have m1 := Int.emod_nonneg (-z) (show d ≠ 0 by omega)
    have m2 := Int.emod_lt_of_pos (-z) h2
    have hn := neg_div (z := z) h2
    have hm1 : spec_l02Of (-1) = W (-1) := (WideOf_eq (by simp only [In64]; omega)).2
    simp only [spec_l02Div, hc, cond_false, minus_W, e1]
    rw [mk_W e3 e4, e2, minus_W]
    by_cases hr : (-z) % d = 0
    · rw [if_pos hr] at hn
      rw [hr, hn.1, hn.2]
      rfl
    · rw [if_neg hr] at hn
      have hb : ((-z) % d == 0) = false := by simp [hr]
      rw [hb, cond_false, hm1, plus_W, hn.1, hn.2, w64_id (n := (-z) % d) (by omega) (by omega), w64_id (by omega) (by omega)]
      rfl
theorem WideDiv_eq {z d : Int} (hz : In128 z) (h2 : 0 < d) (h3 : d ≤ 9223372036854775807) : impl_WideDiv (W z) d = (W (z / d), z % d, true) := by
  have hh := W_hi hz
  simp only [In128] at hz
  have hd : decide (d ≤ 0) = false := decide_eq_false (by omega)
  by_cases hs : 0 ≤ z
  · obtain ⟨e0, q1, q0, e1, e2, e3, e4, e5⟩ := parts hs (by omega) h2 h3
    have hc : decide ((W z).hi ≥ 0) = true := decide_eq_true (by rw [hh]; omega)
    have m1 := Int.emod_nonneg z (show d ≠ 0 by omega)
    have m2 := Int.emod_lt_of_pos z h2
    simp only [impl_WideDiv, hd, hc, cond_true, cond_false, e0, e1]
    rw [mk_W e3 e4, e2, w64_id (by omega) (by omega)]
  · obtain ⟨e0, q1, q0, e1, e2, e3, e4, e5⟩ := parts (z := -z) (by omega) (by omega) h2 h3
    have hc : decide ((W z).hi ≥ 0) = false := decide_eq_false (by rw [hh]; omega)
    have m1 := Int.emod_nonneg (-z) (show d ≠ 0 by omega)
    have m2 := Int.emod_lt_of_pos (-z) h2
    have hn := neg_div (z := z) h2
    simp only [impl_WideDiv, hd, hc, cond_false, neg_W, e0, e1]
    by_cases hr : (-z) % d = 0
    · rw [if_pos hr] at hn
      rw [hr, hn.1, hn.2, mk_W e3 e4, e2, neg_W]
      rfl
    · rw [if_neg hr] at hn
      have hb : ((-z) % d == 0) = false := by simp [hr]
      have ha : bits_Add64 q0 1 0 = ((q0 + 1) % 18446744073709551616, (q0 + 1) / 18446744073709551616) := by
        simp only [bits_Add64, Prod.mk.injEq]
        omega
      have hw : w64 (u64 (q1 + (q0 + 1) / 18446744073709551616)) = w64 (q1 + (q0 + 1) / 18446744073709551616) := w64_u64 _
      rw [hb, cond_false, ha]
      simp only [hw]
      rw [mk_W (by omega) (by omega), neg_W, hn.1, hn.2, w64_id (n := (-z) % d) (by omega) (by omega), w64_id (by omega) (by omega)]
      have e : -((q1 + (q0 + 1) / 18446744073709551616) * 18446744073709551616 + (q0 + 1) % 18446744073709551616) = -(-z / d) - 1 := by omega
      rw [e]
end Go.G880
/- Plain lemmas: rounded quotients, fractions, quotients of intervals. -/
set_option linter.unusedVariables false
set_option linter.unusedSimpArgs false
namespace Go.G880
open Go Go.RX
theorem in128_mul {a b : Int} (ha : In64 a) (hb : In64 b) : In128 (a * b) := prod_range ha hb
theorem WideDiv_no (w : Wd) {d : Int} (h : d ≤ 0) : impl_WideDiv w d = (⟨0, 0⟩, 0, false) := by
  simp only [impl_WideDiv, decide_eq_true h, cond_true]
theorem MulDivFloor_eq {a b d : Int} (ha : In64 a) (hb : In64 b) (hd : d ≤ 9223372036854775807) : impl_MulDivFloor a b d = spec_MulDivFloor a b d := by
  by_cases h : d ≤ 0
  · simp only [impl_MulDivFloor, spec_MulDivFloor, WideDiv_no _ h, decide_eq_true h, cond_true, Bool.not_false]
  · have hn := decide_eq_false h
    simp only [impl_MulDivFloor, spec_MulDivFloor, WideMul_eq ha hb, l02Mul_eq ha hb, WideDiv_eq (in128_mul ha hb) (show 0 < d by omega) hd, l02Div_eq (in128_mul ha hb) (show 0 < d by omega) hd, hn, Bool.not_true, cond_false, WideInt_eq]
theorem quot_range {z d : Int} (hz : In128 z) (h : 0 < d) : In128 (z / d) := by
  simp only [In128] at *
  constructor
  · rw [Int.le_ediv_iff_mul_le h]
    have := Int.mul_le_mul_of_nonneg_left (show (1 : Int) ≤ d by omega) (show (0 : Int) ≤ 170141183460469231731687303715884105728 by omega)
    omega
  · rw [Int.ediv_lt_iff_lt_mul h]
    have := Int.mul_le_mul_of_nonneg_left (show (1 : Int) ≤ d by omega) (show (0 : Int) ≤ 170141183460469231731687303715884105728 by omega)
    omega
theorem spec_MulDivFloor_val {a b d : Int} (ha : In64 a) (hb : In64 b) (h : 0 < d) (hd : d ≤ 9223372036854775807) :
    spec_MulDivFloor a b d = if -9223372036854775808 ≤ a * b / d ∧ a * b / d ≤ 9223372036854775807 then (a * b / d, true) else (0, false) := by
  have hn : decide (d ≤ 0) = false := decide_eq_false (by omega)
  have hq := quot_range (in128_mul ha hb) h
  simp only [spec_MulDivFloor, hn, cond_false, l02Mul_eq ha hb, l02Div_eq (in128_mul ha hb) h hd]
  have hi := WideInt_W hq.1 hq.2
  rw [hi]
end Go.G880
/- Plain lemmas: roots; what the walk of quotients asks for. -/
set_option linter.unusedVariables false
set_option linter.unusedSimpArgs false
namespace Go.G880
open Go Go.RX
theorem pd_divided {hi lo d : Int} (hpre : decide (0 ≤ hi ∧ hi < 18446744073709551616 ∧ 0 ≤ lo ∧ lo < 18446744073709551616 ∧ 0 < d ∧ d < 18446744073709551616) = true) :
    decide (0 ≤ Int.tmod hi d ∧ Int.tmod hi d < d ∧ d < 18446744073709551616 ∧ 0 ≤ lo ∧ lo < 18446744073709551616) = true := by
  simp only [decide_eq_true_eq] at *
  have m1 := Int.emod_nonneg hi (show d ≠ 0 by omega)
  have m2 := Int.emod_lt_of_pos hi (show 0 < d by omega)
  rw [tmod_nn d hpre.1]
  omega
theorem pd_wd1 {w : Wd} {d : Int} (hpre : decide (0 ≤ w.lo ∧ w.lo < 18446744073709551616 ∧ d ≤ 9223372036854775807) = true) (h0 : decide (d ≤ 0) = false) :
    decide (0 ≤ u64 w.hi ∧ u64 w.hi < 18446744073709551616 ∧ 0 ≤ w.lo ∧ w.lo < 18446744073709551616 ∧ 0 < u64 d ∧ u64 d < 18446744073709551616) = true := by
  simp only [decide_eq_true_eq, decide_eq_false_iff_not] at *
  have := u64_rng w.hi
  rw [u64_id (n := d) (by omega) (by omega)]
  omega
theorem neg_lo (w : Wd) : 0 ≤ (impl_Wide_negative w).lo ∧ (impl_Wide_negative w).lo < 18446744073709551616 := by
  simp only [impl_Wide_negative, bits_Sub64]
  omega
theorem pd_wd2 {w : Wd} {d : Int} (hpre : decide (0 ≤ w.lo ∧ w.lo < 18446744073709551616 ∧ d ≤ 9223372036854775807) = true) (h0 : decide (d ≤ 0) = false) :
    decide (0 ≤ u64 (impl_Wide_negative w).hi ∧ u64 (impl_Wide_negative w).hi < 18446744073709551616 ∧ 0 ≤ (impl_Wide_negative w).lo ∧ (impl_Wide_negative w).lo < 18446744073709551616 ∧ 0 < u64 d ∧ u64 d < 18446744073709551616) = true := by
  simp only [decide_eq_true_eq, decide_eq_false_iff_not] at *
  have := u64_rng (impl_Wide_negative w).hi
  have := neg_lo w
  rw [u64_id (n := d) (by omega) (by omega)]
  omega
theorem WideMul_lo (a b : Int) : 0 ≤ (impl_WideMul a b).lo ∧ (impl_WideMul a b).lo < 18446744073709551616 := by
  simp only [impl_WideMul]
  cases decide (a < 0) <;> cases decide (b < 0) <;> exact u64_rng _
theorem pd_mul {a b d : Int} (hpre : decide (d ≤ 9223372036854775807) = true) : decide (0 ≤ (impl_WideMul a b).lo ∧ (impl_WideMul a b).lo < 18446744073709551616 ∧ d ≤ 9223372036854775807) = true := by
  simp only [decide_eq_true_eq] at *
  exact ⟨(WideMul_lo a b).1, (WideMul_lo a b).2, hpre⟩
end Go.G880
/- Plain lemmas: lengths of vectors. -/
set_option linter.unusedVariables false
set_option linter.unusedSimpArgs false
/- Plain lemmas: angles of points, eccentricities. -/
set_option linter.unusedVariables false
set_option linter.unusedSimpArgs false
namespace Go.G880
open Go Go.RX
theorem NegI_eq (a : Iv) : impl_NegI a = spec_NegI a := by
  cases h : spec_l04Ok a
  · rw [NegI_whole h]
    simp only [spec_NegI, h, Bool.not_false, cond_true]
  · have hh := (ok_iff a).1 h
    rw [NegI_ok h]
    simp only [spec_NegI, h, Bool.not_true, cond_false]
    rw [w64_id (by omega) (by omega), w64_id (by omega) (by omega), make_ok (by omega)]
    simp
theorem pi_pos : In64 7244019458077122842 ∧ In64 7244019458077122843 := by simp only [In64]; omega
theorem RadiansA_eq (n : Int) : impl_RadiansOf.A n = spec_RadiansOf.A n := by
  simp only [impl_RadiansOf.A, spec_RadiansOf.A, whole_eq, spec_Whole, within_eq]
  cases h : spec_l00In n (-36000000000) 36000000000
  · simp only [Bool.not_false, cond_true]
  · have hh := (l00In_iff _ _ _).1 h
    have hn : In64 n := by simp only [In64]; omega
    simp only [Bool.not_true, cond_false, MulDivFloor_eq hn pi_pos.1 (show (966367641600000000 : Int) ≤ 9223372036854775807 by omega), MulDivFloor_eq hn pi_pos.2 (show (966367641600000000 : Int) ≤ 9223372036854775807 by omega)]
theorem RadiansOf_eq (n : Int) : impl_RadiansOf n = spec_RadiansOf n := by
  simp only [impl_RadiansOf, spec_RadiansOf, RadiansA_eq, NegI_eq, whole_eq, spec_Whole, within_eq]
  cases h : spec_l00In n (-36000000000) 36000000000
  · simp only [Bool.not_false, cond_true]
  · have hh := (l00In_iff _ _ _).1 h
    have hn : In64 n := by simp only [In64]; omega
    simp only [Bool.not_true, cond_false, MulDivFloor_eq hn pi_pos.1 (show (966367641600000000 : Int) ≤ 9223372036854775807 by omega), MulDivFloor_eq hn pi_pos.2 (show (966367641600000000 : Int) ≤ 9223372036854775807 by omega)]
    by_cases h0 : n = 0
    · subst h0
      rfl
    · have e : (n == 0) = false := by simp [h0]
      rw [e]
      simp only [cond_false]
theorem LatOf_eq (p : Pt) : impl_LatOf p = spec_LatOf p := by simp only [impl_LatOf, spec_LatOf, ValidPoint_eq, RadiansOf_eq, whole_eq, spec_Whole]
theorem LonOf_eq (p : Pt) : impl_LonOf p = spec_LonOf p := by simp only [impl_LonOf, spec_LonOf, ValidPoint_eq, RadiansOf_eq, whole_eq, spec_Whole]
theorem AtPoint_eq (lat lon : Iv) (p : Pt) : impl_AtPoint lat lon p = spec_AtPoint lat lon p := by
  simp only [impl_AtPoint, spec_AtPoint, ValidPoint_eq, OverlapI_eq, LatOf_eq, RadiansOf_eq]
  cases h : spec_l11Ok p
  · simp only [Bool.not_false, cond_true]
  · simp only [Bool.not_true, cond_false, isPole_eq h]
    cases h2 : spec_OverlapI lat (spec_LatOf p)
    · simp only [Bool.not_false, cond_true]
    · simp only [Bool.not_true, cond_false]
      cases h3 : spec_l11Pole p
      · simp only [cond_false]
      · simp only [cond_true]
end Go.G880
/- Plain lemmas: angles in units, the middle of a place. -/
set_option linter.unusedVariables false
set_option linter.unusedSimpArgs false
namespace Go.G880
open Go Go.RX
theorem unit_range {a d : Int} (h : -1152921504606846976 < a ∧ a < 1152921504606846976) (hd : d = 7244019458077122842 ∨ d = 7244019458077122843) :
    -288230376151711744 ≤ a * 966367641600000000 / d ∧ a * 966367641600000000 / d ≤ 288230376151711744 := by
  constructor
  · rw [Int.le_ediv_iff_mul_le (by omega)]
    rcases hd with rfl | rfl <;> omega
  · apply Int.le_of_lt_add_one
    rw [Int.ediv_lt_iff_lt_mul (by omega)]
    rcases hd with rfl | rfl <;> omega
theorem mulDivCeil_val {a b d : Int} (ha : In64 a) (hb : In64 b) (h : 0 < d) (hd : d ≤ 9223372036854775807) (hq : -9223372036854775808 ≤ a * b / d ∧ a * b / d < 9223372036854775807) :
    impl_mulDivCeil a b d = (-((-(a * b)) / d), true) := by
  have hz := in128_mul ha hb
  have hi := WideInt_W (quot_range hz h).1 (quot_range hz h).2
  have hn := neg_div (z := -(a * b)) h
  rw [Int.neg_neg] at hn
  have m1 := Int.emod_nonneg (a * b) (show d ≠ 0 by omega)
  simp only [impl_mulDivCeil, WideMul_eq ha hb, WideDiv_eq hz h hd, Bool.not_true, cond_false, WideInt_eq, hi]
  rw [if_pos (by omega)]
  simp only [Bool.not_true, cond_false]
  by_cases hr : a * b % d = 0
  · rw [if_pos hr] at hn
    have e : decide (a * b % d > 0) = false := decide_eq_false (by omega)
    rw [e, cond_false, cond_false, hn.1, Int.neg_neg]
  · rw [if_neg hr] at hn
    have e : decide (a * b % d > 0) = true := decide_eq_true (by omega)
    have e2 : (a * b / d == 9223372036854775807) = false := by simp; omega
    rw [e, cond_true, e2, cond_false, cond_true, w64_id (by omega) (by omega), hn.1]
    congr 1
    omega
theorem floor_val {a d : Int} (h : -1152921504606846976 < a ∧ a < 1152921504606846976) (hd : d = 7244019458077122842 ∨ d = 7244019458077122843) :
    spec_MulDivFloor a 966367641600000000 d = (a * 966367641600000000 / d, true) := by
  have hr := unit_range h hd
  rw [spec_MulDivFloor_val (by simp only [In64]; omega) (by simp only [In64]; omega) (by omega) (by omega), if_pos (by omega)]
theorem UnitsOf_eq (x : Iv) : impl_UnitsOf x = spec_UnitsOf x := by
  simp only [impl_UnitsOf, spec_UnitsOf, isWhole_eq, spec_IsWhole]
  cases h : spec_l04Ok x
  · simp only [Bool.not_false, cond_true]
  have hh := (ok_iff x).1 h
  simp only [Bool.not_true, cond_false]
  have h64 : ∀ {a : Int}, -1152921504606846976 < a ∧ a < 1152921504606846976 → In64 a := fun hx => by simp only [In64]; omega
  have s64 : In64 966367641600000000 := by simp only [In64]; omega
  have wn : w64 (0 - x.hi) = -x.hi := by rw [w64_id (by omega) (by omega)]; omega
  have lo1 : ∀ d, d = 7244019458077122842 ∨ d = 7244019458077122843 → impl_MulDivFloor x.lo 966367641600000000 d = (x.lo * 966367641600000000 / d, true) := fun d hd => by
    rw [MulDivFloor_eq (h64 (by omega)) s64 (by omega), floor_val (by omega) hd]
  have hi1 : ∀ d, d = 7244019458077122842 ∨ d = 7244019458077122843 → impl_mulDivCeil x.hi 966367641600000000 d = (-((-x.hi) * 966367641600000000 / d), true) := fun d hd => by
    have hr := unit_range (a := x.hi) (by omega) hd
    rw [mulDivCeil_val (h64 (by omega)) s64 (by omega) (by omega) (by omega), Int.neg_mul]
  have u1 : spec_l05Units x.lo = bif decide (x.lo > 0) then x.lo * 966367641600000000 / 7244019458077122843 else x.lo * 966367641600000000 / 7244019458077122842 := by
    simp only [spec_l05Units, floor_val (a := x.lo) (by omega) (Or.inl rfl), floor_val (a := x.lo) (by omega) (Or.inr rfl)]
  have u2 : spec_l05Units (-x.hi) = bif decide (x.hi < 0) then (-x.hi) * 966367641600000000 / 7244019458077122843 else (-x.hi) * 966367641600000000 / 7244019458077122842 := by
    have e : decide (-x.hi > 0) = decide (x.hi < 0) := by apply Bool.eq_iff_iff.2; simp only [decide_eq_true_eq]; omega
    simp only [spec_l05Units, floor_val (a := -x.hi) (by omega) (Or.inl rfl), floor_val (a := -x.hi) (by omega) (Or.inr rfl), e]
  have wq : ∀ d, d = 7244019458077122842 ∨ d = 7244019458077122843 → w64 (0 - (-x.hi) * 966367641600000000 / d) = -((-x.hi) * 966367641600000000 / d) := fun d hd => by
    have hr := unit_range (a := -x.hi) (by omega) hd
    rw [w64_id (by omega) (by omega)]
    omega
  simp only [wn, u1, u2, lo1 _ (Or.inl rfl), lo1 _ (Or.inr rfl), hi1 _ (Or.inl rfl), hi1 _ (Or.inr rfl)]
  cases decide (x.lo > 0) <;> cases decide (x.hi < 0) <;> simp only [cond_true, cond_false, Bool.not_true, wq _ (Or.inl rfl), wq _ (Or.inr rfl)]
theorem half_floor {z : Int} (h : In64 z) : spec_l06Floor z 2 = Int.fdiv z 2 := by
  simp only [In64] at h
  have e := Int.tmod_add_mul_tdiv z 2
  have hb := tmod_bounds z 2 (by omega)
  have hf : Int.fdiv z 2 = z / 2 := fdiv_pos z (by omega)
  have hs : z < 0 → Int.tmod z 2 ≤ 0 := fun hz => by
    have := Int.tmod_nonneg (a := -z) 2 (by omega)
    rw [Int.neg_tmod] at this
    omega
  have hs2 : 0 ≤ z → 0 ≤ Int.tmod z 2 := fun hz => Int.tmod_nonneg 2 hz
  have hq : -9223372036854775808 ≤ Int.tdiv z 2 ∧ Int.tdiv z 2 ≤ 9223372036854775807 := by omega
  rw [hf]
  simp only [spec_l06Floor, w64_id hq.1 hq.2]
  by_cases hc : Int.tmod z 2 < 0
  · rw [decide_eq_true hc, cond_true, w64_id (by omega) (by omega)]
    omega
  · rw [decide_eq_false hc, cond_false]
    omega
theorem MiddlePoint_eq (lat lon : Iv) : impl_MiddlePoint lat lon = spec_MiddlePoint lat lon := by
  simp only [impl_MiddlePoint, spec_MiddlePoint, UnitsOf_eq, half_floor (in64_w64 _), WrapLon_eq, ValidPoint_eq, mx_eq]
end Go.G880
