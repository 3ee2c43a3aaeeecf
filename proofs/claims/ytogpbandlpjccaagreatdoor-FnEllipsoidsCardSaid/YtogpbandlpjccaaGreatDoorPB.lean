/- Plain lemmas: quotients of fixes, fractions. -/
import Derived.Test.YtogpbandlpjccaaGreatDoorPA
set_option linter.unusedVariables false
set_option linter.unusedSimpArgs false
namespace Go.G880
open Go Go.RX
def In128 (z : Int) : Prop := -170141183460469231731687303715884105728 ≤ z ∧ z < 170141183460469231731687303715884105728
theorem W_hi {z : Int} (h : In128 z) : (W z).hi = z / 18446744073709551616 := by
 simp only [In128] at h
 simp only [W]
 exact w64_id (by omega) (by omega)
theorem W_halves {z : Int} (h0 : 0 ≤ z) (h1 : z ≤ 170141183460469231731687303715884105728) : u64 (W z).hi = z / 18446744073709551616 ∧ (W z).lo = z % 18446744073709551616 := by
 constructor
 ·simp only [W, u64_w64]
  exact u64_id (by omega) (by omega)
 ·simp only [W, u64_def]
theorem halves (z : Int) : z / 18446744073709551616 * 18446744073709551616 + z % 18446744073709551616 = z := by omega
theorem parts {z d : Int} (h0 : 0 ≤ z) (h1 : z ≤ 170141183460469231731687303715884105728) (h2 : 0 < d) (h3 : d ≤ 9223372036854775807) :
  impl_divided (u64 (W z).hi) (W z).lo (u64 d) = spec_l02Divide (u64 (W z).hi) (W z).lo (u64 d) ∧ ∃ q1 q0, spec_l02Divide (u64 (W z).hi) (W z).lo (u64 d) = (q1, q0, z % d) ∧ q1 * 18446744073709551616 + q0 = z / d ∧ 0 ≤ q0 ∧ q0 < 18446744073709551616 ∧ 0 ≤ q1 := by
 obtain ⟨e1, e2⟩ := W_halves h0 h1
 have e3 : u64 d = d := u64_id (by omega) (by omega)
 have m1 := Int.emod_nonneg (z / 18446744073709551616) (show d ≠ 0 by omega)
 have m2 := Int.emod_lt_of_pos (z / 18446744073709551616) h2
 rw [e1, e2, e3, divided_eq (by omega) (by omega) (by omega) (by omega) h2 (by omega), Divide_eq (by omega) (by omega) (by omega) (by omega) h2 (by omega)]
 refine ⟨rfl, _, _, Prod.ext rfl (Prod.ext rfl ?_), ?_, ?_, ?_, ?_⟩
 ·have := (two_digit (z / 18446744073709551616) (z % 18446744073709551616) h2).2
  rw [halves] at this
  exact this.symm
 ·have := (two_digit (z / 18446744073709551616) (z % 18446744073709551616) h2).1
  rw [halves] at this
  exact this.symm
 ·exact Int.ediv_nonneg (by omega) (by omega)
 ·rw [Int.ediv_lt_iff_lt_mul h2]
  have : (z / 18446744073709551616 % d + 1) * 18446744073709551616 ≤ d * 18446744073709551616 := Int.mul_le_mul_of_nonneg_right (by omega) (by omega)
  omega
 ·exact Int.ediv_nonneg (by omega) (by omega)
theorem neg_div {z d : Int} (h2 : 0 < d) : (if (-z) % d = 0 then z / d = -((-z) / d) ∧ z % d = 0 else z / d = -((-z) / d) - 1 ∧ z % d = d - (-z) % d) := by
 have hm := Int.emod_add_mul_ediv (-z) d
 have m1 := Int.emod_nonneg (-z) (show d ≠ 0 by omega)
 have m2 := Int.emod_lt_of_pos (-z) h2
 generalize (-z) / d = q at *
 generalize (-z) % d = r at *
 split
 ·rename_i hr
  have e : z = 0 + (-q) * d := by rw [Int.neg_mul, Int.mul_comm]; omega
  rw [e]
  constructor
  ·rw [Int.add_mul_ediv_right _ _ (by omega)]; simp
  ·rw [Int.add_mul_emod_self_right]; simp
 ·rename_i hr
  have e : z = (d - r) + (-q - 1) * d := by rw [Int.sub_mul, Int.neg_mul, Int.mul_comm]; omega
  rw [e]
  constructor
  ·rw [Int.add_mul_ediv_right _ _ (by omega), Int.ediv_eq_zero_of_lt (by omega) (by omega)]; omega
  ·rw [Int.add_mul_emod_self_right, Int.emod_eq_of_lt (by omega) (by omega)]
theorem l02Div_eq {z d : Int} (hz : In128 z) (h2 : 0 < d) (h3 : d ≤ 9223372036854775807) : spec_l02Div (W z) d = (W (z / d), z % d) := by
 have hh := W_hi hz
 simp only [In128] at hz
 by_cases hs : 0 ≤ z
 ·obtain ⟨-, q1, q0, e1, e2, e3, e4, e5⟩ := parts hs (by omega) h2 h3
  have hc : decide ((W z).hi ≥ 0) = true := decide_eq_true (by rw [hh]; omega)
  have m1 := Int.emod_nonneg z (show d ≠ 0 by omega)
  have m2 := Int.emod_lt_of_pos z h2
  simp only [spec_l02Div, hc, cond_true, e1]
  rw [mk_W e3 e4, e2, w64_id (by omega) (by omega)]
 ·obtain ⟨-, q1, q0, e1, e2, e3, e4, e5⟩ := parts (z := -z) (by omega) (by omega) h2 h3
  have hc : decide ((W z).hi ≥ 0) = false := decide_eq_false (by rw [hh]; omega)
  have m1 := Int.emod_nonneg (-z) (show d ≠ 0 by omega)
  have m2 := Int.emod_lt_of_pos (-z) h2
  have hn := neg_div (z := z) h2
  have hm1 : spec_l02Of (-1) = W (-1) := (WideOf_eq (by simp only [In64]; omega)).2
  simp only [spec_l02Div, hc, cond_false, minus_W, e1]
  rw [mk_W e3 e4, e2, minus_W]
  by_cases hr : (-z) % d = 0
  ·rw [if_pos hr] at hn
   rw [hr, hn.1, hn.2]
   rfl
  ·rw [if_neg hr] at hn
   have hb : ((-z) % d == 0) = false := by simp [hr]
   rw [hb, cond_false, hm1, plus_W, hn.1, hn.2, w64_id (n := (-z) % d) (by omega) (by omega), w64_id (by omega) (by omega)]
   rfl
theorem WideDiv_eq {z d : Int} (hz : In128 z) (h2 : 0 < d) (h3 : d ≤ 9223372036854775807) : impl_WideDiv (W z) d = (W (z / d), z % d, true) := by
 have hh := W_hi hz
 simp only [In128] at hz
 have hd : decide (d ≤ 0) = false := decide_eq_false (by omega)
 by_cases hs : 0 ≤ z
 ·obtain ⟨e0, q1, q0, e1, e2, e3, e4, e5⟩ := parts hs (by omega) h2 h3
  have hc : decide ((W z).hi ≥ 0) = true := decide_eq_true (by rw [hh]; omega)
  have m1 := Int.emod_nonneg z (show d ≠ 0 by omega)
  have m2 := Int.emod_lt_of_pos z h2
  simp only [impl_WideDiv, hd, hc, cond_true, cond_false, e0, e1]
  rw [mk_W e3 e4, e2, w64_id (by omega) (by omega)]
 ·obtain ⟨e0, q1, q0, e1, e2, e3, e4, e5⟩ := parts (z := -z) (by omega) (by omega) h2 h3
  have hc : decide ((W z).hi ≥ 0) = false := decide_eq_false (by rw [hh]; omega)
  have m1 := Int.emod_nonneg (-z) (show d ≠ 0 by omega)
  have m2 := Int.emod_lt_of_pos (-z) h2
  have hn := neg_div (z := z) h2
  simp only [impl_WideDiv, hd, hc, cond_false, neg_W, e0, e1]
  by_cases hr : (-z) % d = 0
  ·rw [if_pos hr] at hn
   rw [hr, hn.1, hn.2, mk_W e3 e4, e2, neg_W]
   rfl
  ·rw [if_neg hr] at hn
   have hb : ((-z) % d == 0) = false := by simp [hr]
   have ha : bits_Add64 q0 1 0 = ((q0 + 1) % 18446744073709551616, (q0 + 1) / 18446744073709551616) := by
    simp only [bits_Add64, Prod.mk.injEq]
    omega
   have hw : w64 (u64 (q1 + (q0 + 1) / 18446744073709551616)) = w64 (q1 + (q0 + 1) / 18446744073709551616) := w64_u64 _
   rw [hb, cond_false, ha]
   simp only [hw]
   rw [mk_W (by omega) (by omega), neg_W, hn.1, hn.2, w64_id (n := (-z) % d) (by omega) (by omega), w64_id (by omega) (by omega)]
   have e : -((q1 + (q0 + 1) / 18446744073709551616) * 18446744073709551616 + (q0 + 1) % 18446744073709551616) = -(-z / d) - 1 := by omega
   rw [e]
end Go.G880
/- Plain lemmas: rounded quotients, fractions, quotients of intervals. -/
set_option linter.unusedVariables false
set_option linter.unusedSimpArgs false
namespace Go.G880
open Go Go.RX
theorem in128_mul {a b : Int} (ha : In64 a) (hb : In64 b) : In128 (a * b) := prod_range ha hb
theorem WideDiv_no (w : Wd) {d : Int} (h : d ≤ 0) : impl_WideDiv w d = (⟨0, 0⟩, 0, false) := by
 simp only [impl_WideDiv, decide_eq_true h, cond_true]
theorem MulDivFloor_eq {a b d : Int} (ha : In64 a) (hb : In64 b) (hd : d ≤ 9223372036854775807) : impl_MulDivFloor a b d = spec_MulDivFloor a b d := by
 by_cases h : d ≤ 0
 ·simp only [impl_MulDivFloor, spec_MulDivFloor, WideDiv_no _ h, decide_eq_true h, cond_true, Bool.not_false]
 ·have hn := decide_eq_false h
  simp only [impl_MulDivFloor, spec_MulDivFloor, WideMul_eq ha hb, l02Mul_eq ha hb, WideDiv_eq (in128_mul ha hb) (show 0 < d by omega) hd, l02Div_eq (in128_mul ha hb) (show 0 < d by omega) hd, hn, Bool.not_true, cond_false, WideInt_eq]
theorem in64_unit : In64 4294967296 := by simp only [In64]; omega
theorem FixFloor_eq {a d : Int} (ha : In64 a) (hd : d ≤ 9223372036854775807) : impl_FixFloor a d = spec_l03Floor a d := by
 simp only [impl_FixFloor, spec_l03Floor, MulDivFloor_eq ha in64_unit hd, fixed_eq]
 by_cases h : d ≤ 0
 ·rw [decide_eq_true h, cond_true]
  simp only [spec_MulDivFloor, decide_eq_true h, cond_true]
  rfl
 ·rw [decide_eq_false h, cond_false]
theorem quot_range {z d : Int} (hz : In128 z) (h : 0 < d) : In128 (z / d) := by
 simp only [In128] at *
 constructor
 ·rw [Int.le_ediv_iff_mul_le h]
  have := Int.mul_le_mul_of_nonneg_left (show (1 : Int) ≤ d by omega) (show (0 : Int) ≤ 170141183460469231731687303715884105728 by omega)
  omega
 ·rw [Int.ediv_lt_iff_lt_mul h]
  have := Int.mul_le_mul_of_nonneg_left (show (1 : Int) ≤ d by omega) (show (0 : Int) ≤ 170141183460469231731687303715884105728 by omega)
  omega
theorem spec_MulDivFloor_val {a b d : Int} (ha : In64 a) (hb : In64 b) (h : 0 < d) (hd : d ≤ 9223372036854775807) :
  spec_MulDivFloor a b d = if -9223372036854775808 ≤ a * b / d ∧ a * b / d ≤ 9223372036854775807 then (a * b / d, true) else (0, false) := by
 have hn : decide (d ≤ 0) = false := decide_eq_false (by omega)
 have hq := quot_range (in128_mul ha hb) h
 simp only [spec_MulDivFloor, hn, cond_false, l02Mul_eq ha hb, l02Div_eq (in128_mul ha hb) h hd]
 have hi := WideInt_W hq.1 hq.2
 rw [hi]
theorem FixCeil_eq {a d : Int} (ha : In64 a) (hd : d ≤ 9223372036854775807) : impl_FixCeil a d = spec_l03Ceil a d := by
 by_cases h : d ≤ 0
 ·simp only [impl_FixCeil, impl_mulDivCeil, WideDiv_no _ h, spec_l03Ceil, decide_eq_true h, cond_true, Bool.not_false]
  rfl
 ·have h0 : 0 < d := by omega
  have hn := decide_eq_false h
  have hz := in128_mul ha in64_unit
  have hq := quot_range hz h0
  have hi := WideInt_W hq.1 hq.2
  simp only [impl_FixCeil, impl_mulDivCeil, spec_l03Ceil, hn, cond_false, WideMul_eq ha in64_unit, WideDiv_eq hz h0 hd, Bool.not_true, WideInt_eq, hi, spec_MulDivFloor_val ha in64_unit h0 hd, fixed_eq]
  have hm := Int.emod_add_mul_ediv (a * 4294967296) d
  have m1 := Int.emod_nonneg (a * 4294967296) (show d ≠ 0 by omega)
  have m2 := Int.emod_lt_of_pos (a * 4294967296) h0
  rw [Int.mul_comm d] at hm
  generalize a * 4294967296 / d = q at *
  generalize a * 4294967296 % d = r at *
  by_cases hr : -9223372036854775808 ≤ q ∧ q ≤ 9223372036854775807
  ·rw [if_pos hr]
   simp only [Bool.not_true, cond_false]
   have hne : (w64 (q * d) != w64 (a * 4294967296)) = decide (r > 0) := by
    rw [← hm]
    apply Bool.eq_iff_iff.2
    simp only [bne_iff_ne, ne_eq, decide_eq_true_eq, w64_def]
    generalize q * d = p at *
    omega
   rw [hne]
   by_cases hp : r > 0
   ·rw [decide_eq_true hp, cond_true, cond_true]
    by_cases he : q = 9223372036854775807
    ·subst he
     rfl
    ·have : (q == 9223372036854775807) = false := by simp [he]
     rw [this, cond_false, cond_true]
   ·rw [decide_eq_false hp, cond_false, cond_false, cond_false]
  ·rw [if_neg hr]
   rfl
theorem Quotient_eq {a d : Int} (ha : In64 a) (hd : In64 d) : impl_Quotient a d = spec_Quotient a d := by
 have hb : ∀ (lo hi : Int) (x y : Bool), (bif x then impl_bounded lo hi y else impl_bounded lo hi false) = (bif !x then spec_l04Whole else (bif !y then spec_l04Whole else spec_l04Make lo hi)) := by
  intro lo hi x y
  cases x <;> cases y <;> first | rfl | exact bounded_true lo hi
 have hd' := hd
 have ha' := ha
 simp only [In64] at hd' ha'
 by_cases h : d < 0
 ·simp only [impl_Quotient, spec_Quotient, decide_eq_true h, cond_true, hb, whole_eq]
  by_cases h1 : d = -9223372036854775808
  ·subst h1
   have e : decide (w64 (0 - -9223372036854775808) < 0) = true := by decide
   rw [e, cond_true]
   cases a == -9223372036854775808 <;> rfl
  ·have e1 : w64 (0 - d) = -d := by rw [w64_id (by omega) (by omega)]; omega
   have e2 : decide (w64 (0 - d) < 0) = false := decide_eq_false (by rw [e1]; omega)
   have e3 : (d == -9223372036854775808) = false := by simp [h1]
   rw [e2, cond_false, e3, cond_false]
   by_cases h2 : a = -9223372036854775808
   ·subst h2
    rfl
   ·have e4 : w64 (0 - a) = -a := by rw [w64_id (by omega) (by omega)]; omega
    have e5 : (w64 (0 - a) == -9223372036854775808) = false := by rw [e4]; simp; omega
    have e6 : (a == -9223372036854775808) = false := by simp [h2]
    have ha2 : In64 (-a) := by simp only [In64]; omega
    rw [e5, cond_false, e6, cond_false, e4, e1, FixFloor_eq ha2 (by omega), FixCeil_eq ha2 (by omega)]
 ·simp only [impl_Quotient, spec_Quotient, decide_eq_false h, cond_false, hb, FixFloor_eq ha hd'.2, FixCeil_eq ha hd'.2]
theorem DivDown_eq (a b : Int) : impl_DivDown a b = spec_l03DivDown a b := by
 simp only [impl_DivDown, spec_l03DivDown, fixOk]
 cases ha : spec_l03Ok a
 ·simp only [Bool.not_false, cond_true]
 cases hb : spec_l03Ok b
 ·simp only [Bool.not_true, Bool.not_false, cond_true, cond_false]
 simp only [Bool.not_true, cond_false]
 have hbb := (l03Ok_iff b).1 hb
 have haa := (l03Ok_iff a).1 ha
 by_cases h : b < 0
 ·have e : (b == 0) = false := by simp; omega
  have hna := neg_fix ha
  have hnb := neg_fix hb
  simp only [decide_eq_true h, e, cond_true, cond_false, hna.1, hnb.1, MulDivFloor_eq (in64_fix hna.2) in64_unit (show -b ≤ 9223372036854775807 by omega), fixed_eq]
 ·simp only [decide_eq_false h, cond_false, MulDivFloor_eq (in64_fix ha) in64_unit (show b ≤ 9223372036854775807 by omega), fixed_eq]
  by_cases h0 : b = 0
  ·subst h0
   have e : spec_MulDivFloor a 4294967296 0 = (0, false) := rfl
   rw [e]
   rfl
  ·have e : (b == 0) = false := by simp [h0]
   rw [e, cond_false]
theorem DivDown_ok {a b : Int} : (spec_l03DivDown a b).2 = true → spec_l03Ok (spec_l03DivDown a b).1 = true := by
 simp only [spec_l03DivDown]
 cases spec_l03Ok a
 ·simp
 cases spec_l03Ok b
 ·simp
 cases b == 0
 ·cases decide (b < 0)
  ·exact end_ok
  ·exact end_ok
 ·simp
theorem DivUp_eq (a b : Int) : impl_DivUp a b = spec_l03DivUp a b := by
 simp only [impl_DivUp, spec_l03DivUp, fixOk, DivDown_eq]
 cases ha : spec_l03Ok a
 ·simp only [Bool.not_false, cond_true]
 cases hb : spec_l03Ok b
 ·have : spec_l03DivDown (w64 (0 - a)) b = (0, false) := by
   simp only [spec_l03DivDown, hb]
   cases spec_l03Ok (w64 (0 - a)) <;> rfl
  simp only [this]
  rfl
 ·rfl
theorem DivUp_ok {a b : Int} : (spec_l03DivUp a b).2 = true → spec_l03Ok (spec_l03DivUp a b).1 = true := by
 simp only [spec_l03DivUp]
 cases spec_l03Ok a
 ·simp
 ·simp only [Bool.not_true, cond_false]
  intro h
  have := neg_fix (DivDown_ok h)
  rw [this.1]
  exact this.2
theorem HasI_eq (a : Iv) (n : Int) : impl_HasI a n = spec_HasI a n := by
 simp only [impl_HasI, spec_HasI, isWhole_eq, spec_l04Has, within_eq]
theorem DivI_eq (a b : Iv) : impl_DivI a b = spec_DivI a b := by
 simp only [impl_DivI, spec_DivI, areBounded_eq, whole_eq, bounded_true, DivDown_eq, DivUp_eq, mn_eq, mx_eq, HasI_eq, spec_HasI]
 cases spec_l04Ok a
 ·rfl
 cases spec_l04Ok b
 ·rfl
 simp only [Bool.and_self, Bool.not_true, cond_false]
 cases spec_l04Has b 0
 ·simp only [cond_false]
  cases h1 : (spec_l03DivDown a.lo b.lo).2
  ·rfl
  cases h2 : (spec_l03DivUp a.lo b.lo).2
  ·rfl
  simp only [min_first (DivDown_ok h1), max_first (DivUp_ok h2)]
 ·rfl
theorem l12_den {e : El} (h : spec_l12Ok e = true) : (1000 ≤ e.a ∧ e.a ≤ 100000000000) ∧ (1 ≤ e.den ∧ e.den ≤ 1000000000000) ∧ 0 ≤ e.num ∧ e.num ≤ e.den / 100 := by
 simp only [spec_l12Ok, spec_l00In, Bool.cond_eq_ite, decide_eq_true_eq] at h
 (repeat' split at h) <;> simp at *
 rename_i h1 h2 h3 h4
 rw [tdiv_nn _ (by omega), w64_id (by omega) (by omega)] at h
 omega
theorem q_l12 {e : El} (h : (!(spec_l12Ok e)) = false) : decide (-9223372036854775808 ≤ e.den ∧ e.den ≤ 9223372036854775807) = true := by
 have := l12_den (by simpa using h)
 exact decide_eq_true (by omega)
theorem q_valid {e : El} (h : (!(impl_ValidEllipsoid e)) = false) : decide (-9223372036854775808 ≤ e.den ∧ e.den ≤ 9223372036854775807) = true := by
 rw [ValidEllipsoid_eq] at h
 exact q_l12 h
theorem q_w64 (n : Int) : decide (-9223372036854775808 ≤ w64 n ∧ w64 n ≤ 9223372036854775807) = true := decide_eq_true ⟨w64_ge n, w64_le n⟩
theorem d_valid {e : El} (h : spec_l12Ok e = true) : In64 e.a ∧ In64 e.num ∧ In64 e.den := by
 have := l12_den h
 simp only [In64]
 omega
theorem FlatteningI_eq (e : El) : impl_FlatteningI e = spec_FlatteningI e := by
 simp only [impl_FlatteningI, spec_FlatteningI, ValidEllipsoid_eq, whole_eq]
 cases h : spec_l12Ok e
 ·simp only [Bool.not_false, cond_true]
 ·simp only [Bool.not_true, cond_false, Quotient_eq (d_valid h).2.1 (d_valid h).2.2]
theorem MajorI_eq (e : El) : impl_MajorI e = spec_MajorI e := by
 simp only [impl_MajorI, spec_MajorI, ValidEllipsoid_eq, whole_eq]
 cases h : spec_l12Ok e
 ·simp only [Bool.not_false, cond_true]
 ·simp only [Bool.not_true, cond_false, Quotient_eq (d_valid h).1 (show In64 1000 by simp only [In64]; omega)]
theorem ThirdI_eq (e : El) : impl_ThirdI e = spec_ThirdI e := by
 simp only [impl_ThirdI, spec_ThirdI, ValidEllipsoid_eq, whole_eq]
 cases h : spec_l12Ok e
 ·simp only [Bool.not_false, cond_true]
 ·simp only [Bool.not_true, cond_false, Quotient_eq (d_valid h).2.1 (in64_w64 _)]
end Go.G880
/- Plain lemmas: roots; what the walk of quotients asks for. -/
set_option linter.unusedVariables false
set_option linter.unusedSimpArgs false
namespace Go.G880
open Go Go.RX
theorem pd_divided {hi lo d : Int} (hpre : decide (0 ≤ hi ∧ hi < 18446744073709551616 ∧ 0 ≤ lo ∧ lo < 18446744073709551616 ∧ 0 < d ∧ d < 18446744073709551616) = true) :
  decide (0 ≤ Int.tmod hi d ∧ Int.tmod hi d < d ∧ d < 18446744073709551616 ∧ 0 ≤ lo ∧ lo < 18446744073709551616) = true := by
 simp only [decide_eq_true_eq] at *
 have m1 := Int.emod_nonneg hi (show d ≠ 0 by omega)
 have m2 := Int.emod_lt_of_pos hi (show 0 < d by omega)
 rw [tmod_nn d hpre.1]
 omega
theorem pd_wd1 {w : Wd} {d : Int} (hpre : decide (0 ≤ w.lo ∧ w.lo < 18446744073709551616 ∧ d ≤ 9223372036854775807) = true) (h0 : decide (d ≤ 0) = false) :
  decide (0 ≤ u64 w.hi ∧ u64 w.hi < 18446744073709551616 ∧ 0 ≤ w.lo ∧ w.lo < 18446744073709551616 ∧ 0 < u64 d ∧ u64 d < 18446744073709551616) = true := by
 simp only [decide_eq_true_eq, decide_eq_false_iff_not] at *
 have := u64_rng w.hi
 rw [u64_id (n := d) (by omega) (by omega)]
 omega
theorem neg_lo (w : Wd) : 0 ≤ (impl_Wide_negative w).lo ∧ (impl_Wide_negative w).lo < 18446744073709551616 := by
 simp only [impl_Wide_negative, bits_Sub64]
 omega
theorem pd_wd2 {w : Wd} {d : Int} (hpre : decide (0 ≤ w.lo ∧ w.lo < 18446744073709551616 ∧ d ≤ 9223372036854775807) = true) (h0 : decide (d ≤ 0) = false) :
  decide (0 ≤ u64 (impl_Wide_negative w).hi ∧ u64 (impl_Wide_negative w).hi < 18446744073709551616 ∧ 0 ≤ (impl_Wide_negative w).lo ∧ (impl_Wide_negative w).lo < 18446744073709551616 ∧ 0 < u64 d ∧ u64 d < 18446744073709551616) = true := by
 simp only [decide_eq_true_eq, decide_eq_false_iff_not] at *
 have := u64_rng (impl_Wide_negative w).hi
 have := neg_lo w
 rw [u64_id (n := d) (by omega) (by omega)]
 omega
theorem WideMul_lo (a b : Int) : 0 ≤ (impl_WideMul a b).lo ∧ (impl_WideMul a b).lo < 18446744073709551616 := by
 simp only [impl_WideMul]
 cases decide (a < 0) <;> cases decide (b < 0) <;> exact u64_rng _
theorem pd_mul {a b d : Int} (hpre : decide (d ≤ 9223372036854775807) = true) : decide (0 ≤ (impl_WideMul a b).lo ∧ (impl_WideMul a b).lo < 18446744073709551616 ∧ d ≤ 9223372036854775807) = true := by
 simp only [decide_eq_true_eq] at *
 exact ⟨(WideMul_lo a b).1, (WideMul_lo a b).2, hpre⟩
theorem pd_fix {b : Int} (h : (!(impl_ValidFix b)) = false) : decide (b ≤ 9223372036854775807) = true := by
 have := (l03Ok_iff b).1 (by rw [← fixOk]; simpa using h)
 exact decide_eq_true (by omega)
theorem pd_fix' {b : Int} (h : (!(spec_l03Ok b)) = false) : decide (b ≤ 9223372036854775807) = true := pd_fix (by rw [fixOk]; exact h)
theorem pd_ne {d : Int} (h : (d != 0) = true) : decide (d = 0) = false := by simpa using h
theorem pd_u {d : Int} (hpre : decide (d ≤ 9223372036854775807) = true) (h0 : decide (d ≤ 0) = false) : (u64 d != 0) = true := by
 simp only [decide_eq_true_eq, decide_eq_false_iff_not] at *
 rw [u64_id (by omega) (by omega)]
 simp
 omega
theorem root_go {rnd : Int → Int → Sum (Int × Int) (Int × Int)} {z : Int}
  (hend : ∀ out, rnd out (-1) = Sum.inr (out, -1))
  (hrnd : ∀ (out : Int) (n : Nat), n < 64 → 0 ≤ out → out % 2 ^ (n + 1) = 0 → out + 2 ^ (n + 1) ≤ 18446744073709551616 → rnd out n = if (out + 2 ^ n) * (out + 2 ^ n) ≤ z then Sum.inl (out + 2 ^ n, (n : Int) - 1) else Sum.inl (out, (n : Int) - 1)) :
  ∀ (n : Nat) (out : Int), n ≤ 64 → 0 ≤ out → out % 2 ^ n = 0 → out + 2 ^ n ≤ 18446744073709551616 → out * out ≤ z → z < (out + 2 ^ n) * (out + 2 ^ n) →
   ∃ r, iterV (fun v => rnd v.1 v.2) (n + 1) (out, (n : Int) - 1) = (r, -1) ∧ 0 ≤ r ∧ r < 18446744073709551616 ∧ r * r ≤ z ∧ z < (r + 1) * (r + 1) := by
 intro n
 induction n with
 | zero =>
  intro out _ h0 h1 h2 h3 h4
  simp only [Int.pow_zero] at h2 h4
  refine ⟨out, ?_, h0, by omega, h3, h4⟩
  rw [iterV]
  have : (((0 : Nat) : Int) - 1) = -1 := rfl
  simp only [this, hend]
 | succ n ih =>
  intro out hn h0 h1 h2 h3 h4
  have hi : ((n + 1 : Nat) : Int) - 1 = (n : Int) := by omega
  have hp := pow_pos2 n
  have e2 : (2 : Int) ^ (n + 1) = 2 ^ n + 2 ^ n := by rw [Int.pow_succ]; omega
  have hdv : ∃ m, out = m * 2 ^ (n + 1) := ⟨out / 2 ^ (n + 1), by have := Int.emod_add_mul_ediv out (2 ^ (n + 1)); rw [h1, Int.mul_comm] at this; omega⟩
  obtain ⟨m, hm⟩ := hdv
  have hd1 : out % 2 ^ n = 0 := by
   rw [hm, Int.pow_succ, Int.mul_comm ((2 : Int) ^ n), ← Int.mul_assoc]
   exact Int.mul_emod_left _ _
  have hd2 : (out + 2 ^ n) % 2 ^ n = 0 := by
   rw [Int.add_emod_right]
   exact hd1
  rw [iterV, hi]
  simp only [hrnd out n (by omega) h0 h1 h2]
  by_cases hc : (out + 2 ^ n) * (out + 2 ^ n) ≤ z
  ·rw [if_pos hc]
   refine ih _ (by omega) (by omega) hd2 (by omega) hc ?_
   have : out + 2 ^ n + 2 ^ n = out + 2 ^ (n + 1) := by omega
   rw [this]
   exact h4
  ·rw [if_neg hc]
   exact ih _ (by omega) h0 hd1 (by omega) h3 (by omega)
theorem root_bit {out : Int} {n : Nat} (hn : n < 64) (h0 : 0 ≤ out) (h1 : out % 2 ^ (n + 1) = 0) (h2 : out + 2 ^ (n + 1) ≤ 18446744073709551616) :
  orI .u64 out (u64 (1 * 2 ^ n)) = out + 2 ^ n ∧ 0 ≤ out + 2 ^ n ∧ out + 2 ^ n < 18446744073709551616 := by
 have hp := pow_pos2 n
 have e2 : (2 : Int) ^ (n + 1) = 2 ^ n + 2 ^ n := by rw [Int.pow_succ]; omega
 have e1 : u64 (1 * 2 ^ n) = 2 ^ n := by rw [Int.one_mul]; exact u64_id (by omega) (by omega)
 refine ⟨?_, by omega, by omega⟩
 rw [e1]
 exact orI_add (n + 1) h0 (by omega) h1 (by omega) (by omega) (by omega)
theorem halves_le {x hi lo : Int} (h2 : 0 ≤ lo) (h3 : lo < 18446744073709551616) {α : Type} (a b : α) :
  (bif decide (x / 18446744073709551616 < hi) then a else bif x / 18446744073709551616 == hi then bif decide (x % 18446744073709551616 ≤ lo) then a else b else b) = if x ≤ hi * 18446744073709551616 + lo then a else b := by
 by_cases h : x / 18446744073709551616 < hi
 ·rw [decide_eq_true h, cond_true, if_pos (by omega)]
 ·rw [decide_eq_false h, cond_false]
  by_cases h' : x / 18446744073709551616 = hi
  ·have e : (x / 18446744073709551616 == hi) = true := by simp [h']
   rw [e, cond_true]
   by_cases h'' : x % 18446744073709551616 ≤ lo
   ·rw [decide_eq_true h'', cond_true, if_pos (by omega)]
   ·rw [decide_eq_false h'', cond_false, if_neg (by omega)]
  ·have e : (x / 18446744073709551616 == hi) = false := by simp [h']
   rw [e, cond_false, if_neg (by omega)]
theorem l02Root_ex {hi lo : Int} (h2 : 0 ≤ lo) (h3 : lo < 18446744073709551616) : ∃ r, (spec_l02Root.fin3 hi lo (0, 63)).1 = r ∧ (impl_WideSqrt.fin5 hi lo (0, 63)).1 = r ∧ 0 ≤ r ∧ r < 18446744073709551616 ∧ r * r ≤ u64 hi * 18446744073709551616 + lo ∧ u64 hi * 18446744073709551616 + lo < (r + 1) * (r + 1) := by
 have hh := u64_rng hi
 have p64 : ((2 : Int) ^ 64) = 18446744073709551616 := rfl
 have start : ∀ rnd : Int → Int → Sum (Int × Int) (Int × Int), (∀ out, rnd out (-1) = Sum.inr (out, -1)) →
   (∀ (out : Int) (n : Nat), n < 64 → 0 ≤ out → out % 2 ^ (n + 1) = 0 → out + 2 ^ (n + 1) ≤ 18446744073709551616 → rnd out n = if (out + 2 ^ n) * (out + 2 ^ n) ≤ u64 hi * 18446744073709551616 + lo then Sum.inl (out + 2 ^ n, (n : Int) - 1) else Sum.inl (out, (n : Int) - 1)) →
   ∃ r, iterV (fun v => rnd v.1 v.2) 65 (0, 63) = (r, -1) ∧ 0 ≤ r ∧ r < 18446744073709551616 ∧ r * r ≤ u64 hi * 18446744073709551616 + lo ∧ u64 hi * 18446744073709551616 + lo < (r + 1) * (r + 1) := by
  intro rnd h1 h2
  have := root_go h1 h2 64 0 (by omega) (by omega) (by rw [p64]; rfl) (by rw [p64]; omega) (by omega) (by rw [p64]; omega)
  exact this
 have norm : ∀ (out : Int) (n : Nat), n < 64 → 0 ≤ out → out % 2 ^ (n + 1) = 0 → out + 2 ^ (n + 1) ≤ 18446744073709551616 → min (Int.toNat (n : Int)) 64 = n ∧ u64 (n : Int) = n ∧ w64 ((n : Int) - 1) = (n : Int) - 1 ∧ decide ((n : Int) ≥ 0) = true := by
  intro out n hn _ _ _
  exact ⟨by omega, u64_id (by omega) (by omega), w64_id (by omega) (by omega), decide_eq_true (by omega)⟩
 obtain ⟨r, e1, r1, r2, r3, r4⟩ := start (spec_l02Root.rnd3 hi lo) (fun out => rfl) (by
  intro out n hn h0 h1 h2'
  obtain ⟨n1, n2, n3, n4⟩ := norm out n hn h0 h1 h2'
  obtain ⟨b1, b2, b3⟩ := root_bit hn h0 h1 h2'
  have hm := (mul64_eq b2 b3 b2 b3).2
  simp only [spec_l02Root.rnd3, n4, cond_true, n2, n1, b1, hm, n3]
  exact halves_le h2 h3 _ _)
 obtain ⟨r', e1', r1', r2', r3', r4'⟩ := start (impl_WideSqrt.rnd5 hi lo) (fun out => rfl) (by
  intro out n hn h0 h1 h2'
  obtain ⟨n1, n2, n3, n4⟩ := norm out n hn h0 h1 h2'
  obtain ⟨b1, b2, b3⟩ := root_bit hn h0 h1 h2'
  have hm := (mul64_eq b2 b3 b2 b3).1
  simp only [impl_WideSqrt.rnd5, n4, cond_true, n1, b1, hm, n3]
  exact halves_le h2 h3 _ _)
 have hrr : r' = r := by
  rcases Int.lt_trichotomy r' r with h | h | h
  ·have : (r' + 1) * (r' + 1) ≤ r * r := Int.mul_le_mul (by omega) (by omega) (by omega) (by omega)
   omega
  ·exact h
  ·have : (r + 1) * (r + 1) ≤ r' * r' := Int.mul_le_mul (by omega) (by omega) (by omega) (by omega)
   omega
 subst hrr
 exact ⟨r', by simp only [spec_l02Root.fin3, e1], by simp only [impl_WideSqrt.fin5, e1'], r1, r2, r3, r4⟩
theorem Root_W {z : Int} (h0 : 0 ≤ z) (h1 : z < 170141183460469231731687303715884105728) : impl_WideSqrt (W z) = (spec_l02Root (W z), true) ∧ 0 ≤ spec_l02Root (W z) ∧ spec_l02Root (W z) < 18446744073709551616 ∧ spec_l02Root (W z) * spec_l02Root (W z) ≤ z ∧ z < (spec_l02Root (W z) + 1) * (spec_l02Root (W z) + 1) := by
 have hh := W_hi (z := z) (by simp only [In128]; omega)
 obtain ⟨e1, e2⟩ := W_halves h0 (by omega)
 have hl := u64_rng z
 obtain ⟨r, f1, f2, r1, r2, r3, r4⟩ := l02Root_ex (hi := (W z).hi) (lo := (W z).lo) (by rw [e2]; omega) (by rw [e2]; omega)
 rw [e1, e2, halves] at r3 r4
 have hc : decide ((W z).hi < 0) = false := decide_eq_false (by rw [hh]; omega)
 simp only [impl_WideSqrt, spec_l02Root, hc, cond_false, f1, f2]
 exact ⟨trivial, r1, r2, r3, r4⟩
end Go.G880
/- Plain lemmas: lengths of vectors. -/
set_option linter.unusedVariables false
set_option linter.unusedSimpArgs false
namespace Go.G880
open Go Go.RX
theorem abs_val {x : Int} (h : -1152921504606846976 < x ∧ x < 1152921504606846976) : impl_abs x = (if x < 0 then -x else x) ∧ spec_l00Max x (w64 (0 - x)) = (if x < 0 then -x else x) := by
 have e : w64 (0 - x) = -x := by rw [w64_id (by omega) (by omega)]; omega
 simp only [impl_abs, mx_def, spec_l00Max, e, Bool.cond_eq_ite, decide_eq_true_eq]
 constructor <;> split <;> split <;> omega
theorem AbsI_val {a : Iv} (h : spec_l04Ok a = true) : impl_AbsI a = spec_AbsI a ∧ 0 ≤ (spec_AbsI a).lo ∧ (spec_AbsI a).lo ≤ (spec_AbsI a).hi ∧ (spec_AbsI a).hi < 1152921504606846976 := by
 have hh := (ok_iff a).1 h
 obtain ⟨p1, p2⟩ := abs_val (x := a.lo) (by omega)
 obtain ⟨q1, q2⟩ := abs_val (x := a.hi) (by omega)
 have hi : impl_HasI a 0 = spec_l04Has a 0 := by simp only [HasI_eq, spec_HasI, h, Bool.not_true, cond_false]
 have hhas : spec_l04Has a 0 = decide (a.lo ≤ 0 ∧ 0 ≤ a.hi) := within_not 0 a.lo a.hi
 have he : spec_l04Ends a = (bif decide (a.lo ≤ 0 ∧ 0 ≤ a.hi) then (0, spec_l00Max (if a.lo < 0 then -a.lo else a.lo) (if a.hi < 0 then -a.hi else a.hi)) else (spec_l00Min (if a.lo < 0 then -a.lo else a.lo) (if a.hi < 0 then -a.hi else a.hi), spec_l00Max (if a.lo < 0 then -a.lo else a.lo) (if a.hi < 0 then -a.hi else a.hi))) := by
  simp only [spec_l04Ends, p2, q2, hhas]
 have hm : ∃ n f, spec_l04Ends a = (n, f) ∧ 0 ≤ n ∧ n ≤ f ∧ f < 1152921504606846976 := by
  rw [he]
  by_cases hc : a.lo ≤ 0 ∧ 0 ≤ a.hi
  ·rw [decide_eq_true hc, cond_true]
   refine ⟨_, _, rfl, by omega, ?_, ?_⟩ <;> simp only [spec_l00Max, Bool.cond_eq_ite, decide_eq_true_eq] <;> (repeat' split) <;> omega
  ·rw [decide_eq_false hc, cond_false]
   refine ⟨_, _, rfl, ?_, ?_, ?_⟩ <;> simp only [spec_l00Max, spec_l00Min, Bool.cond_eq_ite, decide_eq_true_eq] <;> (repeat' split) <;> omega
 obtain ⟨n, f, en, n0, n1, n2⟩ := hm
 have hs : spec_AbsI a = ⟨n, f⟩ := by
  simp only [spec_AbsI, h, Bool.not_true, cond_false, en]
  exact make_ok (by omega)
 refine ⟨?_, by rw [hs]; exact n0, by rw [hs]; exact n1, by rw [hs]; exact n2⟩
 rw [hs]
 simp only [impl_AbsI, isWhole_eq, h, Bool.not_true, cond_false, hi, hhas, p1, q1, mx_eq, mn_eq]
 rw [he] at en
 cases hc : decide (a.lo ≤ 0 ∧ 0 ≤ a.hi)
 ·rw [hc, cond_false] at en
  rw [cond_false]
  simp only [Prod.mk.injEq] at en
  rw [en.1, en.2]
 ·rw [hc, cond_true] at en
  rw [cond_true]
  simp only [Prod.mk.injEq] at en
  rw [en.2, ← en.1]
end Go.G880
/- Plain lemmas: angles of points, eccentricities. -/
set_option linter.unusedVariables false
set_option linter.unusedSimpArgs false
namespace Go.G880
open Go Go.RX
theorem NegI_eq (a : Iv) : impl_NegI a = spec_NegI a := by
 cases h : spec_l04Ok a
 ·rw [NegI_whole h]
  simp only [spec_NegI, h, Bool.not_false, cond_true]
 ·have hh := (ok_iff a).1 h
  rw [NegI_ok h]
  simp only [spec_NegI, h, Bool.not_true, cond_false]
  rw [w64_id (by omega) (by omega), w64_id (by omega) (by omega), make_ok (by omega)]
  simp
theorem Integer_eq (n : Int) : impl_Integer n = spec_Integer n := by
 simp only [impl_Integer, spec_Integer, whole_eq, bounded_true, within_eq, within_not]
 by_cases h : -268435455 ≤ n ∧ n ≤ 268435455
 ·rw [decide_eq_true h, decide_eq_true (by omega : -268435456 ≤ n ∧ n ≤ 268435456)]
 ·rw [decide_eq_false h]
  by_cases h2 : -268435456 ≤ n ∧ n ≤ 268435456
  ·rw [decide_eq_true h2]
   have : n = 268435456 ∨ n = -268435456 := by omega
   rcases this with rfl | rfl <;> rfl
  ·rw [decide_eq_false h2]
theorem pi_pos : In64 7244019458077122842 ∧ In64 7244019458077122843 := by simp only [In64]; omega
end Go.G880
/- Plain lemmas: angles in units, the middle of a place. -/
set_option linter.unusedVariables false
set_option linter.unusedSimpArgs false
