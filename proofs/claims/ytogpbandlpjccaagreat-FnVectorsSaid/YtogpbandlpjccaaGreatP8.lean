/- Plain lemmas: rounded quotients, fractions, quotients of intervals. -/
import Derived.Test.YtogpbandlpjccaaGreatP7
set_option linter.unusedVariables false
set_option linter.unusedSimpArgs false
namespace Go.G880
open Go Go.RX

theorem in128_mul {a b : Int} (ha : In64 a) (hb : In64 b) : In128 (a * b) := prod_range ha hb
theorem WideDiv_no (w : Wd) {d : Int} (h : d ≤ 0) : impl_WideDiv w d = (⟨0, 0⟩, 0, false) := by
  simp only [impl_WideDiv, decide_eq_true h, cond_true]
theorem MulDivFloor_eq {a b d : Int} (ha : In64 a) (hb : In64 b) (hd : d ≤ 9223372036854775807) : impl_MulDivFloor a b d = spec_MulDivFloor a b d := by
  by_cases h : d ≤ 0
  · simp only [impl_MulDivFloor, spec_MulDivFloor, WideDiv_no _ h, decide_eq_true h, cond_true, Bool.not_false]
  · have hn := decide_eq_false h
    simp only [impl_MulDivFloor, spec_MulDivFloor, WideMul_eq ha hb, l02Mul_eq ha hb, WideDiv_eq (in128_mul ha hb) (show 0 < d by omega) hd, l02Div_eq (in128_mul ha hb) (show 0 < d by omega) hd, hn, Bool.not_true, cond_false, WideInt_eq]
theorem in64_unit : In64 4294967296 := by simp only [In64]; omega
theorem FixFloor_eq {a d : Int} (ha : In64 a) (hd : d ≤ 9223372036854775807) : impl_FixFloor a d = spec_l03Floor a d := by
  simp only [impl_FixFloor, spec_l03Floor, MulDivFloor_eq ha in64_unit hd, fixed_eq]
  by_cases h : d ≤ 0
  · rw [decide_eq_true h, cond_true]
    simp only [spec_MulDivFloor, decide_eq_true h, cond_true]
    rfl
  · rw [decide_eq_false h, cond_false]
theorem quot_range {z d : Int} (hz : In128 z) (h : 0 < d) : In128 (z / d) := by
  simp only [In128] at *
  constructor
  · rw [Int.le_ediv_iff_mul_le h]
    have := Int.mul_le_mul_of_nonneg_left (show (1 : Int) ≤ d by omega) (show (0 : Int) ≤ 170141183460469231731687303715884105728 by omega)
    omega
  · rw [Int.ediv_lt_iff_lt_mul h]
    have := Int.mul_le_mul_of_nonneg_left (show (1 : Int) ≤ d by omega) (show (0 : Int) ≤ 170141183460469231731687303715884105728 by omega)
    omega
theorem spec_MulDivFloor_val {a b d : Int} (ha : In64 a) (hb : In64 b) (h : 0 < d) (hd : d ≤ 9223372036854775807) :
    spec_MulDivFloor a b d = if -9223372036854775808 ≤ a * b / d ∧ a * b / d ≤ 9223372036854775807 then (a * b / d, true) else (0, false) := by
  have hn : decide (d ≤ 0) = false := decide_eq_false (by omega)
  have hq := quot_range (in128_mul ha hb) h
  simp only [spec_MulDivFloor, hn, cond_false, l02Mul_eq ha hb, l02Div_eq (in128_mul ha hb) h hd]
  have hi := WideInt_W hq.1 hq.2
  rw [hi]
theorem end_eq {n m : Int} (h : spec_l03Ok n = spec_l03Ok m) (he : spec_l03Ok n = true → n = m) : spec_l03End n true = spec_l03End m true := by
  simp only [spec_l03End, Bool.not_true, cond_false, ← h]
  cases hk : spec_l03Ok n
  · rfl
  · rw [he hk]
theorem FixCeil_eq {a d : Int} (ha : In64 a) (hd : d ≤ 9223372036854775807) : impl_FixCeil a d = spec_l03Ceil a d := by
  by_cases h : d ≤ 0
  · simp only [impl_FixCeil, impl_mulDivCeil, WideDiv_no _ h, spec_l03Ceil, decide_eq_true h, cond_true, Bool.not_false]
    rfl
  · have h0 : 0 < d := by omega
    have hn := decide_eq_false h
    have hz := in128_mul ha in64_unit
    have hq := quot_range hz h0
    have hi := WideInt_W hq.1 hq.2
    simp only [impl_FixCeil, impl_mulDivCeil, spec_l03Ceil, hn, cond_false, WideMul_eq ha in64_unit, WideDiv_eq hz h0 hd, Bool.not_true, WideInt_eq, hi, spec_MulDivFloor_val ha in64_unit h0 hd, fixed_eq]
    have hm := Int.emod_add_mul_ediv (a * 4294967296) d
    have m1 := Int.emod_nonneg (a * 4294967296) (show d ≠ 0 by omega)
    have m2 := Int.emod_lt_of_pos (a * 4294967296) h0
    rw [Int.mul_comm d] at hm
    generalize a * 4294967296 / d = q at *
    generalize a * 4294967296 % d = r at *
    by_cases hr : -9223372036854775808 ≤ q ∧ q ≤ 9223372036854775807
    · rw [if_pos hr]
      simp only [Bool.not_true, cond_false]
      have hne : (w64 (q * d) != w64 (a * 4294967296)) = decide (r > 0) := by
        rw [← hm]
        apply Bool.eq_iff_iff.2
        simp only [bne_iff_ne, ne_eq, decide_eq_true_eq, w64_def]
        generalize q * d = p at *
        omega
      rw [hne]
      by_cases hp : r > 0
      · rw [decide_eq_true hp, cond_true, cond_true]
        by_cases he : q = 9223372036854775807
        · subst he
          rfl
        · have : (q == 9223372036854775807) = false := by simp [he]
          rw [this, cond_false, cond_true]
      · rw [decide_eq_false hp, cond_false, cond_false, cond_false]
    · rw [if_neg hr]
      rfl
theorem Quotient_eq {a d : Int} (ha : In64 a) (hd : In64 d) : impl_Quotient a d = spec_Quotient a d := by
  have hb : ∀ (lo hi : Int) (x y : Bool), (bif x then impl_bounded lo hi y else impl_bounded lo hi false) = (bif !x then spec_l04Whole else (bif !y then spec_l04Whole else spec_l04Make lo hi)) := by
    intro lo hi x y
    cases x <;> cases y <;> first | rfl | exact bounded_true lo hi
  have hd' := hd
  have ha' := ha
  simp only [In64] at hd' ha'
  by_cases h : d < 0
  · simp only [impl_Quotient, spec_Quotient, decide_eq_true h, cond_true, hb, whole_eq]
    by_cases h1 : d = -9223372036854775808
    · subst h1
      have e : decide (w64 (0 - -9223372036854775808) < 0) = true := by decide
      rw [e, cond_true]
      cases a == -9223372036854775808 <;> rfl
    · have e1 : w64 (0 - d) = -d := by rw [w64_id (by omega) (by omega)]; omega
      have e2 : decide (w64 (0 - d) < 0) = false := decide_eq_false (by rw [e1]; omega)
      have e3 : (d == -9223372036854775808) = false := by simp [h1]
      rw [e2, cond_false, e3, cond_false]
      by_cases h2 : a = -9223372036854775808
      · subst h2
        rfl
      · have e4 : w64 (0 - a) = -a := by rw [w64_id (by omega) (by omega)]; omega
        have e5 : (w64 (0 - a) == -9223372036854775808) = false := by rw [e4]; simp; omega
        have e6 : (a == -9223372036854775808) = false := by simp [h2]
        have ha2 : In64 (-a) := by simp only [In64]; omega
        rw [e5, cond_false, e6, cond_false, e4, e1, FixFloor_eq ha2 (by omega), FixCeil_eq ha2 (by omega)]
  · simp only [impl_Quotient, spec_Quotient, decide_eq_false h, cond_false, hb, FixFloor_eq ha hd'.2, FixCeil_eq ha hd'.2]

/-! ### Quotients of intervals -/
theorem DivDown_eq (a b : Int) : impl_DivDown a b = spec_l03DivDown a b := by
  simp only [impl_DivDown, spec_l03DivDown, fixOk]
  cases ha : spec_l03Ok a
  · simp only [Bool.not_false, cond_true]
  cases hb : spec_l03Ok b
  · simp only [Bool.not_true, Bool.not_false, cond_true, cond_false]
  simp only [Bool.not_true, cond_false]
  have hbb := (l03Ok_iff b).1 hb
  have haa := (l03Ok_iff a).1 ha
  by_cases h : b < 0
  · have e : (b == 0) = false := by simp; omega
    have hna := neg_fix ha
    have hnb := neg_fix hb
    simp only [decide_eq_true h, e, cond_true, cond_false, hna.1, hnb.1, MulDivFloor_eq (in64_fix hna.2) in64_unit (show -b ≤ 9223372036854775807 by omega), fixed_eq]
  · simp only [decide_eq_false h, cond_false, MulDivFloor_eq (in64_fix ha) in64_unit (show b ≤ 9223372036854775807 by omega), fixed_eq]
    by_cases h0 : b = 0
    · subst h0
      have e : spec_MulDivFloor a 4294967296 0 = (0, false) := rfl
      rw [e]
      rfl
    · have e : (b == 0) = false := by simp [h0]
      rw [e, cond_false]
theorem DivDown_ok {a b : Int} : (spec_l03DivDown a b).2 = true → spec_l03Ok (spec_l03DivDown a b).1 = true := by
  simp only [spec_l03DivDown]
  cases spec_l03Ok a
  · simp
  cases spec_l03Ok b
  · simp
  cases b == 0
  · cases decide (b < 0)
    · exact end_ok
    · exact end_ok
  · simp
theorem DivDown_no {a b : Int} : (spec_l03DivDown a b).2 = false → (spec_l03DivDown a b).1 = 0 := by
  simp only [spec_l03DivDown]
  cases spec_l03Ok a
  · simp
  cases spec_l03Ok b
  · simp
  cases b == 0
  · cases decide (b < 0)
    · exact end_no
    · exact end_no
  · simp
theorem DivUp_eq (a b : Int) : impl_DivUp a b = spec_l03DivUp a b := by
  simp only [impl_DivUp, spec_l03DivUp, fixOk, DivDown_eq]
  cases ha : spec_l03Ok a
  · simp only [Bool.not_false, cond_true]
  cases hb : spec_l03Ok b
  · have : spec_l03DivDown (w64 (0 - a)) b = (0, false) := by
      simp only [spec_l03DivDown, hb]
      cases spec_l03Ok (w64 (0 - a)) <;> rfl
    simp only [this]
    rfl
  · rfl
theorem DivUp_ok {a b : Int} : (spec_l03DivUp a b).2 = true → spec_l03Ok (spec_l03DivUp a b).1 = true := by
  simp only [spec_l03DivUp]
  cases spec_l03Ok a
  · simp
  · simp only [Bool.not_true, cond_false]
    intro h
    have := neg_fix (DivDown_ok h)
    rw [this.1]
    exact this.2
theorem HasI_eq (a : Iv) (n : Int) : impl_HasI a n = spec_HasI a n := by
  simp only [impl_HasI, spec_HasI, isWhole_eq, spec_l04Has, within_eq]
theorem DivI_eq (a b : Iv) : impl_DivI a b = spec_DivI a b := by
  simp only [impl_DivI, spec_DivI, areBounded_eq, whole_eq, bounded_true, DivDown_eq, DivUp_eq, mn_eq, mx_eq, HasI_eq, spec_HasI]
  cases spec_l04Ok a
  · rfl
  cases spec_l04Ok b
  · rfl
  simp only [Bool.and_self, Bool.not_true, cond_false]
  cases spec_l04Has b 0
  · simp only [cond_false]
    cases h1 : (spec_l03DivDown a.lo b.lo).2
    · rfl
    cases h2 : (spec_l03DivUp a.lo b.lo).2
    · rfl
    simp only [min_first (DivDown_ok h1), max_first (DivUp_ok h2)]
  · rfl
theorem dividedV_eq (a : V3) (k : Iv) : impl_dividedV a k = spec_l10Over a k := by simp only [impl_dividedV, spec_l10Over, DivI_eq]
theorem InverseM_eq (m : M3) : impl_InverseM m = spec_InverseM m := by
  simp only [impl_InverseM, spec_InverseM, CrossV_eq, DotV_eq, HasI_eq, dividedV_eq]
  rfl
theorem laws_FnExactInverseM.holds (a0 : M3) (w0 : a0.In) : laws_FnExactInverseM a0 = true := by
  simp only [laws_FnExactInverseM, toM, InverseM_eq, eqM_refl, beq_self_eq_true, Bool.not_true, cond_false]

/-! ### Ellipsoids -/
theorem l12_den {e : El} (h : spec_l12Ok e = true) : (1000 ≤ e.a ∧ e.a ≤ 100000000000) ∧ (1 ≤ e.den ∧ e.den ≤ 1000000000000) ∧ 0 ≤ e.num ∧ e.num ≤ e.den / 100 := by
  simp only [spec_l12Ok, spec_l00In, Bool.cond_eq_ite, decide_eq_true_eq] at h
  (repeat' split at h) <;> simp at *
  rename_i h1 h2 h3 h4
  rw [tdiv_nn _ (by omega), w64_id (by omega) (by omega)] at h
  omega
theorem q_l12 {e : El} (h : (!(spec_l12Ok e)) = false) : decide (-9223372036854775808 ≤ e.den ∧ e.den ≤ 9223372036854775807) = true := by
  have := l12_den (by simpa using h)
  exact decide_eq_true (by omega)
theorem q_valid {e : El} (h : (!(impl_ValidEllipsoid e)) = false) : decide (-9223372036854775808 ≤ e.den ∧ e.den ≤ 9223372036854775807) = true := by
  rw [ValidEllipsoid_eq] at h
  exact q_l12 h
theorem q_w64 (n : Int) : decide (-9223372036854775808 ≤ w64 n ∧ w64 n ≤ 9223372036854775807) = true := decide_eq_true ⟨w64_ge n, w64_le n⟩
theorem d_valid {e : El} (h : spec_l12Ok e = true) : In64 e.a ∧ In64 e.num ∧ In64 e.den := by
  have := l12_den h
  simp only [In64]
  omega
theorem FlatteningI_eq (e : El) : impl_FlatteningI e = spec_FlatteningI e := by
  simp only [impl_FlatteningI, spec_FlatteningI, ValidEllipsoid_eq, whole_eq]
  cases h : spec_l12Ok e
  · simp only [Bool.not_false, cond_true]
  · simp only [Bool.not_true, cond_false, Quotient_eq (d_valid h).2.1 (d_valid h).2.2]
theorem MajorI_eq (e : El) : impl_MajorI e = spec_MajorI e := by
  simp only [impl_MajorI, spec_MajorI, ValidEllipsoid_eq, whole_eq]
  cases h : spec_l12Ok e
  · simp only [Bool.not_false, cond_true]
  · simp only [Bool.not_true, cond_false, Quotient_eq (d_valid h).1 (show In64 1000 by simp only [In64]; omega)]
theorem ThirdI_eq (e : El) : impl_ThirdI e = spec_ThirdI e := by
  simp only [impl_ThirdI, spec_ThirdI, ValidEllipsoid_eq, whole_eq]
  cases h : spec_l12Ok e
  · simp only [Bool.not_false, cond_true]
  · simp only [Bool.not_true, cond_false, Quotient_eq (d_valid h).2.1 (in64_w64 _)]
theorem MinorI_eq (e : El) : impl_MinorI e = spec_MinorI e := by
  simp only [impl_MinorI, spec_MinorI, ValidEllipsoid_eq, whole_eq, MulI_eq, MajorI_eq]
  cases h : spec_l12Ok e
  · simp only [Bool.not_false, cond_true]
  · simp only [Bool.not_true, cond_false, Quotient_eq (in64_w64 _) (d_valid h).2.2]
theorem laws_FnExactFlatteningI.holds (a0 : El) (w0 : a0.In) : laws_FnExactFlatteningI a0 = true := by
  simp only [laws_FnExactFlatteningI, toE, FlatteningI_eq, eqI_refl, Bool.not_true, cond_false]
theorem laws_FnExactMajorI.holds (a0 : El) (w0 : a0.In) : laws_FnExactMajorI a0 = true := by
  simp only [laws_FnExactMajorI, toE, MajorI_eq, eqI_refl, Bool.not_true, cond_false]
theorem laws_FnExactThirdI.holds (a0 : El) (w0 : a0.In) : laws_FnExactThirdI a0 = true := by
  simp only [laws_FnExactThirdI, toE, ThirdI_eq, eqI_refl, Bool.not_true, cond_false]
theorem laws_FnExactMinorI.holds (a0 : El) (w0 : a0.In) : laws_FnExactMinorI a0 = true := by
  simp only [laws_FnExactMinorI, toE, MinorI_eq, eqI_refl, Bool.not_true, cond_false]
end Go.G880
