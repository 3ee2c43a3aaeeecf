/- Roots of intervals; radii of curvature, and the meridian's arc. -/
import Derived.Test.YtogpbandlpjccaaGreatP17
set_option linter.unusedSimpArgs false
set_option linter.unusedVariables false
namespace Go.G880
open Go Go.RX

theorem W_same {z y : Int} (hz : 0 ≤ z ∧ z < 170141183460469231731687303715884105728) (hy : 0 ≤ y ∧ y < 170141183460469231731687303715884105728) : ((W z).hi == (W y).hi && (W z).lo == (W y).lo) = decide (z = y) := by
  have h1 := W_hi (z := z) (by simp only [In128]; omega)
  have h2 := W_hi (z := y) (by simp only [In128]; omega)
  have h3 := (W_halves (z := z) hz.1 (by omega)).2
  have h4 := (W_halves (z := y) hy.1 (by omega)).2
  rw [h1, h2, h3, h4]
  apply Bool.eq_iff_iff.2
  simp only [Bool.and_eq_true, beq_iff_eq, decide_eq_true_eq]
  constructor
  · rintro ⟨a, b⟩; omega
  · rintro rfl; exact ⟨rfl, rfl⟩
theorem and_low32 (z : Int) : andI .i64 (w64 z) 4294967295 = z % 4294967296 := by
  have hb : BitVec.ofInt 64 (w64 z) = BitVec.ofInt 64 (u64 z) := by
    apply BitVec.eq_of_toNat_eq
    simp only [BitVec.toNat_ofInt]
    congr 1
    simp only [w64_def, u64_def]
    omega
  have h0 := u64_nn z
  have h1 := u64_lt z
  show w64 (((BitVec.ofInt 64 (w64 z) &&& BitVec.ofInt 64 4294967295).toNat : Nat) : Int) = _
  rw [hb]
  have h2 : andI .u64 (u64 z) 4294967295 = u64 z % 4294967296 := and32 h0 h1
  have h3 : andI .u64 (u64 z) 4294967295 = u64 (((BitVec.ofInt 64 (u64 z) &&& BitVec.ofInt 64 4294967295).toNat : Nat) : Int) := rfl
  have h4 : (((BitVec.ofInt 64 (u64 z) &&& BitVec.ofInt 64 4294967295).toNat : Nat) : Int) < 18446744073709551616 := by
    have := (BitVec.ofInt 64 (u64 z) &&& BitVec.ofInt 64 4294967295).isLt
    omega
  rw [h3, u64_id (by omega) (by omega)] at h2
  rw [h2, w64_id (by omega) (by omega)]
  simp only [u64_def]
  omega

/-- The root of a number, rounded down, and what it is. -/
theorem Sqrt_parts {x : Int} (h : 0 ≤ x ∧ x < 1152921504606846976) : ∃ r, 0 ≤ r ∧ r < 1152921504606846976 ∧ r * r ≤ x * 4294967296 ∧
    impl_SqrtDown x = (r, true) ∧ spec_l03SqrtDown x = (r, true) ∧
    impl_SqrtUp x = ((if r * r = x * 4294967296 then r else r + 1), true) ∧ spec_l03SqrtUp x = ((if r * r = x * 4294967296 then r else r + 1), true) := by
  have hx : In64 x := by simp only [In64]; omega
  obtain ⟨r0, r1, r2, r3, r4⟩ := Root_W (z := x * 4294967296) (by omega) (by omega)
  generalize hr : spec_l02Root (W (x * 4294967296)) = r at *
  have hr46 : r < 140737488355328 := by
    apply Int.lt_of_not_ge
    intro hge
    have : 140737488355328 * 140737488355328 ≤ r * r := Int.mul_le_mul hge hge (by omega) (by omega)
    omega
  have w1 : w64 r = r := w64_id (by omega) (by omega)
  have w2 : w64 (r + 1) = r + 1 := w64_id (by omega) (by omega)
  have ri : In64 r := by simp only [In64]; omega
  have hrr : 0 ≤ r * r := Int.mul_nonneg r1 r1
  have d0 : decide (x < 0) = false := decide_eq_false (by omega)
  have d1 : decide ((4294967296 : Int) < 0) = false := by decide
  have k0 : impl_ValidFix x = true := by rw [fixOk]; exact (l03Ok_iff _).2 (by omega)
  have k1 : spec_l03Ok r = true := (l03Ok_iff _).2 (by omega)
  have k2 : spec_l03Ok (r + 1) = true := (l03Ok_iff _).2 (by omega)
  have k3 : spec_l00In x 0 1152921504606846976 = true := (l00In_iff _ _ _).2 (by omega)
  have s1 : impl_SqrtDown x = (r, true) := by
    simp only [impl_SqrtDown, k0, impl_SqrtFloor, d0, d1, WideMul_eq hx in64_unit, r0, w1, fixed_eq, spec_l03End, k1, Bool.not_true, cond_false]
  have s2 : spec_l03SqrtDown x = (r, true) := by
    simp only [spec_l03SqrtDown, k3, spec_SqrtFloor, d0, d1, l02Mul_eq hx in64_unit, hr, w1, Bool.not_true, cond_false]
  refine ⟨r, r1, by omega, r3, s1, s2, ?_, ?_⟩
  · simp only [impl_SqrtUp, s1, cond_true, WideMul_eq ri ri, WideMul_eq hx in64_unit, W_same (z := r * r) (y := x * 4294967296) (by omega) (by omega), fixed_eq, spec_l03End, w2, k1, k2, Bool.not_true, cond_false]
    by_cases hc : r * r = x * 4294967296
    · rw [decide_eq_true hc, if_pos hc]; rfl
    · rw [decide_eq_false hc, if_neg hc]; rfl
  · simp only [spec_l03SqrtUp, s2, Bool.not_true, cond_false, and_low32, w2]
    rw [MulFloor32_val ri ri, if_pos (by omega)]
    by_cases hc : r * r = x * 4294967296
    · have e1 : (r * r / 4294967296 != x) = false := by simp; omega
      have e2 : (r * r % 4294967296 != 0) = false := by simp; omega
      simp only [e1, e2, cond_false, if_pos hc]
    · rw [if_neg hc]
      cases e1 : (r * r / 4294967296 != x)
      · have e2 : (r * r % 4294967296 != 0) = true := by
          simp only [bne_eq_false_iff_eq] at e1
          simp only [bne_iff_ne, ne_eq]
          omega
        simp only [e2, cond_false, cond_true]
      · simp only [cond_true]

theorem SqrtI_eq (a : Iv) : impl_SqrtI a = spec_SqrtI a := by
  simp only [impl_SqrtI, spec_SqrtI, isWhole_eq, whole_eq]
  cases h : spec_l04Ok a
  · rfl
  have hh := (ok_iff a).1 h
  simp only [Bool.not_true, cond_false]
  by_cases h0 : a.lo < 0
  · rw [decide_eq_true h0]; rfl
  rw [decide_eq_false h0]
  obtain ⟨r, _, _, _, p1, p2, _⟩ := Sqrt_parts (x := a.lo) (by omega)
  obtain ⟨s, _, _, _, _, _, q1, q2⟩ := Sqrt_parts (x := a.hi) (by omega)
  simp only [p1, p2, q1, q2, cond_true, cond_false, bounded_true]

theorem weight_eq (e : El) (lat : Iv) : impl_weightOf e (impl_SinI lat) = spec_l12W e lat := by
  simp only [impl_weightOf, impl_oneLess, spec_l12W, SinI_eq, SqrI_eq, EccI_eq, MulI_eq, SubI_eq, Integer_eq]
theorem RadiusN_eq (e : El) (lat : Iv) : impl_RadiusN e lat = spec_RadiusN e lat := by
  simp only [impl_RadiusN, spec_RadiusN, weight_eq, MajorI_eq, DivI_eq, SqrtI_eq]
theorem RadiusM_eq (e : El) (lat : Iv) : impl_RadiusM e lat = spec_RadiusM e lat := by
  simp only [impl_RadiusM, spec_RadiusM, impl_oneLess, weight_eq, MajorI_eq, DivI_eq, SqrtI_eq, EccI_eq, MulI_eq, SubI_eq, Integer_eq]
theorem ParallelI_eq (e : El) (lat : Iv) : impl_ParallelI e lat = spec_ParallelI e lat := by
  simp only [impl_ParallelI, spec_ParallelI, RadiusN_eq, CosI_eq, MulI_eq]

theorem symmetric_eq (x : Iv) : impl_symmetric x = spec_l04Make (w64 (0 - x.hi)) x.hi ∨ (spec_l04Ok x = false ∧ x ≠ spec_l04Whole) := by
  simp only [impl_symmetric, isWhole_eq, whole_eq, bounded_true]
  cases h : spec_l04Ok x
  · by_cases hx : x = spec_l04Whole
    · left; subst hx; rfl
    · right; exact ⟨rfl, hx⟩
  · left; rfl
theorem sym_mul (a b : Iv) : impl_symmetric (spec_MulI a b) = spec_l04Make (w64 (0 - (spec_MulI a b).hi)) (spec_MulI a b).hi := by
  rcases symmetric_eq (spec_MulI a b) with h | ⟨h1, h2⟩
  · exact h
  · rcases MulI_cases a b with h | h
    · exact absurd h h2
    · rw [h.ok] at h1; cases h1
theorem arcAt_eq (e : El) {n : Int} (h : -8589934592 ≤ n ∧ n ≤ 8589934592) : impl_arcAt e n = spec_l12Arc e n := by
  have e1 : impl_at n = spec_l08At n := by
    simp only [impl_at, spec_l08At]
    rw [make_ok (by omega)]
  simp only [impl_arcAt, spec_l12Arc, e1, impl_over, impl_times, impl_oneLess, ThirdI_eq, MajorI_eq, SqrI_eq, SinI_eq, MulI_eq, DivI_eq, AddI_eq, SubI_eq, Integer_eq, sym_mul, Quotient_eq (a := 3) (d := 2) (by simp only [In64]; omega) (by simp only [In64]; omega), Quotient_eq (a := 15) (d := 16) (by simp only [In64]; omega) (by simp only [In64]; omega), Quotient_eq (a := 35) (d := 48) (by simp only [In64]; omega) (by simp only [In64]; omega), Quotient_eq (a := 315) (d := 512) (by simp only [In64]; omega) (by simp only [In64]; omega)]
theorem ArcI_eq (e : El) (lat : Iv) : impl_ArcI e lat = spec_ArcI e lat := by
  simp only [impl_ArcI, impl_ArcI_1, spec_ArcI, ValidEllipsoid_eq, whole_eq, isWhole_eq, bounded_true, areBounded_eq]
  cases he : spec_l12Ok e
  · rfl
  simp only [Bool.not_true, cond_false]
  have hb : spec_l04Ok ⟨-8589934592, 8589934592⟩ = true := by decide
  simp only [spec_InsideI, hb, Bool.not_true, cond_false]
  cases hl : spec_l04Ok lat
  · simp only [cond_false, Bool.not_false, cond_true]
    cases impl_within lat.lo (-8589934592) 8589934592 <;> cases impl_within lat.hi (-8589934592) 8589934592 <;> rfl
  have hh := (ok_iff lat).1 hl
  simp only [cond_true, Bool.not_true, cond_false]
  by_cases h1 : -8589934592 ≤ lat.lo ∧ lat.hi ≤ 8589934592
  · have i1 : impl_within lat.lo (-8589934592) 8589934592 = true := (inside_iff _ _ _).2 (by omega)
    have i2 : impl_within lat.hi (-8589934592) 8589934592 = true := (inside_iff _ _ _).2 (by omega)
    rw [i1, i2, decide_eq_true h1.1, decide_eq_true h1.2]
    simp only [Bool.not_true, cond_false, cond_true, spec_l08Ends]
    rw [arcAt_eq e (n := lat.lo) (by omega), arcAt_eq e (n := lat.hi) (by omega)]
    cases spec_l04Ok (spec_l12Arc e lat.lo) <;> cases spec_l04Ok (spec_l12Arc e lat.hi) <;> rfl
  · have : (bif decide (-8589934592 ≤ lat.lo) then decide (lat.hi ≤ 8589934592) else false) = false := by
      by_cases h2 : -8589934592 ≤ lat.lo
      · rw [decide_eq_true h2, cond_true]; exact decide_eq_false (by omega)
      · rw [decide_eq_false h2, cond_false]
    rw [this]
    simp only [Bool.not_false, cond_true]
    by_cases h2 : -8589934592 ≤ lat.lo ∧ lat.lo ≤ 8589934592
    · have i1 : impl_within lat.lo (-8589934592) 8589934592 = true := (inside_iff _ _ _).2 h2
      have i2 : impl_within lat.hi (-8589934592) 8589934592 = false := by
        cases hk : impl_within lat.hi (-8589934592) 8589934592
        · rfl
        · have := (inside_iff _ _ _).1 hk; omega
      rw [i1, i2]; rfl
    · have i1 : impl_within lat.lo (-8589934592) 8589934592 = false := by
        cases hk : impl_within lat.lo (-8589934592) 8589934592
        · rfl
        · have := (inside_iff _ _ _).1 hk; omega
      rw [i1]; rfl

theorem laws_FnExactArcI.holds (a0 : El) (a1 : Iv) (w0 : a0.In) (w1 : a1.In) : laws_FnExactArcI a0 a1 = true := by
  simp only [laws_FnExactArcI, toE, toI, ArcI_eq, eqI_refl, Bool.not_true, cond_false]
theorem laws_FnExactRadiusN.holds (a0 : El) (a1 : Iv) (w0 : a0.In) (w1 : a1.In) : laws_FnExactRadiusN a0 a1 = true := by
  simp only [laws_FnExactRadiusN, toE, toI, RadiusN_eq, eqI_refl, Bool.not_true, cond_false]
theorem laws_FnExactRadiusM.holds (a0 : El) (a1 : Iv) (w0 : a0.In) (w1 : a1.In) : laws_FnExactRadiusM a0 a1 = true := by
  simp only [laws_FnExactRadiusM, toE, toI, RadiusM_eq, eqI_refl, Bool.not_true, cond_false]
theorem laws_FnExactParallelI.holds (a0 : El) (a1 : Iv) (w0 : a0.In) (w1 : a1.In) : laws_FnExactParallelI a0 a1 = true := by
  simp only [laws_FnExactParallelI, toE, toI, ParallelI_eq, eqI_refl, Bool.not_true, cond_false]

end Go.G880
