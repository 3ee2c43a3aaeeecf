/- Plain lemmas: intervals whose ends are added and compared; spheres; places. -/
import Derived.Test.YtogpbandlpjccaaGreatP1
set_option linter.unusedVariables false
set_option linter.unusedSimpArgs false
namespace Go.G880
open Go Go.RX

theorem eqI_refl (a : Iv) : laws_eqInterval a a = true := by simp [laws_eqInterval]
theorem eqV_refl (a : V3) : laws_eqVec a a = true := by simp [laws_eqVec, eqI_refl]
theorem eqPoint_refl (a : Pt) : laws_eqPoint a a = true := by simp [laws_eqPoint]
theorem eqEl_refl (a : El) : laws_eqEllipsoid a a = true := by simp [laws_eqEllipsoid]
theorem toV (a : V3) : laws_toVec a = a := rfl
theorem toP (a : Pt) : laws_toPoint a = a := rfl
theorem toI (a : Iv) : laws_toInterval a = a := rfl
theorem toE (a : El) : laws_toEllipsoid a = a := rfl

/-! ### Intervals -/
theorem valid_ok (a : Iv) : impl_ValidInterval a = spec_l04Ok a := rfl
theorem whole_eq : impl_Whole = spec_l04Whole := rfl
theorem isWhole_eq (a : Iv) : impl_IsWhole a = !spec_l04Ok a := rfl
theorem bounded_true (lo hi : Int) : impl_bounded lo hi true = spec_l04Make lo hi := by
  simp only [impl_bounded, spec_l04Make, valid_ok, whole_eq]
  cases spec_l04Ok ⟨lo, hi⟩ <;> rfl
theorem bounded_false (lo hi : Int) : impl_bounded lo hi false = spec_l04Whole := rfl
theorem areBounded_eq (a b : Iv) : impl_areBounded a b = (spec_l04Ok a && spec_l04Ok b) := by
  simp only [impl_areBounded, valid_ok]
  cases spec_l04Ok a <;> rfl
theorem ok_iff (a : Iv) : spec_l04Ok a = true ↔ -1152921504606846976 < a.lo ∧ a.lo ≤ a.hi ∧ a.hi < 1152921504606846976 := by
  simp [spec_l04Ok, Bool.cond_eq_ite]
theorem make_ok {lo hi : Int} (h : -1152921504606846976 < lo ∧ lo ≤ hi ∧ hi < 1152921504606846976) : spec_l04Make lo hi = ⟨lo, hi⟩ := by
  simp [spec_l04Make, (ok_iff ⟨lo, hi⟩).2 h]
theorem whole_not : spec_l04Ok spec_l04Whole = false := by decide
theorem AddI_eq (a b : Iv) : impl_AddI a b = spec_AddI a b := by
  simp only [impl_AddI, spec_AddI, areBounded_eq, bounded_true, whole_eq]
  cases spec_l04Ok a <;> cases spec_l04Ok b <;> rfl
theorem NegI_ok {a : Iv} (h : spec_l04Ok a = true) : impl_NegI a = ⟨-a.hi, -a.lo⟩ := by
  have hh := (ok_iff a).1 h
  simp only [impl_NegI, isWhole_eq, h, Bool.not_true, cond_false]
  rw [w64_id (by omega) (by omega), w64_id (by omega) (by omega)]
  simp
theorem NegI_whole {a : Iv} (h : spec_l04Ok a = false) : impl_NegI a = spec_l04Whole := by
  simp only [impl_NegI, isWhole_eq, h, Bool.not_false, cond_true, whole_eq]
theorem SubI_eq (a b : Iv) : impl_SubI a b = spec_SubI a b := by
  simp only [impl_SubI]
  rw [AddI_eq]
  simp only [spec_AddI, spec_SubI]
  cases hb : spec_l04Ok b
  · rw [NegI_whole hb, whole_not]
    cases spec_l04Ok a <;> rfl
  · have hh := (ok_iff b).1 hb
    have hn : spec_l04Ok ⟨-b.hi, -b.lo⟩ = true := (ok_iff _).2 (by simp only []; omega)
    rw [NegI_ok hb, hn]
    simp only [Int.sub_eq_add_neg]
theorem mx_eq (x y : Int) : mxI x y = spec_l00Max x y := by
  simp only [mx_def, spec_l00Max, Bool.cond_eq_ite, decide_eq_true_eq]
  split <;> split <;> omega
theorem mn_eq (x y : Int) : mnI x y = spec_l00Min x y := by
  simp only [mn_def, spec_l00Min, Bool.cond_eq_ite, decide_eq_true_eq]
  split <;> split <;> omega
theorem MeetI_eq (a b : Iv) : impl_MeetI a b = spec_MeetI a b := by
  simp only [impl_MeetI, spec_MeetI, isWhole_eq, whole_eq, mx_eq, mn_eq]
theorem OverlapI_eq (a b : Iv) : impl_OverlapI a b = spec_OverlapI a b := by simp only [impl_OverlapI, spec_OverlapI, MeetI_eq]

theorem laws_FnExactAddV.holds (a0 a1 : V3) (w0 : a0.In) (w1 : a1.In) : laws_FnExactAddV a0 a1 = true := by
  simp only [laws_FnExactAddV, toV, impl_AddV, spec_AddV, AddI_eq, eqV_refl, Bool.not_true, cond_false]
theorem laws_FnExactSubV.holds (a0 a1 : V3) (w0 : a0.In) (w1 : a1.In) : laws_FnExactSubV a0 a1 = true := by
  simp only [laws_FnExactSubV, toV, impl_SubV, spec_SubV, SubI_eq, eqV_refl, Bool.not_true, cond_false]
theorem laws_FnExactOverlapV.holds (a0 a1 : V3) (w0 : a0.In) (w1 : a1.In) : laws_FnExactOverlapV a0 a1 = true := by
  unfold laws_FnExactOverlapV
  exact law_beq (by simp only [toV, impl_OverlapV, spec_OverlapV, OverlapI_eq])

/-! ### Spheres, places -/
theorem laws_FnExactSphereOf.holds (a0 : Int) (w0 : In64 a0) : laws_FnExactSphereOf a0 = true := by
  have h : impl_SphereOf a0 = spec_SphereOf a0 := by
    have : spec_l12Ok ⟨a0, 0, 1⟩ = impl_within a0 1000 100000000000 := by
      have e1 : spec_l00In 1 1 1000000000000 = true := by decide
      have e2 : decide ((0 : Int) ≤ w64 (Int.tdiv 1 100)) = true := by decide
      simp only [spec_l12Ok, within_eq, e1, e2]
      cases spec_l00In a0 1000 100000000000 <;> rfl
    simp only [impl_SphereOf, spec_SphereOf, this]
  simp only [laws_FnExactSphereOf, h, eqEl_refl, bne_self_eq_false, Bool.not_true, cond_false]
theorem areValid_eq (p q : Pt) : impl_areValid p q = (spec_l11Ok p && spec_l11Ok q) := by
  simp only [impl_areValid, ValidPoint_eq]
  cases spec_l11Ok p <;> rfl
theorem l11Ok_iff (p : Pt) : spec_l11Ok p = true ↔ (-900000000 ≤ p.lat ∧ p.lat ≤ 900000000) ∧ -1799999999 ≤ p.lon ∧ p.lon ≤ 1800000000 := by
  simp [spec_l11Ok, spec_l00In, Bool.cond_eq_ite]
theorem isPole_eq {p : Pt} (h : spec_l11Ok p = true) : impl_isPole p = spec_l11Pole p := by
  have hh := (l11Ok_iff p).1 h
  simp only [impl_isPole, impl_abs, spec_l11Pole, mx_def]
  rw [w64_id (by omega) (by omega)]
  apply Bool.eq_iff_iff.2
  simp only [Bool.cond_eq_ite, beq_iff_eq]
  split <;> split <;> simp <;> omega
theorem SamePlace_eq (p q : Pt) : impl_SamePlace p q = spec_SamePlace p q := by
  simp only [impl_SamePlace, spec_SamePlace, areValid_eq]
  cases hp : spec_l11Ok p
  · rfl
  cases hq : spec_l11Ok q
  · rfl
  simp only [Bool.and_self, Bool.not_true, cond_false, impl_samePlace, isPole_eq hp]
  cases h1 : p.lat == q.lat <;> cases h2 : p.lon == q.lon <;> cases h3 : spec_l11Pole p <;> rfl
theorem laws_FnExactSamePlace.holds (a0 a1 : Pt) (w0 : a0.In) (w1 : a1.In) : laws_FnExactSamePlace a0 a1 = true := by
  simp only [laws_FnExactSamePlace, toP, SamePlace_eq, beq_self_eq_true, bne_self_eq_false, Bool.not_true, cond_false]
theorem LonBetween_eq (p q : Pt) : impl_LonBetween p q = spec_LonBetween p q := by
  simp only [impl_LonBetween, spec_LonBetween, areValid_eq, WrapLon_eq]
  cases spec_l11Ok p <;> cases spec_l11Ok q <;> rfl
theorem laws_FnExactLonBetween.holds (a0 a1 : Pt) (w0 : a0.In) (w1 : a1.In) : laws_FnExactLonBetween a0 a1 = true := by
  simp only [laws_FnExactLonBetween, toP, LonBetween_eq, bne_self_eq_false, cond_false]
theorem Antipode_eq (p : Pt) : impl_Antipode p = spec_Antipode p := by
  simp only [impl_Antipode, spec_Antipode, ValidPoint_eq, WrapLon_eq]
theorem laws_FnExactAntipode.holds (a0 : Pt) (w0 : a0.In) : laws_FnExactAntipode a0 = true := by
  simp only [laws_FnExactAntipode, toP, Antipode_eq, eqPoint_refl, bne_self_eq_false, Bool.not_true, cond_false]
end Go.G880
