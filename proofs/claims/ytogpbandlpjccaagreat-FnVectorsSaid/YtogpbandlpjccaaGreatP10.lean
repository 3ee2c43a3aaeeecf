/- Plain lemmas: lengths of vectors. -/
import Derived.Test.YtogpbandlpjccaaGreatP9
set_option linter.unusedVariables false
set_option linter.unusedSimpArgs false
namespace Go.G880
open Go Go.RX

theorem abs_val {x : Int} (h : -1152921504606846976 < x ∧ x < 1152921504606846976) : impl_abs x = (if x < 0 then -x else x) ∧ spec_l00Max x (w64 (0 - x)) = (if x < 0 then -x else x) := by
  have e : w64 (0 - x) = -x := by rw [w64_id (by omega) (by omega)]; omega
  simp only [impl_abs, mx_def, spec_l00Max, e, Bool.cond_eq_ite, decide_eq_true_eq]
  constructor <;> split <;> split <;> omega
theorem AbsI_val {a : Iv} (h : spec_l04Ok a = true) : impl_AbsI a = spec_AbsI a ∧ 0 ≤ (spec_AbsI a).lo ∧ (spec_AbsI a).lo ≤ (spec_AbsI a).hi ∧ (spec_AbsI a).hi < 1152921504606846976 := by
  have hh := (ok_iff a).1 h
  obtain ⟨p1, p2⟩ := abs_val (x := a.lo) (by omega)
  obtain ⟨q1, q2⟩ := abs_val (x := a.hi) (by omega)
  have hi : impl_HasI a 0 = spec_l04Has a 0 := by simp only [HasI_eq, spec_HasI, h, Bool.not_true, cond_false]
  have hhas : spec_l04Has a 0 = decide (a.lo ≤ 0 ∧ 0 ≤ a.hi) := within_not 0 a.lo a.hi
  have he : spec_l04Ends a = (bif decide (a.lo ≤ 0 ∧ 0 ≤ a.hi) then (0, spec_l00Max (if a.lo < 0 then -a.lo else a.lo) (if a.hi < 0 then -a.hi else a.hi)) else (spec_l00Min (if a.lo < 0 then -a.lo else a.lo) (if a.hi < 0 then -a.hi else a.hi), spec_l00Max (if a.lo < 0 then -a.lo else a.lo) (if a.hi < 0 then -a.hi else a.hi))) := by
    simp only [spec_l04Ends, p2, q2, hhas]
  have hm : ∃ n f, spec_l04Ends a = (n, f) ∧ 0 ≤ n ∧ n ≤ f ∧ f < 1152921504606846976 := by
    rw [he]
    by_cases hc : a.lo ≤ 0 ∧ 0 ≤ a.hi
    · rw [decide_eq_true hc, cond_true]
      refine ⟨_, _, rfl, by omega, ?_, ?_⟩ <;> simp only [spec_l00Max, Bool.cond_eq_ite, decide_eq_true_eq] <;> (repeat' split) <;> omega
    · rw [decide_eq_false hc, cond_false]
      refine ⟨_, _, rfl, ?_, ?_, ?_⟩ <;> simp only [spec_l00Max, spec_l00Min, Bool.cond_eq_ite, decide_eq_true_eq] <;> (repeat' split) <;> omega
  obtain ⟨n, f, en, n0, n1, n2⟩ := hm
  have hs : spec_AbsI a = ⟨n, f⟩ := by
    simp only [spec_AbsI, h, Bool.not_true, cond_false, en]
    exact make_ok (by omega)
  refine ⟨?_, by rw [hs]; exact n0, by rw [hs]; exact n1, by rw [hs]; exact n2⟩
  rw [hs]
  simp only [impl_AbsI, isWhole_eq, h, Bool.not_true, cond_false, hi, hhas, p1, q1, mx_eq, mn_eq]
  rw [he] at en
  cases hc : decide (a.lo ≤ 0 ∧ 0 ≤ a.hi)
  · rw [hc, cond_false] at en
    rw [cond_false]
    simp only [Prod.mk.injEq] at en
    rw [en.1, en.2]
  · rw [hc, cond_true] at en
    rw [cond_true]
    simp only [Prod.mk.injEq] at en
    rw [en.2, ← en.1]

theorem bv64i {x : Int} (h0 : 0 ≤ x) (h1 : x < 9223372036854775808) : (BitVec.ofInt 64 x).toNat = x.toNat := by
  rw [BitVec.toNat_ofInt]
  omega
theorem xor_nn {x y : Int} (h0 : 0 ≤ x) (h1 : x < 9223372036854775808) (g0 : 0 ≤ y) (g1 : y < 9223372036854775808) : 0 ≤ xorI .i64 x y ∧ xorI .i64 x y < 9223372036854775808 := by
  show 0 ≤ w64 (((BitVec.ofInt 64 x ^^^ BitVec.ofInt 64 y).toNat : Nat) : Int) ∧ _
  have hlt : x.toNat ^^^ y.toNat < 2 ^ 63 := Nat.xor_lt_two_pow (by omega) (by omega)
  have e : xorI .i64 x y = w64 (((x.toNat ^^^ y.toNat : Nat)) : Int) := by
    show w64 (((BitVec.ofInt 64 x ^^^ BitVec.ofInt 64 y).toNat : Nat) : Int) = _
    rw [BitVec.toNat_xor, bv64i h0 h1, bv64i g0 g1]
  have e2 : w64 (((x.toNat ^^^ y.toNat : Nat)) : Int) = ((x.toNat ^^^ y.toNat : Nat) : Int) := w64_id (by omega) (by omega)
  rw [e2] at e
  have e3 : w64 (((BitVec.ofInt 64 x ^^^ BitVec.ofInt 64 y).toNat : Nat) : Int) = xorI .i64 x y := rfl
  rw [e3, e]
  omega
theorem and_nn {x y : Int} (h0 : 0 ≤ x) (h1 : x < 9223372036854775808) (g0 : 0 ≤ y) (g1 : y < 9223372036854775808) : 0 ≤ andI .i64 x y := by
  show 0 ≤ w64 (((BitVec.ofInt 64 x &&& BitVec.ofInt 64 y).toNat : Nat) : Int)
  have hle : x.toNat &&& y.toNat ≤ x.toNat := Nat.and_le_left
  rw [BitVec.toNat_and, bv64i h0 h1, bv64i g0 g1, w64_id (by omega) (by omega)]
  omega
theorem WideAdd_nn {a b : Int} (h0 : 0 ≤ a) (g0 : 0 ≤ b) (h : a + b < 170141183460469231731687303715884105728) : impl_WideAdd (W a) (W b) = (W (a + b), true) := by
  have ha := W_hi (z := a) (by simp only [In128]; omega)
  have hb := W_hi (z := b) (by simp only [In128]; omega)
  have hab := W_hi (z := a + b) (by simp only [In128]; omega)
  obtain ⟨a1, a2⟩ := W_halves h0 (by omega)
  obtain ⟨b1, b2⟩ := W_halves g0 (by omega)
  obtain ⟨c1, c2⟩ := W_halves (z := a + b) (by omega) (by omega)
  have e1 : bits_Add64 (W a).lo (W b).lo 0 = ((W (a + b)).lo, (a % 18446744073709551616 + b % 18446744073709551616) / 18446744073709551616) := by
    rw [a2, b2, c2]
    simp only [bits_Add64, Prod.mk.injEq]
    omega
  have e2 : w64 (bits_Add64 (u64 (W a).hi) (u64 (W b).hi) ((a % 18446744073709551616 + b % 18446744073709551616) / 18446744073709551616)).1 = (W (a + b)).hi := by
    rw [a1, b1, hab]
    simp only [bits_Add64]
    rw [w64_id (by omega) (by omega)]
    omega
  have e3 : decide (andI .i64 (xorI .i64 (W a).hi (W (a + b)).hi) (xorI .i64 (W b).hi (W (a + b)).hi) < 0) = false := by
    rw [ha, hb, hab]
    have x1 := xor_nn (x := a / 18446744073709551616) (y := (a + b) / 18446744073709551616) (by omega) (by omega) (by omega) (by omega)
    have x2 := xor_nn (x := b / 18446744073709551616) (y := (a + b) / 18446744073709551616) (by omega) (by omega) (by omega) (by omega)
    have := and_nn x1.1 x1.2 x2.1 x2.2
    exact decide_eq_false (by omega)
  simp only [impl_WideAdd, e1, e2, e3, cond_false]

theorem sq_range {x : Int} (h0 : 0 ≤ x) (h1 : x < 1152921504606846976) : 0 ≤ x * x ∧ x * x < 1329227995784915872903807060280344576 := by
  refine ⟨Int.mul_nonneg h0 h0, ?_⟩
  have : x * x ≤ 1152921504606846975 * 1152921504606846975 := Int.mul_le_mul (by omega) (by omega) h0 (by omega)
  omega
theorem l10Sum_eq {x y z : Int} (hx : 0 ≤ x ∧ x < 1152921504606846976) (hy : 0 ≤ y ∧ y < 1152921504606846976) (hz : 0 ≤ z ∧ z < 1152921504606846976) : spec_l10Sum x y z = W (x * x + y * y + z * z) := by
  have i64 : ∀ {t : Int}, 0 ≤ t ∧ t < 1152921504606846976 → In64 t := fun h => by simp only [In64]; omega
  simp only [spec_l10Sum, l02Mul_eq (i64 hx) (i64 hx), l02Mul_eq (i64 hy) (i64 hy), l02Mul_eq (i64 hz) (i64 hz), plus_W]
theorem rootOfSquares_eq {x y z : Int} (hx : 0 ≤ x ∧ x < 1152921504606846976) (hy : 0 ≤ y ∧ y < 1152921504606846976) (hz : 0 ≤ z ∧ z < 1152921504606846976) :
    ∃ r, spec_l02Root (spec_l10Sum x y z) = r ∧ w64 r = r ∧ 0 ≤ r ∧ r * r ≤ x * x + y * y + z * z ∧ x * x + y * y + z * z < (r + 1) * (r + 1) ∧ w64 (r + 1) = r + 1 ∧
      impl_rootOfSquares x y z = (r, if r * r = x * x + y * y + z * z then r else r + 1) ∧ ((spec_l02Mul r r).hi == (spec_l10Sum x y z).hi && (spec_l02Mul r r).lo == (spec_l10Sum x y z).lo) = decide (r * r = x * x + y * y + z * z) := by
  have i64 : ∀ {t : Int}, 0 ≤ t ∧ t < 1152921504606846976 → In64 t := fun h => by simp only [In64]; omega
  have sx := sq_range hx.1 hx.2
  have sy := sq_range hy.1 hy.2
  have sz := sq_range hz.1 hz.2
  rw [l10Sum_eq hx hy hz]
  generalize hS : x * x + y * y + z * z = S at *
  obtain ⟨r0, r1, r2, r3, r4⟩ := Root_W (z := S) (by omega) (by omega)
  generalize hr : spec_l02Root (W S) = r at *
  have hr61 : r < 2305843009213693952 := by
    apply Int.lt_of_not_ge
    intro hge
    have : 2305843009213693952 * 2305843009213693952 ≤ r * r := Int.mul_le_mul hge hge (by omega) (by omega)
    omega
  have w1 : w64 r = r := w64_id (by omega) (by omega)
  have w2 : w64 (r + 1) = r + 1 := w64_id (by omega) (by omega)
  have ri : In64 r := by simp only [In64]; omega
  have hp := prod_range ri ri
  have hrr : 0 ≤ r * r := Int.mul_nonneg r1 r1
  have heq : ((W (r * r)).hi == (W S).hi && (W (r * r)).lo == (W S).lo) = decide (r * r = S) := by
    have h1 := W_hi (z := r * r) hp
    have h2 := W_hi (z := S) (by simp only [In128]; omega)
    have h3 := (W_halves hrr (by omega)).2
    have h4 := (W_halves (z := S) (by omega) (by omega)).2
    rw [h1, h2, h3, h4]
    apply Bool.eq_iff_iff.2
    simp only [Bool.and_eq_true, beq_iff_eq, decide_eq_true_eq]
    omega
  refine ⟨r, rfl, w1, r1, r3, r4, w2, ?_, ?_⟩
  · have a1 : impl_WideAdd (W (x * x)) (W (y * y)) = (W (x * x + y * y), true) := WideAdd_nn sx.1 sy.1 (by omega)
    have a2 : impl_WideAdd (W (x * x + y * y)) (W (z * z)) = (W S, true) := by rw [← hS]; exact WideAdd_nn (by omega) sz.1 (by omega)
    simp only [impl_rootOfSquares, WideMul_eq (i64 hx) (i64 hx), WideMul_eq (i64 hy) (i64 hy), WideMul_eq (i64 hz) (i64 hz), a1, a2, r0, w1, WideMul_eq ri ri, heq, w2]
    by_cases hc : r * r = S
    · rw [decide_eq_true hc, if_pos hc]
      rfl
    · rw [decide_eq_false hc, if_neg hc]
      rfl
  · rw [l02Mul_eq ri ri]
    exact heq
theorem NormV_eq (a : V3) : impl_NormV a = spec_NormV a := by
  simp only [impl_NormV, spec_NormV, areBounded_eq, isWhole_eq, spec_IsWhole, spec_Whole, whole_eq, bounded_true]
  cases hx : spec_l04Ok a.x
  · rfl
  cases hy : spec_l04Ok a.y
  · rfl
  cases hz : spec_l04Ok a.z
  · rfl
  obtain ⟨x0, x1, x2, x3⟩ := AbsI_val hx
  obtain ⟨y0, y1, y2, y3⟩ := AbsI_val hy
  obtain ⟨z0, z1, z2, z3⟩ := AbsI_val hz
  obtain ⟨r, p1, p2, p3, p4, p5, p6, p7, p8⟩ := rootOfSquares_eq (x := (spec_AbsI a.x).lo) (y := (spec_AbsI a.y).lo) (z := (spec_AbsI a.z).lo) (by omega) (by omega) (by omega)
  obtain ⟨s, q1, q2, q3, q4, q5, q6, q7, q8⟩ := rootOfSquares_eq (x := (spec_AbsI a.x).hi) (y := (spec_AbsI a.y).hi) (z := (spec_AbsI a.z).hi) (by omega) (by omega) (by omega)
  simp only [Bool.and_self, Bool.not_true, cond_false, spec_l10Ends, x0, y0, z0, p7, q7, p1, q1, p2, q2, q6, q8]
  have mono : ∀ {u v : Int}, 0 ≤ u → u ≤ v → u * u ≤ v * v := fun h1 h2 => Int.mul_le_mul h2 h2 h1 (by omega)
  have m1 := mono x1 x2
  have m2 := mono y1 y2
  have m3 := mono z1 z2
  have hrs : r ≤ s := by
    apply Int.le_of_not_gt
    intro hgt
    have : (s + 1) * (s + 1) ≤ r * r := Int.mul_le_mul (by omega) (by omega) (by omega) (by omega)
    omega
  generalize (spec_AbsI a.x).hi * (spec_AbsI a.x).hi + (spec_AbsI a.y).hi * (spec_AbsI a.y).hi + (spec_AbsI a.z).hi * (spec_AbsI a.z).hi = S at *
  have fin : ∀ t, r ≤ t → spec_l04Make r t = (bif decide (t ≥ 1152921504606846976) then spec_l04Whole else ⟨r, t⟩) := by
    intro t ht
    by_cases hc : t ≥ 1152921504606846976
    · rw [decide_eq_true hc, cond_true]
      have : spec_l04Ok ⟨r, t⟩ = false := by
        cases hk : spec_l04Ok ⟨r, t⟩
        · rfl
        · have := (ok_iff ⟨r, t⟩).1 hk
          simp only [] at this
          omega
      simp only [spec_l04Make, this, Bool.not_false, cond_true]
    · rw [decide_eq_false hc, cond_false, make_ok (by omega)]
  by_cases hc : s * s = S
  · rw [if_pos hc, decide_eq_true hc, fin s hrs]
    rfl
  · rw [if_neg hc, decide_eq_false hc, fin (s + 1) (by omega)]
    rfl
theorem UnitV_eq (a : V3) : impl_UnitV a = spec_UnitV a := by
  simp only [impl_UnitV, spec_UnitV, dividedV_eq, NormV_eq, spec_l10Over]
theorem laws_FnExactNormV.holds (a0 : V3) (w0 : a0.In) : laws_FnExactNormV a0 = true := by
  simp only [laws_FnExactNormV, toV, NormV_eq, eqI_refl, Bool.not_true, cond_false]
theorem laws_FnExactUnitV.holds (a0 : V3) (w0 : a0.In) : laws_FnExactUnitV a0 = true := by
  simp only [laws_FnExactUnitV, toV, UnitV_eq, eqV_refl, Bool.not_true, cond_false]
end Go.G880
