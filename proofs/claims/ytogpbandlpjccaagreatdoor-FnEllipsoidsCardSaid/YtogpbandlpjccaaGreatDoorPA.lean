/- Plain lemmas: whole numbers as Go keeps them; points, ellipsoids, longitudes. -/
import Derived.Test.YtogpbandlpjccaaGreatDoorD
import Derived.Test.YtogpbandlpjccaaGreatDoorRxN
set_option linter.unusedVariables false
set_option linter.unusedSimpArgs false
namespace Go.G880
open Go Go.RX
theorem within_eq (x l h : Int) : impl_within x l h = spec_l00In x l h := rfl
theorem l00In_iff (x l h : Int) : spec_l00In x l h = true ↔ l ≤ x ∧ x ≤ h := by
 simp [spec_l00In, cond_eq_ite]
theorem inside_iff (x l h : Int) : impl_within x l h = true ↔ l ≤ x ∧ x ≤ h := by
 simp [impl_within, cond_eq_ite]
theorem ValidEllipsoid_eq (a0 : El) : impl_ValidEllipsoid a0 = spec_l12Ok a0 := by
 simp only [impl_ValidEllipsoid, spec_l12Ok, impl_within, spec_l00In]
end Go.G880
/- Plain lemmas: intervals whose ends are added and compared; spheres; places. -/
set_option linter.unusedVariables false
set_option linter.unusedSimpArgs false
namespace Go.G880
open Go Go.RX
theorem valid_ok (a : Iv) : impl_ValidInterval a = spec_l04Ok a := rfl
theorem whole_eq : impl_Whole = spec_l04Whole := rfl
theorem isWhole_eq (a : Iv) : impl_IsWhole a = !spec_l04Ok a := rfl
theorem bounded_true (lo hi : Int) : impl_bounded lo hi true = spec_l04Make lo hi := by
 simp only [impl_bounded, spec_l04Make, valid_ok, whole_eq]
 cases spec_l04Ok ⟨lo, hi⟩ <;> rfl
theorem bounded_false (lo hi : Int) : impl_bounded lo hi false = spec_l04Whole := rfl
theorem areBounded_eq (a b : Iv) : impl_areBounded a b = (spec_l04Ok a && spec_l04Ok b) := by
 simp only [impl_areBounded, valid_ok]
 cases spec_l04Ok a <;> rfl
theorem ok_iff (a : Iv) : spec_l04Ok a = true ↔ -1152921504606846976 < a.lo ∧ a.lo ≤ a.hi ∧ a.hi < 1152921504606846976 := by
 simp [spec_l04Ok, Bool.cond_eq_ite]
theorem make_ok {lo hi : Int} (h : -1152921504606846976 < lo ∧ lo ≤ hi ∧ hi < 1152921504606846976) : spec_l04Make lo hi = ⟨lo, hi⟩ := by
 simp [spec_l04Make, (ok_iff ⟨lo, hi⟩).2 h]
theorem whole_not : spec_l04Ok spec_l04Whole = false := by decide
theorem AddI_eq (a b : Iv) : impl_AddI a b = spec_AddI a b := by
 simp only [impl_AddI, spec_AddI, areBounded_eq, bounded_true, whole_eq]
 cases spec_l04Ok a <;> cases spec_l04Ok b <;> rfl
theorem NegI_ok {a : Iv} (h : spec_l04Ok a = true) : impl_NegI a = ⟨-a.hi, -a.lo⟩ := by
 have hh := (ok_iff a).1 h
 simp only [impl_NegI, isWhole_eq, h, Bool.not_true, cond_false]
 rw [w64_id (by omega) (by omega), w64_id (by omega) (by omega)]
 simp
theorem NegI_whole {a : Iv} (h : spec_l04Ok a = false) : impl_NegI a = spec_l04Whole := by
 simp only [impl_NegI, isWhole_eq, h, Bool.not_false, cond_true, whole_eq]
theorem SubI_eq (a b : Iv) : impl_SubI a b = spec_SubI a b := by
 simp only [impl_SubI]
 rw [AddI_eq]
 simp only [spec_AddI, spec_SubI]
 cases hb : spec_l04Ok b
 ·rw [NegI_whole hb, whole_not]
  cases spec_l04Ok a <;> rfl
 ·have hh := (ok_iff b).1 hb
  have hn : spec_l04Ok ⟨-b.hi, -b.lo⟩ = true := (ok_iff _).2 (by simp only []; omega)
  rw [NegI_ok hb, hn]
  simp only [Int.sub_eq_add_neg]
theorem mx_eq (x y : Int) : mxI x y = spec_l00Max x y := by
 simp only [mx_def, spec_l00Max, Bool.cond_eq_ite, decide_eq_true_eq]
 split <;> split <;> omega
theorem mn_eq (x y : Int) : mnI x y = spec_l00Min x y := by
 simp only [mn_def, spec_l00Min, Bool.cond_eq_ite, decide_eq_true_eq]
 split <;> split <;> omega
theorem MeetI_eq (a b : Iv) : impl_MeetI a b = spec_MeetI a b := by
 simp only [impl_MeetI, spec_MeetI, isWhole_eq, whole_eq, mx_eq, mn_eq]
theorem OverlapI_eq (a b : Iv) : impl_OverlapI a b = spec_OverlapI a b := by simp only [impl_OverlapI, spec_OverlapI, MeetI_eq]
theorem l11Ok_iff (p : Pt) : spec_l11Ok p = true ↔ (-900000000 ≤ p.lat ∧ p.lat ≤ 900000000) ∧ -1799999999 ≤ p.lon ∧ p.lon ≤ 1800000000 := by
 simp [spec_l11Ok, spec_l00In, Bool.cond_eq_ite]
end Go.G880
/- Plain lemmas: wide numbers, products and quotients of fixes, rounded. -/
set_option linter.unusedVariables false
set_option linter.unusedSimpArgs false
namespace Go.G880
open Go Go.RX
def W (z : Int) : Wd := ⟨w64 (z / 18446744073709551616), u64 z⟩
theorem mul64_math {x0 x1 y0 y1 : Int} (hx0 : 0 ≤ x0) (hx0' : x0 < 4294967296) (hx1 : 0 ≤ x1) (hx1' : x1 < 4294967296) (hy0 : 0 ≤ y0) (hy0' : y0 < 4294967296) (hy1 : 0 ≤ y1) (hy1' : y1 < 4294967296) :
  (0 ≤ x0 * y0 ∧ x0 * y0 ≤ 18446744065119617025) ∧ (0 ≤ x1 * y0 ∧ x1 * y0 ≤ 18446744065119617025) ∧ (0 ≤ x0 * y1 ∧ x0 * y1 ≤ 18446744065119617025) ∧ (0 ≤ x1 * y1 ∧ x1 * y1 ≤ 18446744065119617025) := by
 have key : ∀ a b : Int, 0 ≤ a → a < 4294967296 → 0 ≤ b → b < 4294967296 → 0 ≤ a * b ∧ a * b ≤ 18446744065119617025 := by
  intro a b ha ha' hb hb'
  refine ⟨Int.mul_nonneg ha hb, ?_⟩
  have h1 : a * b ≤ 4294967295 * b := Int.mul_le_mul_of_nonneg_right (by omega) hb
  omega
 exact ⟨key _ _ hx0 hx0' hy0 hy0', key _ _ hx1 hx1' hy0 hy0', key _ _ hx0 hx0' hy1 hy1', key _ _ hx1 hx1' hy1 hy1'⟩
theorem mul64_eq {x y : Int} (hx : 0 ≤ x) (hx' : x < 18446744073709551616) (hy : 0 ≤ y) (hy' : y < 18446744073709551616) :
  bits_Mul64 x y = (x * y / 18446744073709551616, x * y % 18446744073709551616) ∧ spec_l02Times x y = (x * y / 18446744073709551616, x * y % 18446744073709551616) := by
 have ex := Int.mul_ediv_add_emod x 4294967296
 have ey := Int.mul_ediv_add_emod y 4294967296
 have bx0 : 0 ≤ x % 4294967296 := by omega
 have by0 : 0 ≤ y % 4294967296 := by omega
 have hb := mul64_math (x0 := x % 4294967296) (x1 := x / 4294967296) (y0 := y % 4294967296) (y1 := y / 4294967296) (by omega) (by omega) (by omega) (by omega) (by omega) (by omega) (by omega) (by omega)
 have e : x * y = (x / 4294967296) * (y / 4294967296) * 18446744073709551616 + ((x / 4294967296) * (y % 4294967296) + (x % 4294967296) * (y / 4294967296)) * 4294967296 + (x % 4294967296) * (y % 4294967296) := by
  conv => lhs; rw [← ex, ← ey]
  simp only [Int.add_mul, Int.mul_add]
  have a1 : 4294967296 * (x / 4294967296) * (4294967296 * (y / 4294967296)) = (x / 4294967296) * (y / 4294967296) * 18446744073709551616 := by
   rw [Int.mul_assoc, Int.mul_left_comm (x / 4294967296), ← Int.mul_assoc, Int.mul_comm _ (_ * _)]
   rfl
  have a2 : 4294967296 * (x / 4294967296) * (y % 4294967296) = (x / 4294967296) * (y % 4294967296) * 4294967296 := by
   rw [Int.mul_assoc, Int.mul_comm]
  have a3 : (x % 4294967296) * (4294967296 * (y / 4294967296)) = (x % 4294967296) * (y / 4294967296) * 4294967296 := by
   rw [Int.mul_left_comm, Int.mul_comm]
  rw [a1, a2, a3]
  omega
 have eT : ∀ z : Int, 0 ≤ z → z < 18446744073709551616 → andI .u64 z 4294967295 = z % 4294967296 := fun z h h' => and32 h h'
 have fd : ∀ z : Int, Int.fdiv z 4294967296 = z / 4294967296 := fun z => fdiv_pos z (by omega)
 simp only [bits_Mul64, spec_l02Times, fd, eT x hx hx', eT y hy hy']
 have eU : ∀ z : Int, andI .u64 (u64 z) 4294967295 = z % 4294967296 := fun z => by
  rw [and32 (u64_nn z) (u64_lt z), u64_def]
  omega
 simp only [eU]
 rw [e]
 generalize (x / 4294967296) * (y / 4294967296) = p11 at *
 generalize (x / 4294967296) * (y % 4294967296) = p10 at *
 generalize (x % 4294967296) * (y / 4294967296) = p01 at *
 generalize (x % 4294967296) * (y % 4294967296) = p00 at *
 clear e ex ey eT fd eU bx0 by0 hx hx' hy hy'
 have e00 : u64 p00 = p00 := u64_id (by omega) (by omega)
 have e10 : u64 p10 = p10 := u64_id (by omega) (by omega)
 have e01 : u64 p01 = p01 := u64_id (by omega) (by omega)
 have e11 : u64 p11 = p11 := u64_id (by omega) (by omega)
 simp only [e00, e10, e01, e11]
 have et : u64 (p10 + p00 / 4294967296) = p10 + p00 / 4294967296 := u64_id (by omega) (by omega)
 simp only [et]
 have h : (p11 * 18446744073709551616 + (p10 + p01) * 4294967296 + p00) / 18446744073709551616 = p11 + (p10 + p00 / 4294967296) / 4294967296 + ((p10 + p00 / 4294967296) % 4294967296 + p01) / 4294967296 := by omega
 have h' : p11 + (p10 + p00 / 4294967296) / 4294967296 + ((p10 + p00 / 4294967296) % 4294967296 + p01) / 4294967296 ≤ 18446744073709551615 := by omega
 have e2 : u64 ((p10 + p00 / 4294967296) % 4294967296 + p01) = (p10 + p00 / 4294967296) % 4294967296 + p01 := u64_id (by omega) (by omega)
 have e3 : u64 (p01 + (p10 + p00 / 4294967296) % 4294967296) = (p10 + p00 / 4294967296) % 4294967296 + p01 := by rw [Int.add_comm]; exact e2
 have e4 : u64 (p11 + (p10 + p00 / 4294967296) / 4294967296) = p11 + (p10 + p00 / 4294967296) / 4294967296 := u64_id (by omega) (by omega)
 have e5 : u64 (p11 + (p10 + p00 / 4294967296) / 4294967296 + ((p10 + p00 / 4294967296) % 4294967296 + p01) / 4294967296) = p11 + (p10 + p00 / 4294967296) / 4294967296 + ((p10 + p00 / 4294967296) % 4294967296 + p01) / 4294967296 := u64_id (by omega) h'
 simp only [e2, e3, e4, e5, h, u64_def, and_self]
theorem xorI_not {h : Int} (h1 : -9223372036854775808 ≤ h) (h2 : h ≤ 9223372036854775807) : xorI .i64 (-1) h = -1 - h := by
 show w64 (((BitVec.ofInt 64 (-1) ^^^ BitVec.ofInt 64 h).toNat : Nat) : Int) = _
 have e : BitVec.ofInt 64 (-1) = BitVec.allOnes 64 := by decide
 rw [e, BitVec.allOnes_xor, BitVec.toNat_not, BitVec.toNat_ofInt, w64_def]
 omega
theorem minus_W (z : Int) : spec_l02Minus (W z) = W (-z) := by
 have h1 := w64_ge (z / 18446744073709551616)
 have h2 := w64_le (z / 18446744073709551616)
 simp only [spec_l02Minus, W, xorI_not h1 h2, Bool.cond_eq_ite, beq_iff_eq]
 simp only [w64_def, u64_def]
 split <;> simp only [Wd.mk.injEq] <;> omega
theorem size_eq {a : Int} (h : In64 a) : spec_l02Size a = if a < 0 then -a else a := by
 have := h
 simp only [In64] at this
 simp only [spec_l02Size, Bool.cond_eq_ite, decide_eq_true_eq, u64_def]
 split <;> omega
theorem l02Mul_eq {a b : Int} (ha : In64 a) (hb : In64 b) : spec_l02Mul a b = W (a * b) := by
 have ha' := ha
 have hb' := hb
 simp only [In64] at ha' hb'
 have h0 : 0 ≤ spec_l02Size a ∧ spec_l02Size a ≤ 9223372036854775808 := by rw [size_eq ha]; split <;> omega
 have h1 : 0 ≤ spec_l02Size b ∧ spec_l02Size b ≤ 9223372036854775808 := by rw [size_eq hb]; split <;> omega
 have hm := (mul64_eq h0.1 (by omega) h1.1 (by omega)).2
 have hW : (Wd.mk (w64 (spec_l02Size a * spec_l02Size b / 18446744073709551616)) (spec_l02Size a * spec_l02Size b % 18446744073709551616)) = W (spec_l02Size a * spec_l02Size b) := by
  simp only [W, u64_def]
 simp only [spec_l02Mul, hm, hW, minus_W]
 rw [size_eq ha, size_eq hb]
 by_cases h2 : a < 0 <;> by_cases h3 : b < 0 <;> simp [h2, h3, Int.neg_mul, Int.mul_neg]
theorem WideMul_eq {a b : Int} (ha : In64 a) (hb : In64 b) : impl_WideMul a b = W (a * b) := by
 have ha' := ha
 have hb' := hb
 simp only [In64] at ha' hb'
 have hm := (mul64_eq (u64_nn a) (u64_lt a) (u64_nn b) (u64_lt b)).1
 simp only [impl_WideMul, hm, W]
 by_cases h2 : a < 0 <;> by_cases h3 : b < 0
 ·have e1 : u64 a = a + 18446744073709551616 := by rw [u64_def]; omega
  have e2 : u64 b = b + 18446744073709551616 := by rw [u64_def]; omega
  have e : (a + 18446744073709551616) * (b + 18446744073709551616) = a * b + (a + b + 18446744073709551616) * 18446744073709551616 := by
   simp only [Int.add_mul, Int.mul_add, Int.mul_comm 18446744073709551616 b]; omega
  simp only [h2, h3, e1, e2, e, decide_true, cond_true, Wd.mk.injEq]
  simp only [w64_def, u64_def]
  generalize a * b = p at *
  omega
 ·have e1 : u64 a = a + 18446744073709551616 := by rw [u64_def]; omega
  have e2 : u64 b = b := by rw [u64_def]; omega
  have e : (a + 18446744073709551616) * b = a * b + b * 18446744073709551616 := by
   simp only [Int.add_mul, Int.mul_comm 18446744073709551616 b]
  simp only [h2, h3, e1, e2, e, decide_true, decide_false, cond_true, cond_false, Wd.mk.injEq]
  simp only [w64_def, u64_def]
  generalize a * b = p at *
  omega
 ·have e1 : u64 a = a := by rw [u64_def]; omega
  have e2 : u64 b = b + 18446744073709551616 := by rw [u64_def]; omega
  have e : a * (b + 18446744073709551616) = a * b + a * 18446744073709551616 := by
   simp only [Int.mul_add]
  simp only [h2, h3, e1, e2, e, decide_true, decide_false, cond_true, cond_false, Wd.mk.injEq]
  simp only [w64_def, u64_def]
  generalize a * b = p at *
  omega
 ·have e1 : u64 a = a := by rw [u64_def]; omega
  have e2 : u64 b = b := by rw [u64_def]; omega
  simp only [h2, h3, e1, e2, decide_false, cond_false, Wd.mk.injEq]
  simp only [w64_def, u64_def]
  simp
theorem WideOf_eq {n : Int} (h : In64 n) : impl_WideOf n = W n ∧ spec_l02Of n = W n := by
 have h' := h
 simp only [In64] at h'
 have e : n / 18446744073709551616 = if n < 0 then -1 else 0 := by split <;> omega
 constructor
 ·simp only [impl_WideOf, W, fdiv_pos n (show (0 : Int) < 9223372036854775808 by omega), e, Wd.mk.injEq]
  by_cases hn : n < 0
  ·rw [if_pos hn, w64_id (by omega) (by omega)]
   exact ⟨by omega, trivial⟩
  ·rw [if_neg hn, w64_id (by omega) (by omega)]
   exact ⟨by omega, trivial⟩
 ·simp only [spec_l02Of, W, e, Bool.cond_eq_ite, decide_eq_true_eq]
  split <;> rfl
theorem in64_w64 (n : Int) : In64 (w64 n) := by simp only [In64]; exact ⟨w64_ge n, w64_le n⟩
theorem WideInt_eq (w : Wd) : impl_WideInt w = spec_l02Int w := by
 simp only [impl_WideInt, spec_l02Int, (WideOf_eq (in64_w64 w.lo)).1, (WideOf_eq (in64_w64 w.lo)).2]
theorem WideInt_W {z : Int} (h1 : -170141183460469231731687303715884105728 ≤ z) (h2 : z < 170141183460469231731687303715884105728) :
  spec_l02Int (W z) = if -9223372036854775808 ≤ z ∧ z ≤ 9223372036854775807 then (z, true) else (0, false) := by
 have e : w64 (u64 z) = w64 z := w64_u64 z
 simp only [spec_l02Int, W, e, (WideOf_eq (in64_w64 z)).2, Bool.cond_eq_ite, Bool.not_eq_true', Bool.and_eq_false_iff, beq_eq_false_iff_ne, Ne]
 simp only [w64_def, u64_def]
 split <;> split <;> first | rfl | (simp only [Prod.mk.injEq, and_true]; omega) | omega
theorem within_not (x l h : Int) : spec_l00In x l h = decide (l ≤ x ∧ x ≤ h) := by
 apply Bool.eq_iff_iff.2
 simp [spec_l00In, Bool.cond_eq_ite]
theorem Shift32 {z : Int} (h1 : -170141183460469231731687303715884105728 ≤ z) (h2 : z < 170141183460469231731687303715884105728) : impl_WideShift (W z) 32 = W (z / 4294967296) ∧ spec_l02Shift (W z) 32 = W (z / 4294967296) := by
 have fd : ∀ z : Int, Int.fdiv z (2 ^ 32) = z / 4294967296 := fun z => fdiv_pos z (by omega)
 have hm : orI .u64 (u64 z / 4294967296) (u64 (u64 (w64 (z / 18446744073709551616)) * 2 ^ 32)) = u64 (z / 4294967296) := by
  have b0 := u64_nn z
  have b1 := u64_lt z
  have c0 := u64_nn (u64 (w64 (z / 18446744073709551616)) * 2 ^ 32)
  have c1 := u64_lt (u64 (w64 (z / 18446744073709551616)) * 2 ^ 32)
  have d : u64 (u64 (w64 (z / 18446744073709551616)) * 2 ^ 32) % 2 ^ 32 = 0 := by
   rw [u64_def]
   omega
  rw [orI_comm (by omega) (by omega) c0 c1, orI_add 32 c0 c1 d (by omega) (by omega) (by omega)]
  simp only [u64_def, w64_def]
  omega
 have hh : w64 (z / 18446744073709551616) / 4294967296 = w64 (z / 4294967296 / 18446744073709551616) := by
  simp only [w64_def]
  omega
 constructor
 ·have e1 : impl_within 32 0 127 = true := by decide
  have e2 : decide ((32 : Int) ≥ 64) = false := by decide
  have e3 : min (Int.toNat 32) 64 = 32 := by decide
  have e4 : min (Int.toNat (w64 (64 - 32))) 64 = 32 := by decide
  simp only [impl_WideShift, e1, e2, e3, e4, fd, Bool.not_true, cond_false, W, hm]
  rw [hh]
 ·have e1 : ((32 : Int) == 0) = false := by decide
  have e2 : decide ((32 : Int) < 64) = true := by decide
  have e3 : min (Int.toNat (u64 32)) 64 = 32 := by decide
  have e4 : min (Int.toNat (u64 (w64 (64 - 32)))) 64 = 32 := by decide
  simp only [spec_l02Shift, e1, e2, e3, e4, fd, cond_true, cond_false, W, hm]
  rw [hh]
theorem prod_range {a b : Int} (ha : In64 a) (hb : In64 b) : -170141183460469231731687303715884105728 ≤ a * b ∧ a * b < 170141183460469231731687303715884105728 := by
 simp only [In64] at ha hb
 have h : (a * b).natAbs ≤ 9223372036854775808 * 9223372036854775808 := by
  rw [Int.natAbs_mul]
  exact Nat.mul_le_mul (by omega) (by omega)
 omega
theorem MulFloor32 {a b : Int} (ha : In64 a) (hb : In64 b) : impl_MulFloor a b 32 = spec_MulFloor a b 32 := by
 have ⟨h1, h2⟩ := prod_range ha hb
 have e1 : impl_within 32 0 126 = true := by decide
 have e2 : spec_l00In 32 0 126 = true := by decide
 simp only [impl_MulFloor, spec_MulFloor, WideMul_eq ha hb, l02Mul_eq ha hb, (Shift32 h1 h2).1, (Shift32 h1 h2).2, WideInt_eq, e1, e2]
theorem fixed_eq (n : Int) (ok : Bool) : impl_fixed n ok = spec_l03End n ok := id rfl
theorem fixOk (n : Int) : impl_ValidFix n = spec_l03Ok n := id rfl
theorem l03Ok_iff (n : Int) : spec_l03Ok n = true ↔ -1152921504606846976 ≤ n ∧ n ≤ 1152921504606846976 := by
 simp [spec_l03Ok, spec_l00In, Bool.cond_eq_ite]
theorem in64_fix {n : Int} (h : spec_l03Ok n = true) : In64 n := by
 have := (l03Ok_iff n).1 h
 simp only [In64]
 omega
theorem end_ok {n : Int} {ok : Bool} : (spec_l03End n ok).2 = true → spec_l03Ok (spec_l03End n ok).1 = true := by
 simp only [spec_l03End]
 cases ok <;> cases h : spec_l03Ok n <;> simp [h]
theorem end_no {n : Int} {ok : Bool} : (spec_l03End n ok).2 = false → (spec_l03End n ok).1 = 0 := by
 simp only [spec_l03End]
 cases ok <;> cases h : spec_l03Ok n <;> simp [h]
theorem MulDown_eq (a b : Int) : impl_MulDown a b = spec_l03MulDown a b := by
 simp only [impl_MulDown, spec_l03MulDown, fixOk]
 cases ha : spec_l03Ok a
 ·simp only [Bool.not_false, cond_true]
 cases hb : spec_l03Ok b
 ·simp only [Bool.not_true, Bool.not_false, cond_true, cond_false]
 simp only [Bool.not_true, cond_false, MulFloor32 (in64_fix ha) (in64_fix hb), fixed_eq]
theorem MulDown_ok {a b : Int} : (spec_l03MulDown a b).2 = true → spec_l03Ok (spec_l03MulDown a b).1 = true := by
 simp only [spec_l03MulDown]
 cases spec_l03Ok a
 ·simp
 cases spec_l03Ok b
 ·simp
 exact end_ok
theorem MulDown_no {a b : Int} : (spec_l03MulDown a b).2 = false → (spec_l03MulDown a b).1 = 0 := by
 simp only [spec_l03MulDown]
 cases spec_l03Ok a
 ·simp
 cases spec_l03Ok b
 ·simp
 exact end_no
theorem neg_fix {a : Int} (h : spec_l03Ok a = true) : w64 (0 - a) = -a ∧ spec_l03Ok (-a) = true := by
 have h1 := (l03Ok_iff a).1 h
 refine ⟨by rw [w64_id (by omega) (by omega)]; omega, (l03Ok_iff _).2 (by omega)⟩
theorem MulUp_eq (a b : Int) : impl_MulUp a b = spec_l03MulUp a b := by
 simp only [impl_MulUp, spec_l03MulUp, fixOk, MulDown_eq]
 cases ha : spec_l03Ok a
 ·simp only [Bool.not_false, cond_true]
 cases hb : spec_l03Ok b
 ·have : (spec_l03MulDown (w64 (0 - a)) b).2 = false := by
   simp only [spec_l03MulDown, hb]
   cases spec_l03Ok (w64 (0 - a)) <;> rfl
  simp only [this]
  rfl
 cases h : (spec_l03MulDown (w64 (0 - a)) b).2
 ·simp only [MulDown_no h]
  rfl
 ·rfl
theorem MulUp_ok {a b : Int} : (spec_l03MulUp a b).2 = true → spec_l03Ok (spec_l03MulUp a b).1 = true := by
 simp only [spec_l03MulUp]
 cases spec_l03Ok a
 ·simp
 cases h : (spec_l03MulDown (w64 (0 - a)) b).2
 ·simp
 ·intro _
  have := neg_fix (MulDown_ok h)
  simp only [Bool.not_true, cond_false, this.1, this.2]
theorem min_first {x : Int} (h : spec_l03Ok x = true) : spec_l00Min 1152921504606846976 x = spec_l00Min x x := by
 have := (l03Ok_iff x).1 h
 simp only [spec_l00Min, Bool.cond_eq_ite, decide_eq_true_eq]
 split <;> split <;> omega
theorem max_first {x : Int} (h : spec_l03Ok x = true) : spec_l00Max (-1152921504606846976) x = spec_l00Max x x := by
 have := (l03Ok_iff x).1 h
 simp only [spec_l00Max, Bool.cond_eq_ite, decide_eq_true_eq]
 split <;> split <;> omega
theorem MulI_eq (a b : Iv) : impl_MulI a b = spec_MulI a b := by
 simp only [impl_MulI, spec_MulI, areBounded_eq, whole_eq, bounded_true, MulDown_eq, MulUp_eq, mn_eq, mx_eq]
 cases spec_l04Ok a
 ·rfl
 cases spec_l04Ok b
 ·rfl
 simp only [Bool.and_self, Bool.not_true, cond_false]
 cases h1 : (spec_l03MulDown a.lo b.lo).2
 ·rfl
 cases h2 : (spec_l03MulUp a.lo b.lo).2
 ·rfl
 simp only [min_first (MulDown_ok h1), max_first (MulUp_ok h2)]
end Go.G880
/- Plain lemmas: quotients of wide numbers. -/
set_option linter.unusedVariables false
set_option linter.unusedSimpArgs false
namespace Go.G880
open Go Go.RX
theorem bitLenAux_bounds : ∀ (f x : Nat), 0 < x → x < 2 ^ f → 2 ^ (Lib.bitLenAux f x - 1) ≤ x ∧ x < 2 ^ Lib.bitLenAux f x ∧ 1 ≤ Lib.bitLenAux f x
 | 0, x, h0, h => by simp at h; omega
 | f + 1, x, h0, h => by
  rw [Lib.bitLenAux, if_neg (by omega)]
  by_cases h2 : x / 2 = 0
  ·have : x = 1 := by omega
   subst this
   have : Lib.bitLenAux f (1 / 2) = 0 := by
    cases f
    ·rfl
    ·rfl
   rw [this]
   decide
  ·obtain ⟨a, b, c⟩ := bitLenAux_bounds f (x / 2) (by omega) (by rw [Nat.pow_succ] at h; omega)
   obtain ⟨k, hk⟩ : ∃ k, Lib.bitLenAux f (x / 2) = k + 1 := ⟨_, (Nat.sub_add_cancel c).symm⟩
   rw [hk] at a b ⊢
   have e1 : 1 + (k + 1) - 1 = k + 1 := by omega
   have e2 : 1 + (k + 1) = (k + 1) + 1 := by omega
   rw [e1, e2]
   simp only [Nat.add_sub_cancel] at a
   rw [Nat.pow_succ] at b ⊢
   refine ⟨by omega, ?_, by omega⟩
   rw [Nat.pow_succ 2 (k + 1), Nat.pow_succ]
   omega
theorem lz_eq {y : Int} (h0 : 0 < y) (h1 : y < 18446744073709551616) : ∃ k : Nat, k ≤ 63 ∧ u64 (bits_LeadingZeros64 y) = k ∧ 9223372036854775808 ≤ y * 2 ^ k ∧ y * 2 ^ k < 18446744073709551616 := by
 obtain ⟨a, b, c⟩ := bitLenAux_bounds 64 y.toNat (by omega) (by omega)
 have hle : Lib.bitLenAux 64 y.toNat ≤ 64 := Lib.bitLenAux_le 64 y.toNat 64 (by omega)
 refine ⟨64 - Lib.bitLenAux 64 y.toNat, by omega, ?_, ?_⟩
 ·simp only [bits_LeadingZeros64, bits_Len64, Lib.bitLen, w64_def, u64_def]
  omega
 ·generalize Lib.bitLenAux 64 y.toNat = n at *
  have ey : y = (y.toNat : Int) := by omega
  have p1 : 2 ^ (n - 1) * 2 ^ (64 - n) = 2 ^ 63 := by rw [← Nat.pow_add]; congr 1; omega
  have p2 : 2 ^ n * 2 ^ (64 - n) = 2 ^ 64 := by rw [← Nat.pow_add]; congr 1; omega
  have m1 : 2 ^ (n - 1) * 2 ^ (64 - n) ≤ y.toNat * 2 ^ (64 - n) := Nat.mul_le_mul_right _ a
  have m2 : y.toNat * 2 ^ (64 - n) < 2 ^ n * 2 ^ (64 - n) := Nat.mul_lt_mul_of_pos_right b (Nat.two_pow_pos _)
  have e : y * 2 ^ (64 - n) = ((y.toNat * 2 ^ (64 - n) : Nat) : Int) := by
   rw [Int.natCast_mul, ← ey]
   simp
  rw [e]
  rw [p1] at m1
  rw [p2] at m2
  omega
theorem digit_test {yn1 yn0 u1 U qh : Int} (hy : 0 < yn1 * 4294967296 + yn0) :
  (U * 4294967296 + u1) / (yn1 * 4294967296 + yn0) < qh ↔ (U - qh * yn1) * 4294967296 + u1 < qh * yn0 := by
 rw [Int.ediv_lt_iff_lt_mul hy]
 have : qh * (yn1 * 4294967296 + yn0) = qh * yn1 * 4294967296 + qh * yn0 := by rw [Int.mul_add, Int.mul_assoc]
 rw [this, Int.sub_mul]
 omega
structure Dig (yn1 yn0 u1 U qh rh : Int) : Prop where
 a1 : 2147483648 ≤ yn1
 a2 : yn1 < 4294967296
 b1 : 0 ≤ yn0
 b2 : yn0 < 4294967296
 c1 : 0 ≤ u1
 c2 : u1 < 4294967296
 d1 : 0 ≤ U
 d2 : U < yn1 * 4294967296 + yn0
 r : rh = U - qh * yn1
 r1 : 0 ≤ rh
 r2 : rh < 4294967296
 q1 : (U * 4294967296 + u1) / (yn1 * 4294967296 + yn0) ≤ qh
 q2 : qh ≤ 4294967297
theorem Dig.lt {yn1 yn0 u1 U qh rh : Int} (h : Dig yn1 yn0 u1 U qh rh) : 0 ≤ (U * 4294967296 + u1) / (yn1 * 4294967296 + yn0) ∧ (U * 4294967296 + u1) / (yn1 * 4294967296 + yn0) < 4294967296 := by
 obtain ⟨a1, a2, b1, b2, c1, c2, d1, d2, r, r1, r2, q1, q2⟩ := h
 refine ⟨Int.ediv_nonneg (by omega) (by omega), (Int.ediv_lt_iff_lt_mul (by omega)).2 ?_⟩
 have : (U + 1) * 4294967296 ≤ (yn1 * 4294967296 + yn0) * 4294967296 := Int.mul_le_mul_of_nonneg_right (by omega) (by omega)
 omega
theorem Dig.test {yn1 yn0 u1 U qh rh : Int} (h : Dig yn1 yn0 u1 U qh rh) : (qh ≥ 4294967296 ∨ u64 (qh * yn0) > u64 (u64 (4294967296 * rh) + u1)) ↔ (U * 4294967296 + u1) / (yn1 * 4294967296 + yn0) < qh := by
 have hl := h.lt
 obtain ⟨a1, a2, b1, b2, c1, c2, d1, d2, r, r1, r2, q1, q2⟩ := h
 by_cases hq : qh ≥ 4294967296
 ·exact ⟨fun _ => by omega, fun _ => Or.inl hq⟩
 ·rw [digit_test (by omega), ← r]
  have m1 : 0 ≤ qh * yn0 := Int.mul_nonneg (by omega) b1
  have m2 : qh * yn0 ≤ 4294967295 * yn0 := Int.mul_le_mul_of_nonneg_right (by omega) b1
  rw [u64_id m1 (by omega), u64_id (n := 4294967296 * rh) (by omega) (by omega), u64_id (by omega) (by omega)]
  constructor
  ·rintro (h1 | h1)
   ·exact absurd h1 hq
   ·omega
  ·intro h1
   exact Or.inr (by omega)
theorem Dig.next {yn1 yn0 u1 U qh rh : Int} (h : Dig yn1 yn0 u1 U qh rh) (ht : (U * 4294967296 + u1) / (yn1 * 4294967296 + yn0) < qh) :
  u64 (qh - 1) = qh - 1 ∧ u64 (rh + yn1) = rh + yn1 ∧ (¬ rh + yn1 ≥ 4294967296 → Dig yn1 yn0 u1 U (qh - 1) (rh + yn1)) ∧ (rh + yn1 ≥ 4294967296 → (U * 4294967296 + u1) / (yn1 * 4294967296 + yn0) = qh - 1) := by
 have hl := h.lt
 obtain ⟨a1, a2, b1, b2, c1, c2, d1, d2, r, r1, r2, q1, q2⟩ := h
 have er : rh + yn1 = U - (qh - 1) * yn1 := by rw [Int.sub_mul]; omega
 refine ⟨u64_id (by omega) (by omega), u64_id (by omega) (by omega), fun hb => ⟨a1, a2, b1, b2, c1, c2, d1, d2, er, by omega, by omega, by omega, by omega⟩, fun hb => ?_⟩
 have : ¬ (U * 4294967296 + u1) / (yn1 * 4294967296 + yn0) < qh - 1 := by
  rw [digit_test (by omega), ← er]
  have m2 : (qh - 1) * yn0 ≤ 4294967296 * yn0 := Int.mul_le_mul_of_nonneg_right (by omega) b1
  omega
 omega
theorem Dig.fin17 {y_ s_ yn1 yn0 un32 un1 un0 : Int} : ∀ (n : Nat) (qh rh : Int), Dig yn1 yn0 un1 un32 qh rh → (if rh < 2147483648 then 1 else 0) < n →
  (iterV (fun v => bits_Div64.rnd17 y_ s_ yn1 yn0 un32 un1 un0 v.1 v.2) n (qh, rh)).1 = (un32 * 4294967296 + un1) / (yn1 * 4294967296 + yn0) := by
 intro n
 induction n with
 | zero => intro qh rh _ h; omega
 | succ n ih =>
  intro qh rh h hn
  have ht := h.test
  have hl := h.r1
  have ha := h.a1
  rw [iterV]
  by_cases h1 : (un32 * 4294967296 + un1) / (yn1 * 4294967296 + yn0) < qh
  ·obtain ⟨e1, e2, h3, h4⟩ := h.next h1
   have h5 := ht.2 h1
   have step : bits_Div64.rnd17 y_ s_ yn1 yn0 un32 un1 un0 qh rh = if rh + yn1 ≥ 4294967296 then Sum.inr (qh - 1, rh + yn1) else Sum.inl (qh - 1, rh + yn1) := by
    simp only [bits_Div64.rnd17, Bool.cond_eq_ite, decide_eq_true_eq, e1, e2]
    by_cases h6 : qh ≥ 4294967296
    ·rw [if_pos h6]
    ·rw [if_neg h6, if_pos (h5.resolve_left h6)]
   simp only [step]
   by_cases h7 : rh + yn1 ≥ 4294967296
   ·rw [if_pos h7]
    exact (h4 h7).symm
   ·rw [if_neg h7]
    exact ih _ _ (h3 h7) (by split at hn <;> split <;> omega)
  ·have h5 := fun h => h1 (ht.1 h)
   have step : bits_Div64.rnd17 y_ s_ yn1 yn0 un32 un1 un0 qh rh = Sum.inr (qh, rh) := by
    simp only [bits_Div64.rnd17, Bool.cond_eq_ite, decide_eq_true_eq]
    rw [if_neg (fun h => h5 (Or.inl h)), if_neg (fun h => h5 (Or.inr h))]
   simp only [step]
   have := h.q1
   omega
theorem Dig.fin24 {y_ s_ yn1 yn0 un32 un1 un0 q1 un21 : Int} : ∀ (n : Nat) (qh rh : Int), Dig yn1 yn0 un0 un21 qh rh → (if rh < 2147483648 then 1 else 0) < n →
  (iterV (fun v => bits_Div64.rnd24 y_ s_ yn1 yn0 un32 un1 un0 q1 un21 v.1 v.2) n (rh, qh)).2 = (un21 * 4294967296 + un0) / (yn1 * 4294967296 + yn0) := by
 intro n
 induction n with
 | zero => intro qh rh _ h; omega
 | succ n ih =>
  intro qh rh h hn
  have ht := h.test
  have hl := h.r1
  have ha := h.a1
  rw [iterV]
  by_cases h1 : (un21 * 4294967296 + un0) / (yn1 * 4294967296 + yn0) < qh
  ·obtain ⟨e1, e2, h3, h4⟩ := h.next h1
   have h5 := ht.2 h1
   have step : bits_Div64.rnd24 y_ s_ yn1 yn0 un32 un1 un0 q1 un21 rh qh = if rh + yn1 ≥ 4294967296 then Sum.inr (rh + yn1, qh - 1) else Sum.inl (rh + yn1, qh - 1) := by
    simp only [bits_Div64.rnd24, Bool.cond_eq_ite, decide_eq_true_eq, e1, e2]
    by_cases h6 : qh ≥ 4294967296
    ·rw [if_pos h6]
    ·rw [if_neg h6, if_pos (h5.resolve_left h6)]
   simp only [step]
   by_cases h7 : rh + yn1 ≥ 4294967296
   ·rw [if_pos h7]
    exact (h4 h7).symm
   ·rw [if_neg h7]
    exact ih _ _ (h3 h7) (by split at hn <;> split <;> omega)
  ·have h5 := fun h => h1 (ht.1 h)
   have step : bits_Div64.rnd24 y_ s_ yn1 yn0 un32 un1 un0 q1 un21 rh qh = Sum.inr (rh, qh) := by
    simp only [bits_Div64.rnd24, Bool.cond_eq_ite, decide_eq_true_eq]
    rw [if_neg (fun h => h5 (Or.inl h)), if_neg (fun h => h5 (Or.inr h))]
   simp only [step]
   have := h.q1
   omega
theorem dig_start {yn1 yn0 u1 U : Int} (a1 : 2147483648 ≤ yn1) (a2 : yn1 < 4294967296) (b1 : 0 ≤ yn0) (b2 : yn0 < 4294967296) (c1 : 0 ≤ u1) (c2 : u1 < 4294967296) (d1 : 0 ≤ U) (d2 : U < yn1 * 4294967296 + yn0) :
  u64 (Int.tdiv U yn1) = U / yn1 ∧ u64 (U - u64 (U / yn1 * yn1)) = U % yn1 ∧ Dig yn1 yn0 u1 U (U / yn1) (U % yn1) := by
 have hq2 : U / yn1 < 4294967298 := by
  rw [Int.ediv_lt_iff_lt_mul (by omega)]
  omega
 have hq1 : 0 ≤ U / yn1 := Int.ediv_nonneg d1 (by omega)
 have e1 : u64 (Int.tdiv U yn1) = U / yn1 := by rw [tdiv_nn yn1 d1, u64_id hq1 (by omega)]
 have hm := Int.emod_add_mul_ediv U yn1
 have hc : U / yn1 * yn1 = yn1 * (U / yn1) := Int.mul_comm _ _
 have m1 := Int.emod_nonneg U (show yn1 ≠ 0 by omega)
 have m2 := Int.emod_lt_of_pos U (show 0 < yn1 by omega)
 have hp : 0 ≤ U / yn1 * yn1 := Int.mul_nonneg hq1 (by omega)
 have e2 : u64 (U / yn1 * yn1) = U / yn1 * yn1 := u64_id hp (by omega)
 refine ⟨e1, ?_, a1, a2, b1, b2, c1, c2, d1, d2, by omega, m1, by omega, ?_, by omega⟩
 ·rw [e2, u64_id (by omega) (by omega)]
  omega
 ·apply Int.le_of_not_gt
  rw [gt_iff_lt, Int.lt_iff_add_one_le]
  intro hh
  have hh' : U / yn1 < (U * 4294967296 + u1) / (yn1 * 4294967296 + yn0) := hh
  have : (U * 4294967296 + u1) / (yn1 * 4294967296 + yn0) < U / yn1 + 1 := by
   rw [digit_test (by omega)]
   have e3 : (U / yn1 + 1) * yn1 = U / yn1 * yn1 + yn1 := by rw [Int.add_mul]; omega
   have m3 : 0 ≤ (U / yn1 + 1) * yn0 := Int.mul_nonneg (by omega) b1
   rw [e3]
   omega
  omega
end Go.G880
/- Plain lemmas: bits.Div64, quotients of wide numbers, their roots. -/
set_option linter.unusedVariables false
set_option linter.unusedSimpArgs false
namespace Go.G880
open Go Go.RX
theorem orI_rng (a b : Int) : 0 ≤ orI .u64 a b ∧ orI .u64 a b < 18446744073709551616 := ⟨u64_nn _, u64_lt _⟩
theorem u64_rng (a : Int) : 0 ≤ u64 a ∧ u64 a < 18446744073709551616 := ⟨u64_nn _, u64_lt _⟩
theorem pow_pos2 (k : Nat) : (0 : Int) < 2 ^ k := by
 have : (2 : Int) ^ k = ((2 ^ k : Nat) : Int) := by simp
 have h := Nat.two_pow_pos k
 omega
theorem d64_shift {y : Int} {k : Nat} (h : u64 (bits_LeadingZeros64 y) = k) (hk : k ≤ 63) : min (Int.toNat (u64 (bits_LeadingZeros64 y))) 64 = k ∧ min (Int.toNat (u64 (64 - u64 (bits_LeadingZeros64 y)))) 64 = 64 - k := by
 rw [h]
 constructor
 ·omega
 ·rw [u64_id (by omega) (by omega)]
  omega
theorem d64_x2 {hi lo y : Int} (hpre : decide (0 ≤ hi ∧ hi < y ∧ y < 18446744073709551616 ∧ 0 ≤ lo ∧ lo < 18446744073709551616) = true) :
  2147483648 ≤ Int.fdiv (u64 (y * (2 ^ (min (Int.toNat (u64 (bits_LeadingZeros64 y))) 64)))) 4294967296 ∧ Int.fdiv (u64 (y * (2 ^ (min (Int.toNat (u64 (bits_LeadingZeros64 y))) 64)))) 4294967296 < 4294967296 := by
 simp only [decide_eq_true_eq] at hpre
 obtain ⟨k, hk, ek, m1, m2⟩ := lz_eq (y := y) (by omega) (by omega)
 rw [(d64_shift ek hk).1, u64_id (by omega) (by omega), fdiv_pos _ (by omega)]
 omega
theorem d64_x2_ne {hi lo y : Int} (hpre : decide (0 ≤ hi ∧ hi < y ∧ y < 18446744073709551616 ∧ 0 ≤ lo ∧ lo < 18446744073709551616) = true) :
  decide (Int.fdiv (u64 (y * (2 ^ (min (Int.toNat (u64 (bits_LeadingZeros64 y))) 64)))) 4294967296 = 0) = false := by
 have := d64_x2 hpre
 simp only [decide_eq_false_iff_not]
 omega
theorem d64_c {x u : Int} (hx : 2147483648 ≤ x ∧ x < 4294967296) (hu : 0 ≤ u ∧ u < 18446744073709551616) :
  decide (2147483648 ≤ x ∧ x < 4294967296 ∧ 0 ≤ u64 (u - u64 (u64 (Int.tdiv u x) * x)) ∧ u64 (u - u64 (u64 (Int.tdiv u x) * x)) < 4294967296) = true := by
 have hq : 0 ≤ u / x := Int.ediv_nonneg hu.1 (by omega)
 have hq2 : u / x ≤ u := Int.ediv_le_self _ hu.1
 have hm := Int.emod_add_mul_ediv u x
 have hc : u / x * x = x * (u / x) := Int.mul_comm _ _
 have m1 := Int.emod_nonneg u (show x ≠ 0 by omega)
 have m2 := Int.emod_lt_of_pos u (show 0 < x by omega)
 have hp : 0 ≤ u / x * x := Int.mul_nonneg hq (by omega)
 simp only [decide_eq_true_eq]
 rw [tdiv_nn x hu.1, u64_id hq (by omega), u64_id hp (by omega), u64_id (by omega) (by omega)]
 omega
theorem sub64_borrow (x y c : Int) : decide (0 ≤ (bits_Sub64 x y c).2 ∧ (bits_Sub64 x y c).2 ≤ 1) = true := by
 have h : (if x.toNat < y.toNat + c.toNat then 1 else 0 : Nat) ≤ 1 := by split <;> omega
 exact decide_eq_true (p := (0 : Int) ≤ ((if x.toNat < y.toNat + c.toNat then 1 else 0 : Nat) : Int) ∧ ((if x.toNat < y.toNat + c.toNat then 1 else 0 : Nat) : Int) ≤ 1) (by omega)
theorem Div64_eq {hi lo y : Int} (h0 : 0 ≤ hi) (h1 : hi < y) (h2 : y < 18446744073709551616) (h3 : 0 ≤ lo) (h4 : lo < 18446744073709551616) :
  bits_Div64 hi lo y = ((hi * 18446744073709551616 + lo) / y, (hi * 18446744073709551616 + lo) % y) := by
 by_cases hz : hi = 0
 ·subst hz
  have hq : 0 ≤ lo / y := Int.ediv_nonneg h3 (by omega)
  have hq2 : lo / y ≤ lo := Int.ediv_le_self _ h3
  simp only [bits_Div64, beq_self_eq_true, cond_true, Int.zero_mul, Int.zero_add]
  rw [tdiv_nn y h3, tmod_nn y h3, u64_id hq (by omega)]
 obtain ⟨k, hk, ek, m1, m2⟩ := lz_eq (y := y) (by omega) h2
 obtain ⟨p1, p2⟩ := d64_shift ek hk
 rw [ek] at p1 p2
 have hb : (hi == 0) = false := by simp [hz]
 have pk := pow_pos2 k
 have pk' := pow_pos2 (64 - k)
 have pp : (2 : Int) ^ k * 2 ^ (64 - k) = 18446744073709551616 := by
  rw [← Int.pow_add, show k + (64 - k) = 64 by omega]
  rfl
 -- the digits
 have hY : u64 (y * 2 ^ k) = y * 2 ^ k := u64_id (by omega) (by omega)
 have hhi : hi * 2 ^ k + 2 ^ k ≤ y * 2 ^ k := by
  have := Int.mul_le_mul_of_nonneg_right (show hi + 1 ≤ y by omega) (Int.le_of_lt pk)
  rw [Int.add_mul] at this
  omega
 have hhi0 : 0 ≤ hi * 2 ^ k := Int.mul_nonneg h0 (Int.le_of_lt pk)
 have hl0 : 0 ≤ lo / 2 ^ (64 - k) := Int.ediv_nonneg h3 (Int.le_of_lt pk')
 have hl1 : lo / 2 ^ (64 - k) < 2 ^ k := by
  rw [Int.ediv_lt_iff_lt_mul pk', pp]
  exact h4
 have hU : orI .u64 (u64 (hi * 2 ^ k)) (Int.fdiv lo (2 ^ (64 - k))) = hi * 2 ^ k + lo / 2 ^ (64 - k) := by
  rw [fdiv_pos _ pk', u64_id hhi0 (by omega), orI_add k hhi0 (by omega) (by simp) hl0 hl1 (by omega)]
 have hV : lo * 2 ^ k / 18446744073709551616 = lo / 2 ^ (64 - k) := by
  rw [← pp, Int.mul_comm ((2 : Int) ^ k), Int.mul_ediv_mul_of_pos_left _ _ pk]
 have hz' : (hi * 18446744073709551616 + lo) * 2 ^ k = (hi * 2 ^ k + lo / 2 ^ (64 - k)) * 18446744073709551616 + u64 (lo * 2 ^ k) := by
  rw [u64_def, ← hV, Int.add_mul, Int.mul_right_comm]
  omega
 simp only [bits_Div64, hb, cond_false, p1, p2, ek, hY, hU]
 generalize hYd : y * 2 ^ k = Y at *
 generalize hUd : hi * 2 ^ k + lo / 2 ^ (64 - k) = U at *
 have hVr := u64_rng (lo * 2 ^ k)
 generalize u64 (lo * 2 ^ k) = V at *
 have hUY : U < Y := by
  have e1 : (hi * 18446744073709551616 + lo + 1) * 2 ^ k ≤ y * 18446744073709551616 * 2 ^ k := Int.mul_le_mul_of_nonneg_right (by omega) (Int.le_of_lt pk)
  rw [Int.mul_right_comm y, hYd, Int.add_mul (_ + _) 1, hz'] at e1
  omega
 have hU0 : 0 ≤ U := by omega
 have fd : ∀ z : Int, Int.fdiv z 4294967296 = z / 4294967296 := fun z => fdiv_pos z (by omega)
 have eYa : andI .u64 Y 4294967295 = Y % 4294967296 := and32 (by omega) (by omega)
 have eVa : andI .u64 V 4294967295 = V % 4294967296 := and32 (by omega) (by omega)
 simp only [fd, eYa, eVa]
 have eY : Y / 4294967296 * 4294967296 + Y % 4294967296 = Y := by omega
 obtain ⟨s1, s2, D1⟩ := dig_start (yn1 := Y / 4294967296) (yn0 := Y % 4294967296) (u1 := V / 4294967296) (U := U) (by omega) (by omega) (by omega) (by omega) (by omega) (by omega) hU0 (by omega)
 have f17 := Dig.fin17 (y_ := Y) (s_ := (k : Int)) (un0 := V % 4294967296) 2 _ _ D1 (by split <;> omega)
 have b1 := D1.lt
 simp only [s1, s2, bits_Div64.fin17, f17]
 rw [eY] at b1 ⊢
 generalize hQ1 : (U * 4294967296 + V / 4294967296) / Y = Q1 at *
 have em1 := Int.emod_add_mul_ediv (U * 4294967296 + V / 4294967296) Y
 rw [hQ1, Int.mul_comm Y] at em1
 have r1a := Int.emod_nonneg (U * 4294967296 + V / 4294967296) (show Y ≠ 0 by omega)
 have r1b := Int.emod_lt_of_pos (U * 4294967296 + V / 4294967296) (show 0 < Y by omega)
 generalize hR1 : (U * 4294967296 + V / 4294967296) % Y = R1 at *
 have e21 : u64 (u64 (u64 (U * 4294967296) + V / 4294967296) - u64 (Q1 * Y)) = R1 := by
  simp only [u64_def]
  omega
 simp only [e21]
 obtain ⟨t1, t2, D0⟩ := dig_start (yn1 := Y / 4294967296) (yn0 := Y % 4294967296) (u1 := V % 4294967296) (U := R1) (by omega) (by omega) (by omega) (by omega) (by omega) (by omega) r1a (by omega)
 have f24 := Dig.fin24 (y_ := Y) (s_ := (k : Int)) (un32 := U) (un1 := V / 4294967296) (q1 := Q1) 2 _ _ D0 (by split <;> omega)
 have b0 := D0.lt
 simp only [t1, t2, bits_Div64.fin24, f24]
 rw [eY] at b0 ⊢
 generalize hQ0 : (R1 * 4294967296 + V % 4294967296) / Y = Q0 at *
 have em0 := Int.emod_add_mul_ediv (R1 * 4294967296 + V % 4294967296) Y
 rw [hQ0, Int.mul_comm Y] at em0
 have r0a := Int.emod_nonneg (R1 * 4294967296 + V % 4294967296) (show Y ≠ 0 by omega)
 have r0b := Int.emod_lt_of_pos (R1 * 4294967296 + V % 4294967296) (show 0 < Y by omega)
 generalize hR0 : (R1 * 4294967296 + V % 4294967296) % Y = R0 at *
 have e0 : u64 (u64 (u64 (R1 * 4294967296) + V % 4294967296) - u64 (Q0 * Y)) = R0 := by
  simp only [u64_def]
  omega
 have eq : u64 (u64 (Q1 * 4294967296) + Q0) = Q1 * 4294967296 + Q0 := by
  rw [u64_id (n := Q1 * 4294967296) (by omega) (by omega), u64_id (by omega) (by omega)]
 rw [e0, eq, fdiv_pos _ pk]
 -- the whole
 have tot : (hi * 18446744073709551616 + lo) * 2 ^ k = R0 + (Q1 * 4294967296 + Q0) * Y := by
  have e1 : (Q1 * 4294967296 + Q0) * Y = Q1 * Y * 4294967296 + Q0 * Y := by rw [Int.add_mul, Int.mul_right_comm]
  rw [hz', e1]
  omega
 have d1 : (hi * 18446744073709551616 + lo) * 2 ^ k / Y = Q1 * 4294967296 + Q0 := by
  rw [tot, Int.add_mul_ediv_right _ _ (by omega), Int.ediv_eq_zero_of_lt r0a r0b]
  omega
 have d2 : (hi * 18446744073709551616 + lo) * 2 ^ k % Y = R0 := by
  rw [tot, Int.add_mul_emod_self_right, Int.emod_eq_of_lt r0a r0b]
 rw [← hYd] at d1 d2
 rw [Int.mul_ediv_mul_of_pos_left _ _ pk] at d1
 rw [Int.mul_comm _ ((2 : Int) ^ k), Int.mul_comm y, Int.mul_emod_mul_of_pos _ _ pk] at d2
 rw [← d1, ← d2, Int.mul_ediv_cancel_left _ (by omega)]
end Go.G880
/- Plain lemmas: wide quotients and wide roots, whole. -/
set_option linter.unusedVariables false
set_option linter.unusedSimpArgs false
namespace Go.G880
open Go Go.RX
theorem two_digit (hi lo : Int) {d : Int} (hd : 0 < d) : (hi * 18446744073709551616 + lo) / d = hi / d * 18446744073709551616 + (hi % d * 18446744073709551616 + lo) / d ∧ (hi * 18446744073709551616 + lo) % d = (hi % d * 18446744073709551616 + lo) % d := by
 have e : hi * 18446744073709551616 + lo = (hi % d * 18446744073709551616 + lo) + hi / d * 18446744073709551616 * d := by
  have := Int.emod_add_mul_ediv hi d
  have e1 : hi / d * 18446744073709551616 * d = d * (hi / d) * 18446744073709551616 := by rw [Int.mul_right_comm, Int.mul_comm d]
  rw [e1]
  omega
 rw [e]
 constructor
 ·rw [Int.add_mul_ediv_right _ _ (by omega)]
  omega
 ·rw [Int.add_mul_emod_self_right]
theorem divided_eq {hi lo d : Int} (h0 : 0 ≤ hi) (h1 : hi < 18446744073709551616) (h2 : 0 ≤ lo) (h3 : lo < 18446744073709551616) (h4 : 0 < d) (h5 : d < 18446744073709551616) :
  impl_divided hi lo d = (hi / d, (hi % d * 18446744073709551616 + lo) / d, (hi % d * 18446744073709551616 + lo) % d) := by
 have hq : 0 ≤ hi / d := Int.ediv_nonneg h0 (by omega)
 have hq2 : hi / d ≤ hi := Int.ediv_le_self _ h0
 have m1 := Int.emod_nonneg hi (show d ≠ 0 by omega)
 have m2 := Int.emod_lt_of_pos hi h4
 simp only [impl_divided, tdiv_nn d h0, tmod_nn d h0, u64_id hq (show hi / d ≤ 18446744073709551615 by omega), Div64_eq m1 m2 h5 h2 h3]
theorem half_step (T : Int) (n : Nat) : T / 2 ^ n = 2 * (T / 2 ^ (n + 1)) + T / 2 ^ n % 2 := by
 have : T / 2 ^ (n + 1) = T / 2 ^ n / 2 := by
  have hp := pow_pos2 n
  rw [Int.pow_succ, Int.ediv_ediv, if_neg (by omega)]
  omega
 rw [this]
 omega
theorem low_bit (hi lo : Int) (n : Nat) (hn : n < 64) : (hi * 18446744073709551616 + lo) / 2 ^ n % 2 = lo / 2 ^ n % 2 := by
 obtain ⟨k, hk⟩ : ∃ k, 64 = n + (k + 1) := ⟨63 - n, by omega⟩
 have e : (18446744073709551616 : Int) = 2 * 2 ^ k * 2 ^ n := by
  have : (18446744073709551616 : Int) = 2 ^ (n + (k + 1)) := by rw [← hk]; rfl
  rw [this, Int.pow_add, Int.pow_succ, Int.mul_comm, Int.mul_comm (2 ^ k)]
 rw [e, ← Int.mul_assoc, Int.add_comm, Int.add_mul_ediv_right _ _ (by have := pow_pos2 n; omega)]
 have : hi * (2 * 2 ^ k) = 2 * (hi * 2 ^ k) := by rw [Int.mul_left_comm]
 rw [this]
 omega
theorem Divide_go {lo d h : Int} (h0 : 0 ≤ h) (hd : h < d) (hd2 : d < 18446744073709551616) (h2 : 0 ≤ lo) (h3 : lo < 18446744073709551616) (qhi : Int) :
  ∀ (n : Nat) (rest q : Int), n ≤ 64 → 0 ≤ rest → rest < d → 0 ≤ q → (h * 18446744073709551616 + lo) / 2 ^ n = q * d + rest →
   iterV (fun v => spec_l02Divide.rnd5 lo d v.1 v.2.1 v.2.2.1 v.2.2.2) (n + 1) (qhi, rest, q, (n : Int) - 1) = (qhi, (h * 18446744073709551616 + lo) % d, (h * 18446744073709551616 + lo) / d, -1) := by
 intro n
 induction n with
 | zero =>
  intro rest q _ r0 r1 q0 hT
  have hr : spec_l02Divide.rnd5 lo d qhi rest q (((0 : Nat) : Int) - 1) = Sum.inr (qhi, rest, q, -1) := rfl
  rw [iterV]
  simp only [hr]
  simp only [Int.pow_zero, Int.ediv_one] at hT
  rw [hT]
  have e1 : (q * d + rest) % d = rest := by rw [Int.add_comm, Int.add_mul_emod_self_right, Int.emod_eq_of_lt r0 r1]
  have e2 : (q * d + rest) / d = q := by rw [Int.add_comm, Int.add_mul_ediv_right _ _ (by omega), Int.ediv_eq_zero_of_lt r0 r1, Int.zero_add]
  rw [e1, e2]
 | succ n ih =>
  intro rest q hn r0 r1 q0 hT
  have hq63 : q < 9223372036854775808 := by
   have hT0 : 0 ≤ h * 18446744073709551616 + lo := by omega
   have e1 : q * d ≤ (h * 18446744073709551616 + lo) / 2 ^ (n + 1) := by omega
   have e2 : (h * 18446744073709551616 + lo) / 2 ^ (n + 1) ≤ (h * 18446744073709551616 + lo) / 2 := by
    have hp := pow_pos2 n
    rw [show (2 : Int) ^ (n + 1) = 2 * 2 ^ n by rw [Int.pow_succ, Int.mul_comm]]
    have := Int.ediv_ediv (x := h * 18446744073709551616 + lo) (y := 2) (z := 2 ^ n)
    rw [if_neg (by omega)] at this
    have hle := Int.ediv_le_self ((2 : Int) ^ n) (show 0 ≤ (h * 18446744073709551616 + lo) / 2 by omega)
    omega
   have e3 : q * d < 9223372036854775808 * d := by omega
   exact Int.lt_of_mul_lt_mul_right e3 (by omega)
  have hbit : andI .u64 (Int.fdiv lo (2 ^ (min (Int.toNat (u64 ((n : Int)))) 64))) 1 = lo / 2 ^ n % 2 := by
   have hp := pow_pos2 n
   have hm : min (Int.toNat (u64 ((n : Int)))) 64 = n := by rw [u64_id (by omega) (by omega)]; omega
   have l0 : 0 ≤ lo / 2 ^ n := Int.ediv_nonneg h2 (by omega)
   have l1 : lo / 2 ^ n ≤ lo := Int.ediv_le_self _ h2
   rw [hm, fdiv_pos _ hp, and1 l0 (by omega)]
  have hT' : (h * 18446744073709551616 + lo) / 2 ^ n = 2 * (q * d + rest) + lo / 2 ^ n % 2 := by
   rw [half_step, hT, low_bit h lo n (by omega)]
  have hi : ((n + 1 : Nat) : Int) - 1 = (n : Int) := by omega
  have hw : w64 ((n : Int) - 1) = (n : Int) - 1 := w64_id (by omega) (by omega)
  have hor : orI .u64 (u64 (rest * 2)) (lo / 2 ^ n % 2) = u64 (rest * 2) + lo / 2 ^ n % 2 := by
   have := u64_rng (rest * 2)
   refine orI_add 1 this.1 this.2 ?_ (by omega) (by simp; omega) (by omega)
   rw [u64_def]
   simp only [Int.pow_one]
   omega
  have hq2 : u64 (q * 2) = q * 2 := u64_id (by omega) (by omega)
  have hor1 : orI .u64 (u64 (q * 2)) 1 = q * 2 + 1 := by
   rw [hq2, orI_add 1 (by omega) (by omega) (by simp) (by omega) (by simp) (by omega)]
  have fd : Int.fdiv rest 9223372036854775808 = rest / 9223372036854775808 := fdiv_pos _ (by omega)
  have r2 : rest < 18446744073709551616 := by omega
  have hr : spec_l02Divide.rnd5 lo d qhi rest q (((n + 1 : Nat) : Int) - 1) =
    if rest * 2 + lo / 2 ^ n % 2 ≥ d then Sum.inl (qhi, rest * 2 + lo / 2 ^ n % 2 - d, q * 2 + 1, (n : Int) - 1) else Sum.inl (qhi, rest * 2 + lo / 2 ^ n % 2, q * 2, (n : Int) - 1) := by
   rw [hi]
   simp only [spec_l02Divide.rnd5, hbit, hor, hor1, hw, fd, Bool.cond_eq_ite, decide_eq_true_eq, beq_iff_eq]
   rw [if_pos (by omega : (n : Int) ≥ 0)]
   have hb : 0 ≤ lo / 2 ^ n % 2 ∧ lo / 2 ^ n % 2 ≤ 1 := by omega
   generalize lo / 2 ^ n % 2 = b at *
   by_cases ht : rest / 9223372036854775808 = 1
   ·rw [if_pos ht, if_pos (by omega)]
    have : u64 (u64 (rest * 2) + b - d) = rest * 2 + b - d := by
     simp only [u64_def]
     omega
    rw [this]
   ·rw [if_neg ht]
    have e1 : u64 (rest * 2) = rest * 2 := u64_id (by omega) (by omega)
    rw [e1, hq2]
    by_cases hge : rest * 2 + b ≥ d
    ·rw [if_pos hge, if_pos hge, u64_id (by omega) (by omega)]
    ·rw [if_neg hge, if_neg hge]
  rw [iterV]
  simp only [hr]
  have hb : 0 ≤ lo / 2 ^ n % 2 ∧ lo / 2 ^ n % 2 ≤ 1 := by omega
  by_cases hge : rest * 2 + lo / 2 ^ n % 2 ≥ d
  ·rw [if_pos hge]
   refine ih _ _ (by omega) (by omega) (by omega) (by omega) ?_
   rw [hT', Int.add_mul, Int.mul_right_comm]
   omega
  ·rw [if_neg hge]
   refine ih _ _ (by omega) (by omega) (by omega) (by omega) ?_
   rw [hT', Int.mul_right_comm]
   omega
theorem Divide_eq {hi lo d : Int} (h0 : 0 ≤ hi) (h1 : hi < 18446744073709551616) (h2 : 0 ≤ lo) (h3 : lo < 18446744073709551616) (h4 : 0 < d) (h5 : d < 18446744073709551616) :
  spec_l02Divide hi lo d = (hi / d, (hi % d * 18446744073709551616 + lo) / d, (hi % d * 18446744073709551616 + lo) % d) := by
 have hq : 0 ≤ hi / d := Int.ediv_nonneg h0 (by omega)
 have hq2 : hi / d ≤ hi := Int.ediv_le_self _ h0
 have m1 := Int.emod_nonneg hi (show d ≠ 0 by omega)
 have m2 := Int.emod_lt_of_pos hi h4
 have := Divide_go m1 m2 h5 h2 h3 (hi / d) 64 (hi % d) 0 (by omega) m1 m2 (by omega) (by
  have e : ((2 : Int) ^ 64) = 18446744073709551616 := by rfl
  rw [e, Int.zero_mul, Int.zero_add]
  omega)
 have e : (((64 : Nat) : Int) - 1) = 63 := by rfl
 rw [e] at this
 simp only [spec_l02Divide, spec_l02Divide.fin5, tdiv_nn d h0, tmod_nn d h0, u64_id hq (show hi / d ≤ 18446744073709551615 by omega), this]
theorem mk_W {hi lo : Int} (h0 : 0 ≤ lo) (h1 : lo < 18446744073709551616) : Wd.mk (w64 hi) lo = W (hi * 18446744073709551616 + lo) := by
 simp only [W, Wd.mk.injEq]
 constructor
 ·congr 1
  omega
 ·rw [u64_def]
  omega
theorem plus_W (a b : Int) : spec_l02Plus (W a) (W b) = W (a + b) := by
 show (bif decide (u64 (u64 a + u64 b) < u64 a) then Wd.mk (w64 (w64 (w64 (a / 18446744073709551616) + w64 (b / 18446744073709551616)) + 1)) (u64 (u64 a + u64 b)) else Wd.mk (w64 (w64 (a / 18446744073709551616) + w64 (b / 18446744073709551616))) (u64 (u64 a + u64 b))) = W (a + b)
 have hlo : u64 (u64 a + u64 b) = u64 (a + b) := by simp only [u64_def]; omega
 have hr := u64_rng a
 by_cases hc : u64 (u64 a + u64 b) < u64 a
 ·rw [decide_eq_true hc, cond_true]
  simp only [W, Wd.mk.injEq, hlo, and_true]
  rw [u64_def, u64_def, u64_def] at hc
  have : (a + b) / 18446744073709551616 = a / 18446744073709551616 + b / 18446744073709551616 + 1 := by omega
  rw [this]
  simp only [w64_def]
  omega
 ·rw [decide_eq_false hc, cond_false]
  simp only [W, Wd.mk.injEq, hlo, and_true]
  rw [u64_def, u64_def, u64_def] at hc
  have : (a + b) / 18446744073709551616 = a / 18446744073709551616 + b / 18446744073709551616 := by omega
  rw [this]
  simp only [w64_def]
  omega
theorem neg_W (z : Int) : impl_Wide_negative (W z) = W (-z) := by
 have h := u64_rng z
 have h' := u64_rng (w64 (z / 18446744073709551616))
 have e1 : bits_Sub64 0 (u64 z) 0 = (u64 (-z), if 0 < u64 z then 1 else 0) := by
  simp only [bits_Sub64, Prod.mk.injEq]
  refine ⟨?_, ?_⟩
  ·simp only [u64_def] at *
   omega
  ·split <;> split <;> simp at * <;> omega
 have e2 : ∀ c : Int, c = 0 ∨ c = 1 → (bits_Sub64 0 (u64 (w64 (z / 18446744073709551616))) c).1 = (18446744073709551616 - u64 (w64 (z / 18446744073709551616)) - c) % 18446744073709551616 := by
  intro c hc
  simp only [bits_Sub64]
  rcases hc with rfl | rfl <;> omega
 simp only [impl_Wide_negative, W, e1]
 rw [e2 _ (by split <;> omega)]
 simp only [Wd.mk.injEq, and_true]
 simp only [w64_def, u64_def]
 split <;> omega
end Go.G880
