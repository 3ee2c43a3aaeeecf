/- Plain lemmas: whole numbers as Go keeps them; points, ellipsoids, longitudes. -/
import Derived.Test.YtogpbandlpjccaaD
import Derived.Test.YtogpbandlpjccaaRxN
set_option linter.unusedVariables false
set_option linter.unusedSimpArgs false
namespace Go.G880
open Go Go.RX
theorem qiA (x l h : Int) : qbI x l h = qbT x l h := rfl
theorem qdS (x l h : Int) : qbT x l h = true ↔ l ≤ x ∧ x ≤ h := by
 simp [qbT, cond_eq_ite]
theorem qfB (x l h : Int) : qbI x l h = true ↔ l ≤ x ∧ x ≤ h := by
 simp [qbI, cond_eq_ite]
end Go.G880
/- Plain lemmas: intervals whose ends are added and compared; spheres; places. -/
set_option linter.unusedVariables false
set_option linter.unusedSimpArgs false
namespace Go.G880
open Go Go.RX
theorem valid_ok (a : Iv) : qa0 a = qaF a := rfl
theorem qgI : qaS = qaZ := rfl
theorem qd1 (a : Iv) : qaO a = !qaF a := rfl
theorem qgN (lo hi : Int) : qb6 lo hi true = qb4 lo hi := by
 simp only [qb6, qb4, valid_ok, qgI]
 cases qaF ⟨lo, hi⟩ <;> rfl
theorem qg9 (a b : Iv) : qbX a b = (qaF a && qaF b) := by
 simp only [qbX, valid_ok]
 cases qaF a <;> rfl
theorem qcM (a : Iv) : qaF a = true ↔ -1152921504606846976 < a.lo ∧ a.lo ≤ a.hi ∧ a.hi < 1152921504606846976 := by
 simp [qaF, Bool.cond_eq_ite]
theorem qg6 {lo hi : Int} (h : -1152921504606846976 < lo ∧ lo ≤ hi ∧ hi < 1152921504606846976) : qb4 lo hi = ⟨lo, hi⟩ := by
 simp [qb4, (qcM ⟨lo, hi⟩).2 h]
theorem qb5 : qaF qaZ = false := by decide
theorem AddI_eq (a b : Iv) : qbV a b = qdZ a b := by
 simp only [qbV, qdZ, qg9, qgN, qgI]
 cases qaF a <;> cases qaF b <;> rfl
theorem NegI_ok {a : Iv} (h : qaF a = true) : qd0 a = ⟨-a.hi, -a.lo⟩ := by
 have hh := (qcM a).1 h
 simp only [qd0, qd1, h, Bool.not_true, cond_false]
 rw [qc2 (by omega) (by omega), qc2 (by omega) (by omega)]
 simp
theorem NegI_whole {a : Iv} (h : qaF a = false) : qd0 a = qaZ := by
 simp only [qd0, qd1, h, Bool.not_false, cond_true, qgI]
theorem SubI_eq (a b : Iv) : qcG a b = qcZ a b := by
 simp only [qcG]
 rw [AddI_eq]
 simp only [qdZ, qcZ]
 cases hb : qaF b
 ·rw [NegI_whole hb, qb5]
  cases qaF a <;> rfl
 ·have hh := (qcM b).1 hb
  have hn : qaF ⟨-b.hi, -b.lo⟩ = true := (qcM _).2 (by simp only []; omega)
  rw [NegI_ok hb, hn]
  simp only [Int.sub_eq_add_neg]
theorem mx_eq (x y : Int) : mxI x y = qbC x y := by
 simp only [mx_def, qbC, Bool.cond_eq_ite, decide_eq_true_eq]
 split <;> split <;> omega
theorem mn_eq (x y : Int) : mnI x y = qa5 x y := by
 simp only [mn_def, qa5, Bool.cond_eq_ite, decide_eq_true_eq]
 split <;> split <;> omega
theorem MeetI_eq (a b : Iv) : qdA a b = qcQ a b := by
 simp only [qdA, qcQ, qd1, qgI, mx_eq, mn_eq]
end Go.G880
/- Plain lemmas: wide numbers, products and quotients of fixes, rounded. -/
set_option linter.unusedVariables false
set_option linter.unusedSimpArgs false
namespace Go.G880
open Go Go.RX
def W (z : Int) : Wd := ⟨w64 (z / 18446744073709551616), u64 z⟩
theorem mul64_math {x0 x1 y0 y1 : Int} (hx0 : 0 ≤ x0) (hx0' : x0 < 4294967296) (hx1 : 0 ≤ x1) (hx1' : x1 < 4294967296) (hy0 : 0 ≤ y0) (hy0' : y0 < 4294967296) (hy1 : 0 ≤ y1) (hy1' : y1 < 4294967296) :
  (0 ≤ x0 * y0 ∧ x0 * y0 ≤ 18446744065119617025) ∧ (0 ≤ x1 * y0 ∧ x1 * y0 ≤ 18446744065119617025) ∧ (0 ≤ x0 * y1 ∧ x0 * y1 ≤ 18446744065119617025) ∧ (0 ≤ x1 * y1 ∧ x1 * y1 ≤ 18446744065119617025) := by
 have key : ∀ a b : Int, 0 ≤ a → a < 4294967296 → 0 ≤ b → b < 4294967296 → 0 ≤ a * b ∧ a * b ≤ 18446744065119617025 := by
  intro a b ha ha' hb hb'
  refine ⟨Int.mul_nonneg ha hb, ?_⟩
  have h1 : a * b ≤ 4294967295 * b := Int.mul_le_mul_of_nonneg_right (by omega) hb
  omega
 exact ⟨key _ _ hx0 hx0' hy0 hy0', key _ _ hx1 hx1' hy0 hy0', key _ _ hx0 hx0' hy1 hy1', key _ _ hx1 hx1' hy1 hy1'⟩
theorem mul64_eq {x y : Int} (hx : 0 ≤ x) (hx' : x < 18446744073709551616) (hy : 0 ≤ y) (hy' : y < 18446744073709551616) :
  qdY x y = (x * y / 18446744073709551616, x * y % 18446744073709551616) ∧ qgZ x y = (x * y / 18446744073709551616, x * y % 18446744073709551616) := by
 have ex := Int.mul_ediv_add_emod x 4294967296
 have ey := Int.mul_ediv_add_emod y 4294967296
 have bx0 : 0 ≤ x % 4294967296 := by omega
 have by0 : 0 ≤ y % 4294967296 := by omega
 have hb := mul64_math (x0 := x % 4294967296) (x1 := x / 4294967296) (y0 := y % 4294967296) (y1 := y / 4294967296) (by omega) (by omega) (by omega) (by omega) (by omega) (by omega) (by omega) (by omega)
 have e : x * y = (x / 4294967296) * (y / 4294967296) * 18446744073709551616 + ((x / 4294967296) * (y % 4294967296) + (x % 4294967296) * (y / 4294967296)) * 4294967296 + (x % 4294967296) * (y % 4294967296) := by
  conv => lhs; rw [← ex, ← ey]
  simp only [Int.add_mul, Int.mul_add]
  have a1 : 4294967296 * (x / 4294967296) * (4294967296 * (y / 4294967296)) = (x / 4294967296) * (y / 4294967296) * 18446744073709551616 := by
   rw [Int.mul_assoc, Int.mul_left_comm (x / 4294967296), ← Int.mul_assoc, Int.mul_comm _ (_ * _)]
   rfl
  have a2 : 4294967296 * (x / 4294967296) * (y % 4294967296) = (x / 4294967296) * (y % 4294967296) * 4294967296 := by
   rw [Int.mul_assoc, Int.mul_comm]
  have a3 : (x % 4294967296) * (4294967296 * (y / 4294967296)) = (x % 4294967296) * (y / 4294967296) * 4294967296 := by
   rw [Int.mul_left_comm, Int.mul_comm]
  rw [a1, a2, a3]
  omega
 have eT : ∀ z : Int, 0 ≤ z → z < 18446744073709551616 → andI .u64 z 4294967295 = z % 4294967296 := fun z h h' => and32 h h'
 have fd : ∀ z : Int, Int.fdiv z 4294967296 = z / 4294967296 := fun z => qe6 z (by omega)
 simp only [qdY, qgZ, fd, eT x hx hx', eT y hy hy']
 have eU : ∀ z : Int, andI .u64 (u64 z) 4294967295 = z % 4294967296 := fun z => by
  rw [and32 (u64_nn z) (u64_lt z), qcE]
  omega
 simp only [eU]
 rw [e]
 generalize (x / 4294967296) * (y / 4294967296) = p11 at *
 generalize (x / 4294967296) * (y % 4294967296) = p10 at *
 generalize (x % 4294967296) * (y / 4294967296) = p01 at *
 generalize (x % 4294967296) * (y % 4294967296) = p00 at *
 clear e ex ey eT fd eU bx0 by0 hx hx' hy hy'
 have e00 : u64 p00 = p00 := qdP (by omega) (by omega)
 have e10 : u64 p10 = p10 := qdP (by omega) (by omega)
 have e01 : u64 p01 = p01 := qdP (by omega) (by omega)
 have e11 : u64 p11 = p11 := qdP (by omega) (by omega)
 simp only [e00, e10, e01, e11]
 have et : u64 (p10 + p00 / 4294967296) = p10 + p00 / 4294967296 := qdP (by omega) (by omega)
 simp only [et]
 have h : (p11 * 18446744073709551616 + (p10 + p01) * 4294967296 + p00) / 18446744073709551616 = p11 + (p10 + p00 / 4294967296) / 4294967296 + ((p10 + p00 / 4294967296) % 4294967296 + p01) / 4294967296 := by omega
 have h' : p11 + (p10 + p00 / 4294967296) / 4294967296 + ((p10 + p00 / 4294967296) % 4294967296 + p01) / 4294967296 ≤ 18446744073709551615 := by omega
 have e2 : u64 ((p10 + p00 / 4294967296) % 4294967296 + p01) = (p10 + p00 / 4294967296) % 4294967296 + p01 := qdP (by omega) (by omega)
 have e3 : u64 (p01 + (p10 + p00 / 4294967296) % 4294967296) = (p10 + p00 / 4294967296) % 4294967296 + p01 := by rw [Int.add_comm]; exact e2
 have e4 : u64 (p11 + (p10 + p00 / 4294967296) / 4294967296) = p11 + (p10 + p00 / 4294967296) / 4294967296 := qdP (by omega) (by omega)
 have e5 : u64 (p11 + (p10 + p00 / 4294967296) / 4294967296 + ((p10 + p00 / 4294967296) % 4294967296 + p01) / 4294967296) = p11 + (p10 + p00 / 4294967296) / 4294967296 + ((p10 + p00 / 4294967296) % 4294967296 + p01) / 4294967296 := qdP (by omega) h'
 simp only [e2, e3, e4, e5, h, qcE, and_self]
theorem xorI_not {h : Int} (h1 : -9223372036854775808 ≤ h) (h2 : h ≤ 9223372036854775807) : xorI .i64 (-1) h = -1 - h := by
 show w64 (((BitVec.ofInt 64 (-1) ^^^ BitVec.ofInt 64 h).toNat : Nat) : Int) = _
 have e : BitVec.ofInt 64 (-1) = BitVec.allOnes 64 := by decide
 rw [e, BitVec.allOnes_xor, BitVec.toNat_not, BitVec.toNat_ofInt, qdI]
 omega
theorem minus_W (z : Int) : qfO (W z) = W (-z) := by
 have h1 := w64_ge (z / 18446744073709551616)
 have h2 := w64_le (z / 18446744073709551616)
 simp only [qfO, W, xorI_not h1 h2, Bool.cond_eq_ite, beq_iff_eq]
 simp only [qdI, qcE]
 split <;> simp only [Wd.mk.injEq] <;> omega
theorem size_eq {a : Int} (h : In64 a) : qdG a = if a < 0 then -a else a := by
 have := h
 simp only [In64] at this
 simp only [qdG, Bool.cond_eq_ite, decide_eq_true_eq, qcE]
 split <;> omega
theorem qgV {a b : Int} (ha : In64 a) (hb : In64 b) : qg1 a b = W (a * b) := by
 have ha' := ha
 have hb' := hb
 simp only [In64] at ha' hb'
 have h0 : 0 ≤ qdG a ∧ qdG a ≤ 9223372036854775808 := by rw [size_eq ha]; split <;> omega
 have h1 : 0 ≤ qdG b ∧ qdG b ≤ 9223372036854775808 := by rw [size_eq hb]; split <;> omega
 have hm := (mul64_eq h0.1 (by omega) h1.1 (by omega)).2
 have hW : (Wd.mk (w64 (qdG a * qdG b / 18446744073709551616)) (qdG a * qdG b % 18446744073709551616)) = W (qdG a * qdG b) := by
  simp only [W, qcE]
 simp only [qg1, hm, hW, minus_W]
 rw [size_eq ha, size_eq hb]
 by_cases h2 : a < 0 <;> by_cases h3 : b < 0 <;> simp [h2, h3, Int.neg_mul, Int.mul_neg]
theorem WideMul_eq {a b : Int} (ha : In64 a) (hb : In64 b) : qcD a b = W (a * b) := by
 have ha' := ha
 have hb' := hb
 simp only [In64] at ha' hb'
 have hm := (mul64_eq (u64_nn a) (u64_lt a) (u64_nn b) (u64_lt b)).1
 simp only [qcD, hm, W]
 by_cases h2 : a < 0 <;> by_cases h3 : b < 0
 ·have e1 : u64 a = a + 18446744073709551616 := by rw [qcE]; omega
  have e2 : u64 b = b + 18446744073709551616 := by rw [qcE]; omega
  have e : (a + 18446744073709551616) * (b + 18446744073709551616) = a * b + (a + b + 18446744073709551616) * 18446744073709551616 := by
   simp only [Int.add_mul, Int.mul_add, Int.mul_comm 18446744073709551616 b]; omega
  simp only [h2, h3, e1, e2, e, decide_true, cond_true, Wd.mk.injEq]
  simp only [qdI, qcE]
  generalize a * b = p at *
  omega
 ·have e1 : u64 a = a + 18446744073709551616 := by rw [qcE]; omega
  have e2 : u64 b = b := by rw [qcE]; omega
  have e : (a + 18446744073709551616) * b = a * b + b * 18446744073709551616 := by
   simp only [Int.add_mul, Int.mul_comm 18446744073709551616 b]
  simp only [h2, h3, e1, e2, e, decide_true, decide_false, cond_true, cond_false, Wd.mk.injEq]
  simp only [qdI, qcE]
  generalize a * b = p at *
  omega
 ·have e1 : u64 a = a := by rw [qcE]; omega
  have e2 : u64 b = b + 18446744073709551616 := by rw [qcE]; omega
  have e : a * (b + 18446744073709551616) = a * b + a * 18446744073709551616 := by
   simp only [Int.mul_add]
  simp only [h2, h3, e1, e2, e, decide_true, decide_false, cond_true, cond_false, Wd.mk.injEq]
  simp only [qdI, qcE]
  generalize a * b = p at *
  omega
 ·have e1 : u64 a = a := by rw [qcE]; omega
  have e2 : u64 b = b := by rw [qcE]; omega
  simp only [h2, h3, e1, e2, decide_false, cond_false, Wd.mk.injEq]
  simp only [qdI, qcE]
  simp
theorem qiV {n : Int} (h : In64 n) : qdK n = W n ∧ qgS n = W n := by
 have h' := h
 simp only [In64] at h'
 have e : n / 18446744073709551616 = if n < 0 then -1 else 0 := by split <;> omega
 constructor
 ·simp only [qdK, W, qe6 n (show (0 : Int) < 9223372036854775808 by omega), e, Wd.mk.injEq]
  by_cases hn : n < 0
  ·rw [if_pos hn, qc2 (by omega) (by omega)]
   exact ⟨by omega, trivial⟩
  ·rw [if_neg hn, qc2 (by omega) (by omega)]
   exact ⟨by omega, trivial⟩
 ·simp only [qgS, W, e, Bool.cond_eq_ite, decide_eq_true_eq]
  split <;> rfl
theorem in64_w64 (n : Int) : In64 (w64 n) := by simp only [In64]; exact ⟨w64_ge n, w64_le n⟩
theorem WideInt_eq (w : Wd) : qcT w = qfU w := by
 simp only [qcT, qfU, (qiV (in64_w64 w.lo)).1, (qiV (in64_w64 w.lo)).2]
theorem qiW {z : Int} (h1 : -170141183460469231731687303715884105728 ≤ z) (h2 : z < 170141183460469231731687303715884105728) :
  qfU (W z) = if -9223372036854775808 ≤ z ∧ z ≤ 9223372036854775807 then (z, true) else (0, false) := by
 have e : w64 (u64 z) = w64 z := w64_u64 z
 simp only [qfU, W, e, (qiV (in64_w64 z)).2, Bool.cond_eq_ite, Bool.not_eq_true', Bool.and_eq_false_iff, beq_eq_false_iff_ne, Ne]
 simp only [qdI, qcE]
 split <;> split <;> first | rfl | (simp only [Prod.mk.injEq, and_true]; omega) | omega
theorem within_not (x l h : Int) : qbT x l h = decide (l ≤ x ∧ x ≤ h) := by
 apply Bool.eq_iff_iff.2
 simp [qbT, Bool.cond_eq_ite]
theorem Shift32 {z : Int} (h1 : -170141183460469231731687303715884105728 ≤ z) (h2 : z < 170141183460469231731687303715884105728) : qcP (W z) 32 = W (z / 4294967296) ∧ qg0 (W z) 32 = W (z / 4294967296) := by
 have fd : ∀ z : Int, Int.fdiv z (2 ^ 32) = z / 4294967296 := fun z => qe6 z (by omega)
 have hm : orI .u64 (u64 z / 4294967296) (u64 (u64 (w64 (z / 18446744073709551616)) * 2 ^ 32)) = u64 (z / 4294967296) := by
  have b0 := u64_nn z
  have b1 := u64_lt z
  have c0 := u64_nn (u64 (w64 (z / 18446744073709551616)) * 2 ^ 32)
  have c1 := u64_lt (u64 (w64 (z / 18446744073709551616)) * 2 ^ 32)
  have d : u64 (u64 (w64 (z / 18446744073709551616)) * 2 ^ 32) % 2 ^ 32 = 0 := by
   rw [qcE]
   omega
  rw [orI_comm (by omega) (by omega) c0 c1, orI_add 32 c0 c1 d (by omega) (by omega) (by omega)]
  simp only [qcE, qdI]
  omega
 have hh : w64 (z / 18446744073709551616) / 4294967296 = w64 (z / 4294967296 / 18446744073709551616) := by
  simp only [qdI]
  omega
 constructor
 ·have e1 : qbI 32 0 127 = true := by decide
  have e2 : decide ((32 : Int) ≥ 64) = false := by decide
  have e3 : min (Int.toNat 32) 64 = 32 := by decide
  have e4 : min (Int.toNat (w64 (64 - 32))) 64 = 32 := by decide
  simp only [qcP, e1, e2, e3, e4, fd, Bool.not_true, cond_false, W, hm]
  rw [hh]
 ·have e1 : ((32 : Int) == 0) = false := by decide
  have e2 : decide ((32 : Int) < 64) = true := by decide
  have e3 : min (Int.toNat (u64 32)) 64 = 32 := by decide
  have e4 : min (Int.toNat (u64 (w64 (64 - 32)))) 64 = 32 := by decide
  simp only [qg0, e1, e2, e3, e4, fd, cond_true, cond_false, W, hm]
  rw [hh]
theorem qgT {a b : Int} (ha : In64 a) (hb : In64 b) : -170141183460469231731687303715884105728 ≤ a * b ∧ a * b < 170141183460469231731687303715884105728 := by
 simp only [In64] at ha hb
 have h : (a * b).natAbs ≤ 9223372036854775808 * 9223372036854775808 := by
  rw [Int.natAbs_mul]
  exact Nat.mul_le_mul (by omega) (by omega)
 omega
theorem MulFloor32 {a b : Int} (ha : In64 a) (hb : In64 b) : qc1 a b 32 = qeS a b 32 := by
 have ⟨h1, h2⟩ := qgT ha hb
 have e1 : qbI 32 0 126 = true := by decide
 have e2 : qbT 32 0 126 = true := by decide
 simp only [qc1, qeS, WideMul_eq ha hb, qgV ha hb, (Shift32 h1 h2).1, (Shift32 h1 h2).2, WideInt_eq, e1, e2]
theorem fixed_eq (n : Int) (ok : Bool) : qdC n ok = qdE n ok := id rfl
theorem fixOk (n : Int) : qbF n = qa2 n := id rfl
theorem qeF (n : Int) : qa2 n = true ↔ -1152921504606846976 ≤ n ∧ n ≤ 1152921504606846976 := by
 simp [qa2, qbT, Bool.cond_eq_ite]
theorem qeG {n : Int} (h : qa2 n = true) : In64 n := by
 have := (qeF n).1 h
 simp only [In64]
 omega
theorem end_ok {n : Int} {ok : Bool} : (qdE n ok).2 = true → qa2 (qdE n ok).1 = true := by
 simp only [qdE]
 cases ok <;> cases h : qa2 n <;> simp [h]
theorem end_no {n : Int} {ok : Bool} : (qdE n ok).2 = false → (qdE n ok).1 = 0 := by
 simp only [qdE]
 cases ok <;> cases h : qa2 n <;> simp [h]
theorem MulDown_eq (a b : Int) : qb7 a b = qa4 a b := by
 simp only [qb7, qa4, fixOk]
 cases ha : qa2 a
 ·simp only [Bool.not_false, cond_true]
 cases hb : qa2 b
 ·simp only [Bool.not_true, Bool.not_false, cond_true, cond_false]
 simp only [Bool.not_true, cond_false, MulFloor32 (qeG ha) (qeG hb), fixed_eq]
theorem qh0 {a b : Int} : (qa4 a b).2 = true → qa2 (qa4 a b).1 = true := by
 simp only [qa4]
 cases qa2 a
 ·simp
 cases qa2 b
 ·simp
 exact end_ok
theorem MulDown_no {a b : Int} : (qa4 a b).2 = false → (qa4 a b).1 = 0 := by
 simp only [qa4]
 cases qa2 a
 ·simp
 cases qa2 b
 ·simp
 exact end_no
theorem qfJ {a : Int} (h : qa2 a = true) : w64 (0 - a) = -a ∧ qa2 (-a) = true := by
 have h1 := (qeF a).1 h
 refine ⟨by rw [qc2 (by omega) (by omega)]; omega, (qeF _).2 (by omega)⟩
theorem MulUp_eq (a b : Int) : qc5 a b = qbU a b := by
 simp only [qc5, qbU, fixOk, MulDown_eq]
 cases ha : qa2 a
 ·simp only [Bool.not_false, cond_true]
 cases hb : qa2 b
 ·have : (qa4 (w64 (0 - a)) b).2 = false := by
   simp only [qa4, hb]
   cases qa2 (w64 (0 - a)) <;> rfl
  simp only [this]
  rfl
 cases h : (qa4 (w64 (0 - a)) b).2
 ·simp only [MulDown_no h]
  rfl
 ·rfl
theorem MulUp_ok {a b : Int} : (qbU a b).2 = true → qa2 (qbU a b).1 = true := by
 simp only [qbU]
 cases qa2 a
 ·simp
 cases h : (qa4 (w64 (0 - a)) b).2
 ·simp
 ·intro _
  have := qfJ (qh0 h)
  simp only [Bool.not_true, cond_false, this.1, this.2]
theorem min_first {x : Int} (h : qa2 x = true) : qa5 1152921504606846976 x = qa5 x x := by
 have := (qeF x).1 h
 simp only [qa5, Bool.cond_eq_ite, decide_eq_true_eq]
 split <;> split <;> omega
theorem max_first {x : Int} (h : qa2 x = true) : qbC (-1152921504606846976) x = qbC x x := by
 have := (qeF x).1 h
 simp only [qbC, Bool.cond_eq_ite, decide_eq_true_eq]
 split <;> split <;> omega
theorem MulI_eq (a b : Iv) : qbJ a b = qdQ a b := by
 simp only [qbJ, qdQ, qg9, qgI, qgN, MulDown_eq, MulUp_eq, mn_eq, mx_eq]
 cases qaF a
 ·rfl
 cases qaF b
 ·rfl
 simp only [Bool.and_self, Bool.not_true, cond_false]
 cases h1 : (qa4 a.lo b.lo).2
 ·rfl
 cases h2 : (qbU a.lo b.lo).2
 ·rfl
 simp only [min_first (qh0 h1), max_first (MulUp_ok h2)]
end Go.G880
/- Plain lemmas: quotients of wide numbers. -/
set_option linter.unusedVariables false
set_option linter.unusedSimpArgs false
namespace Go.G880
open Go Go.RX
theorem qhA : ∀ (f x : Nat), 0 < x → x < 2 ^ f → 2 ^ (Lib.bitLenAux f x - 1) ≤ x ∧ x < 2 ^ Lib.bitLenAux f x ∧ 1 ≤ Lib.bitLenAux f x
 | 0, x, h0, h => by simp at h; omega
 | f + 1, x, h0, h => by
  rw [Lib.bitLenAux, if_neg (by omega)]
  by_cases h2 : x / 2 = 0
  ·have : x = 1 := by omega
   subst this
   have : Lib.bitLenAux f (1 / 2) = 0 := by
    cases f
    ·rfl
    ·rfl
   rw [this]
   decide
  ·obtain ⟨a, b, c⟩ := qhA f (x / 2) (by omega) (by rw [Nat.pow_succ] at h; omega)
   obtain ⟨k, hk⟩ : ∃ k, Lib.bitLenAux f (x / 2) = k + 1 := ⟨_, (Nat.sub_add_cancel c).symm⟩
   rw [hk] at a b ⊢
   have e1 : 1 + (k + 1) - 1 = k + 1 := by omega
   have e2 : 1 + (k + 1) = (k + 1) + 1 := by omega
   rw [e1, e2]
   simp only [Nat.add_sub_cancel] at a
   rw [Nat.pow_succ] at b ⊢
   refine ⟨by omega, ?_, by omega⟩
   rw [Nat.pow_succ 2 (k + 1), Nat.pow_succ]
   omega
theorem lz_eq {y : Int} (h0 : 0 < y) (h1 : y < 18446744073709551616) : ∃ k : Nat, k ≤ 63 ∧ u64 (qaW y) = k ∧ 9223372036854775808 ≤ y * 2 ^ k ∧ y * 2 ^ k < 18446744073709551616 := by
 obtain ⟨a, b, c⟩ := qhA 64 y.toNat (by omega) (by omega)
 have hle : Lib.bitLenAux 64 y.toNat ≤ 64 := Lib.bitLenAux_le 64 y.toNat 64 (by omega)
 refine ⟨64 - Lib.bitLenAux 64 y.toNat, by omega, ?_, ?_⟩
 ·simp only [qaW, bits_Len64, Lib.bitLen, qdI, qcE]
  omega
 ·generalize Lib.bitLenAux 64 y.toNat = n at *
  have ey : y = (y.toNat : Int) := by omega
  have p1 : 2 ^ (n - 1) * 2 ^ (64 - n) = 2 ^ 63 := by rw [← Nat.pow_add]; congr 1; omega
  have p2 : 2 ^ n * 2 ^ (64 - n) = 2 ^ 64 := by rw [← Nat.pow_add]; congr 1; omega
  have m1 : 2 ^ (n - 1) * 2 ^ (64 - n) ≤ y.toNat * 2 ^ (64 - n) := Nat.mul_le_mul_right _ a
  have m2 : y.toNat * 2 ^ (64 - n) < 2 ^ n * 2 ^ (64 - n) := Nat.mul_lt_mul_of_pos_right b (Nat.two_pow_pos _)
  have e : y * 2 ^ (64 - n) = ((y.toNat * 2 ^ (64 - n) : Nat) : Int) := by
   rw [Int.natCast_mul, ← ey]
   simp
  rw [e]
  rw [p1] at m1
  rw [p2] at m2
  omega
theorem digit_test {yn1 yn0 u1 U qh : Int} (hy : 0 < yn1 * 4294967296 + yn0) :
  (U * 4294967296 + u1) / (yn1 * 4294967296 + yn0) < qh ↔ (U - qh * yn1) * 4294967296 + u1 < qh * yn0 := by
 rw [Int.ediv_lt_iff_lt_mul hy]
 have : qh * (yn1 * 4294967296 + yn0) = qh * yn1 * 4294967296 + qh * yn0 := by rw [Int.mul_add, Int.mul_assoc]
 rw [this, Int.sub_mul]
 omega
structure Dig (yn1 yn0 u1 U qh rh : Int) : Prop where
 a1 : 2147483648 ≤ yn1
 a2 : yn1 < 4294967296
 b1 : 0 ≤ yn0
 b2 : yn0 < 4294967296
 c1 : 0 ≤ u1
 c2 : u1 < 4294967296
 d1 : 0 ≤ U
 d2 : U < yn1 * 4294967296 + yn0
 r : rh = U - qh * yn1
 r1 : 0 ≤ rh
 r2 : rh < 4294967296
 q1 : (U * 4294967296 + u1) / (yn1 * 4294967296 + yn0) ≤ qh
 q2 : qh ≤ 4294967297
theorem Dig.lt {yn1 yn0 u1 U qh rh : Int} (h : Dig yn1 yn0 u1 U qh rh) : 0 ≤ (U * 4294967296 + u1) / (yn1 * 4294967296 + yn0) ∧ (U * 4294967296 + u1) / (yn1 * 4294967296 + yn0) < 4294967296 := by
 obtain ⟨a1, a2, b1, b2, c1, c2, d1, d2, r, r1, r2, q1, q2⟩ := h
 refine ⟨Int.ediv_nonneg (by omega) (by omega), (Int.ediv_lt_iff_lt_mul (by omega)).2 ?_⟩
 have : (U + 1) * 4294967296 ≤ (yn1 * 4294967296 + yn0) * 4294967296 := Int.mul_le_mul_of_nonneg_right (by omega) (by omega)
 omega
theorem Dig.test {yn1 yn0 u1 U qh rh : Int} (h : Dig yn1 yn0 u1 U qh rh) : (qh ≥ 4294967296 ∨ u64 (qh * yn0) > u64 (u64 (4294967296 * rh) + u1)) ↔ (U * 4294967296 + u1) / (yn1 * 4294967296 + yn0) < qh := by
 have hl := h.lt
 obtain ⟨a1, a2, b1, b2, c1, c2, d1, d2, r, r1, r2, q1, q2⟩ := h
 by_cases hq : qh ≥ 4294967296
 ·exact ⟨fun _ => by omega, fun _ => Or.inl hq⟩
 ·rw [digit_test (by omega), ← r]
  have m1 : 0 ≤ qh * yn0 := Int.mul_nonneg (by omega) b1
  have m2 : qh * yn0 ≤ 4294967295 * yn0 := Int.mul_le_mul_of_nonneg_right (by omega) b1
  rw [qdP m1 (by omega), qdP (n := 4294967296 * rh) (by omega) (by omega), qdP (by omega) (by omega)]
  constructor
  ·rintro (h1 | h1)
   ·exact absurd h1 hq
   ·omega
  ·intro h1
   exact Or.inr (by omega)
theorem Dig.next {yn1 yn0 u1 U qh rh : Int} (h : Dig yn1 yn0 u1 U qh rh) (ht : (U * 4294967296 + u1) / (yn1 * 4294967296 + yn0) < qh) :
  u64 (qh - 1) = qh - 1 ∧ u64 (rh + yn1) = rh + yn1 ∧ (¬ rh + yn1 ≥ 4294967296 → Dig yn1 yn0 u1 U (qh - 1) (rh + yn1)) ∧ (rh + yn1 ≥ 4294967296 → (U * 4294967296 + u1) / (yn1 * 4294967296 + yn0) = qh - 1) := by
 have hl := h.lt
 obtain ⟨a1, a2, b1, b2, c1, c2, d1, d2, r, r1, r2, q1, q2⟩ := h
 have er : rh + yn1 = U - (qh - 1) * yn1 := by rw [Int.sub_mul]; omega
 refine ⟨qdP (by omega) (by omega), qdP (by omega) (by omega), fun hb => ⟨a1, a2, b1, b2, c1, c2, d1, d2, er, by omega, by omega, by omega, by omega⟩, fun hb => ?_⟩
 have : ¬ (U * 4294967296 + u1) / (yn1 * 4294967296 + yn0) < qh - 1 := by
  rw [digit_test (by omega), ← er]
  have m2 : (qh - 1) * yn0 ≤ 4294967296 * yn0 := Int.mul_le_mul_of_nonneg_right (by omega) b1
  omega
 omega
theorem Dig.fin17 {y_ s_ yn1 yn0 un32 un1 un0 : Int} : ∀ (n : Nat) (qh rh : Int), Dig yn1 yn0 un1 un32 qh rh → (if rh < 2147483648 then 1 else 0) < n →
  (qd5 (fun v => qaK.rnd17 y_ s_ yn1 yn0 un32 un1 un0 v.1 v.2) n (qh, rh)).1 = (un32 * 4294967296 + un1) / (yn1 * 4294967296 + yn0) := by
 intro n
 induction n with
 | zero => intro qh rh _ h; omega
 | succ n ih =>
  intro qh rh h hn
  have ht := h.test
  have hl := h.r1
  have ha := h.a1
  rw [qd5]
  by_cases h1 : (un32 * 4294967296 + un1) / (yn1 * 4294967296 + yn0) < qh
  ·obtain ⟨e1, e2, h3, h4⟩ := h.next h1
   have h5 := ht.2 h1
   have step : qaK.rnd17 y_ s_ yn1 yn0 un32 un1 un0 qh rh = if rh + yn1 ≥ 4294967296 then Sum.inr (qh - 1, rh + yn1) else Sum.inl (qh - 1, rh + yn1) := by
    simp only [qaK.rnd17, Bool.cond_eq_ite, decide_eq_true_eq, e1, e2]
    by_cases h6 : qh ≥ 4294967296
    ·rw [if_pos h6]
    ·rw [if_neg h6, if_pos (h5.resolve_left h6)]
   simp only [step]
   by_cases h7 : rh + yn1 ≥ 4294967296
   ·rw [if_pos h7]
    exact (h4 h7).symm
   ·rw [if_neg h7]
    exact ih _ _ (h3 h7) (by split at hn <;> split <;> omega)
  ·have h5 := fun h => h1 (ht.1 h)
   have step : qaK.rnd17 y_ s_ yn1 yn0 un32 un1 un0 qh rh = Sum.inr (qh, rh) := by
    simp only [qaK.rnd17, Bool.cond_eq_ite, decide_eq_true_eq]
    rw [if_neg (fun h => h5 (Or.inl h)), if_neg (fun h => h5 (Or.inr h))]
   simp only [step]
   have := h.q1
   omega
theorem Dig.fin24 {y_ s_ yn1 yn0 un32 un1 un0 q1 un21 : Int} : ∀ (n : Nat) (qh rh : Int), Dig yn1 yn0 un0 un21 qh rh → (if rh < 2147483648 then 1 else 0) < n →
  (qd5 (fun v => qaK.rnd24 y_ s_ yn1 yn0 un32 un1 un0 q1 un21 v.1 v.2) n (rh, qh)).2 = (un21 * 4294967296 + un0) / (yn1 * 4294967296 + yn0) := by
 intro n
 induction n with
 | zero => intro qh rh _ h; omega
 | succ n ih =>
  intro qh rh h hn
  have ht := h.test
  have hl := h.r1
  have ha := h.a1
  rw [qd5]
  by_cases h1 : (un21 * 4294967296 + un0) / (yn1 * 4294967296 + yn0) < qh
  ·obtain ⟨e1, e2, h3, h4⟩ := h.next h1
   have h5 := ht.2 h1
   have step : qaK.rnd24 y_ s_ yn1 yn0 un32 un1 un0 q1 un21 rh qh = if rh + yn1 ≥ 4294967296 then Sum.inr (rh + yn1, qh - 1) else Sum.inl (rh + yn1, qh - 1) := by
    simp only [qaK.rnd24, Bool.cond_eq_ite, decide_eq_true_eq, e1, e2]
    by_cases h6 : qh ≥ 4294967296
    ·rw [if_pos h6]
    ·rw [if_neg h6, if_pos (h5.resolve_left h6)]
   simp only [step]
   by_cases h7 : rh + yn1 ≥ 4294967296
   ·rw [if_pos h7]
    exact (h4 h7).symm
   ·rw [if_neg h7]
    exact ih _ _ (h3 h7) (by split at hn <;> split <;> omega)
  ·have h5 := fun h => h1 (ht.1 h)
   have step : qaK.rnd24 y_ s_ yn1 yn0 un32 un1 un0 q1 un21 rh qh = Sum.inr (rh, qh) := by
    simp only [qaK.rnd24, Bool.cond_eq_ite, decide_eq_true_eq]
    rw [if_neg (fun h => h5 (Or.inl h)), if_neg (fun h => h5 (Or.inr h))]
   simp only [step]
   have := h.q1
   omega
theorem dig_start {yn1 yn0 u1 U : Int} (a1 : 2147483648 ≤ yn1) (a2 : yn1 < 4294967296) (b1 : 0 ≤ yn0) (b2 : yn0 < 4294967296) (c1 : 0 ≤ u1) (c2 : u1 < 4294967296) (d1 : 0 ≤ U) (d2 : U < yn1 * 4294967296 + yn0) :
  u64 (Int.tdiv U yn1) = U / yn1 ∧ u64 (U - u64 (U / yn1 * yn1)) = U % yn1 ∧ Dig yn1 yn0 u1 U (U / yn1) (U % yn1) := by
 have hq2 : U / yn1 < 4294967298 := by
  rw [Int.ediv_lt_iff_lt_mul (by omega)]
  omega
 have hq1 : 0 ≤ U / yn1 := Int.ediv_nonneg d1 (by omega)
 have e1 : u64 (Int.tdiv U yn1) = U / yn1 := by rw [tdiv_nn yn1 d1, qdP hq1 (by omega)]
 have hm := Int.emod_add_mul_ediv U yn1
 have hc : U / yn1 * yn1 = yn1 * (U / yn1) := Int.mul_comm _ _
 have m1 := Int.emod_nonneg U (show yn1 ≠ 0 by omega)
 have m2 := Int.emod_lt_of_pos U (show 0 < yn1 by omega)
 have hp : 0 ≤ U / yn1 * yn1 := Int.mul_nonneg hq1 (by omega)
 have e2 : u64 (U / yn1 * yn1) = U / yn1 * yn1 := qdP hp (by omega)
 refine ⟨e1, ?_, a1, a2, b1, b2, c1, c2, d1, d2, by omega, m1, by omega, ?_, by omega⟩
 ·rw [e2, qdP (by omega) (by omega)]
  omega
 ·apply Int.le_of_not_gt
  rw [gt_iff_lt, Int.lt_iff_add_one_le]
  intro hh
  have hh' : U / yn1 < (U * 4294967296 + u1) / (yn1 * 4294967296 + yn0) := hh
  have : (U * 4294967296 + u1) / (yn1 * 4294967296 + yn0) < U / yn1 + 1 := by
   rw [digit_test (by omega)]
   have e3 : (U / yn1 + 1) * yn1 = U / yn1 * yn1 + yn1 := by rw [Int.add_mul]; omega
   have m3 : 0 ≤ (U / yn1 + 1) * yn0 := Int.mul_nonneg (by omega) b1
   rw [e3]
   omega
  omega
end Go.G880
/- Plain lemmas: bits.Div64, quotients of wide numbers, their roots. -/
set_option linter.unusedVariables false
set_option linter.unusedSimpArgs false
namespace Go.G880
open Go Go.RX
theorem qfQ (a b : Int) : 0 ≤ orI .u64 a b ∧ orI .u64 a b < 18446744073709551616 := ⟨u64_nn _, u64_lt _⟩
theorem qeE (a : Int) : 0 ≤ u64 a ∧ u64 a < 18446744073709551616 := ⟨u64_nn _, u64_lt _⟩
theorem qhT (k : Nat) : (0 : Int) < 2 ^ k := by
 have : (2 : Int) ^ k = ((2 ^ k : Nat) : Int) := by simp
 have h := Nat.two_pow_pos k
 omega
theorem d64_shift {y : Int} {k : Nat} (h : u64 (qaW y) = k) (hk : k ≤ 63) : min (Int.toNat (u64 (qaW y))) 64 = k ∧ min (Int.toNat (u64 (64 - u64 (qaW y)))) 64 = 64 - k := by
 rw [h]
 constructor
 ·omega
 ·rw [qdP (by omega) (by omega)]
  omega
theorem qeI {hi lo y : Int} (hpre : decide (0 ≤ hi ∧ hi < y ∧ y < 18446744073709551616 ∧ 0 ≤ lo ∧ lo < 18446744073709551616) = true) :
  2147483648 ≤ Int.fdiv (u64 (y * (2 ^ (min (Int.toNat (u64 (qaW y))) 64)))) 4294967296 ∧ Int.fdiv (u64 (y * (2 ^ (min (Int.toNat (u64 (qaW y))) 64)))) 4294967296 < 4294967296 := by
 simp only [decide_eq_true_eq] at hpre
 obtain ⟨k, hk, ek, m1, m2⟩ := lz_eq (y := y) (by omega) (by omega)
 rw [(d64_shift ek hk).1, qdP (by omega) (by omega), qe6 _ (by omega)]
 omega
theorem qeH {hi lo y : Int} (hpre : decide (0 ≤ hi ∧ hi < y ∧ y < 18446744073709551616 ∧ 0 ≤ lo ∧ lo < 18446744073709551616) = true) :
  decide (Int.fdiv (u64 (y * (2 ^ (min (Int.toNat (u64 (qaW y))) 64)))) 4294967296 = 0) = false := by
 have := qeI hpre
 simp only [decide_eq_false_iff_not]
 omega
theorem qfT {x u : Int} (hx : 2147483648 ≤ x ∧ x < 4294967296) (hu : 0 ≤ u ∧ u < 18446744073709551616) :
  decide (2147483648 ≤ x ∧ x < 4294967296 ∧ 0 ≤ u64 (u - u64 (u64 (Int.tdiv u x) * x)) ∧ u64 (u - u64 (u64 (Int.tdiv u x) * x)) < 4294967296) = true := by
 have hq : 0 ≤ u / x := Int.ediv_nonneg hu.1 (by omega)
 have hq2 : u / x ≤ u := Int.ediv_le_self _ hu.1
 have hm := Int.emod_add_mul_ediv u x
 have hc : u / x * x = x * (u / x) := Int.mul_comm _ _
 have m1 := Int.emod_nonneg u (show x ≠ 0 by omega)
 have m2 := Int.emod_lt_of_pos u (show 0 < x by omega)
 have hp : 0 ≤ u / x * x := Int.mul_nonneg hq (by omega)
 simp only [decide_eq_true_eq]
 rw [tdiv_nn x hu.1, qdP hq (by omega), qdP hp (by omega), qdP (by omega) (by omega)]
 omega
theorem sub64_borrow (x y c : Int) : decide (0 ≤ (qdN x y c).2 ∧ (qdN x y c).2 ≤ 1) = true := by
 have h : (if x.toNat < y.toNat + c.toNat then 1 else 0 : Nat) ≤ 1 := by split <;> omega
 exact decide_eq_true (p := (0 : Int) ≤ ((if x.toNat < y.toNat + c.toNat then 1 else 0 : Nat) : Int) ∧ ((if x.toNat < y.toNat + c.toNat then 1 else 0 : Nat) : Int) ≤ 1) (by omega)
theorem Div64_eq {hi lo y : Int} (h0 : 0 ≤ hi) (h1 : hi < y) (h2 : y < 18446744073709551616) (h3 : 0 ≤ lo) (h4 : lo < 18446744073709551616) :
  qaK hi lo y = ((hi * 18446744073709551616 + lo) / y, (hi * 18446744073709551616 + lo) % y) := by
 by_cases hz : hi = 0
 ·subst hz
  have hq : 0 ≤ lo / y := Int.ediv_nonneg h3 (by omega)
  have hq2 : lo / y ≤ lo := Int.ediv_le_self _ h3
  simp only [qaK, beq_self_eq_true, cond_true, Int.zero_mul, Int.zero_add]
  rw [tdiv_nn y h3, tmod_nn y h3, qdP hq (by omega)]
 obtain ⟨k, hk, ek, m1, m2⟩ := lz_eq (y := y) (by omega) h2
 obtain ⟨p1, p2⟩ := d64_shift ek hk
 rw [ek] at p1 p2
 have hb : (hi == 0) = false := by simp [hz]
 have pk := qhT k
 have pk' := qhT (64 - k)
 have pp : (2 : Int) ^ k * 2 ^ (64 - k) = 18446744073709551616 := by
  rw [← Int.pow_add, show k + (64 - k) = 64 by omega]
  rfl
 -- the digits
 have hY : u64 (y * 2 ^ k) = y * 2 ^ k := qdP (by omega) (by omega)
 have hhi : hi * 2 ^ k + 2 ^ k ≤ y * 2 ^ k := by
  have := Int.mul_le_mul_of_nonneg_right (show hi + 1 ≤ y by omega) (Int.le_of_lt pk)
  rw [Int.add_mul] at this
  omega
 have hhi0 : 0 ≤ hi * 2 ^ k := Int.mul_nonneg h0 (Int.le_of_lt pk)
 have hl0 : 0 ≤ lo / 2 ^ (64 - k) := Int.ediv_nonneg h3 (Int.le_of_lt pk')
 have hl1 : lo / 2 ^ (64 - k) < 2 ^ k := by
  rw [Int.ediv_lt_iff_lt_mul pk', pp]
  exact h4
 have hU : orI .u64 (u64 (hi * 2 ^ k)) (Int.fdiv lo (2 ^ (64 - k))) = hi * 2 ^ k + lo / 2 ^ (64 - k) := by
  rw [qe6 _ pk', qdP hhi0 (by omega), orI_add k hhi0 (by omega) (by simp) hl0 hl1 (by omega)]
 have hV : lo * 2 ^ k / 18446744073709551616 = lo / 2 ^ (64 - k) := by
  rw [← pp, Int.mul_comm ((2 : Int) ^ k), Int.mul_ediv_mul_of_pos_left _ _ pk]
 have hz' : (hi * 18446744073709551616 + lo) * 2 ^ k = (hi * 2 ^ k + lo / 2 ^ (64 - k)) * 18446744073709551616 + u64 (lo * 2 ^ k) := by
  rw [qcE, ← hV, Int.add_mul, Int.mul_right_comm]
  omega
 simp only [qaK, hb, cond_false, p1, p2, ek, hY, hU]
 generalize hYd : y * 2 ^ k = Y at *
 generalize hUd : hi * 2 ^ k + lo / 2 ^ (64 - k) = U at *
 have hVr := qeE (lo * 2 ^ k)
 generalize u64 (lo * 2 ^ k) = V at *
 have hUY : U < Y := by
  have e1 : (hi * 18446744073709551616 + lo + 1) * 2 ^ k ≤ y * 18446744073709551616 * 2 ^ k := Int.mul_le_mul_of_nonneg_right (by omega) (Int.le_of_lt pk)
  rw [Int.mul_right_comm y, hYd, Int.add_mul (_ + _) 1, hz'] at e1
  omega
 have hU0 : 0 ≤ U := by omega
 have fd : ∀ z : Int, Int.fdiv z 4294967296 = z / 4294967296 := fun z => qe6 z (by omega)
 have eYa : andI .u64 Y 4294967295 = Y % 4294967296 := and32 (by omega) (by omega)
 have eVa : andI .u64 V 4294967295 = V % 4294967296 := and32 (by omega) (by omega)
 simp only [fd, eYa, eVa]
 have eY : Y / 4294967296 * 4294967296 + Y % 4294967296 = Y := by omega
 obtain ⟨s1, s2, D1⟩ := dig_start (yn1 := Y / 4294967296) (yn0 := Y % 4294967296) (u1 := V / 4294967296) (U := U) (by omega) (by omega) (by omega) (by omega) (by omega) (by omega) hU0 (by omega)
 have f17 := Dig.fin17 (y_ := Y) (s_ := (k : Int)) (un0 := V % 4294967296) 2 _ _ D1 (by split <;> omega)
 have b1 := D1.lt
 simp only [s1, s2, qaK.fin17, f17]
 rw [eY] at b1 ⊢
 generalize hQ1 : (U * 4294967296 + V / 4294967296) / Y = Q1 at *
 have em1 := Int.emod_add_mul_ediv (U * 4294967296 + V / 4294967296) Y
 rw [hQ1, Int.mul_comm Y] at em1
 have r1a := Int.emod_nonneg (U * 4294967296 + V / 4294967296) (show Y ≠ 0 by omega)
 have r1b := Int.emod_lt_of_pos (U * 4294967296 + V / 4294967296) (show 0 < Y by omega)
 generalize hR1 : (U * 4294967296 + V / 4294967296) % Y = R1 at *
 have e21 : u64 (u64 (u64 (U * 4294967296) + V / 4294967296) - u64 (Q1 * Y)) = R1 := by
  simp only [qcE]
  omega
 simp only [e21]
 obtain ⟨t1, t2, D0⟩ := dig_start (yn1 := Y / 4294967296) (yn0 := Y % 4294967296) (u1 := V % 4294967296) (U := R1) (by omega) (by omega) (by omega) (by omega) (by omega) (by omega) r1a (by omega)
 have f24 := Dig.fin24 (y_ := Y) (s_ := (k : Int)) (un32 := U) (un1 := V / 4294967296) (q1 := Q1) 2 _ _ D0 (by split <;> omega)
 have b0 := D0.lt
 simp only [t1, t2, qaK.fin24, f24]
 rw [eY] at b0 ⊢
 generalize hQ0 : (R1 * 4294967296 + V % 4294967296) / Y = Q0 at *
 have em0 := Int.emod_add_mul_ediv (R1 * 4294967296 + V % 4294967296) Y
 rw [hQ0, Int.mul_comm Y] at em0
 have r0a := Int.emod_nonneg (R1 * 4294967296 + V % 4294967296) (show Y ≠ 0 by omega)
 have r0b := Int.emod_lt_of_pos (R1 * 4294967296 + V % 4294967296) (show 0 < Y by omega)
 generalize hR0 : (R1 * 4294967296 + V % 4294967296) % Y = R0 at *
 have e0 : u64 (u64 (u64 (R1 * 4294967296) + V % 4294967296) - u64 (Q0 * Y)) = R0 := by
  simp only [qcE]
  omega
 have eq : u64 (u64 (Q1 * 4294967296) + Q0) = Q1 * 4294967296 + Q0 := by
  rw [qdP (n := Q1 * 4294967296) (by omega) (by omega), qdP (by omega) (by omega)]
 rw [e0, eq, qe6 _ pk]
 -- the whole
 have tot : (hi * 18446744073709551616 + lo) * 2 ^ k = R0 + (Q1 * 4294967296 + Q0) * Y := by
  have e1 : (Q1 * 4294967296 + Q0) * Y = Q1 * Y * 4294967296 + Q0 * Y := by rw [Int.add_mul, Int.mul_right_comm]
  rw [hz', e1]
  omega
 have d1 : (hi * 18446744073709551616 + lo) * 2 ^ k / Y = Q1 * 4294967296 + Q0 := by
  rw [tot, Int.add_mul_ediv_right _ _ (by omega), Int.ediv_eq_zero_of_lt r0a r0b]
  omega
 have d2 : (hi * 18446744073709551616 + lo) * 2 ^ k % Y = R0 := by
  rw [tot, Int.add_mul_emod_self_right, Int.emod_eq_of_lt r0a r0b]
 rw [← hYd] at d1 d2
 rw [Int.mul_ediv_mul_of_pos_left _ _ pk] at d1
 rw [Int.mul_comm _ ((2 : Int) ^ k), Int.mul_comm y, Int.mul_emod_mul_of_pos _ _ pk] at d2
 rw [← d1, ← d2, Int.mul_ediv_cancel_left _ (by omega)]
end Go.G880
/- Plain lemmas: wide quotients and wide roots, whole. -/
set_option linter.unusedVariables false
set_option linter.unusedSimpArgs false
namespace Go.G880
open Go Go.RX
theorem two_digit (hi lo : Int) {d : Int} (hd : 0 < d) : (hi * 18446744073709551616 + lo) / d = hi / d * 18446744073709551616 + (hi % d * 18446744073709551616 + lo) / d ∧ (hi * 18446744073709551616 + lo) % d = (hi % d * 18446744073709551616 + lo) % d := by
 have e : hi * 18446744073709551616 + lo = (hi % d * 18446744073709551616 + lo) + hi / d * 18446744073709551616 * d := by
  have := Int.emod_add_mul_ediv hi d
  have e1 : hi / d * 18446744073709551616 * d = d * (hi / d) * 18446744073709551616 := by rw [Int.mul_right_comm, Int.mul_comm d]
  rw [e1]
  omega
 rw [e]
 constructor
 ·rw [Int.add_mul_ediv_right _ _ (by omega)]
  omega
 ·rw [Int.add_mul_emod_self_right]
theorem divided_eq {hi lo d : Int} (h0 : 0 ≤ hi) (h1 : hi < 18446744073709551616) (h2 : 0 ≤ lo) (h3 : lo < 18446744073709551616) (h4 : 0 < d) (h5 : d < 18446744073709551616) :
  qcS hi lo d = (hi / d, (hi % d * 18446744073709551616 + lo) / d, (hi % d * 18446744073709551616 + lo) % d) := by
 have hq : 0 ≤ hi / d := Int.ediv_nonneg h0 (by omega)
 have hq2 : hi / d ≤ hi := Int.ediv_le_self _ h0
 have m1 := Int.emod_nonneg hi (show d ≠ 0 by omega)
 have m2 := Int.emod_lt_of_pos hi h4
 simp only [qcS, tdiv_nn d h0, tmod_nn d h0, qdP hq (show hi / d ≤ 18446744073709551615 by omega), Div64_eq m1 m2 h5 h2 h3]
theorem half_step (T : Int) (n : Nat) : T / 2 ^ n = 2 * (T / 2 ^ (n + 1)) + T / 2 ^ n % 2 := by
 have : T / 2 ^ (n + 1) = T / 2 ^ n / 2 := by
  have hp := qhT n
  rw [Int.pow_succ, Int.ediv_ediv, if_neg (by omega)]
  omega
 rw [this]
 omega
theorem low_bit (hi lo : Int) (n : Nat) (hn : n < 64) : (hi * 18446744073709551616 + lo) / 2 ^ n % 2 = lo / 2 ^ n % 2 := by
 obtain ⟨k, hk⟩ : ∃ k, 64 = n + (k + 1) := ⟨63 - n, by omega⟩
 have e : (18446744073709551616 : Int) = 2 * 2 ^ k * 2 ^ n := by
  have : (18446744073709551616 : Int) = 2 ^ (n + (k + 1)) := by rw [← hk]; rfl
  rw [this, Int.pow_add, Int.pow_succ, Int.mul_comm, Int.mul_comm (2 ^ k)]
 rw [e, ← Int.mul_assoc, Int.add_comm, Int.add_mul_ediv_right _ _ (by have := qhT n; omega)]
 have : hi * (2 * 2 ^ k) = 2 * (hi * 2 ^ k) := by rw [Int.mul_left_comm]
 rw [this]
 omega
theorem Divide_go {lo d h : Int} (h0 : 0 ≤ h) (hd : h < d) (hd2 : d < 18446744073709551616) (h2 : 0 ≤ lo) (h3 : lo < 18446744073709551616) (qhi : Int) :
  ∀ (n : Nat) (rest q : Int), n ≤ 64 → 0 ≤ rest → rest < d → 0 ≤ q → (h * 18446744073709551616 + lo) / 2 ^ n = q * d + rest →
   qd5 (fun v => qcO.rnd5 lo d v.1 v.2.1 v.2.2.1 v.2.2.2) (n + 1) (qhi, rest, q, (n : Int) - 1) = (qhi, (h * 18446744073709551616 + lo) % d, (h * 18446744073709551616 + lo) / d, -1) := by
 intro n
 induction n with
 | zero =>
  intro rest q _ r0 r1 q0 hT
  have hr : qcO.rnd5 lo d qhi rest q (((0 : Nat) : Int) - 1) = Sum.inr (qhi, rest, q, -1) := rfl
  rw [qd5]
  simp only [hr]
  simp only [Int.pow_zero, Int.ediv_one] at hT
  rw [hT]
  have e1 : (q * d + rest) % d = rest := by rw [Int.add_comm, Int.add_mul_emod_self_right, Int.emod_eq_of_lt r0 r1]
  have e2 : (q * d + rest) / d = q := by rw [Int.add_comm, Int.add_mul_ediv_right _ _ (by omega), Int.ediv_eq_zero_of_lt r0 r1, Int.zero_add]
  rw [e1, e2]
 | succ n ih =>
  intro rest q hn r0 r1 q0 hT
  have hq63 : q < 9223372036854775808 := by
   have hT0 : 0 ≤ h * 18446744073709551616 + lo := by omega
   have e1 : q * d ≤ (h * 18446744073709551616 + lo) / 2 ^ (n + 1) := by omega
   have e2 : (h * 18446744073709551616 + lo) / 2 ^ (n + 1) ≤ (h * 18446744073709551616 + lo) / 2 := by
    have hp := qhT n
    rw [show (2 : Int) ^ (n + 1) = 2 * 2 ^ n by rw [Int.pow_succ, Int.mul_comm]]
    have := Int.ediv_ediv (x := h * 18446744073709551616 + lo) (y := 2) (z := 2 ^ n)
    rw [if_neg (by omega)] at this
    have hle := Int.ediv_le_self ((2 : Int) ^ n) (show 0 ≤ (h * 18446744073709551616 + lo) / 2 by omega)
    omega
   have e3 : q * d < 9223372036854775808 * d := by omega
   exact Int.lt_of_mul_lt_mul_right e3 (by omega)
  have hbit : andI .u64 (Int.fdiv lo (2 ^ (min (Int.toNat (u64 ((n : Int)))) 64))) 1 = lo / 2 ^ n % 2 := by
   have hp := qhT n
   have hm : min (Int.toNat (u64 ((n : Int)))) 64 = n := by rw [qdP (by omega) (by omega)]; omega
   have l0 : 0 ≤ lo / 2 ^ n := Int.ediv_nonneg h2 (by omega)
   have l1 : lo / 2 ^ n ≤ lo := Int.ediv_le_self _ h2
   rw [hm, qe6 _ hp, and1 l0 (by omega)]
  have hT' : (h * 18446744073709551616 + lo) / 2 ^ n = 2 * (q * d + rest) + lo / 2 ^ n % 2 := by
   rw [half_step, hT, low_bit h lo n (by omega)]
  have hi : ((n + 1 : Nat) : Int) - 1 = (n : Int) := by omega
  have hw : w64 ((n : Int) - 1) = (n : Int) - 1 := qc2 (by omega) (by omega)
  have hor : orI .u64 (u64 (rest * 2)) (lo / 2 ^ n % 2) = u64 (rest * 2) + lo / 2 ^ n % 2 := by
   have := qeE (rest * 2)
   refine orI_add 1 this.1 this.2 ?_ (by omega) (by simp; omega) (by omega)
   rw [qcE]
   simp only [Int.pow_one]
   omega
  have hq2 : u64 (q * 2) = q * 2 := qdP (by omega) (by omega)
  have hor1 : orI .u64 (u64 (q * 2)) 1 = q * 2 + 1 := by
   rw [hq2, orI_add 1 (by omega) (by omega) (by simp) (by omega) (by simp) (by omega)]
  have fd : Int.fdiv rest 9223372036854775808 = rest / 9223372036854775808 := qe6 _ (by omega)
  have r2 : rest < 18446744073709551616 := by omega
  have hr : qcO.rnd5 lo d qhi rest q (((n + 1 : Nat) : Int) - 1) =
    if rest * 2 + lo / 2 ^ n % 2 ≥ d then Sum.inl (qhi, rest * 2 + lo / 2 ^ n % 2 - d, q * 2 + 1, (n : Int) - 1) else Sum.inl (qhi, rest * 2 + lo / 2 ^ n % 2, q * 2, (n : Int) - 1) := by
   rw [hi]
   simp only [qcO.rnd5, hbit, hor, hor1, hw, fd, Bool.cond_eq_ite, decide_eq_true_eq, beq_iff_eq]
   rw [if_pos (by omega : (n : Int) ≥ 0)]
   have hb : 0 ≤ lo / 2 ^ n % 2 ∧ lo / 2 ^ n % 2 ≤ 1 := by omega
   generalize lo / 2 ^ n % 2 = b at *
   by_cases ht : rest / 9223372036854775808 = 1
   ·rw [if_pos ht, if_pos (by omega)]
    have : u64 (u64 (rest * 2) + b - d) = rest * 2 + b - d := by
     simp only [qcE]
     omega
    rw [this]
   ·rw [if_neg ht]
    have e1 : u64 (rest * 2) = rest * 2 := qdP (by omega) (by omega)
    rw [e1, hq2]
    by_cases hge : rest * 2 + b ≥ d
    ·rw [if_pos hge, if_pos hge, qdP (by omega) (by omega)]
    ·rw [if_neg hge, if_neg hge]
  rw [qd5]
  simp only [hr]
  have hb : 0 ≤ lo / 2 ^ n % 2 ∧ lo / 2 ^ n % 2 ≤ 1 := by omega
  by_cases hge : rest * 2 + lo / 2 ^ n % 2 ≥ d
  ·rw [if_pos hge]
   refine ih _ _ (by omega) (by omega) (by omega) (by omega) ?_
   rw [hT', Int.add_mul, Int.mul_right_comm]
   omega
  ·rw [if_neg hge]
   refine ih _ _ (by omega) (by omega) (by omega) (by omega) ?_
   rw [hT', Int.mul_right_comm]
   omega
theorem Divide_eq {hi lo d : Int} (h0 : 0 ≤ hi) (h1 : hi < 18446744073709551616) (h2 : 0 ≤ lo) (h3 : lo < 18446744073709551616) (h4 : 0 < d) (h5 : d < 18446744073709551616) :
  qcO hi lo d = (hi / d, (hi % d * 18446744073709551616 + lo) / d, (hi % d * 18446744073709551616 + lo) % d) := by
 have hq : 0 ≤ hi / d := Int.ediv_nonneg h0 (by omega)
 have hq2 : hi / d ≤ hi := Int.ediv_le_self _ h0
 have m1 := Int.emod_nonneg hi (show d ≠ 0 by omega)
 have m2 := Int.emod_lt_of_pos hi h4
 have := Divide_go m1 m2 h5 h2 h3 (hi / d) 64 (hi % d) 0 (by omega) m1 m2 (by omega) (by
  have e : ((2 : Int) ^ 64) = 18446744073709551616 := by rfl
  rw [e, Int.zero_mul, Int.zero_add]
  omega)
 have e : (((64 : Nat) : Int) - 1) = 63 := by rfl
 rw [e] at this
 simp only [qcO, qcO.fin5, tdiv_nn d h0, tmod_nn d h0, qdP hq (show hi / d ≤ 18446744073709551615 by omega), this]
theorem mk_W {hi lo : Int} (h0 : 0 ≤ lo) (h1 : lo < 18446744073709551616) : Wd.mk (w64 hi) lo = W (hi * 18446744073709551616 + lo) := by
 simp only [W, Wd.mk.injEq]
 constructor
 ·congr 1
  omega
 ·rw [qcE]
  omega
theorem plus_W (a b : Int) : spec_l02Plus (W a) (W b) = W (a + b) := by
 show (bif decide (u64 (u64 a + u64 b) < u64 a) then Wd.mk (w64 (w64 (w64 (a / 18446744073709551616) + w64 (b / 18446744073709551616)) + 1)) (u64 (u64 a + u64 b)) else Wd.mk (w64 (w64 (a / 18446744073709551616) + w64 (b / 18446744073709551616))) (u64 (u64 a + u64 b))) = W (a + b)
 have hlo : u64 (u64 a + u64 b) = u64 (a + b) := by simp only [qcE]; omega
 have hr := qeE a
 by_cases hc : u64 (u64 a + u64 b) < u64 a
 ·rw [decide_eq_true hc, cond_true]
  simp only [W, Wd.mk.injEq, hlo, and_true]
  rw [qcE, qcE, qcE] at hc
  have : (a + b) / 18446744073709551616 = a / 18446744073709551616 + b / 18446744073709551616 + 1 := by omega
  rw [this]
  simp only [qdI]
  omega
 ·rw [decide_eq_false hc, cond_false]
  simp only [W, Wd.mk.injEq, hlo, and_true]
  rw [qcE, qcE, qcE] at hc
  have : (a + b) / 18446744073709551616 = a / 18446744073709551616 + b / 18446744073709551616 := by omega
  rw [this]
  simp only [qdI]
  omega
theorem neg_W (z : Int) : qa8 (W z) = W (-z) := by
 have h := qeE z
 have h' := qeE (w64 (z / 18446744073709551616))
 have e1 : qdN 0 (u64 z) 0 = (u64 (-z), if 0 < u64 z then 1 else 0) := by
  simp only [qdN, Prod.mk.injEq]
  refine ⟨?_, ?_⟩
  ·simp only [qcE] at *
   omega
  ·split <;> split <;> simp at * <;> omega
 have e2 : ∀ c : Int, c = 0 ∨ c = 1 → (qdN 0 (u64 (w64 (z / 18446744073709551616))) c).1 = (18446744073709551616 - u64 (w64 (z / 18446744073709551616)) - c) % 18446744073709551616 := by
  intro c hc
  simp only [qdN]
  rcases hc with rfl | rfl <;> omega
 simp only [qa8, W, e1]
 rw [e2 _ (by split <;> omega)]
 simp only [Wd.mk.injEq, and_true]
 simp only [qdI, qcE]
 split <;> omega
end Go.G880
/- Plain lemmas: quotients of fixes, fractions. -/
set_option linter.unusedVariables false
set_option linter.unusedSimpArgs false
namespace Go.G880
open Go Go.RX
def In128 (z : Int) : Prop := -170141183460469231731687303715884105728 ≤ z ∧ z < 170141183460469231731687303715884105728
theorem W_hi {z : Int} (h : In128 z) : (W z).hi = z / 18446744073709551616 := by
 simp only [In128] at h
 simp only [W]
 exact qc2 (by omega) (by omega)
theorem W_halves {z : Int} (h0 : 0 ≤ z) (h1 : z ≤ 170141183460469231731687303715884105728) : u64 (W z).hi = z / 18446744073709551616 ∧ (W z).lo = z % 18446744073709551616 := by
 constructor
 ·simp only [W, u64_w64]
  exact qdP (by omega) (by omega)
 ·simp only [W, qcE]
theorem halves (z : Int) : z / 18446744073709551616 * 18446744073709551616 + z % 18446744073709551616 = z := by omega
theorem qfA {z d : Int} (h0 : 0 ≤ z) (h1 : z ≤ 170141183460469231731687303715884105728) (h2 : 0 < d) (h3 : d ≤ 9223372036854775807) :
  qcS (u64 (W z).hi) (W z).lo (u64 d) = qcO (u64 (W z).hi) (W z).lo (u64 d) ∧ ∃ q1 q0, qcO (u64 (W z).hi) (W z).lo (u64 d) = (q1, q0, z % d) ∧ q1 * 18446744073709551616 + q0 = z / d ∧ 0 ≤ q0 ∧ q0 < 18446744073709551616 ∧ 0 ≤ q1 := by
 obtain ⟨e1, e2⟩ := W_halves h0 h1
 have e3 : u64 d = d := qdP (by omega) (by omega)
 have m1 := Int.emod_nonneg (z / 18446744073709551616) (show d ≠ 0 by omega)
 have m2 := Int.emod_lt_of_pos (z / 18446744073709551616) h2
 rw [e1, e2, e3, divided_eq (by omega) (by omega) (by omega) (by omega) h2 (by omega), Divide_eq (by omega) (by omega) (by omega) (by omega) h2 (by omega)]
 refine ⟨rfl, _, _, Prod.ext rfl (Prod.ext rfl ?_), ?_, ?_, ?_, ?_⟩
 ·have := (two_digit (z / 18446744073709551616) (z % 18446744073709551616) h2).2
  rw [halves] at this
  exact this.symm
 ·have := (two_digit (z / 18446744073709551616) (z % 18446744073709551616) h2).1
  rw [halves] at this
  exact this.symm
 ·exact Int.ediv_nonneg (by omega) (by omega)
 ·rw [Int.ediv_lt_iff_lt_mul h2]
  have : (z / 18446744073709551616 % d + 1) * 18446744073709551616 ≤ d * 18446744073709551616 := Int.mul_le_mul_of_nonneg_right (by omega) (by omega)
  omega
 ·exact Int.ediv_nonneg (by omega) (by omega)
theorem neg_div {z d : Int} (h2 : 0 < d) : (if (-z) % d = 0 then z / d = -((-z) / d) ∧ z % d = 0 else z / d = -((-z) / d) - 1 ∧ z % d = d - (-z) % d) := by
 have hm := Int.emod_add_mul_ediv (-z) d
 have m1 := Int.emod_nonneg (-z) (show d ≠ 0 by omega)
 have m2 := Int.emod_lt_of_pos (-z) h2
 generalize (-z) / d = q at *
 generalize (-z) % d = r at *
 split
 ·rename_i hr
  have e : z = 0 + (-q) * d := by rw [Int.neg_mul, Int.mul_comm]; omega
  rw [e]
  constructor
  ·rw [Int.add_mul_ediv_right _ _ (by omega)]; simp
  ·rw [Int.add_mul_emod_self_right]; simp
 ·rename_i hr
  have e : z = (d - r) + (-q - 1) * d := by rw [Int.sub_mul, Int.neg_mul, Int.mul_comm]; omega
  rw [e]
  constructor
  ·rw [Int.add_mul_ediv_right _ _ (by omega), Int.ediv_eq_zero_of_lt (by omega) (by omega)]; omega
  ·rw [Int.add_mul_emod_self_right, Int.emod_eq_of_lt (by omega) (by omega)]
theorem l02Div_eq {z d : Int} (hz : In128 z) (h2 : 0 < d) (h3 : d ≤ 9223372036854775807) : qg2 (W z) d = (W (z / d), z % d) := by
 have hh := W_hi hz
 simp only [In128] at hz
 by_cases hs : 0 ≤ z
 ·obtain ⟨-, q1, q0, e1, e2, e3, e4, e5⟩ := qfA hs (by omega) h2 h3
  have hc : decide ((W z).hi ≥ 0) = true := decide_eq_true (by rw [hh]; omega)
  have m1 := Int.emod_nonneg z (show d ≠ 0 by omega)
  have m2 := Int.emod_lt_of_pos z h2
  simp only [qg2, hc, cond_true, e1]
  rw [mk_W e3 e4, e2, qc2 (by omega) (by omega)]
 ·obtain ⟨-, q1, q0, e1, e2, e3, e4, e5⟩ := qfA (z := -z) (by omega) (by omega) h2 h3
  have hc : decide ((W z).hi ≥ 0) = false := decide_eq_false (by rw [hh]; omega)
  have m1 := Int.emod_nonneg (-z) (show d ≠ 0 by omega)
  have m2 := Int.emod_lt_of_pos (-z) h2
  have hn := neg_div (z := z) h2
  have hm1 : qgS (-1) = W (-1) := (qiV (by simp only [In64]; omega)).2
  simp only [qg2, hc, cond_false, minus_W, e1]
  rw [mk_W e3 e4, e2, minus_W]
  by_cases hr : (-z) % d = 0
  ·rw [if_pos hr] at hn
   rw [hr, hn.1, hn.2]
   rfl
  ·rw [if_neg hr] at hn
   have hb : ((-z) % d == 0) = false := by simp [hr]
   rw [hb, cond_false, hm1, plus_W, hn.1, hn.2, qc2 (n := (-z) % d) (by omega) (by omega), qc2 (by omega) (by omega)]
   rfl
theorem WideDiv_eq {z d : Int} (hz : In128 z) (h2 : 0 < d) (h3 : d ≤ 9223372036854775807) : qcU (W z) d = (W (z / d), z % d, true) := by
 have hh := W_hi hz
 simp only [In128] at hz
 have hd : decide (d ≤ 0) = false := decide_eq_false (by omega)
 by_cases hs : 0 ≤ z
 ·obtain ⟨e0, q1, q0, e1, e2, e3, e4, e5⟩ := qfA hs (by omega) h2 h3
  have hc : decide ((W z).hi ≥ 0) = true := decide_eq_true (by rw [hh]; omega)
  have m1 := Int.emod_nonneg z (show d ≠ 0 by omega)
  have m2 := Int.emod_lt_of_pos z h2
  simp only [qcU, hd, hc, cond_true, cond_false, e0, e1]
  rw [mk_W e3 e4, e2, qc2 (by omega) (by omega)]
 ·obtain ⟨e0, q1, q0, e1, e2, e3, e4, e5⟩ := qfA (z := -z) (by omega) (by omega) h2 h3
  have hc : decide ((W z).hi ≥ 0) = false := decide_eq_false (by rw [hh]; omega)
  have m1 := Int.emod_nonneg (-z) (show d ≠ 0 by omega)
  have m2 := Int.emod_lt_of_pos (-z) h2
  have hn := neg_div (z := z) h2
  simp only [qcU, hd, hc, cond_false, neg_W, e0, e1]
  by_cases hr : (-z) % d = 0
  ·rw [if_pos hr] at hn
   rw [hr, hn.1, hn.2, mk_W e3 e4, e2, neg_W]
   rfl
  ·rw [if_neg hr] at hn
   have hb : ((-z) % d == 0) = false := by simp [hr]
   have ha : qe2 q0 1 0 = ((q0 + 1) % 18446744073709551616, (q0 + 1) / 18446744073709551616) := by
    simp only [qe2, Prod.mk.injEq]
    omega
   have hw : w64 (u64 (q1 + (q0 + 1) / 18446744073709551616)) = w64 (q1 + (q0 + 1) / 18446744073709551616) := w64_u64 _
   rw [hb, cond_false, ha]
   simp only [hw]
   rw [mk_W (by omega) (by omega), neg_W, hn.1, hn.2, qc2 (n := (-z) % d) (by omega) (by omega), qc2 (by omega) (by omega)]
   have e : -((q1 + (q0 + 1) / 18446744073709551616) * 18446744073709551616 + (q0 + 1) % 18446744073709551616) = -(-z / d) - 1 := by omega
   rw [e]
end Go.G880
/- Plain lemmas: rounded quotients, fractions, quotients of intervals. -/
set_option linter.unusedVariables false
set_option linter.unusedSimpArgs false
namespace Go.G880
open Go Go.RX
theorem qiN {a b : Int} (ha : In64 a) (hb : In64 b) : In128 (a * b) := qgT ha hb
theorem WideDiv_no (w : Wd) {d : Int} (h : d ≤ 0) : qcU w d = (⟨0, 0⟩, 0, false) := by
 simp only [qcU, decide_eq_true h, cond_true]
theorem qh7 {a b d : Int} (ha : In64 a) (hb : In64 b) (hd : d ≤ 9223372036854775807) : qb2 a b d = qdV a b d := by
 by_cases h : d ≤ 0
 ·simp only [qb2, qdV, WideDiv_no _ h, decide_eq_true h, cond_true, Bool.not_false]
 ·have hn := decide_eq_false h
  simp only [qb2, qdV, WideMul_eq ha hb, qgV ha hb, WideDiv_eq (qiN ha hb) (show 0 < d by omega) hd, l02Div_eq (qiN ha hb) (show 0 < d by omega) hd, hn, Bool.not_true, cond_false, WideInt_eq]
theorem qiM : In64 4294967296 := by simp only [In64]; omega
theorem quot_range {z d : Int} (hz : In128 z) (h : 0 < d) : In128 (z / d) := by
 simp only [In128] at *
 constructor
 ·rw [Int.le_ediv_iff_mul_le h]
  have := Int.mul_le_mul_of_nonneg_left (show (1 : Int) ≤ d by omega) (show (0 : Int) ≤ 170141183460469231731687303715884105728 by omega)
  omega
 ·rw [Int.ediv_lt_iff_lt_mul h]
  have := Int.mul_le_mul_of_nonneg_left (show (1 : Int) ≤ d by omega) (show (0 : Int) ≤ 170141183460469231731687303715884105728 by omega)
  omega
theorem qf7 {a b d : Int} (ha : In64 a) (hb : In64 b) (h : 0 < d) (hd : d ≤ 9223372036854775807) :
  qdV a b d = if -9223372036854775808 ≤ a * b / d ∧ a * b / d ≤ 9223372036854775807 then (a * b / d, true) else (0, false) := by
 have hn : decide (d ≤ 0) = false := decide_eq_false (by omega)
 have hq := quot_range (qiN ha hb) h
 simp only [qdV, hn, cond_false, qgV ha hb, l02Div_eq (qiN ha hb) h hd]
 have hi := qiW hq.1 hq.2
 rw [hi]
theorem DivDown_eq (a b : Int) : qb8 a b = qbB a b := by
 simp only [qb8, qbB, fixOk]
 cases ha : qa2 a
 ·simp only [Bool.not_false, cond_true]
 cases hb : qa2 b
 ·simp only [Bool.not_true, Bool.not_false, cond_true, cond_false]
 simp only [Bool.not_true, cond_false]
 have hbb := (qeF b).1 hb
 have haa := (qeF a).1 ha
 by_cases h : b < 0
 ·have e : (b == 0) = false := by simp; omega
  have hna := qfJ ha
  have hnb := qfJ hb
  simp only [decide_eq_true h, e, cond_true, cond_false, hna.1, hnb.1, qh7 (qeG hna.2) qiM (show -b ≤ 9223372036854775807 by omega), fixed_eq]
 ·simp only [decide_eq_false h, cond_false, qh7 (qeG ha) qiM (show b ≤ 9223372036854775807 by omega), fixed_eq]
  by_cases h0 : b = 0
  ·subst h0
   have e : qdV a 4294967296 0 = (0, false) := rfl
   rw [e]
   rfl
  ·have e : (b == 0) = false := by simp [h0]
   rw [e, cond_false]
theorem DivDown_ok {a b : Int} : (qbB a b).2 = true → qa2 (qbB a b).1 = true := by
 simp only [qbB]
 cases qa2 a
 ·simp
 cases qa2 b
 ·simp
 cases b == 0
 ·cases decide (b < 0)
  ·exact end_ok
  ·exact end_ok
 ·simp
theorem DivUp_eq (a b : Int) : qc6 a b = qb9 a b := by
 simp only [qc6, qb9, fixOk, DivDown_eq]
 cases ha : qa2 a
 ·simp only [Bool.not_false, cond_true]
 cases hb : qa2 b
 ·have : qbB (w64 (0 - a)) b = (0, false) := by
   simp only [qbB, hb]
   cases qa2 (w64 (0 - a)) <;> rfl
  simp only [this]
  rfl
 ·rfl
theorem DivUp_ok {a b : Int} : (qb9 a b).2 = true → qa2 (qb9 a b).1 = true := by
 simp only [qb9]
 cases qa2 a
 ·simp
 ·simp only [Bool.not_true, cond_false]
  intro h
  have := qfJ (DivDown_ok h)
  rw [this.1]
  exact this.2
theorem HasI_eq (a : Iv) (n : Int) : qd9 a n = qbN a n := by
 simp only [qd9, qbN, qd1, qcN, qiA]
theorem DivI_eq (a b : Iv) : qdM a b = qdR a b := by
 simp only [qdM, qdR, qg9, qgI, qgN, DivDown_eq, DivUp_eq, mn_eq, mx_eq, HasI_eq, qbN]
 cases qaF a
 ·rfl
 cases qaF b
 ·rfl
 simp only [Bool.and_self, Bool.not_true, cond_false]
 cases qcN b 0
 ·simp only [cond_false]
  cases h1 : (qbB a.lo b.lo).2
  ·rfl
  cases h2 : (qb9 a.lo b.lo).2
  ·rfl
  simp only [min_first (DivDown_ok h1), max_first (DivUp_ok h2)]
 ·rfl
end Go.G880
/- Plain lemmas: roots; what the walk of quotients asks for. -/
set_option linter.unusedVariables false
set_option linter.unusedSimpArgs false
namespace Go.G880
open Go Go.RX
theorem pd_divided {hi lo d : Int} (hpre : decide (0 ≤ hi ∧ hi < 18446744073709551616 ∧ 0 ≤ lo ∧ lo < 18446744073709551616 ∧ 0 < d ∧ d < 18446744073709551616) = true) :
  decide (0 ≤ Int.tmod hi d ∧ Int.tmod hi d < d ∧ d < 18446744073709551616 ∧ 0 ≤ lo ∧ lo < 18446744073709551616) = true := by
 simp only [decide_eq_true_eq] at *
 have m1 := Int.emod_nonneg hi (show d ≠ 0 by omega)
 have m2 := Int.emod_lt_of_pos hi (show 0 < d by omega)
 rw [tmod_nn d hpre.1]
 omega
theorem pd_wd1 {w : Wd} {d : Int} (hpre : decide (0 ≤ w.lo ∧ w.lo < 18446744073709551616 ∧ d ≤ 9223372036854775807) = true) (h0 : decide (d ≤ 0) = false) :
  decide (0 ≤ u64 w.hi ∧ u64 w.hi < 18446744073709551616 ∧ 0 ≤ w.lo ∧ w.lo < 18446744073709551616 ∧ 0 < u64 d ∧ u64 d < 18446744073709551616) = true := by
 simp only [decide_eq_true_eq, decide_eq_false_iff_not] at *
 have := qeE w.hi
 rw [qdP (n := d) (by omega) (by omega)]
 omega
theorem neg_lo (w : Wd) : 0 ≤ (qa8 w).lo ∧ (qa8 w).lo < 18446744073709551616 := by
 simp only [qa8, qdN]
 omega
theorem pd_wd2 {w : Wd} {d : Int} (hpre : decide (0 ≤ w.lo ∧ w.lo < 18446744073709551616 ∧ d ≤ 9223372036854775807) = true) (h0 : decide (d ≤ 0) = false) :
  decide (0 ≤ u64 (qa8 w).hi ∧ u64 (qa8 w).hi < 18446744073709551616 ∧ 0 ≤ (qa8 w).lo ∧ (qa8 w).lo < 18446744073709551616 ∧ 0 < u64 d ∧ u64 d < 18446744073709551616) = true := by
 simp only [decide_eq_true_eq, decide_eq_false_iff_not] at *
 have := qeE (qa8 w).hi
 have := neg_lo w
 rw [qdP (n := d) (by omega) (by omega)]
 omega
theorem WideMul_lo (a b : Int) : 0 ≤ (qcD a b).lo ∧ (qcD a b).lo < 18446744073709551616 := by
 simp only [qcD]
 cases decide (a < 0) <;> cases decide (b < 0) <;> exact qeE _
theorem pd_mul {a b d : Int} (hpre : decide (d ≤ 9223372036854775807) = true) : decide (0 ≤ (qcD a b).lo ∧ (qcD a b).lo < 18446744073709551616 ∧ d ≤ 9223372036854775807) = true := by
 simp only [decide_eq_true_eq] at *
 exact ⟨(WideMul_lo a b).1, (WideMul_lo a b).2, hpre⟩
theorem pd_fix {b : Int} (h : (!(qbF b)) = false) : decide (b ≤ 9223372036854775807) = true := by
 have := (qeF b).1 (by rw [← fixOk]; simpa using h)
 exact decide_eq_true (by omega)
end Go.G880
/- Plain lemmas: lengths of vectors. -/
set_option linter.unusedVariables false
set_option linter.unusedSimpArgs false
/- Plain lemmas: angles of points, eccentricities. -/
set_option linter.unusedVariables false
set_option linter.unusedSimpArgs false
namespace Go.G880
open Go Go.RX
theorem Integer_eq (n : Int) : qcF n = qa7 n := by
 simp only [qcF, qa7, qgI, qgN, qiA, within_not]
 by_cases h : -268435455 ≤ n ∧ n ≤ 268435455
 ·rw [decide_eq_true h, decide_eq_true (by omega : -268435456 ≤ n ∧ n ≤ 268435456)]
 ·rw [decide_eq_false h]
  by_cases h2 : -268435456 ≤ n ∧ n ≤ 268435456
  ·rw [decide_eq_true h2]
   have : n = 268435456 ∨ n = -268435456 := by omega
   rcases this with rfl | rfl <;> rfl
  ·rw [decide_eq_false h2]
end Go.G880
/- Plain lemmas: angles in units, the middle of a place. -/
set_option linter.unusedVariables false
set_option linter.unusedSimpArgs false
