/- Plain lemmas: wide numbers, products and quotients of fixes, rounded. -/
import Derived.Test.YtogpbandlpjccaaGreatP2
set_option linter.unusedVariables false
set_option linter.unusedSimpArgs false
namespace Go.G880
open Go Go.RX

/-- The wide number with a value. -/
def W (z : Int) : Wd := ⟨w64 (z / 18446744073709551616), u64 z⟩

theorem mul64_math {x0 x1 y0 y1 : Int} (hx0 : 0 ≤ x0) (hx0' : x0 < 4294967296) (hx1 : 0 ≤ x1) (hx1' : x1 < 4294967296) (hy0 : 0 ≤ y0) (hy0' : y0 < 4294967296) (hy1 : 0 ≤ y1) (hy1' : y1 < 4294967296) :
    (0 ≤ x0 * y0 ∧ x0 * y0 ≤ 18446744065119617025) ∧ (0 ≤ x1 * y0 ∧ x1 * y0 ≤ 18446744065119617025) ∧ (0 ≤ x0 * y1 ∧ x0 * y1 ≤ 18446744065119617025) ∧ (0 ≤ x1 * y1 ∧ x1 * y1 ≤ 18446744065119617025) := by
  have key : ∀ a b : Int, 0 ≤ a → a < 4294967296 → 0 ≤ b → b < 4294967296 → 0 ≤ a * b ∧ a * b ≤ 18446744065119617025 := by
    intro a b ha ha' hb hb'
    refine ⟨Int.mul_nonneg ha hb, ?_⟩
    have h1 : a * b ≤ 4294967295 * b := Int.mul_le_mul_of_nonneg_right (by omega) hb
    omega
  exact ⟨key _ _ hx0 hx0' hy0 hy0', key _ _ hx1 hx1' hy0 hy0', key _ _ hx0 hx0' hy1 hy1', key _ _ hx1 hx1' hy1 hy1'⟩

theorem mul64_eq {x y : Int} (hx : 0 ≤ x) (hx' : x < 18446744073709551616) (hy : 0 ≤ y) (hy' : y < 18446744073709551616) :
    bits_Mul64 x y = (x * y / 18446744073709551616, x * y % 18446744073709551616) ∧ spec_l02Times x y = (x * y / 18446744073709551616, x * y % 18446744073709551616) := by
  have ex := Int.mul_ediv_add_emod x 4294967296
  have ey := Int.mul_ediv_add_emod y 4294967296
  have bx0 : 0 ≤ x % 4294967296 := by omega
  have by0 : 0 ≤ y % 4294967296 := by omega
  have hb := mul64_math (x0 := x % 4294967296) (x1 := x / 4294967296) (y0 := y % 4294967296) (y1 := y / 4294967296) (by omega) (by omega) (by omega) (by omega) (by omega) (by omega) (by omega) (by omega)
  have e : x * y = (x / 4294967296) * (y / 4294967296) * 18446744073709551616 + ((x / 4294967296) * (y % 4294967296) + (x % 4294967296) * (y / 4294967296)) * 4294967296 + (x % 4294967296) * (y % 4294967296) := by
    conv => lhs; rw [← ex, ← ey]
    simp only [Int.add_mul, Int.mul_add]
    have a1 : 4294967296 * (x / 4294967296) * (4294967296 * (y / 4294967296)) = (x / 4294967296) * (y / 4294967296) * 18446744073709551616 := by
      rw [Int.mul_assoc, Int.mul_left_comm (x / 4294967296), ← Int.mul_assoc, Int.mul_comm _ (_ * _)]
      rfl
    have a2 : 4294967296 * (x / 4294967296) * (y % 4294967296) = (x / 4294967296) * (y % 4294967296) * 4294967296 := by
      rw [Int.mul_assoc, Int.mul_comm]
    have a3 : (x % 4294967296) * (4294967296 * (y / 4294967296)) = (x % 4294967296) * (y / 4294967296) * 4294967296 := by
      rw [Int.mul_left_comm, Int.mul_comm]
    rw [a1, a2, a3]
    omega
  have eT : ∀ z : Int, 0 ≤ z → z < 18446744073709551616 → andI .u64 z 4294967295 = z % 4294967296 := fun z h h' => and32 h h'
  have fd : ∀ z : Int, Int.fdiv z 4294967296 = z / 4294967296 := fun z => fdiv_pos z (by omega)
  simp only [bits_Mul64, spec_l02Times, fd, eT x hx hx', eT y hy hy']
  have eU : ∀ z : Int, andI .u64 (u64 z) 4294967295 = z % 4294967296 := fun z => by
    rw [and32 (u64_nn z) (u64_lt z), u64_def]
    omega
  simp only [eU]
  rw [e]
  generalize (x / 4294967296) * (y / 4294967296) = p11 at *
  generalize (x / 4294967296) * (y % 4294967296) = p10 at *
  generalize (x % 4294967296) * (y / 4294967296) = p01 at *
  generalize (x % 4294967296) * (y % 4294967296) = p00 at *
  clear e ex ey eT fd eU bx0 by0 hx hx' hy hy'
  have e00 : u64 p00 = p00 := u64_id (by omega) (by omega)
  have e10 : u64 p10 = p10 := u64_id (by omega) (by omega)
  have e01 : u64 p01 = p01 := u64_id (by omega) (by omega)
  have e11 : u64 p11 = p11 := u64_id (by omega) (by omega)
  simp only [e00, e10, e01, e11]
  have et : u64 (p10 + p00 / 4294967296) = p10 + p00 / 4294967296 := u64_id (by omega) (by omega)
  simp only [et]
  have h : (p11 * 18446744073709551616 + (p10 + p01) * 4294967296 + p00) / 18446744073709551616 = p11 + (p10 + p00 / 4294967296) / 4294967296 + ((p10 + p00 / 4294967296) % 4294967296 + p01) / 4294967296 := by omega
  have h' : p11 + (p10 + p00 / 4294967296) / 4294967296 + ((p10 + p00 / 4294967296) % 4294967296 + p01) / 4294967296 ≤ 18446744073709551615 := by omega
  have e2 : u64 ((p10 + p00 / 4294967296) % 4294967296 + p01) = (p10 + p00 / 4294967296) % 4294967296 + p01 := u64_id (by omega) (by omega)
  have e3 : u64 (p01 + (p10 + p00 / 4294967296) % 4294967296) = (p10 + p00 / 4294967296) % 4294967296 + p01 := by rw [Int.add_comm]; exact e2
  have e4 : u64 (p11 + (p10 + p00 / 4294967296) / 4294967296) = p11 + (p10 + p00 / 4294967296) / 4294967296 := u64_id (by omega) (by omega)
  have e5 : u64 (p11 + (p10 + p00 / 4294967296) / 4294967296 + ((p10 + p00 / 4294967296) % 4294967296 + p01) / 4294967296) = p11 + (p10 + p00 / 4294967296) / 4294967296 + ((p10 + p00 / 4294967296) % 4294967296 + p01) / 4294967296 := u64_id (by omega) h'
  simp only [e2, e3, e4, e5, h, u64_def, and_self]

theorem xorI_not {h : Int} (h1 : -9223372036854775808 ≤ h) (h2 : h ≤ 9223372036854775807) : xorI .i64 (-1) h = -1 - h := by
  show w64 (((BitVec.ofInt 64 (-1) ^^^ BitVec.ofInt 64 h).toNat : Nat) : Int) = _
  have e : BitVec.ofInt 64 (-1) = BitVec.allOnes 64 := by decide
  rw [e, BitVec.allOnes_xor, BitVec.toNat_not, BitVec.toNat_ofInt, w64_def]
  omega

theorem minus_W (z : Int) : spec_l02Minus (W z) = W (-z) := by
  have h1 := w64_ge (z / 18446744073709551616)
  have h2 := w64_le (z / 18446744073709551616)
  simp only [spec_l02Minus, W, xorI_not h1 h2, Bool.cond_eq_ite, beq_iff_eq]
  simp only [w64_def, u64_def]
  split <;> simp only [Wd.mk.injEq] <;> omega

theorem size_eq {a : Int} (h : In64 a) : spec_l02Size a = if a < 0 then -a else a := by
  have := h
  simp only [In64] at this
  simp only [spec_l02Size, Bool.cond_eq_ite, decide_eq_true_eq, u64_def]
  split <;> omega

theorem l02Mul_eq {a b : Int} (ha : In64 a) (hb : In64 b) : spec_l02Mul a b = W (a * b) := by
  have ha' := ha
  have hb' := hb
  simp only [In64] at ha' hb'
  have h0 : 0 ≤ spec_l02Size a ∧ spec_l02Size a ≤ 9223372036854775808 := by rw [size_eq ha]; split <;> omega
  have h1 : 0 ≤ spec_l02Size b ∧ spec_l02Size b ≤ 9223372036854775808 := by rw [size_eq hb]; split <;> omega
  have hm := (mul64_eq h0.1 (by omega) h1.1 (by omega)).2
  have hW : (Wd.mk (w64 (spec_l02Size a * spec_l02Size b / 18446744073709551616)) (spec_l02Size a * spec_l02Size b % 18446744073709551616)) = W (spec_l02Size a * spec_l02Size b) := by
    simp only [W, u64_def]
  simp only [spec_l02Mul, hm, hW, minus_W]
  rw [size_eq ha, size_eq hb]
  by_cases h2 : a < 0 <;> by_cases h3 : b < 0 <;> simp [h2, h3, Int.neg_mul, Int.mul_neg]

theorem WideMul_eq {a b : Int} (ha : In64 a) (hb : In64 b) : impl_WideMul a b = W (a * b) := by
  have ha' := ha
  have hb' := hb
  simp only [In64] at ha' hb'
  have hm := (mul64_eq (u64_nn a) (u64_lt a) (u64_nn b) (u64_lt b)).1
  simp only [impl_WideMul, hm, W]
  by_cases h2 : a < 0 <;> by_cases h3 : b < 0
  · have e1 : u64 a = a + 18446744073709551616 := by rw [u64_def]; omega
    have e2 : u64 b = b + 18446744073709551616 := by rw [u64_def]; omega
    have e : (a + 18446744073709551616) * (b + 18446744073709551616) = a * b + (a + b + 18446744073709551616) * 18446744073709551616 := by
      simp only [Int.add_mul, Int.mul_add, Int.mul_comm 18446744073709551616 b]; omega
    simp only [h2, h3, e1, e2, e, decide_true, cond_true, Wd.mk.injEq]
    simp only [w64_def, u64_def]
    generalize a * b = p at *
    omega
  · have e1 : u64 a = a + 18446744073709551616 := by rw [u64_def]; omega
    have e2 : u64 b = b := by rw [u64_def]; omega
    have e : (a + 18446744073709551616) * b = a * b + b * 18446744073709551616 := by
      simp only [Int.add_mul, Int.mul_comm 18446744073709551616 b]
    simp only [h2, h3, e1, e2, e, decide_true, decide_false, cond_true, cond_false, Wd.mk.injEq]
    simp only [w64_def, u64_def]
    generalize a * b = p at *
    omega
  · have e1 : u64 a = a := by rw [u64_def]; omega
    have e2 : u64 b = b + 18446744073709551616 := by rw [u64_def]; omega
    have e : a * (b + 18446744073709551616) = a * b + a * 18446744073709551616 := by
      simp only [Int.mul_add]
    simp only [h2, h3, e1, e2, e, decide_true, decide_false, cond_true, cond_false, Wd.mk.injEq]
    simp only [w64_def, u64_def]
    generalize a * b = p at *
    omega
  · have e1 : u64 a = a := by rw [u64_def]; omega
    have e2 : u64 b = b := by rw [u64_def]; omega
    simp only [h2, h3, e1, e2, decide_false, cond_false, Wd.mk.injEq]
    simp only [w64_def, u64_def]
    simp

theorem WideOf_eq {n : Int} (h : In64 n) : impl_WideOf n = W n ∧ spec_l02Of n = W n := by
  have h' := h
  simp only [In64] at h'
  have e : n / 18446744073709551616 = if n < 0 then -1 else 0 := by split <;> omega
  constructor
  · simp only [impl_WideOf, W, fdiv_pos n (show (0 : Int) < 9223372036854775808 by omega), e, Wd.mk.injEq]
    by_cases hn : n < 0
    · rw [if_pos hn, w64_id (by omega) (by omega)]
      exact ⟨by omega, trivial⟩
    · rw [if_neg hn, w64_id (by omega) (by omega)]
      exact ⟨by omega, trivial⟩
  · simp only [spec_l02Of, W, e, Bool.cond_eq_ite, decide_eq_true_eq]
    split <;> rfl
theorem in64_w64 (n : Int) : In64 (w64 n) := by simp only [In64]; exact ⟨w64_ge n, w64_le n⟩
theorem WideInt_eq (w : Wd) : impl_WideInt w = spec_l02Int w := by
  simp only [impl_WideInt, spec_l02Int, (WideOf_eq (in64_w64 w.lo)).1, (WideOf_eq (in64_w64 w.lo)).2]
theorem WideInt_W {z : Int} (h1 : -170141183460469231731687303715884105728 ≤ z) (h2 : z < 170141183460469231731687303715884105728) :
    spec_l02Int (W z) = if -9223372036854775808 ≤ z ∧ z ≤ 9223372036854775807 then (z, true) else (0, false) := by
  have e : w64 (u64 z) = w64 z := w64_u64 z
  simp only [spec_l02Int, W, e, (WideOf_eq (in64_w64 z)).2, Bool.cond_eq_ite, Bool.not_eq_true', Bool.and_eq_false_iff, beq_eq_false_iff_ne, Ne]
  simp only [w64_def, u64_def]
  split <;> split <;> first | rfl | (simp only [Prod.mk.injEq, and_true]; omega) | omega
theorem within_not (x l h : Int) : spec_l00In x l h = decide (l ≤ x ∧ x ≤ h) := by
  apply Bool.eq_iff_iff.2
  simp [spec_l00In, Bool.cond_eq_ite]
/-- A shift by 32. -/
theorem Shift32 {z : Int} (h1 : -170141183460469231731687303715884105728 ≤ z) (h2 : z < 170141183460469231731687303715884105728) : impl_WideShift (W z) 32 = W (z / 4294967296) ∧ spec_l02Shift (W z) 32 = W (z / 4294967296) := by
  have fd : ∀ z : Int, Int.fdiv z (2 ^ 32) = z / 4294967296 := fun z => fdiv_pos z (by omega)
  have hm : orI .u64 (u64 z / 4294967296) (u64 (u64 (w64 (z / 18446744073709551616)) * 2 ^ 32)) = u64 (z / 4294967296) := by
    have b0 := u64_nn z
    have b1 := u64_lt z
    have c0 := u64_nn (u64 (w64 (z / 18446744073709551616)) * 2 ^ 32)
    have c1 := u64_lt (u64 (w64 (z / 18446744073709551616)) * 2 ^ 32)
    have d : u64 (u64 (w64 (z / 18446744073709551616)) * 2 ^ 32) % 2 ^ 32 = 0 := by
      rw [u64_def]
      omega
    rw [orI_comm (by omega) (by omega) c0 c1, orI_add 32 c0 c1 d (by omega) (by omega) (by omega)]
    simp only [u64_def, w64_def]
    omega
  have hh : w64 (z / 18446744073709551616) / 4294967296 = w64 (z / 4294967296 / 18446744073709551616) := by
    simp only [w64_def]
    omega
  constructor
  · have e1 : impl_within 32 0 127 = true := by decide
    have e2 : decide ((32 : Int) ≥ 64) = false := by decide
    have e3 : min (Int.toNat 32) 64 = 32 := by decide
    have e4 : min (Int.toNat (w64 (64 - 32))) 64 = 32 := by decide
    simp only [impl_WideShift, e1, e2, e3, e4, fd, Bool.not_true, cond_false, W, hm]
    rw [hh]
  · have e1 : ((32 : Int) == 0) = false := by decide
    have e2 : decide ((32 : Int) < 64) = true := by decide
    have e3 : min (Int.toNat (u64 32)) 64 = 32 := by decide
    have e4 : min (Int.toNat (u64 (w64 (64 - 32)))) 64 = 32 := by decide
    simp only [spec_l02Shift, e1, e2, e3, e4, fd, cond_true, cond_false, W, hm]
    rw [hh]
theorem prod_range {a b : Int} (ha : In64 a) (hb : In64 b) : -170141183460469231731687303715884105728 ≤ a * b ∧ a * b < 170141183460469231731687303715884105728 := by
  simp only [In64] at ha hb
  have h : (a * b).natAbs ≤ 9223372036854775808 * 9223372036854775808 := by
    rw [Int.natAbs_mul]
    exact Nat.mul_le_mul (by omega) (by omega)
  omega
theorem MulFloor32 {a b : Int} (ha : In64 a) (hb : In64 b) : impl_MulFloor a b 32 = spec_MulFloor a b 32 := by
  have ⟨h1, h2⟩ := prod_range ha hb
  have e1 : impl_within 32 0 126 = true := by decide
  have e2 : spec_l00In 32 0 126 = true := by decide
  simp only [impl_MulFloor, spec_MulFloor, WideMul_eq ha hb, l02Mul_eq ha hb, (Shift32 h1 h2).1, (Shift32 h1 h2).2, WideInt_eq, e1, e2]
theorem fixed_eq (n : Int) (ok : Bool) : impl_fixed n ok = spec_l03End n ok := id rfl
theorem fixOk (n : Int) : impl_ValidFix n = spec_l03Ok n := id rfl
theorem l03Ok_iff (n : Int) : spec_l03Ok n = true ↔ -1152921504606846976 ≤ n ∧ n ≤ 1152921504606846976 := by
  simp [spec_l03Ok, spec_l00In, Bool.cond_eq_ite]
theorem in64_fix {n : Int} (h : spec_l03Ok n = true) : In64 n := by
  have := (l03Ok_iff n).1 h
  simp only [In64]
  omega
theorem end_ok {n : Int} {ok : Bool} : (spec_l03End n ok).2 = true → spec_l03Ok (spec_l03End n ok).1 = true := by
  simp only [spec_l03End]
  cases ok <;> cases h : spec_l03Ok n <;> simp [h]
theorem end_no {n : Int} {ok : Bool} : (spec_l03End n ok).2 = false → (spec_l03End n ok).1 = 0 := by
  simp only [spec_l03End]
  cases ok <;> cases h : spec_l03Ok n <;> simp [h]
theorem MulDown_eq (a b : Int) : impl_MulDown a b = spec_l03MulDown a b := by
  simp only [impl_MulDown, spec_l03MulDown, fixOk]
  cases ha : spec_l03Ok a
  · simp only [Bool.not_false, cond_true]
  cases hb : spec_l03Ok b
  · simp only [Bool.not_true, Bool.not_false, cond_true, cond_false]
  simp only [Bool.not_true, cond_false, MulFloor32 (in64_fix ha) (in64_fix hb), fixed_eq]
theorem MulDown_ok {a b : Int} : (spec_l03MulDown a b).2 = true → spec_l03Ok (spec_l03MulDown a b).1 = true := by
  simp only [spec_l03MulDown]
  cases spec_l03Ok a
  · simp
  cases spec_l03Ok b
  · simp
  exact end_ok
theorem MulDown_no {a b : Int} : (spec_l03MulDown a b).2 = false → (spec_l03MulDown a b).1 = 0 := by
  simp only [spec_l03MulDown]
  cases spec_l03Ok a
  · simp
  cases spec_l03Ok b
  · simp
  exact end_no
theorem neg_fix {a : Int} (h : spec_l03Ok a = true) : w64 (0 - a) = -a ∧ spec_l03Ok (-a) = true := by
  have h1 := (l03Ok_iff a).1 h
  refine ⟨by rw [w64_id (by omega) (by omega)]; omega, (l03Ok_iff _).2 (by omega)⟩
theorem MulUp_eq (a b : Int) : impl_MulUp a b = spec_l03MulUp a b := by
  simp only [impl_MulUp, spec_l03MulUp, fixOk, MulDown_eq]
  cases ha : spec_l03Ok a
  · simp only [Bool.not_false, cond_true]
  cases hb : spec_l03Ok b
  · have : (spec_l03MulDown (w64 (0 - a)) b).2 = false := by
      simp only [spec_l03MulDown, hb]
      cases spec_l03Ok (w64 (0 - a)) <;> rfl
    simp only [this]
    rfl
  cases h : (spec_l03MulDown (w64 (0 - a)) b).2
  · simp only [MulDown_no h]
    rfl
  · rfl
theorem MulUp_ok {a b : Int} : (spec_l03MulUp a b).2 = true → spec_l03Ok (spec_l03MulUp a b).1 = true := by
  simp only [spec_l03MulUp]
  cases spec_l03Ok a
  · simp
  cases h : (spec_l03MulDown (w64 (0 - a)) b).2
  · simp
  · intro _
    have := neg_fix (MulDown_ok h)
    simp only [Bool.not_true, cond_false, this.1, this.2]
theorem min_first {x : Int} (h : spec_l03Ok x = true) : spec_l00Min 1152921504606846976 x = spec_l00Min x x := by
  have := (l03Ok_iff x).1 h
  simp only [spec_l00Min, Bool.cond_eq_ite, decide_eq_true_eq]
  split <;> split <;> omega
theorem max_first {x : Int} (h : spec_l03Ok x = true) : spec_l00Max (-1152921504606846976) x = spec_l00Max x x := by
  have := (l03Ok_iff x).1 h
  simp only [spec_l00Max, Bool.cond_eq_ite, decide_eq_true_eq]
  split <;> split <;> omega
theorem MulI_eq (a b : Iv) : impl_MulI a b = spec_MulI a b := by
  simp only [impl_MulI, spec_MulI, areBounded_eq, whole_eq, bounded_true, MulDown_eq, MulUp_eq, mn_eq, mx_eq]
  cases spec_l04Ok a
  · rfl
  cases spec_l04Ok b
  · rfl
  simp only [Bool.and_self, Bool.not_true, cond_false]
  cases h1 : (spec_l03MulDown a.lo b.lo).2
  · rfl
  cases h2 : (spec_l03MulUp a.lo b.lo).2
  · rfl
  simp only [min_first (MulDown_ok h1), max_first (MulUp_ok h2)]

/-! ### Vectors and matrices -/
theorem DotV_eq (a b : V3) : impl_DotV a b = spec_DotV a b := by simp only [impl_DotV, spec_DotV, AddI_eq, MulI_eq]
theorem ApplyM_eq (m : M3) (a : V3) : impl_ApplyM m a = spec_ApplyM m a := by simp only [impl_ApplyM, spec_ApplyM, DotV_eq]
theorem MulM_eq (m n : M3) : impl_MulM m n = spec_MulM m n := by
  simp only [impl_MulM, spec_MulM, ApplyM_eq]
  rfl
theorem CrossV_eq (a b : V3) : impl_CrossV a b = spec_CrossV a b := by simp only [impl_CrossV, spec_CrossV, SubI_eq, MulI_eq]
theorem ScaleV_eq (a : V3) (k : Iv) : impl_ScaleV a k = spec_ScaleV a k := by simp only [impl_ScaleV, spec_ScaleV, MulI_eq]
theorem eqM_refl (a : M3) : laws_eqMat a a = true := by simp [laws_eqMat, eqV_refl]
theorem toM (a : M3) : laws_toMat a = a := rfl
theorem laws_FnExactDotV.holds (a0 a1 : V3) (w0 : a0.In) (w1 : a1.In) : laws_FnExactDotV a0 a1 = true := by
  simp only [laws_FnExactDotV, toV, DotV_eq, eqI_refl, Bool.not_true, cond_false]
theorem laws_FnExactCrossV.holds (a0 a1 : V3) (w0 : a0.In) (w1 : a1.In) : laws_FnExactCrossV a0 a1 = true := by
  simp only [laws_FnExactCrossV, toV, CrossV_eq, eqV_refl, Bool.not_true, cond_false]
theorem laws_FnExactScaleV.holds (a0 : V3) (a1 : Iv) (w0 : a0.In) (w1 : a1.In) : laws_FnExactScaleV a0 a1 = true := by
  simp only [laws_FnExactScaleV, toV, toI, ScaleV_eq, eqV_refl, Bool.not_true, cond_false]
theorem laws_FnExactApplyM.holds (a0 : M3) (a1 : V3) (w0 : a0.In) (w1 : a1.In) : laws_FnExactApplyM a0 a1 = true := by
  simp only [laws_FnExactApplyM, toM, toV, ApplyM_eq, eqV_refl, Bool.not_true, cond_false]
theorem laws_FnExactMulM.holds (a0 a1 : M3) (w0 : a0.In) (w1 : a1.In) : laws_FnExactMulM a0 a1 = true := by
  simp only [laws_FnExactMulM, toM, MulM_eq, eqM_refl, Bool.not_true, cond_false]
end Go.G880
