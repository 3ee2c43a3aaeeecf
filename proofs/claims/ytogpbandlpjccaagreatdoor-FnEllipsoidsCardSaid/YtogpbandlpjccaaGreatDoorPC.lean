/- Quarter turns, and the circle's series. -/
import Derived.Test.YtogpbandlpjccaaGreatDoorPB
set_option linter.unusedSimpArgs false
set_option linter.unusedVariables false
namespace Go.G880
open Go Go.RX
theorem tdiv_val (m : Int) : Int.tdiv m 6746518852 = (if 0 ≤ m then m / 6746518852 else -((-m) / 6746518852)) ∧ Int.tmod m 6746518852 = (if 0 ≤ m then m % 6746518852 else -((-m) % 6746518852)) := by
 by_cases h : 0 ≤ m
 ·rw [if_pos h, if_pos h]; exact ⟨tdiv_nn _ h, tmod_nn _ h⟩
 ·rw [if_neg h, if_neg h]
  have e : m = -(-m) := by omega
  have hn : 0 ≤ -m := by omega
  constructor
  ·conv => lhs; rw [e]
   rw [Int.neg_tdiv, tdiv_nn _ hn]
  ·conv => lhs; rw [e]
   rw [Int.neg_tmod, tmod_nn _ hn]
theorem Quarter_val {n : Int} (h : -1099511627776 ≤ n ∧ n ≤ 1099511627776) : impl_QuarterOf n = (n + 3373259426) / 6746518852 ∧ spec_QuarterOf n = (n + 3373259426) / 6746518852 := by
 have ha : impl_isAngle n = true := (inside_iff _ _ _).2 h
 have hb : spec_l06Angle n = true := (l00In_iff _ _ _).2 h
 have hm : w64 (n + 3373259426) = n + 3373259426 := w64_id (by omega) (by omega)
 obtain ⟨hd, hr⟩ := tdiv_val (n + 3373259426)
 have hq : -200 ≤ Int.tdiv (n + 3373259426) 6746518852 ∧ Int.tdiv (n + 3373259426) 6746518852 ≤ 200 := by rw [hd]; split <;> omega
 have hw : w64 (Int.tdiv (n + 3373259426) 6746518852) = Int.tdiv (n + 3373259426) 6746518852 := w64_id (by omega) (by omega)
 have hw2 : w64 (Int.tdiv (n + 3373259426) 6746518852 * 6746518852) = Int.tdiv (n + 3373259426) 6746518852 * 6746518852 := w64_id (by omega) (by omega)
 have hw3 : w64 (Int.tdiv (n + 3373259426) 6746518852 - 1) = Int.tdiv (n + 3373259426) 6746518852 - 1 := w64_id (by omega) (by omega)
 constructor
 ·simp only [impl_QuarterOf, ha, Bool.not_true, cond_false, hm, hw, hw2, hw3, Bool.cond_eq_ite, decide_eq_true_eq, Bool.false_eq_true, if_false]
  by_cases h0 : 0 ≤ n + 3373259426
  ·rw [if_pos h0] at hd; split <;> omega
  ·rw [if_neg h0] at hd; split <;> omega
 ·simp only [spec_QuarterOf, spec_l06Floor, hb, Bool.not_true, cond_false, hm, hw, hw3, Bool.cond_eq_ite, decide_eq_true_eq, Bool.false_eq_true, if_false]
  by_cases h0 : 0 ≤ n + 3373259426
  ·rw [if_pos h0] at hd hr; split <;> omega
  ·rw [if_neg h0] at hd hr; split <;> omega
theorem angle_eq (n : Int) : impl_isAngle n = spec_l06Angle n := rfl
theorem QuarterOf_eq (n : Int) : impl_QuarterOf n = spec_QuarterOf n := by
 cases h : spec_l06Angle n
 ·simp only [impl_QuarterOf, spec_QuarterOf, angle_eq, h, Bool.not_false, cond_true]
 ·have := Quarter_val ((l00In_iff _ _ _).1 h)
  rw [this.1, this.2]
theorem Quarter_rng (n : Int) : -200 ≤ spec_QuarterOf n ∧ spec_QuarterOf n ≤ 200 := by
 cases h : spec_l06Angle n
 ·simp only [spec_QuarterOf, h, Bool.not_false, cond_true]; omega
 ·have hh := (l00In_iff _ _ _).1 h
  rw [(Quarter_val hh).2]; omega
theorem Shift30 {z : Int} (h1 : -170141183460469231731687303715884105728 ≤ z) (h2 : z < 170141183460469231731687303715884105728) : impl_WideShift (W z) 30 = W (z / 1073741824) ∧ spec_l02Shift (W z) 30 = W (z / 1073741824) := by
 have fd : ∀ z : Int, Int.fdiv z (2 ^ 30) = z / 1073741824 := fun z => fdiv_pos z (by omega)
 have hm : orI .u64 (u64 z / 1073741824) (u64 (u64 (w64 (z / 18446744073709551616)) * 2 ^ 34)) = u64 (z / 1073741824) := by
  have b0 := u64_nn z
  have b1 := u64_lt z
  have c0 := u64_nn (u64 (w64 (z / 18446744073709551616)) * 2 ^ 34)
  have c1 := u64_lt (u64 (w64 (z / 18446744073709551616)) * 2 ^ 34)
  have d : u64 (u64 (w64 (z / 18446744073709551616)) * 2 ^ 34) % 2 ^ 34 = 0 := by
   rw [u64_def]
   omega
  rw [orI_comm (by omega) (by omega) c0 c1, orI_add 34 c0 c1 d (by omega) (by omega) (by omega)]
  simp only [u64_def, w64_def]
  omega
 have hh : w64 (z / 18446744073709551616) / 1073741824 = w64 (z / 1073741824 / 18446744073709551616) := by
  simp only [w64_def]
  omega
 constructor
 ·have e1 : impl_within 30 0 127 = true := by decide
  have e2 : decide ((30 : Int) ≥ 64) = false := by decide
  have e3 : min (Int.toNat 30) 64 = 30 := by decide
  have e4 : min (Int.toNat (w64 (64 - 30))) 64 = 34 := by decide
  simp only [impl_WideShift, e1, e2, e3, e4, fd, Bool.not_true, cond_false, W, hm]
  rw [hh]
 ·have e1 : ((30 : Int) == 0) = false := by decide
  have e2 : decide ((30 : Int) < 64) = true := by decide
  have e3 : min (Int.toNat (u64 30)) 64 = 30 := by decide
  have e4 : min (Int.toNat (u64 (w64 (64 - 30)))) 64 = 34 := by decide
  simp only [spec_l02Shift, e1, e2, e3, e4, fd, cond_true, cond_false, W, hm]
  rw [hh]
theorem MulFloor30 {a : Int} (ha : 0 ≤ a ∧ a ≤ 4096) : impl_MulFloor a 7244019458077122842 30 = (a * 7244019458077122842 / 1073741824, true) ∧ spec_MulFloor a 7244019458077122842 30 = (a * 7244019458077122842 / 1073741824, true) := by
 have ha' : In64 a := by simp only [In64]; omega
 have ⟨h1, h2⟩ := prod_range ha' pi_pos.1
 have e1 : impl_within 30 0 126 = true := by decide
 have e2 : spec_l00In 30 0 126 = true := by decide
 have e3 : spec_l02Int (W (a * 7244019458077122842 / 1073741824)) = (a * 7244019458077122842 / 1073741824, true) := by
  rw [WideInt_W (by omega) (by omega), if_pos (by omega)]
 simp only [impl_MulFloor, spec_MulFloor, WideMul_eq ha' pi_pos.1, l02Mul_eq ha' pi_pos.1, (Shift30 h1 h2).1, (Shift30 h1 h2).2, WideInt_eq, e1, e2, e3, Bool.not_true, cond_false, and_self]
theorem TurnI_eq (k : Int) : impl_TurnI k = spec_TurnI k := by
 simp only [impl_TurnI, spec_TurnI, spec_l05Turn, whole_eq, spec_Whole, within_eq]
 cases h : spec_l00In k (-4096) 4096
 ·simp only [Bool.not_false, cond_true]
 have hh := (l00In_iff _ _ _).1 h
 simp only [Bool.not_true, cond_false]
 by_cases h0 : k = 0
 ·subst h0; rfl
 have e0 : (k == 0) = false := by simp [h0]
 by_cases hn : k < 0
 ·have e1 : decide (k < 0) = true := decide_eq_true hn
  have e2 : w64 (0 - k) = -k := by rw [w64_id (by omega) (by omega)]; omega
  have e3 : ((-k : Int) == 0) = false := by simp; omega
  have e4 : spec_l00In (-k) (-4096) 4096 = true := (l00In_iff _ _ _).2 (by omega)
  have hv := MulFloor30 (a := -k) (by omega)
  have hr : 0 ≤ -k * 7244019458077122842 / 1073741824 ∧ -k * 7244019458077122842 / 1073741824 ≤ 27634151458500 := by omega
  have e5 : w64 (-k * 7244019458077122842 / 1073741824 + 1) = -k * 7244019458077122842 / 1073741824 + 1 := w64_id (by omega) (by omega)
  simp only [e0, e1, e2, cond_true, cond_false, impl_TurnI.A, spec_l05Turn.A, e3, within_eq, e4, Bool.not_true, hv.1, hv.2, e5]
  rw [NegI_ok (by rw [ok_iff]; simp only []; omega)]
  simp only []
  rw [w64_id (by omega) (by omega), w64_id (by omega) (by omega)]
  simp only [Iv.mk.injEq]
  omega
 ·have e1 : decide (k < 0) = false := decide_eq_false hn
  have hv := MulFloor30 (a := k) (by omega)
  simp only [e0, e1, cond_false, hv.1, hv.2]
theorem InsideI_eq (a : Iv) {b : Iv} (hb : spec_l04Ok b = true) : impl_InsideI a b = spec_InsideI a b := by
 simp only [impl_InsideI, spec_InsideI, isWhole_eq, hb, Bool.not_true]
 cases spec_l04Ok a <;> simp
theorem SqrI_eq (a : Iv) : impl_SqrI a = spec_SqrI a := by
 simp only [impl_SqrI, spec_SqrI, isWhole_eq, whole_eq]
 cases h : spec_l04Ok a
 ·simp only [Bool.not_false, cond_true]
 simp only [Bool.not_true, cond_false]
 obtain ⟨h1, h2, h3, h4⟩ := AbsI_val h
 have h5 : spec_AbsI a = spec_l04Make (spec_l04Ends a).1 (spec_l04Ends a).2 := by simp only [spec_AbsI, h, Bool.not_true, cond_false]
 have h6 : spec_l04Make (spec_l04Ends a).1 (spec_l04Ends a).2 = ⟨(spec_l04Ends a).1, (spec_l04Ends a).2⟩ := by
  unfold spec_l04Make
  cases hk : spec_l04Ok ⟨(spec_l04Ends a).1, (spec_l04Ends a).2⟩
  ·rw [h5] at h2 h3 h4
   unfold spec_l04Make at h2 h3 h4
   rw [hk] at h2 h3 h4
   simp only [Bool.not_false, cond_true] at h2 h3 h4
   exact absurd h2 (by decide)
  ·rfl
 rw [h1, h5, h6]
 simp only [MulDown_eq, MulUp_eq]
 cases hd : (spec_l03MulDown (spec_l04Ends a).1 (spec_l04Ends a).1).2
 ·simp only [cond_false, Bool.not_false, cond_true, bounded_false]
 cases hu : (spec_l03MulUp (spec_l04Ends a).2 (spec_l04Ends a).2).2
 ·simp only [cond_true, Bool.not_true, Bool.not_false, cond_false, bounded_false]
 ·simp only [cond_true, Bool.not_true, cond_false, bounded_true]
theorem series_sin (y : Iv) : impl_series y 2 = spec_l06Series y 0 := by
 simp only [impl_series, spec_l06Series, SubI_eq, MulI_eq, DivI_eq, Integer_eq]
 rfl
theorem series_cos (y : Iv) : impl_series y 1 = spec_l06Series y (-1) := by
 simp only [impl_series, spec_l06Series, SubI_eq, MulI_eq, DivI_eq, Integer_eq]
 rfl
theorem ring_ok : spec_l04Ok spec_l06Ring = true := by decide
theorem SinSeries_eq (x : Iv) : impl_SinSeries x = spec_SinSeries x := by
 have e : impl_ring = spec_l06Ring := rfl
 have e2 : impl_tiny = spec_l06Tiny := rfl
 simp only [impl_SinSeries, spec_SinSeries, e, e2, InsideI_eq x ring_ok, AddI_eq, MulI_eq, SqrI_eq, series_sin, whole_eq, spec_Whole]
theorem CosSeries_eq (x : Iv) : impl_CosSeries x = spec_CosSeries x := by
 have e : impl_ring = spec_l06Ring := rfl
 have e2 : impl_tiny = spec_l06Tiny := rfl
 simp only [impl_CosSeries, spec_CosSeries, e, e2, InsideI_eq x ring_ok, AddI_eq, SqrI_eq, series_cos, whole_eq, spec_Whole]
theorem HullI_eq (a b : Iv) : impl_HullI a b = spec_HullI a b := by
 simp only [impl_HullI, spec_HullI, areBounded_eq, whole_eq, mx_eq, mn_eq]
 cases ha : spec_l04Ok a
 ·simp only [Bool.false_and, Bool.not_false, cond_true]
 cases hb : spec_l04Ok b
 ·simp only [Bool.true_and, Bool.not_false, Bool.not_true, cond_true, cond_false]
 simp only [Bool.true_and, Bool.not_true, cond_false]
 have h1 := (ok_iff a).1 ha
 have h2 := (ok_iff b).1 hb
 rw [make_ok]
 simp only [spec_l00Min, spec_l00Max, Bool.cond_eq_ite, decide_eq_true_eq]
 split <;> split <;> omega
end Go.G880
/- Products and quotients of intervals hold the products and quotients of their ends; so the circle's series meet the ring. -/
set_option linter.unusedSimpArgs false
set_option linter.unusedVariables false
namespace Go.G880
open Go Go.RX
theorem MulFloor32_val {a b : Int} (ha : In64 a) (hb : In64 b) : spec_MulFloor a b 32 = if -9223372036854775808 ≤ a * b / 4294967296 ∧ a * b / 4294967296 ≤ 9223372036854775807 then (a * b / 4294967296, true) else (0, false) := by
 have ⟨h1, h2⟩ := prod_range ha hb
 have e2 : spec_l00In 32 0 126 = true := by decide
 have e3 := WideInt_W (z := a * b / 4294967296) (by omega) (by omega)
 simp only [spec_MulFloor, l02Mul_eq ha hb, (Shift32 h1 h2).2, e2, e3, Bool.not_true, cond_false]
theorem MulDown_val {a b : Int} (h : (spec_l03MulDown a b).2 = true) : (spec_l03MulDown a b).1 = a * b / 4294967296 ∧ spec_l03Ok a = true ∧ spec_l03Ok b = true := by
 simp only [spec_l03MulDown] at h ⊢
 cases ha : spec_l03Ok a
 ·rw [ha] at h; simp at h
 cases hb : spec_l03Ok b
 ·rw [ha, hb] at h; simp at h
 simp only [ha, hb, Bool.not_true, cond_false, MulFloor32_val (in64_fix ha) (in64_fix hb)] at h ⊢
 by_cases hr : -9223372036854775808 ≤ a * b / 4294967296 ∧ a * b / 4294967296 ≤ 9223372036854775807
 ·rw [if_pos hr] at h ⊢
  simp only [spec_l03End, Bool.not_true, cond_false] at h ⊢
  cases hk : spec_l03Ok (a * b / 4294967296)
  ·rw [hk] at h; simp at h
  ·simp
 ·rw [if_neg hr] at h
  simp [spec_l03End] at h
theorem MulUp_val {a b : Int} (h : (spec_l03MulUp a b).2 = true) : (spec_l03MulUp a b).1 = -((-a) * b / 4294967296) ∧ spec_l03Ok a = true := by
 simp only [spec_l03MulUp] at h ⊢
 cases ha : spec_l03Ok a
 ·rw [ha] at h; simp at h
 simp only [ha, Bool.not_true, cond_false, (neg_fix ha).1] at h ⊢
 cases hd : (spec_l03MulDown (-a) b).2
 ·rw [hd] at h; simp at h
 simp only [hd, Bool.not_true, cond_false] at h ⊢
 have hv := MulDown_val hd
 have hok := (l03Ok_iff _).1 (MulDown_ok hd)
 rw [hv.1] at hok ⊢
 exact ⟨by rw [w64_id (by omega) (by omega)]; omega, trivial⟩
theorem min_le (x y : Int) : spec_l00Min x y ≤ x ∧ spec_l00Min x y ≤ y := by
 simp only [spec_l00Min, Bool.cond_eq_ite, decide_eq_true_eq]; split <;> omega
theorem max_ge (x y : Int) : x ≤ spec_l00Max x y ∧ y ≤ spec_l00Max x y := by
 simp only [spec_l00Max, Bool.cond_eq_ite, decide_eq_true_eq]; split <;> omega
theorem make_cases (lo hi : Int) : spec_l04Make lo hi = spec_l04Whole ∨ (spec_l04Make lo hi = ⟨lo, hi⟩ ∧ spec_l04Ok ⟨lo, hi⟩ = true) := by
 unfold spec_l04Make
 cases h : spec_l04Ok ⟨lo, hi⟩
 ·exact .inl rfl
 ·exact .inr ⟨rfl, rfl⟩
structure Holds4 (p a b : Iv) : Prop where
 ok : spec_l04Ok p = true
 oka : spec_l04Ok a = true
 okb : spec_l04Ok b = true
 ll : p.lo ≤ a.lo * b.lo / 4294967296 ∧ -((-a.lo) * b.lo / 4294967296) ≤ p.hi
 lh : p.lo ≤ a.lo * b.hi / 4294967296 ∧ -((-a.lo) * b.hi / 4294967296) ≤ p.hi
 hl : p.lo ≤ a.hi * b.lo / 4294967296 ∧ -((-a.hi) * b.lo / 4294967296) ≤ p.hi
 hh : p.lo ≤ a.hi * b.hi / 4294967296 ∧ -((-a.hi) * b.hi / 4294967296) ≤ p.hi
theorem MulI_cases (a b : Iv) : spec_MulI a b = spec_l04Whole ∨ Holds4 (spec_MulI a b) a b := by
 simp only [spec_MulI]
 cases ha : spec_l04Ok a
 ·exact .inl rfl
 cases hb : spec_l04Ok b
 ·exact .inl rfl
 simp only [Bool.not_true, cond_false]
 cases d1 : (spec_l03MulDown a.lo b.lo).2
 ·exact .inl rfl
 cases u1 : (spec_l03MulUp a.lo b.lo).2
 ·exact .inl rfl
 cases d2 : (spec_l03MulDown a.lo b.hi).2
 ·exact .inl rfl
 cases u2 : (spec_l03MulUp a.lo b.hi).2
 ·exact .inl rfl
 cases d3 : (spec_l03MulDown a.hi b.lo).2
 ·exact .inl rfl
 cases u3 : (spec_l03MulUp a.hi b.lo).2
 ·exact .inl rfl
 cases d4 : (spec_l03MulDown a.hi b.hi).2
 ·exact .inl rfl
 cases u4 : (spec_l03MulUp a.hi b.hi).2
 ·exact .inl rfl
 simp only [Bool.not_true, cond_false]
 rcases make_cases (spec_l00Min (spec_l00Min (spec_l00Min (spec_l00Min 1152921504606846976 (spec_l03MulDown a.lo b.lo).1) (spec_l03MulDown a.lo b.hi).1) (spec_l03MulDown a.hi b.lo).1) (spec_l03MulDown a.hi b.hi).1) (spec_l00Max (spec_l00Max (spec_l00Max (spec_l00Max (-1152921504606846976) (spec_l03MulUp a.lo b.lo).1) (spec_l03MulUp a.lo b.hi).1) (spec_l03MulUp a.hi b.lo).1) (spec_l03MulUp a.hi b.hi).1) with h | ⟨h, hk⟩
 ·exact .inl h
 ·right
  rw [h]
  have m4 := min_le (spec_l00Min (spec_l00Min (spec_l00Min 1152921504606846976 (spec_l03MulDown a.lo b.lo).1) (spec_l03MulDown a.lo b.hi).1) (spec_l03MulDown a.hi b.lo).1) (spec_l03MulDown a.hi b.hi).1
  have m3 := min_le (spec_l00Min (spec_l00Min 1152921504606846976 (spec_l03MulDown a.lo b.lo).1) (spec_l03MulDown a.lo b.hi).1) (spec_l03MulDown a.hi b.lo).1
  have m2 := min_le (spec_l00Min 1152921504606846976 (spec_l03MulDown a.lo b.lo).1) (spec_l03MulDown a.lo b.hi).1
  have m1 := min_le 1152921504606846976 (spec_l03MulDown a.lo b.lo).1
  have n4 := max_ge (spec_l00Max (spec_l00Max (spec_l00Max (-1152921504606846976) (spec_l03MulUp a.lo b.lo).1) (spec_l03MulUp a.lo b.hi).1) (spec_l03MulUp a.hi b.lo).1) (spec_l03MulUp a.hi b.hi).1
  have n3 := max_ge (spec_l00Max (spec_l00Max (-1152921504606846976) (spec_l03MulUp a.lo b.lo).1) (spec_l03MulUp a.lo b.hi).1) (spec_l03MulUp a.hi b.lo).1
  have n2 := max_ge (spec_l00Max (-1152921504606846976) (spec_l03MulUp a.lo b.lo).1) (spec_l03MulUp a.lo b.hi).1
  have n1 := max_ge (-1152921504606846976) (spec_l03MulUp a.lo b.lo).1
  refine ⟨hk, ha, hb, ?_, ?_, ?_, ?_⟩
  ·rw [← (MulDown_val d1).1, ← (MulUp_val u1).1]; constructor
   ·show spec_l00Min _ _ ≤ _; omega
   ·show _ ≤ spec_l00Max _ _; omega
  ·rw [← (MulDown_val d2).1, ← (MulUp_val u2).1]; constructor
   ·show spec_l00Min _ _ ≤ _; omega
   ·show _ ≤ spec_l00Max _ _; omega
  ·rw [← (MulDown_val d3).1, ← (MulUp_val u3).1]; constructor
   ·show spec_l00Min _ _ ≤ _; omega
   ·show _ ≤ spec_l00Max _ _; omega
  ·rw [← (MulDown_val d4).1, ← (MulUp_val u4).1]; constructor
   ·show spec_l00Min _ _ ≤ _; omega
   ·show _ ≤ spec_l00Max _ _; omega
end Go.G880
/- The circle's series meet the ring. -/
set_option linter.unusedSimpArgs false
set_option linter.unusedVariables false
namespace Go.G880
open Go Go.RX
def Meets (x : Iv) : Prop := x = spec_l04Whole ∨ (spec_l04Ok x = true ∧ x.lo ≤ 4294967296 ∧ -4294967296 ≤ x.hi)
theorem inRing_eq {x : Iv} (h : Meets x) : impl_inRing x = spec_l06Meet x := by
 have er : impl_ring = spec_l06Ring := rfl
 simp only [impl_inRing, spec_l06Meet, er, MeetI_eq]
 rcases h with rfl | ⟨h1, h2, h3⟩
 ·rfl
 ·have hh := (ok_iff x).1 h1
  have : (spec_MeetI x spec_l06Ring).2 = true := by
   simp only [spec_MeetI, h1, ring_ok, Bool.not_true, cond_false]
   have : ¬ (spec_l00Max x.lo spec_l06Ring.lo > spec_l00Min x.hi spec_l06Ring.hi) := by
    simp only [spec_l00Max, spec_l00Min, spec_l06Ring, Bool.cond_eq_ite, decide_eq_true_eq]
    split <;> split <;> omega
   simp only [decide_eq_false this, cond_false]
  rw [this]
  rfl
def PS (s : Iv) : Prop := s = spec_l04Whole ∨ (spec_l04Ok s = true ∧ s.lo ≤ 4294967296 ∧ 0 ≤ s.hi)
def QS (q : Iv) : Prop := q = spec_l04Whole ∨ (spec_l04Ok q = true ∧ 0 ≤ q.lo ∧ q.lo ≤ 4294967296)
theorem min_ge {x y z : Int} (h1 : z ≤ x) (h2 : z ≤ y) : z ≤ spec_l00Min x y := by
 simp only [spec_l00Min, Bool.cond_eq_ite, decide_eq_true_eq]; split <;> omega
theorem MulDivFloor_val {a d : Int} (ha : spec_l03Ok a = true) (h : 0 < d) (hd : d ≤ 9223372036854775807) (hk : (spec_MulDivFloor a 4294967296 d).2 = true) : (spec_MulDivFloor a 4294967296 d).1 = a * 4294967296 / d := by
 have hv := spec_MulDivFloor_val (in64_fix ha) in64_unit h hd
 rw [hv] at hk ⊢
 split at hk
 ·rename_i hr; rw [if_pos hr]
 ·simp at hk
theorem DivDown_val {a b : Int} (hb : 0 < b) (h : (spec_l03DivDown a b).2 = true) : (spec_l03DivDown a b).1 = a * 4294967296 / b := by
 simp only [spec_l03DivDown] at h ⊢
 cases ha : spec_l03Ok a
 ·rw [ha] at h; simp at h
 cases hk : spec_l03Ok b
 ·rw [ha, hk] at h; simp at h
 have e0 : (b == 0) = false := by simp; omega
 have e1 : decide (b < 0) = false := decide_eq_false (by omega)
 simp only [ha, hk, e0, e1, Bool.not_true, cond_false] at h ⊢
 have hbr := (l03Ok_iff b).1 hk
 cases hm : (spec_MulDivFloor a 4294967296 b).2
 ·rw [hm] at h; simp [spec_l03End] at h
 have hv := MulDivFloor_val ha hb (by omega) hm
 rw [hm] at h
 simp only [spec_l03End, Bool.not_true, cond_false] at h ⊢
 cases hk2 : spec_l03Ok (spec_MulDivFloor a 4294967296 b).1
 ·rw [hk2] at h; simp at h
 ·simp only [Bool.not_true, cond_false]; exact hv
theorem DivI_QS {y : Iv} {c : Int} (hy : QS y) (hc : 0 < c ∧ c ≤ 268435455) : QS (spec_DivI y (spec_Integer c)) := by
 rcases hy with rfl | ⟨h1, h2, h3⟩
 ·left; rfl
 have hI : spec_Integer c = ⟨c * 4294967296, c * 4294967296⟩ := by
  have e1 : spec_l00In c (-268435455) 268435455 = true := (l00In_iff _ _ _).2 (by omega)
  simp only [spec_Integer, e1, Bool.not_true, cond_false]
  rw [w64_id (by omega) (by omega), make_ok (by omega)]
 have hyo := (ok_iff y).1 h1
 have hbp : 0 < c * 4294967296 := by omega
 have hdiv : ∀ a : Int, a * 4294967296 / (c * 4294967296) = a / c := fun a => by
  rw [Int.mul_ediv_mul_of_pos_left _ _ (by omega)]
 rw [hI]
 simp only [spec_DivI]
 rw [h1]
 cases hb : spec_l04Ok ⟨c * 4294967296, c * 4294967296⟩
 ·left; rfl
 simp only [Bool.not_true, cond_false]
 cases spec_l04Has ⟨c * 4294967296, c * 4294967296⟩ 0
 case true => left; rfl
 simp only [cond_false]
 cases d1 : (spec_l03DivDown y.lo (c * 4294967296)).2
 ·left; rfl
 cases (spec_l03DivUp y.lo (c * 4294967296)).2
 ·left; rfl
 cases d3 : (spec_l03DivDown y.hi (c * 4294967296)).2
 ·left; rfl
 cases (spec_l03DivUp y.hi (c * 4294967296)).2
 ·left; rfl
 simp only [Bool.not_true, cond_false]
 have v1 := DivDown_val hbp d1
 have v3 := DivDown_val hbp d3
 rw [hdiv] at v1 v3
 have g1 : 0 ≤ y.lo / c := Int.ediv_nonneg h2 (by omega)
 have g3 : 0 ≤ y.hi / c := Int.ediv_nonneg (by omega) (by omega)
 have g2 : y.lo / c ≤ y.lo := Int.ediv_le_self _ h2
 rcases make_cases (spec_l00Min (spec_l00Min (spec_l00Min (spec_l00Min 1152921504606846976 (spec_l03DivDown y.lo (c * 4294967296)).1) (spec_l03DivDown y.lo (c * 4294967296)).1) (spec_l03DivDown y.hi (c * 4294967296)).1) (spec_l03DivDown y.hi (c * 4294967296)).1) (spec_l00Max (spec_l00Max (spec_l00Max (spec_l00Max (-1152921504606846976) (spec_l03DivUp y.lo (c * 4294967296)).1) (spec_l03DivUp y.lo (c * 4294967296)).1) (spec_l03DivUp y.hi (c * 4294967296)).1) (spec_l03DivUp y.hi (c * 4294967296)).1) with h | ⟨h, hk⟩
 ·left; exact h
 ·right
  rw [h]
  rw [v1, v3] at hk ⊢
  refine ⟨hk, ?_, ?_⟩
  ·exact min_ge (min_ge (min_ge (min_ge (by omega) g1) g1) g3) g3
  ·have m4 := min_le (spec_l00Min (spec_l00Min (spec_l00Min 1152921504606846976 (y.lo / c)) (y.lo / c)) (y.hi / c)) (y.hi / c)
   have m3 := min_le (spec_l00Min (spec_l00Min 1152921504606846976 (y.lo / c)) (y.lo / c)) (y.hi / c)
   have m2 := min_le (spec_l00Min 1152921504606846976 (y.lo / c)) (y.lo / c)
   show spec_l00Min _ _ ≤ _
   omega
theorem prod_le {x y : Int} (h0 : 0 ≤ x) (h1 : x ≤ 4294967296) (h2 : y ≤ 4294967296) : x * y ≤ 4294967296 * 4294967296 := by
 by_cases hy : 0 ≤ y
 ·exact Int.mul_le_mul h1 h2 hy (by omega)
 ·have := Int.mul_nonneg h0 (show 0 ≤ -y by omega)
  rw [Int.mul_neg] at this
  omega
theorem Sub_cases (a b : Iv) : spec_SubI a b = spec_l04Whole ∨ (spec_SubI a b = ⟨a.lo - b.hi, a.hi - b.lo⟩ ∧ spec_l04Ok (spec_SubI a b) = true ∧ spec_l04Ok a = true ∧ spec_l04Ok b = true) := by
 simp only [spec_SubI]
 cases ha : spec_l04Ok a
 ·exact .inl rfl
 cases hb : spec_l04Ok b
 ·exact .inl rfl
 simp only [Bool.not_true, cond_false]
 have h1 := (ok_iff a).1 ha
 have h2 := (ok_iff b).1 hb
 rw [w64_id (by omega) (by omega), w64_id (by omega) (by omega)]
 rcases make_cases (a.lo - b.hi) (a.hi - b.lo) with h | ⟨h, hk⟩
 ·exact .inl h
 ·exact .inr ⟨h, by rw [h]; exact hk, trivial, trivial⟩
theorem Add_cases (a b : Iv) : spec_AddI a b = spec_l04Whole ∨ (spec_AddI a b = ⟨a.lo + b.lo, a.hi + b.hi⟩ ∧ spec_l04Ok (spec_AddI a b) = true ∧ spec_l04Ok a = true ∧ spec_l04Ok b = true) := by
 simp only [spec_AddI]
 cases ha : spec_l04Ok a
 ·exact .inl rfl
 cases hb : spec_l04Ok b
 ·exact .inl rfl
 simp only [Bool.not_true, cond_false]
 have h1 := (ok_iff a).1 ha
 have h2 := (ok_iff b).1 hb
 rw [w64_id (by omega) (by omega), w64_id (by omega) (by omega)]
 rcases make_cases (a.lo + b.lo) (a.hi + b.hi) with h | ⟨h, hk⟩
 ·exact .inl h
 ·exact .inr ⟨h, by rw [h]; exact hk, trivial, trivial⟩
theorem series_step {y s : Iv} {c : Int} (hy : QS y) (hs : PS s) (hc : 0 < c ∧ c ≤ 268435455) : PS (spec_SubI (spec_Integer 1) (spec_MulI (spec_DivI y (spec_Integer c)) s)) := by
 have hq := DivI_QS hy hc
 rcases Sub_cases (spec_Integer 1) (spec_MulI (spec_DivI y (spec_Integer c)) s) with h | ⟨h, hk, _, hm⟩
 ·exact .inl h
 right
 refine ⟨hk, ?_⟩
 rw [h]
 have e1 : spec_Integer 1 = ⟨4294967296, 4294967296⟩ := rfl
 rw [e1]
 rcases MulI_cases (spec_DivI y (spec_Integer c)) s with h2 | h2
 ·rw [h2] at hm; exact absurd hm (by decide)
 have hs' : spec_l04Ok s = true ∧ s.lo ≤ 4294967296 ∧ 0 ≤ s.hi := by
  rcases hs with rfl | hs
  ·exact absurd h2.okb (by decide)
  ·exact hs
 have hq' : 0 ≤ (spec_DivI y (spec_Integer c)).lo ∧ (spec_DivI y (spec_Integer c)).lo ≤ 4294967296 := by
  rcases hq with hq | hq
  ·have := h2.oka; rw [hq] at this; exact absurd this (by decide)
  ·exact hq.2
 have a1 := h2.lh.2
 have a2 := h2.ll.1
 have b1 := Int.mul_nonneg hq'.1 hs'.2.2
 have b2 := prod_le hq'.1 hq'.2 hs'.2.1
 rw [Int.neg_mul] at a1
 simp only []
 constructor <;> omega
theorem series_PS {y : Iv} (hy : QS y) : PS (spec_l06Series y 0) ∧ PS (spec_l06Series y (-1)) := by
 have h1 : PS (spec_Integer 1) := .inr (by decide)
 constructor
 ·simp only [spec_l06Series]
  refine series_step hy (series_step hy (series_step hy (series_step hy (series_step hy (series_step hy (series_step hy (series_step hy h1 ?_) ?_) ?_) ?_) ?_) ?_) ?_) ?_ <;> decide
 ·simp only [spec_l06Series]
  refine series_step hy (series_step hy (series_step hy (series_step hy (series_step hy (series_step hy (series_step hy (series_step hy h1 ?_) ?_) ?_) ?_) ?_) ?_) ?_) ?_ <;> decide
theorem inside_ring {x : Iv} (h : spec_InsideI x spec_l06Ring = true) : spec_l04Ok x = true ∧ -4294967296 ≤ x.lo ∧ x.hi ≤ 4294967296 := by
 simp only [spec_InsideI, ring_ok, Bool.not_true, cond_false] at h
 cases hx : spec_l04Ok x
 ·rw [hx] at h; simp at h
 ·rw [hx] at h
  simp only [cond_true] at h
  cases h2 : decide (spec_l06Ring.lo ≤ x.lo)
  ·rw [h2] at h; simp at h
  ·rw [h2] at h
   have h3 : spec_l06Ring.lo ≤ x.lo := of_decide_eq_true h2
   have h4 : x.hi ≤ spec_l06Ring.hi := of_decide_eq_true h
   exact ⟨rfl, h3, h4⟩
theorem SqrI_QS {x : Iv} (h : spec_InsideI x spec_l06Ring = true) : QS (spec_SqrI x) := by
 obtain ⟨h1, h2, h3⟩ := inside_ring h
 have hx := (ok_iff x).1 h1
 have he : 0 ≤ (spec_l04Ends x).1 ∧ (spec_l04Ends x).1 ≤ 4294967296 := by
  have e1 : w64 (0 - x.lo) = -x.lo := by rw [w64_id (by omega) (by omega)]; omega
  have e2 : w64 (0 - x.hi) = -x.hi := by rw [w64_id (by omega) (by omega)]; omega
  simp only [spec_l04Ends, e1, e2]
  cases spec_l04Has x 0
  ·simp only [cond_false, spec_l00Min, spec_l00Max, Bool.cond_eq_ite, decide_eq_true_eq]
   (repeat' split) <;> omega
  ·simp only [cond_true]; omega
 simp only [spec_SqrI, h1, Bool.not_true, cond_false]
 cases hd : (spec_l03MulDown (spec_l04Ends x).1 (spec_l04Ends x).1).2
 ·left; rfl
 cases (spec_l03MulUp (spec_l04Ends x).2 (spec_l04Ends x).2).2
 ·left; rfl
 simp only [Bool.not_true, cond_false]
 rcases make_cases (spec_l03MulDown (spec_l04Ends x).1 (spec_l04Ends x).1).1 (spec_l03MulUp (spec_l04Ends x).2 (spec_l04Ends x).2).1 with h | ⟨h, hk⟩
 ·left; exact h
 ·right
  rw [h]
  refine ⟨hk, ?_⟩
  show 0 ≤ (spec_l03MulDown (spec_l04Ends x).1 (spec_l04Ends x).1).1 ∧ (spec_l03MulDown (spec_l04Ends x).1 (spec_l04Ends x).1).1 ≤ 4294967296
  rw [(MulDown_val hd).1]
  have g1 := Int.mul_nonneg he.1 he.1
  have g2 := prod_le he.1 he.2 he.2
  omega
theorem Sin_meets (x : Iv) : Meets (spec_SinSeries x) := by
 simp only [spec_SinSeries]
 cases hi : spec_InsideI x spec_l06Ring
 ·left; rfl
 simp only [Bool.not_true, cond_false]
 obtain ⟨h1, h2, h3⟩ := inside_ring hi
 have hx := (ok_iff x).1 h1
 have hs := (series_PS (SqrI_QS hi)).1
 rcases Add_cases (spec_MulI x (spec_l06Series (spec_SqrI x) 0)) spec_l06Tiny with h | ⟨h, hk, hm, _⟩
 ·exact .inl h
 right
 refine ⟨hk, ?_⟩
 rw [h]
 rcases MulI_cases x (spec_l06Series (spec_SqrI x) 0) with g | g
 ·rw [g] at hm; exact absurd hm (by decide)
 have hs' : (spec_l06Series (spec_SqrI x) 0).lo ≤ 4294967296 ∧ 0 ≤ (spec_l06Series (spec_SqrI x) 0).hi := by
  rcases hs with hs | hs
  ·have := g.okb; rw [hs] at this; exact absurd this (by decide)
  ·exact hs.2
 generalize spec_l06Series (spec_SqrI x) 0 = s at *
 have a1 := g.ll
 have a2 := g.lh
 rw [Int.neg_mul] at a1 a2
 show (spec_MulI x s).lo + -1 ≤ _ ∧ -4294967296 ≤ (spec_MulI x s).hi + 1
 by_cases h0 : 0 ≤ s.lo
 ·by_cases hx0 : 0 ≤ x.lo
  ·have b1 := prod_le hx0 (by omega) hs'.1
   have b2 := Int.mul_nonneg hx0 h0
   constructor <;> omega
  ·have b1 := prod_le (x := -x.lo) (by omega) (by omega) hs'.1
   have b2 := Int.mul_nonneg (show 0 ≤ -x.lo by omega) h0
   rw [Int.neg_mul] at b1 b2
   constructor <;> omega
 ·by_cases hx0 : 0 ≤ x.lo
  ·have b1 := Int.mul_nonneg hx0 (show 0 ≤ -s.lo by omega)
   have b2 := Int.mul_nonneg hx0 hs'.2
   rw [Int.mul_neg] at b1
   constructor <;> omega
  ·have b1 := Int.mul_nonneg (show 0 ≤ -x.lo by omega) (show 0 ≤ -s.lo by omega)
   have b2 := Int.mul_nonneg (show 0 ≤ -x.lo by omega) hs'.2
   rw [Int.neg_mul, Int.mul_neg] at b1
   rw [Int.neg_mul] at b2
   constructor <;> omega
theorem Cos_meets (x : Iv) : Meets (spec_CosSeries x) := by
 simp only [spec_CosSeries]
 cases hi : spec_InsideI x spec_l06Ring
 ·left; rfl
 simp only [Bool.not_true, cond_false]
 have hs := (series_PS (SqrI_QS hi)).2
 rcases Add_cases (spec_l06Series (spec_SqrI x) (-1)) spec_l06Tiny with h | ⟨h, hk, hm, _⟩
 ·exact .inl h
 right
 refine ⟨hk, ?_⟩
 rw [h]
 have hs' : (spec_l06Series (spec_SqrI x) (-1)).lo ≤ 4294967296 ∧ 0 ≤ (spec_l06Series (spec_SqrI x) (-1)).hi := by
  rcases hs with hs | hs
  ·rw [hs] at hm; exact absurd hm (by decide)
  ·exact hs.2
 show (spec_l06Series (spec_SqrI x) (-1)).lo + -1 ≤ _ ∧ -4294967296 ≤ (spec_l06Series (spec_SqrI x) (-1)).hi + 1
 omega
theorem Neg_meets {x : Iv} (h : Meets x) : Meets (spec_NegI x) := by
 rcases h with rfl | ⟨h1, h2, h3⟩
 ·left; rfl
 ·have hx := (ok_iff x).1 h1
  right
  have : spec_NegI x = ⟨-x.hi, -x.lo⟩ := by rw [← NegI_eq]; exact NegI_ok h1
  rw [this]
  refine ⟨(ok_iff _).2 ?_, ?_⟩ <;> (simp only []; omega)
theorem circle_eq (n turns : Int) : impl_circleValue n turns = spec_l06At n turns := by
 have er : impl_ring = spec_l06Ring := rfl
 have ea : ∀ n, impl_at n = spec_l05At n := fun _ => rfl
 simp only [impl_circleValue, spec_l06At, er, ea, angle_eq, QuarterOf_eq, TurnI_eq, SubI_eq, SinSeries_eq, CosSeries_eq, NegI_eq, inRing_eq (Sin_meets _), inRing_eq (Cos_meets _), inRing_eq (Neg_meets (Sin_meets _)), inRing_eq (Neg_meets (Cos_meets _))]
end Go.G880
/- The sines of an interval: the turns that are kept in a list and taken up one after the other, and those that are taken up at once. -/
set_option linter.unusedSimpArgs false
set_option linter.unusedVariables false
namespace Go.G880
open Go Go.RX
theorem Q_rng (n : Int) : -200 ≤ impl_QuarterOf n ∧ impl_QuarterOf n ≤ 200 := by rw [QuarterOf_eq]; exact Quarter_rng n
theorem pd_turns {q : Int} {rs : List Value} (h : -400 ≤ q ∧ q ≤ 400 ∧ (rs.length : Int) ≤ q + 400) : decide ((rs.length + 1) * 8 ≤ 140737488355328) = true := decide_eq_true (by omega)
theorem pd_turns0 (x : Int) : decide (-400 ≤ w64 (impl_QuarterOf x - 1) ∧ w64 (impl_QuarterOf x - 1) ≤ 400 ∧ (([] : List Value).length : Int) ≤ w64 (impl_QuarterOf x - 1) + 400) = true := by
 have := Q_rng x
 rw [w64_id (by omega) (by omega)]
 exact decide_eq_true ⟨by omega, by omega, by simp; omega⟩
theorem dec_turns {x_lo x_hi : Int} {v v' : Int × List Value} (hv : -400 ≤ v.1 ∧ v.1 ≤ 400 ∧ (v.2.length : Int) ≤ v.1 + 400) (hr : impl_turnsIn.rnd3 x_lo x_hi v.1 v.2 = Sum.inl v') :
  (-400 ≤ v'.1 ∧ v'.1 ≤ 400 ∧ (v'.2.length : Int) ≤ v'.1 + 400) ∧ (401 - v'.1).toNat < (401 - v.1).toNat := by
 have hq := Q_rng x_hi
 simp only [impl_turnsIn.rnd3] at hr
 rw [w64_id (n := impl_QuarterOf x_hi + 1) (by omega) (by omega)] at hr
 cases h1 : decide (v.1 ≤ impl_QuarterOf x_hi + 1)
 ·rw [h1] at hr; simp at hr
 have h1' := of_decide_eq_true h1
 rw [h1, w64_id (n := v.1 + 1) (by omega) (by omega)] at hr
 simp only [cond_true] at hr
 cases h2 : impl_OverlapI (impl_TurnI v.1) ⟨x_lo, x_hi⟩
 ·rw [h2] at hr
  simp only [cond_false, Sum.inl.injEq] at hr
  subst hr
  simp only []
  omega
 ·rw [h2] at hr
  simp only [cond_true, Sum.inl.injEq] at hr
  subst hr
  simp only [List.length_cons]
  omega
theorem dec_hull {rs : List Value} {x_lo x_hi t n : Int} {v v' : Int × Int × Int} (hv : n = (rs.length : Int) ∧ 0 ≤ v.1 ∧ v.1 ≤ n ∧ n ≤ 1000) (hr : impl_circleHull.rnd5 rs x_lo x_hi t n v.1 v.2.1 v.2.2 = Sum.inl v') :
  (n = (rs.length : Int) ∧ 0 ≤ v'.1 ∧ v'.1 ≤ n ∧ n ≤ 1000) ∧ (n - v'.1).toNat < (n - v.1).toNat := by
 simp only [impl_circleHull.rnd5] at hr
 cases h1 : decide (v.1 < n)
 ·rw [h1] at hr; simp at hr
 have h1' := of_decide_eq_true h1
 rw [h1, w64_id (n := v.1 + 1) (by omega) (by omega)] at hr
 have key : v'.1 = v.1 + 1 := by
  simp only [cond_true, Bool.cond_eq_ite] at hr
  (repeat' split at hr) <;> (cases hr <;> rfl)
 omega
def upH (t : Int) (o : Iv) (q : Int) : Iv := bif (andI .i64 (w64 (q + t)) 3) == 1 then spec_HullI o (spec_Integer 1) else (bif (andI .i64 (w64 (q + t)) 3) == 3 then spec_HullI o (spec_Integer (-1)) else o)
def goF (x : Iv) (t : Int) : Nat → Int → Iv → Iv
 | 0, _, o => o
 | n + 1, k, o => goF x t n (k + 1) (bif spec_OverlapI (spec_TurnI k) x then upH t o k else o)
def goG (x : Iv) : Nat → Int → List Value → List Value
 | 0, _, rs => rs
 | n + 1, k, rs => goG x n (k + 1) (bif spec_OverlapI (spec_TurnI k) x then (Value.int .i64 k :: rs) else rs)
theorem over_fin (x : Iv) (t : Int) : ∀ (n f : Nat) (k : Int) (o : Iv), n < f → -400 ≤ k → (n : Int) = spec_QuarterOf x.hi + 2 - k ∨ (n = 0 ∧ spec_QuarterOf x.hi + 2 ≤ k ∧ k ≤ 400) →
  (iterV (fun v : Int × Int × Int => spec_l06Over.rnd5 x.lo x.hi t v.1 v.2.1 v.2.2) f (k, o.lo, o.hi)).2 = ((goF x t n k o).lo, (goF x t n k o).hi) := by
 intro n
 induction n with
 | zero =>
  intro f k o hf hk hn
  have hq := Quarter_rng x.hi
  obtain ⟨f, rfl⟩ : ∃ m, f = m + 1 := ⟨f - 1, by omega⟩
  have h1 : decide (k ≤ w64 (spec_QuarterOf x.hi + 1)) = false := by rw [w64_id (by omega) (by omega)]; exact decide_eq_false (by omega)
  simp only [iterV, spec_l06Over.rnd5, h1, cond_false, goF]
 | succ n ih =>
  intro f k o hf hk hn
  have hq := Quarter_rng x.hi
  obtain ⟨f, rfl⟩ : ∃ m, f = m + 1 := ⟨f - 1, by omega⟩
  have hn' : (n : Int) + 1 = spec_QuarterOf x.hi + 2 - k := by rcases hn with h | h <;> omega
  have h1 : decide (k ≤ w64 (spec_QuarterOf x.hi + 1)) = true := by rw [w64_id (by omega) (by omega)]; exact decide_eq_true (by omega)
  have h2 : w64 (k + 1) = k + 1 := w64_id (by omega) (by omega)
  simp only [iterV, spec_l06Over.rnd5, h1, cond_true, goF, h2]
  cases h3 : spec_OverlapI (spec_TurnI k) ⟨x.lo, x.hi⟩
  ·simp only [Bool.not_false, cond_true, cond_false, show spec_OverlapI (spec_TurnI k) x = false from h3]
   exact ih f (k + 1) o (by omega) (by omega) (.inl (by omega))
  ·simp only [Bool.not_true, cond_false, cond_true, show spec_OverlapI (spec_TurnI k) x = true from h3, upH]
   cases h4 : andI .i64 (w64 (k + t)) 3 == 1
   ·simp only [cond_false]
    cases h5 : andI .i64 (w64 (k + t)) 3 == 3
    ·simp only [cond_false]
     exact ih f (k + 1) o (by omega) (by omega) (.inl (by omega))
    ·simp only [cond_true]
     exact ih f (k + 1) _ (by omega) (by omega) (.inl (by omega))
   ·simp only [cond_true]
    exact ih f (k + 1) _ (by omega) (by omega) (.inl (by omega))
theorem turns_fin (x : Iv) : ∀ (n f : Nat) (k : Int) (rs : List Value), n < f → -400 ≤ k → (n : Int) = spec_QuarterOf x.hi + 2 - k ∨ (n = 0 ∧ spec_QuarterOf x.hi + 2 ≤ k ∧ k ≤ 400) →
  (iterV (fun v : Int × List Value => impl_turnsIn.rnd3 x.lo x.hi v.1 v.2) f (k, rs)).2 = goG x n k rs := by
 intro n
 induction n with
 | zero =>
  intro f k rs hf hk hn
  have hq := Quarter_rng x.hi
  obtain ⟨f, rfl⟩ : ∃ m, f = m + 1 := ⟨f - 1, by omega⟩
  have h1 : decide (k ≤ w64 (impl_QuarterOf x.hi + 1)) = false := by rw [QuarterOf_eq, w64_id (by omega) (by omega)]; exact decide_eq_false (by omega)
  simp only [iterV, impl_turnsIn.rnd3, h1, cond_false, goG]
 | succ n ih =>
  intro f k rs hf hk hn
  have hq := Quarter_rng x.hi
  obtain ⟨f, rfl⟩ : ∃ m, f = m + 1 := ⟨f - 1, by omega⟩
  have hn' : (n : Int) + 1 = spec_QuarterOf x.hi + 2 - k := by rcases hn with h | h <;> omega
  have h1 : decide (k ≤ w64 (impl_QuarterOf x.hi + 1)) = true := by rw [QuarterOf_eq, w64_id (by omega) (by omega)]; exact decide_eq_true (by omega)
  have h2 : w64 (k + 1) = k + 1 := w64_id (by omega) (by omega)
  have hs : impl_turnsIn.rnd3 x.lo x.hi k rs = Sum.inl (k + 1, bif spec_OverlapI (spec_TurnI k) x then (Value.int .i64 k :: rs) else rs) := by
   simp only [impl_turnsIn.rnd3, h1, cond_true, h2, OverlapI_eq, TurnI_eq]
   show (bif spec_OverlapI (spec_TurnI k) x then _ else _) = _
   cases spec_OverlapI (spec_TurnI k) x <;> rfl
  rw [iterV]
  dsimp only
  rw [hs]
  exact ih f (k + 1) _ (by omega) (by omega) (.inl (by omega))
theorem goG_len (x : Iv) : ∀ (n : Nat) (k : Int) (rs : List Value), (goG x n k rs).length ≤ rs.length + n := by
 intro n
 induction n with
 | zero => intro k rs; exact Nat.le_refl _
 | succ n ih =>
  intro k rs
  simp only [goG]
  cases spec_OverlapI (spec_TurnI k) x
  ·have := ih (k + 1) rs; simp only [cond_false]; omega
  ·have := ih (k + 1) (Value.int .i64 k :: rs); simp only [cond_true, List.length_cons] at this ⊢; omega
theorem goG_fold (x : Iv) (t : Int) (o : Iv) : ∀ (n : Nat) (k : Int) (rs : List Value), ((goG x n k rs).reverse.map cI).foldl (upH t) o = goF x t n k ((rs.reverse.map cI).foldl (upH t) o) := by
 intro n
 induction n with
 | zero => intro k rs; rfl
 | succ n ih =>
  intro k rs
  simp only [goG, goF]
  cases spec_OverlapI (spec_TurnI k) x
  ·simp only [cond_false]; exact ih (k + 1) rs
  ·simp only [cond_true]
   rw [ih (k + 1) (Value.int .i64 k :: rs)]
   simp [cI]
theorem hull_fin (rs : List Value) (xl xh t n : Int) (hn : n = (rs.length : Int)) (hn2 : n ≤ 1000) : ∀ (d f : Nat) (i : Int) (o : Iv), d < f → 0 ≤ i → (d : Int) = n - i →
  (iterV (fun v : Int × Int × Int => impl_circleHull.rnd5 rs xl xh t n v.1 v.2.1 v.2.2) f (i, o.lo, o.hi)).2 =
   ((((rs.reverse.drop i.toNat).map cI).foldl (upH t) o).lo, (((rs.reverse.drop i.toNat).map cI).foldl (upH t) o).hi) := by
 intro d
 induction d with
 | zero =>
  intro f i o hf hi hd
  obtain ⟨f, rfl⟩ : ∃ m, f = m + 1 := ⟨f - 1, by omega⟩
  have h1 : decide (i < n) = false := decide_eq_false (by omega)
  have h2 : rs.reverse.drop i.toNat = [] := List.drop_eq_nil_of_le (by simp; omega)
  simp only [iterV, impl_circleHull.rnd5, h1, cond_false, h2, List.map_nil, List.foldl_nil]
 | succ d ih =>
  intro f i o hf hi hd
  obtain ⟨f, rfl⟩ : ∃ m, f = m + 1 := ⟨f - 1, by omega⟩
  have h1 : decide (i < n) = true := decide_eq_true (by omega)
  have h2 : w64 (i + 1) = i + 1 := w64_id (by omega) (by omega)
  have hlt : i.toNat < rs.reverse.length := by simp; omega
  have hlt' : i.toNat < rs.length := by omega
  have h3 : rs.reverse.drop i.toNat = nthR rs true i.toNat :: rs.reverse.drop (i + 1).toNat := by
   rw [List.drop_eq_getElem_cons hlt, show (i + 1).toNat = i.toNat + 1 by omega]
   congr 1
   have := nthR_get (g := true) hlt'
   simp only [inOrder] at this
   rw [List.getElem?_eq_getElem hlt] at this
   simpa using this
  have hs : impl_circleHull.rnd5 rs xl xh t n i o.lo o.hi = Sum.inl (i + 1, (upH t o (cI (nthR rs true i.toNat))).lo, (upH t o (cI (nthR rs true i.toNat))).hi) := by
   simp only [impl_circleHull.rnd5, h1, cond_true, h2, HullI_eq, Integer_eq, atI, upH]
   generalize cI (nthR rs true i.toNat) = q
   cases h4 : andI .i64 (w64 (q + t)) 3 == 1
   ·simp only [cond_false]
    cases h5 : andI .i64 (w64 (q + t)) 3 == 3
    ·simp only [cond_false]
    ·simp only [cond_true]
   ·simp only [cond_true]
  rw [iterV]
  dsimp only
  rw [hs, h3]
  exact ih f (i + 1) _ (by omega) (by omega) (by omega)
theorem turns_val (x : Iv) : ∃ n : Nat, n ≤ 403 ∧ ((n : Int) = spec_QuarterOf x.hi + 2 - (spec_QuarterOf x.lo - 1) ∨ (n = 0 ∧ spec_QuarterOf x.hi + 2 ≤ spec_QuarterOf x.lo - 1)) ∧ impl_turnsIn x = goG x n (spec_QuarterOf x.lo - 1) [] := by
 have h1 := Quarter_rng x.hi
 have h2 := Quarter_rng x.lo
 refine ⟨(spec_QuarterOf x.hi + 2 - (spec_QuarterOf x.lo - 1)).toNat, by omega, by omega, ?_⟩
 simp only [impl_turnsIn, impl_turnsIn.fin3, QuarterOf_eq]
 rw [w64_id (n := spec_QuarterOf x.lo - 1) (by omega) (by omega)]
 exact turns_fin x _ _ _ _ (by omega) (by omega) (by omega)
theorem pd_hull0 (x : Iv) : decide (((impl_turnsIn x).length : Int) = ((impl_turnsIn x).length : Int) ∧ (0 : Int) ≤ (0 : Int) ∧ (0 : Int) ≤ ((impl_turnsIn x).length : Int) ∧ ((impl_turnsIn x).length : Int) ≤ 1000) = true := by
 obtain ⟨n, h1, _, h2⟩ := turns_val x
 have := goG_len x n (spec_QuarterOf x.lo - 1) []
 rw [h2]
 simp only [List.length_nil] at this
 exact decide_eq_true ⟨rfl, Int.le_refl _, by omega, by omega⟩
theorem hull_eq (x : Iv) (t : Int) : impl_circleHull x t = spec_l06Over x t := by
 have ef : impl_areAngles x = spec_l06Fits x := rfl
 simp only [impl_circleHull, spec_l06Over, ef]
 cases h : spec_l06Fits x
 ·rfl
 simp only [Bool.not_true, cond_false]
 obtain ⟨n, h1, h2, h3⟩ := turns_val x
 have q1 := Quarter_rng x.hi
 have q2 := Quarter_rng x.lo
 have hl := goG_len x n (spec_QuarterOf x.lo - 1) []
 simp only [List.length_nil] at hl
 have e1 := over_fin x t n 802 (spec_QuarterOf x.lo - 1) (spec_HullI (spec_l06At x.lo t) (spec_l06At x.hi t)) (by omega) (by omega) (by omega)
 have e2 := hull_fin (impl_turnsIn x) x.lo x.hi t ((impl_turnsIn x).length : Int) rfl (by rw [h3]; omega) (impl_turnsIn x).length 1001 0 (spec_HullI (spec_l06At x.lo t) (spec_l06At x.hi t)) (by rw [h3]; omega) (by omega) (by omega)
 simp only [Int.toNat_zero, List.drop_zero] at e2
 rw [show ((impl_turnsIn x).reverse.map cI).foldl (upH t) (spec_HullI (spec_l06At x.lo t) (spec_l06At x.hi t)) = goF x t n (spec_QuarterOf x.lo - 1) (spec_HullI (spec_l06At x.lo t) (spec_l06At x.hi t)) by rw [h3, goG_fold]; rfl] at e2
 rw [w64_id (n := spec_QuarterOf x.lo - 1) (by omega) (by omega)]
 simp only [impl_circleHull.fin5, spec_l06Over.fin5, HullI_eq, circle_eq]
 rw [e1, e2]
theorem SinI_eq (x : Iv) : impl_SinI x = spec_SinI x := hull_eq x 0
end Go.G880
/- Vectors that are turned. -/
set_option linter.unusedSimpArgs false
set_option linter.unusedVariables false
/- Roots of intervals; radii of curvature, and the meridian's arc. -/
set_option linter.unusedSimpArgs false
set_option linter.unusedVariables false
namespace Go.G880
open Go Go.RX
theorem W_same {z y : Int} (hz : 0 ≤ z ∧ z < 170141183460469231731687303715884105728) (hy : 0 ≤ y ∧ y < 170141183460469231731687303715884105728) : ((W z).hi == (W y).hi && (W z).lo == (W y).lo) = decide (z = y) := by
 have h1 := W_hi (z := z) (by simp only [In128]; omega)
 have h2 := W_hi (z := y) (by simp only [In128]; omega)
 have h3 := (W_halves (z := z) hz.1 (by omega)).2
 have h4 := (W_halves (z := y) hy.1 (by omega)).2
 rw [h1, h2, h3, h4]
 apply Bool.eq_iff_iff.2
 simp only [Bool.and_eq_true, beq_iff_eq, decide_eq_true_eq]
 constructor
 ·rintro ⟨a, b⟩; omega
 ·rintro rfl; exact ⟨rfl, rfl⟩
theorem and_low32 (z : Int) : andI .i64 (w64 z) 4294967295 = z % 4294967296 := by
 have hb : BitVec.ofInt 64 (w64 z) = BitVec.ofInt 64 (u64 z) := by
  apply BitVec.eq_of_toNat_eq
  simp only [BitVec.toNat_ofInt]
  congr 1
  simp only [w64_def, u64_def]
  omega
 have h0 := u64_nn z
 have h1 := u64_lt z
 show w64 (((BitVec.ofInt 64 (w64 z) &&& BitVec.ofInt 64 4294967295).toNat : Nat) : Int) = _
 rw [hb]
 have h2 : andI .u64 (u64 z) 4294967295 = u64 z % 4294967296 := and32 h0 h1
 have h3 : andI .u64 (u64 z) 4294967295 = u64 (((BitVec.ofInt 64 (u64 z) &&& BitVec.ofInt 64 4294967295).toNat : Nat) : Int) := rfl
 have h4 : (((BitVec.ofInt 64 (u64 z) &&& BitVec.ofInt 64 4294967295).toNat : Nat) : Int) < 18446744073709551616 := by
  have := (BitVec.ofInt 64 (u64 z) &&& BitVec.ofInt 64 4294967295).isLt
  omega
 rw [h3, u64_id (by omega) (by omega)] at h2
 rw [h2, w64_id (by omega) (by omega)]
 simp only [u64_def]
 omega
theorem Sqrt_parts {x : Int} (h : 0 ≤ x ∧ x < 1152921504606846976) : ∃ r, 0 ≤ r ∧ r < 1152921504606846976 ∧ r * r ≤ x * 4294967296 ∧
  impl_SqrtDown x = (r, true) ∧ spec_l03SqrtDown x = (r, true) ∧
  impl_SqrtUp x = ((if r * r = x * 4294967296 then r else r + 1), true) ∧ spec_l03SqrtUp x = ((if r * r = x * 4294967296 then r else r + 1), true) := by
 have hx : In64 x := by simp only [In64]; omega
 obtain ⟨r0, r1, r2, r3, r4⟩ := Root_W (z := x * 4294967296) (by omega) (by omega)
 generalize hr : spec_l02Root (W (x * 4294967296)) = r at *
 have hr46 : r < 140737488355328 := by
  apply Int.lt_of_not_ge
  intro hge
  have : 140737488355328 * 140737488355328 ≤ r * r := Int.mul_le_mul hge hge (by omega) (by omega)
  omega
 have w1 : w64 r = r := w64_id (by omega) (by omega)
 have w2 : w64 (r + 1) = r + 1 := w64_id (by omega) (by omega)
 have ri : In64 r := by simp only [In64]; omega
 have hrr : 0 ≤ r * r := Int.mul_nonneg r1 r1
 have d0 : decide (x < 0) = false := decide_eq_false (by omega)
 have d1 : decide ((4294967296 : Int) < 0) = false := by decide
 have k0 : impl_ValidFix x = true := by rw [fixOk]; exact (l03Ok_iff _).2 (by omega)
 have k1 : spec_l03Ok r = true := (l03Ok_iff _).2 (by omega)
 have k2 : spec_l03Ok (r + 1) = true := (l03Ok_iff _).2 (by omega)
 have k3 : spec_l00In x 0 1152921504606846976 = true := (l00In_iff _ _ _).2 (by omega)
 have s1 : impl_SqrtDown x = (r, true) := by
  simp only [impl_SqrtDown, k0, impl_SqrtFloor, d0, d1, WideMul_eq hx in64_unit, r0, w1, fixed_eq, spec_l03End, k1, Bool.not_true, cond_false]
 have s2 : spec_l03SqrtDown x = (r, true) := by
  simp only [spec_l03SqrtDown, k3, spec_SqrtFloor, d0, d1, l02Mul_eq hx in64_unit, hr, w1, Bool.not_true, cond_false]
 refine ⟨r, r1, by omega, r3, s1, s2, ?_, ?_⟩
 ·simp only [impl_SqrtUp, s1, cond_true, WideMul_eq ri ri, WideMul_eq hx in64_unit, W_same (z := r * r) (y := x * 4294967296) (by omega) (by omega), fixed_eq, spec_l03End, w2, k1, k2, Bool.not_true, cond_false]
  by_cases hc : r * r = x * 4294967296
  ·rw [decide_eq_true hc, if_pos hc]; rfl
  ·rw [decide_eq_false hc, if_neg hc]; rfl
 ·simp only [spec_l03SqrtUp, s2, Bool.not_true, cond_false, and_low32, w2]
  rw [MulFloor32_val ri ri, if_pos (by omega)]
  by_cases hc : r * r = x * 4294967296
  ·have e1 : (r * r / 4294967296 != x) = false := by simp; omega
   have e2 : (r * r % 4294967296 != 0) = false := by simp; omega
   simp only [e1, e2, cond_false, if_pos hc]
  ·rw [if_neg hc]
   cases e1 : (r * r / 4294967296 != x)
   ·have e2 : (r * r % 4294967296 != 0) = true := by
     simp only [bne_eq_false_iff_eq] at e1
     simp only [bne_iff_ne, ne_eq]
     omega
    simp only [e2, cond_false, cond_true]
   ·simp only [cond_true]
theorem SqrtI_eq (a : Iv) : impl_SqrtI a = spec_SqrtI a := by
 simp only [impl_SqrtI, spec_SqrtI, isWhole_eq, whole_eq]
 cases h : spec_l04Ok a
 ·rfl
 have hh := (ok_iff a).1 h
 simp only [Bool.not_true, cond_false]
 by_cases h0 : a.lo < 0
 ·rw [decide_eq_true h0]; rfl
 rw [decide_eq_false h0]
 obtain ⟨r, _, _, _, p1, p2, _⟩ := Sqrt_parts (x := a.lo) (by omega)
 obtain ⟨s, _, _, _, _, _, q1, q2⟩ := Sqrt_parts (x := a.hi) (by omega)
 simp only [p1, p2, q1, q2, cond_true, cond_false, bounded_true]
theorem symmetric_eq (x : Iv) : impl_symmetric x = spec_l04Make (w64 (0 - x.hi)) x.hi ∨ (spec_l04Ok x = false ∧ x ≠ spec_l04Whole) := by
 simp only [impl_symmetric, isWhole_eq, whole_eq, bounded_true]
 cases h : spec_l04Ok x
 ·by_cases hx : x = spec_l04Whole
  ·left; subst hx; rfl
  ·right; exact ⟨rfl, hx⟩
 ·left; rfl
theorem sym_mul (a b : Iv) : impl_symmetric (spec_MulI a b) = spec_l04Make (w64 (0 - (spec_MulI a b).hi)) (spec_MulI a b).hi := by
 rcases symmetric_eq (spec_MulI a b) with h | ⟨h1, h2⟩
 ·exact h
 ·rcases MulI_cases a b with h | h
  ·exact absurd h h2
  ·rw [h.ok] at h1; cases h1
theorem arcAt_eq (e : El) {n : Int} (h : -8589934592 ≤ n ∧ n ≤ 8589934592) : impl_arcAt e n = spec_l12Arc e n := by
 have e1 : impl_at n = spec_l08At n := by
  simp only [impl_at, spec_l08At]
  rw [make_ok (by omega)]
 simp only [impl_arcAt, spec_l12Arc, e1, impl_over, impl_times, impl_oneLess, ThirdI_eq, MajorI_eq, SqrI_eq, SinI_eq, MulI_eq, DivI_eq, AddI_eq, SubI_eq, Integer_eq, sym_mul, Quotient_eq (a := 3) (d := 2) (by simp only [In64]; omega) (by simp only [In64]; omega), Quotient_eq (a := 15) (d := 16) (by simp only [In64]; omega) (by simp only [In64]; omega), Quotient_eq (a := 35) (d := 48) (by simp only [In64]; omega) (by simp only [In64]; omega), Quotient_eq (a := 315) (d := 512) (by simp only [In64]; omega) (by simp only [In64]; omega)]
theorem ArcI_eq (e : El) (lat : Iv) : impl_ArcI e lat = spec_ArcI e lat := by
 simp only [impl_ArcI, impl_ArcI_1, spec_ArcI, ValidEllipsoid_eq, whole_eq, isWhole_eq, bounded_true, areBounded_eq]
 cases he : spec_l12Ok e
 ·rfl
 simp only [Bool.not_true, cond_false]
 have hb : spec_l04Ok ⟨-8589934592, 8589934592⟩ = true := by decide
 simp only [spec_InsideI, hb, Bool.not_true, cond_false]
 cases hl : spec_l04Ok lat
 ·simp only [cond_false, Bool.not_false, cond_true]
  cases impl_within lat.lo (-8589934592) 8589934592 <;> cases impl_within lat.hi (-8589934592) 8589934592 <;> rfl
 have hh := (ok_iff lat).1 hl
 simp only [cond_true, Bool.not_true, cond_false]
 by_cases h1 : -8589934592 ≤ lat.lo ∧ lat.hi ≤ 8589934592
 ·have i1 : impl_within lat.lo (-8589934592) 8589934592 = true := (inside_iff _ _ _).2 (by omega)
  have i2 : impl_within lat.hi (-8589934592) 8589934592 = true := (inside_iff _ _ _).2 (by omega)
  rw [i1, i2, decide_eq_true h1.1, decide_eq_true h1.2]
  simp only [Bool.not_true, cond_false, cond_true, spec_l08Ends]
  rw [arcAt_eq e (n := lat.lo) (by omega), arcAt_eq e (n := lat.hi) (by omega)]
  cases spec_l04Ok (spec_l12Arc e lat.lo) <;> cases spec_l04Ok (spec_l12Arc e lat.hi) <;> rfl
 ·have : (bif decide (-8589934592 ≤ lat.lo) then decide (lat.hi ≤ 8589934592) else false) = false := by
   by_cases h2 : -8589934592 ≤ lat.lo
   ·rw [decide_eq_true h2, cond_true]; exact decide_eq_false (by omega)
   ·rw [decide_eq_false h2, cond_false]
  rw [this]
  simp only [Bool.not_false, cond_true]
  by_cases h2 : -8589934592 ≤ lat.lo ∧ lat.lo ≤ 8589934592
  ·have i1 : impl_within lat.lo (-8589934592) 8589934592 = true := (inside_iff _ _ _).2 h2
   have i2 : impl_within lat.hi (-8589934592) 8589934592 = false := by
    cases hk : impl_within lat.hi (-8589934592) 8589934592
    ·rfl
    ·have := (inside_iff _ _ _).1 hk; omega
   rw [i1, i2]; rfl
  ·have i1 : impl_within lat.lo (-8589934592) 8589934592 = false := by
    cases hk : impl_within lat.lo (-8589934592) 8589934592
    ·rfl
    ·have := (inside_iff _ _ _).1 hk; omega
   rw [i1]; rfl
end Go.G880
