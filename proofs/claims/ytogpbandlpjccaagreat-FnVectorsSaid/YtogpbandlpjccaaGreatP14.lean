/- Products and quotients of intervals hold the products and quotients of their ends; so the circle's series meet the ring. -/
import Derived.Test.YtogpbandlpjccaaGreatP13
set_option linter.unusedSimpArgs false
set_option linter.unusedVariables false
namespace Go.G880
open Go Go.RX

theorem MulFloor32_val {a b : Int} (ha : In64 a) (hb : In64 b) : spec_MulFloor a b 32 = if -9223372036854775808 ≤ a * b / 4294967296 ∧ a * b / 4294967296 ≤ 9223372036854775807 then (a * b / 4294967296, true) else (0, false) := by
  have ⟨h1, h2⟩ := prod_range ha hb
  have e2 : spec_l00In 32 0 126 = true := by decide
  have e3 := WideInt_W (z := a * b / 4294967296) (by omega) (by omega)
  simp only [spec_MulFloor, l02Mul_eq ha hb, (Shift32 h1 h2).2, e2, e3, Bool.not_true, cond_false]
/-- A product, rounded down. -/
theorem MulDown_val {a b : Int} (h : (spec_l03MulDown a b).2 = true) : (spec_l03MulDown a b).1 = a * b / 4294967296 ∧ spec_l03Ok a = true ∧ spec_l03Ok b = true := by
  simp only [spec_l03MulDown] at h ⊢
  cases ha : spec_l03Ok a
  · rw [ha] at h; simp at h
  cases hb : spec_l03Ok b
  · rw [ha, hb] at h; simp at h
  simp only [ha, hb, Bool.not_true, cond_false, MulFloor32_val (in64_fix ha) (in64_fix hb)] at h ⊢
  by_cases hr : -9223372036854775808 ≤ a * b / 4294967296 ∧ a * b / 4294967296 ≤ 9223372036854775807
  · rw [if_pos hr] at h ⊢
    simp only [spec_l03End, Bool.not_true, cond_false] at h ⊢
    cases hk : spec_l03Ok (a * b / 4294967296)
    · rw [hk] at h; simp at h
    · simp
  · rw [if_neg hr] at h
    simp [spec_l03End] at h
/-- A product, rounded up. -/
theorem MulUp_val {a b : Int} (h : (spec_l03MulUp a b).2 = true) : (spec_l03MulUp a b).1 = -((-a) * b / 4294967296) ∧ spec_l03Ok a = true := by
  simp only [spec_l03MulUp] at h ⊢
  cases ha : spec_l03Ok a
  · rw [ha] at h; simp at h
  simp only [ha, Bool.not_true, cond_false, (neg_fix ha).1] at h ⊢
  cases hd : (spec_l03MulDown (-a) b).2
  · rw [hd] at h; simp at h
  simp only [hd, Bool.not_true, cond_false] at h ⊢
  have hv := MulDown_val hd
  have hok := (l03Ok_iff _).1 (MulDown_ok hd)
  rw [hv.1] at hok ⊢
  exact ⟨by rw [w64_id (by omega) (by omega)]; omega, trivial⟩

theorem min_le (x y : Int) : spec_l00Min x y ≤ x ∧ spec_l00Min x y ≤ y := by
  simp only [spec_l00Min, Bool.cond_eq_ite, decide_eq_true_eq]; split <;> omega
theorem max_ge (x y : Int) : x ≤ spec_l00Max x y ∧ y ≤ spec_l00Max x y := by
  simp only [spec_l00Max, Bool.cond_eq_ite, decide_eq_true_eq]; split <;> omega
theorem make_cases (lo hi : Int) : spec_l04Make lo hi = spec_l04Whole ∨ (spec_l04Make lo hi = ⟨lo, hi⟩ ∧ spec_l04Ok ⟨lo, hi⟩ = true) := by
  unfold spec_l04Make
  cases h : spec_l04Ok ⟨lo, hi⟩
  · exact .inl rfl
  · exact .inr ⟨rfl, rfl⟩

/-- What holds of a product of intervals that is bounded: it holds the products of the ends. -/
structure Holds4 (p a b : Iv) : Prop where
  ok : spec_l04Ok p = true
  oka : spec_l04Ok a = true
  okb : spec_l04Ok b = true
  ll : p.lo ≤ a.lo * b.lo / 4294967296 ∧ -((-a.lo) * b.lo / 4294967296) ≤ p.hi
  lh : p.lo ≤ a.lo * b.hi / 4294967296 ∧ -((-a.lo) * b.hi / 4294967296) ≤ p.hi
  hl : p.lo ≤ a.hi * b.lo / 4294967296 ∧ -((-a.hi) * b.lo / 4294967296) ≤ p.hi
  hh : p.lo ≤ a.hi * b.hi / 4294967296 ∧ -((-a.hi) * b.hi / 4294967296) ≤ p.hi

theorem MulI_cases (a b : Iv) : spec_MulI a b = spec_l04Whole ∨ Holds4 (spec_MulI a b) a b := by
  simp only [spec_MulI]
  cases ha : spec_l04Ok a
  · exact .inl rfl
  cases hb : spec_l04Ok b
  · exact .inl rfl
  simp only [Bool.not_true, cond_false]
  cases d1 : (spec_l03MulDown a.lo b.lo).2
  · exact .inl rfl
  cases u1 : (spec_l03MulUp a.lo b.lo).2
  · exact .inl rfl
  cases d2 : (spec_l03MulDown a.lo b.hi).2
  · exact .inl rfl
  cases u2 : (spec_l03MulUp a.lo b.hi).2
  · exact .inl rfl
  cases d3 : (spec_l03MulDown a.hi b.lo).2
  · exact .inl rfl
  cases u3 : (spec_l03MulUp a.hi b.lo).2
  · exact .inl rfl
  cases d4 : (spec_l03MulDown a.hi b.hi).2
  · exact .inl rfl
  cases u4 : (spec_l03MulUp a.hi b.hi).2
  · exact .inl rfl
  simp only [Bool.not_true, cond_false]
  rcases make_cases (spec_l00Min (spec_l00Min (spec_l00Min (spec_l00Min 1152921504606846976 (spec_l03MulDown a.lo b.lo).1) (spec_l03MulDown a.lo b.hi).1) (spec_l03MulDown a.hi b.lo).1) (spec_l03MulDown a.hi b.hi).1) (spec_l00Max (spec_l00Max (spec_l00Max (spec_l00Max (-1152921504606846976) (spec_l03MulUp a.lo b.lo).1) (spec_l03MulUp a.lo b.hi).1) (spec_l03MulUp a.hi b.lo).1) (spec_l03MulUp a.hi b.hi).1) with h | ⟨h, hk⟩
  · exact .inl h
  · right
    rw [h]
    have m4 := min_le (spec_l00Min (spec_l00Min (spec_l00Min 1152921504606846976 (spec_l03MulDown a.lo b.lo).1) (spec_l03MulDown a.lo b.hi).1) (spec_l03MulDown a.hi b.lo).1) (spec_l03MulDown a.hi b.hi).1
    have m3 := min_le (spec_l00Min (spec_l00Min 1152921504606846976 (spec_l03MulDown a.lo b.lo).1) (spec_l03MulDown a.lo b.hi).1) (spec_l03MulDown a.hi b.lo).1
    have m2 := min_le (spec_l00Min 1152921504606846976 (spec_l03MulDown a.lo b.lo).1) (spec_l03MulDown a.lo b.hi).1
    have m1 := min_le 1152921504606846976 (spec_l03MulDown a.lo b.lo).1
    have n4 := max_ge (spec_l00Max (spec_l00Max (spec_l00Max (-1152921504606846976) (spec_l03MulUp a.lo b.lo).1) (spec_l03MulUp a.lo b.hi).1) (spec_l03MulUp a.hi b.lo).1) (spec_l03MulUp a.hi b.hi).1
    have n3 := max_ge (spec_l00Max (spec_l00Max (-1152921504606846976) (spec_l03MulUp a.lo b.lo).1) (spec_l03MulUp a.lo b.hi).1) (spec_l03MulUp a.hi b.lo).1
    have n2 := max_ge (spec_l00Max (-1152921504606846976) (spec_l03MulUp a.lo b.lo).1) (spec_l03MulUp a.lo b.hi).1
    have n1 := max_ge (-1152921504606846976) (spec_l03MulUp a.lo b.lo).1
    refine ⟨hk, ha, hb, ?_, ?_, ?_, ?_⟩
    · rw [← (MulDown_val d1).1, ← (MulUp_val u1).1]; constructor
      · show spec_l00Min _ _ ≤ _; omega
      · show _ ≤ spec_l00Max _ _; omega
    · rw [← (MulDown_val d2).1, ← (MulUp_val u2).1]; constructor
      · show spec_l00Min _ _ ≤ _; omega
      · show _ ≤ spec_l00Max _ _; omega
    · rw [← (MulDown_val d3).1, ← (MulUp_val u3).1]; constructor
      · show spec_l00Min _ _ ≤ _; omega
      · show _ ≤ spec_l00Max _ _; omega
    · rw [← (MulDown_val d4).1, ← (MulUp_val u4).1]; constructor
      · show spec_l00Min _ _ ≤ _; omega
      · show _ ≤ spec_l00Max _ _; omega

end Go.G880
