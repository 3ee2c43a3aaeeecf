/- The intervals' products and quotients enclose. -/
import Derived.Test.YtogpbandlpjccaaPN2
set_option linter.unusedVariables false
set_option linter.unusedSimpArgs false
namespace Go.G880.Nw
open Go Go.RX Go.G880 Go.Newton

theorem min_le (a b : Int) : spec_l00Min a b ≤ a ∧ spec_l00Min a b ≤ b := by
  simp only [spec_l00Min, Bool.cond_eq_ite, decide_eq_true_eq]
  split <;> omega
theorem le_max (a b : Int) : a ≤ spec_l00Max a b ∧ b ≤ spec_l00Max a b := by
  simp only [spec_l00Max, Bool.cond_eq_ite, decide_eq_true_eq]
  split <;> omega
/-- The least and the greatest of four. -/
theorem four (d1 d2 d3 d4 u1 u2 u3 u4 : Int) :
    let lo := spec_l00Min (spec_l00Min (spec_l00Min (spec_l00Min 1152921504606846976 d1) d2) d3) d4
    let hi := spec_l00Max (spec_l00Max (spec_l00Max (spec_l00Max (-1152921504606846976) u1) u2) u3) u4
    (lo ≤ d1 ∧ lo ≤ d2 ∧ lo ≤ d3 ∧ lo ≤ d4) ∧ (u1 ≤ hi ∧ u2 ≤ hi ∧ u3 ≤ hi ∧ u4 ≤ hi) := by
  intro lo hi
  have a1 := min_le 1152921504606846976 d1
  have a2 := min_le (spec_l00Min 1152921504606846976 d1) d2
  have a3 := min_le (spec_l00Min (spec_l00Min 1152921504606846976 d1) d2) d3
  have a4 := min_le (spec_l00Min (spec_l00Min (spec_l00Min 1152921504606846976 d1) d2) d3) d4
  have b1 := le_max (-1152921504606846976) u1
  have b2 := le_max (spec_l00Max (-1152921504606846976) u1) u2
  have b3 := le_max (spec_l00Max (spec_l00Max (-1152921504606846976) u1) u2) u3
  have b4 := le_max (spec_l00Max (spec_l00Max (spec_l00Max (-1152921504606846976) u1) u2) u3) u4
  show (spec_l00Min (spec_l00Min (spec_l00Min (spec_l00Min 1152921504606846976 d1) d2) d3) d4 ≤ d1 ∧ _) ∧ _
  omega
/-- A product of two numbers of ranges lies between the products of the ends. -/
theorem bil_lo {x1 x2 y1 y2 a b L : Rat} (h1 : x1 ≤ a) (h2 : a ≤ x2) (h3 : y1 ≤ b) (h4 : b ≤ y2) (p1 : L ≤ x1 * y1) (p2 : L ≤ x1 * y2) (p3 : L ≤ x2 * y1) (p4 : L ≤ x2 * y2) : L ≤ a * b := by
  have q : ∀ x : Rat, L ≤ x * y1 → L ≤ x * y2 → L ≤ x * b := by
    intro x g1 g2
    by_cases hx : 0 ≤ x
    · have := Rat.mul_nonneg hx (show 0 ≤ b - y1 by grind)
      grind
    · have := Rat.mul_nonneg (show 0 ≤ -x by grind) (show 0 ≤ y2 - b by grind)
      grind
  have q1 := q x1 p1 p2
  have q2 := q x2 p3 p4
  by_cases hb : 0 ≤ b
  · have := Rat.mul_nonneg (show 0 ≤ a - x1 by grind) hb
    grind
  · have := Rat.mul_nonneg (show 0 ≤ x2 - a by grind) (show 0 ≤ -b by grind)
    grind
theorem bil_hi {x1 x2 y1 y2 a b L : Rat} (h1 : x1 ≤ a) (h2 : a ≤ x2) (h3 : y1 ≤ b) (h4 : b ≤ y2) (p1 : x1 * y1 ≤ L) (p2 : x1 * y2 ≤ L) (p3 : x2 * y1 ≤ L) (p4 : x2 * y2 ≤ L) : a * b ≤ L := by
  have := bil_lo (x1 := -x2) (x2 := -x1) (y1 := y1) (y2 := y2) (a := -a) (b := b) (L := -L) (by grind) (by grind) h3 h4 (by grind) (by grind) (by grind) (by grind)
  grind
theorem cst {a b : Int} (h : a ≤ b) : (a : Rat) ≤ (b : Rat) := by exact_mod_cast h
theorem castU : ((4294967296 : Int) : Rat) = 4294967296 := rfl
theorem down_cast {n a b : Int} (h : n * 4294967296 ≤ a * b) : (n : Rat) * 4294967296 ≤ (a : Rat) * (b : Rat) := by
  have := cst h
  rw [Rat.intCast_mul, Rat.intCast_mul, castU] at this
  exact this
theorem up_cast {n a b : Int} (h : a * b ≤ n * 4294967296) : (a : Rat) * (b : Rat) ≤ (n : Rat) * 4294967296 := by
  have := cst h
  rw [Rat.intCast_mul, Rat.intCast_mul, castU] at this
  exact this
theorem le_of_mulU {x y : Rat} (h : x * 4294967296 ≤ y * 4294967296) : x ≤ y := le_of_mul_le (s := 4294967296) (by grind) (by grind)
theorem scale_le {x y : Rat} (h : x ≤ y) : x * 4294967296 ≤ y * 4294967296 := by
  have := Rat.mul_le_mul_of_nonneg_left h (show (0 : Rat) ≤ 4294967296 by grind)
  grind
theorem MulI_has {A B : Iv} {a b : Rat} (ha : has A a) (hb : has B b) (h : spec_l04Ok (spec_MulI A B) = true) : has (spec_MulI A B) (a * b) := by
  simp only [spec_MulI] at h ⊢
  cases kA : spec_l04Ok A
  · rw [kA] at h; simp only [Bool.not_false, cond_true, whole_not] at h; cases h
  cases kB : spec_l04Ok B
  · rw [kA, kB] at h; simp only [Bool.not_false, Bool.not_true, cond_false, cond_true, whole_not] at h; cases h
  rw [kA, kB] at h
  simp only [Bool.not_true, cond_false] at h ⊢
  cases k1 : (spec_l03MulDown A.lo B.lo).2
  · rw [k1] at h; simp only [Bool.not_false, cond_true, whole_not] at h; cases h
  cases k2 : (spec_l03MulUp A.lo B.lo).2
  · rw [k1, k2] at h; simp only [Bool.not_false, Bool.not_true, cond_false, cond_true, whole_not] at h; cases h
  cases k3 : (spec_l03MulDown A.lo B.hi).2
  · rw [k1, k2, k3] at h; simp only [Bool.not_false, Bool.not_true, cond_false, cond_true, whole_not] at h; cases h
  cases k4 : (spec_l03MulUp A.lo B.hi).2
  · rw [k1, k2, k3, k4] at h; simp only [Bool.not_false, Bool.not_true, cond_false, cond_true, whole_not] at h; cases h
  cases k5 : (spec_l03MulDown A.hi B.lo).2
  · rw [k1, k2, k3, k4, k5] at h; simp only [Bool.not_false, Bool.not_true, cond_false, cond_true, whole_not] at h; cases h
  cases k6 : (spec_l03MulUp A.hi B.lo).2
  · rw [k1, k2, k3, k4, k5, k6] at h; simp only [Bool.not_false, Bool.not_true, cond_false, cond_true, whole_not] at h; cases h
  cases k7 : (spec_l03MulDown A.hi B.hi).2
  · rw [k1, k2, k3, k4, k5, k6, k7] at h; simp only [Bool.not_false, Bool.not_true, cond_false, cond_true, whole_not] at h; cases h
  cases k8 : (spec_l03MulUp A.hi B.hi).2
  · rw [k1, k2, k3, k4, k5, k6, k7, k8] at h; simp only [Bool.not_false, Bool.not_true, cond_false, cond_true, whole_not] at h; cases h
  rw [k1, k2, k3, k4, k5, k6, k7, k8] at h
  simp only [Bool.not_true, cond_false] at h ⊢
  rw [make_of h]
  obtain ⟨⟨m1, m2, m3, m4⟩, n1, n2, n3, n4⟩ := four (spec_l03MulDown A.lo B.lo).1 (spec_l03MulDown A.lo B.hi).1 (spec_l03MulDown A.hi B.lo).1 (spec_l03MulDown A.hi B.hi).1 (spec_l03MulUp A.lo B.lo).1 (spec_l03MulUp A.lo B.hi).1 (spec_l03MulUp A.hi B.lo).1 (spec_l03MulUp A.hi B.hi).1
  generalize spec_l00Min (spec_l00Min (spec_l00Min (spec_l00Min 1152921504606846976 _) _) _) _ = lo at *
  generalize spec_l00Max (spec_l00Max (spec_l00Max (spec_l00Max (-1152921504606846976) _) _) _) _ = hi at *
  have d1 := MulDown_val k1
  have d2 := MulDown_val k3
  have d3 := MulDown_val k5
  have d4 := MulDown_val k7
  have u1 := MulUp_val k2
  have u2 := MulUp_val k4
  have u3 := MulUp_val k6
  have u4 := MulUp_val k8
  have e1 := down_cast (n := lo) (a := A.lo) (b := B.lo) (by omega)
  have e2 := down_cast (n := lo) (a := A.lo) (b := B.hi) (by omega)
  have e3 := down_cast (n := lo) (a := A.hi) (b := B.lo) (by omega)
  have e4 := down_cast (n := lo) (a := A.hi) (b := B.hi) (by omega)
  have f1 := up_cast (n := hi) (a := A.lo) (b := B.lo) (by omega)
  have f2 := up_cast (n := hi) (a := A.lo) (b := B.hi) (by omega)
  have f3 := up_cast (n := hi) (a := A.hi) (b := B.lo) (by omega)
  have f4 := up_cast (n := hi) (a := A.hi) (b := B.hi) (by omega)
  obtain ⟨a1, a2⟩ := ha
  obtain ⟨b1, b2⟩ := hb
  have g1 := bil_lo a1 a2 b1 b2 e1 e2 e3 e4
  have g2 := bil_hi a1 a2 b1 b2 f1 f2 f3 f4
  have ee : a * 4294967296 * (b * 4294967296) = a * b * 4294967296 * 4294967296 := by grind
  rw [ee] at g1 g2
  exact ⟨le_of_mulU g1, le_of_mulU g2⟩
/-- A quotient by an end of the divisor. -/
theorem div_lo {x1 x2 y lo : Int} {a r : Rat} (hy : y ≠ 0) (h1 : (x1 : Rat) ≤ a * 4294967296) (h2 : a * 4294967296 ≤ (x2 : Rat)) (hr : (y : Rat) * r = a * 4294967296)
    (l1 : lo ≤ (spec_l03DivDown x1 y).1) (l2 : lo ≤ (spec_l03DivDown x2 y).1) (k1 : (spec_l03DivDown x1 y).2 = true) (k2 : (spec_l03DivDown x2 y).2 = true) : (lo : Rat) ≤ r * 4294967296 := by
  by_cases hp : 0 < y
  · have v := DivDown_pos hp k1
    have v2 : lo * y ≤ x1 * 4294967296 := Int.le_trans (Int.mul_le_mul_of_nonneg_right l1 (by omega)) v
    have v3 := cst v2
    rw [Rat.intCast_mul, Rat.intCast_mul, castU] at v3
    have hyr : (0 : Rat) < (y : Rat) := by exact_mod_cast hp
    refine le_of_mul_le hyr ?_
    have s := scale_le h1
    grind
  · have hn : y < 0 := by omega
    have v := DivDown_neg hn k2
    have v2 : x2 * 4294967296 ≤ lo * y := by
      have w := Int.mul_le_mul_of_nonneg_right l2 (show 0 ≤ -y by omega)
      rw [Int.mul_neg, Int.mul_neg] at w
      omega
    have v3 := cst v2
    rw [Rat.intCast_mul, Rat.intCast_mul, castU] at v3
    have hyr : (0 : Rat) < -(y : Rat) := by
      have : (y : Rat) < ((0 : Int) : Rat) := by exact_mod_cast hn
      have z : ((0 : Int) : Rat) = 0 := rfl
      rw [z] at this
      grind
    refine le_of_mul_le hyr ?_
    have s := scale_le h2
    grind
theorem cast_neg (x : Int) : ((-x : Int) : Rat) = -(x : Rat) := by simp
theorem DivI_has {A B : Iv} {a r : Rat} (ha : has A a) (h : spec_l04Ok (spec_DivI A B) = true) (y : Int) (hy : y = B.lo ∨ y = B.hi) (hr : (y : Rat) * r = a * 4294967296) : has (spec_DivI A B) r := by
  simp only [spec_DivI] at h ⊢
  cases kA : spec_l04Ok A
  · rw [kA] at h; simp only [Bool.not_false, cond_true, whole_not] at h; cases h
  cases kB : spec_l04Ok B
  · rw [kA, kB] at h; simp only [Bool.not_false, Bool.not_true, cond_false, cond_true, whole_not] at h; cases h
  cases kH : spec_l04Has B 0
  case true => rw [kA, kB, kH] at h; simp only [Bool.not_true, cond_false, cond_true, whole_not] at h; cases h
  rw [kA, kB, kH] at h
  simp only [Bool.not_true, cond_false] at h ⊢
  cases k1 : (spec_l03DivDown A.lo B.lo).2
  · rw [k1] at h; simp only [Bool.not_false, cond_true, whole_not] at h; cases h
  cases k2 : (spec_l03DivUp A.lo B.lo).2
  · rw [k1, k2] at h; simp only [Bool.not_false, Bool.not_true, cond_false, cond_true, whole_not] at h; cases h
  cases k3 : (spec_l03DivDown A.lo B.hi).2
  · rw [k1, k2, k3] at h; simp only [Bool.not_false, Bool.not_true, cond_false, cond_true, whole_not] at h; cases h
  cases k4 : (spec_l03DivUp A.lo B.hi).2
  · rw [k1, k2, k3, k4] at h; simp only [Bool.not_false, Bool.not_true, cond_false, cond_true, whole_not] at h; cases h
  cases k5 : (spec_l03DivDown A.hi B.lo).2
  · rw [k1, k2, k3, k4, k5] at h; simp only [Bool.not_false, Bool.not_true, cond_false, cond_true, whole_not] at h; cases h
  cases k6 : (spec_l03DivUp A.hi B.lo).2
  · rw [k1, k2, k3, k4, k5, k6] at h; simp only [Bool.not_false, Bool.not_true, cond_false, cond_true, whole_not] at h; cases h
  cases k7 : (spec_l03DivDown A.hi B.hi).2
  · rw [k1, k2, k3, k4, k5, k6, k7] at h; simp only [Bool.not_false, Bool.not_true, cond_false, cond_true, whole_not] at h; cases h
  cases k8 : (spec_l03DivUp A.hi B.hi).2
  · rw [k1, k2, k3, k4, k5, k6, k7, k8] at h; simp only [Bool.not_false, Bool.not_true, cond_false, cond_true, whole_not] at h; cases h
  rw [k1, k2, k3, k4, k5, k6, k7, k8] at h
  simp only [Bool.not_true, cond_false] at h ⊢
  rw [make_of h]
  obtain ⟨⟨m1, m2, m3, m4⟩, n1, n2, n3, n4⟩ := four (spec_l03DivDown A.lo B.lo).1 (spec_l03DivDown A.lo B.hi).1 (spec_l03DivDown A.hi B.lo).1 (spec_l03DivDown A.hi B.hi).1 (spec_l03DivUp A.lo B.lo).1 (spec_l03DivUp A.lo B.hi).1 (spec_l03DivUp A.hi B.lo).1 (spec_l03DivUp A.hi B.hi).1
  generalize spec_l00Min (spec_l00Min (spec_l00Min (spec_l00Min 1152921504606846976 _) _) _) _ = lo at *
  generalize spec_l00Max (spec_l00Max (spec_l00Max (spec_l00Max (-1152921504606846976) _) _) _) _ = hi at *
  obtain ⟨_, u2, e2⟩ := DivUp_down k2
  obtain ⟨_, u4, e4⟩ := DivUp_down k4
  obtain ⟨_, u6, e6⟩ := DivUp_down k6
  obtain ⟨_, u8, e8⟩ := DivUp_down k8
  rw [e2] at n1
  rw [e4] at n2
  rw [e6] at n3
  rw [e8] at n4
  have hz : B.lo ≠ 0 ∧ B.hi ≠ 0 := by
    have hb := (ok_iff _).1 kB
    have := mt (l00In_iff 0 B.lo B.hi).2 (by rw [spec_l04Has] at kH; rw [kH]; simp)
    omega
  obtain ⟨a1, a2⟩ := ha
  have a1' : ((-A.hi : Int) : Rat) ≤ (-a) * 4294967296 := by rw [cast_neg]; grind
  have a2' : (-a) * 4294967296 ≤ ((-A.lo : Int) : Rat) := by rw [cast_neg]; grind
  have hr' : (y : Rat) * (-r) = (-a) * 4294967296 := by grind
  have fin : ((-hi : Int) : Rat) ≤ (-r) * 4294967296 → r * 4294967296 ≤ (hi : Rat) := by
    intro w
    rw [cast_neg] at w
    grind
  rcases hy with rfl | rfl
  · exact ⟨div_lo hz.1 a1 a2 hr m1 m3 k1 k5, fin (div_lo hz.1 a1' a2' hr' (by omega) (by omega) u6 u2)⟩
  · exact ⟨div_lo hz.2 a1 a2 hr m2 m4 k3 k7, fin (div_lo hz.2 a1' a2' hr' (by omega) (by omega) u8 u4)⟩
end Go.G880.Nw
