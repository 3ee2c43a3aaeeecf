/- The intervals' operations enclose: sums, differences, products, quotients. -/
import Derived.Test.YtogpbandlpjccaaGreatP8
import Derived.Test.YtogpbandlpjccaaGreatPN1
set_option linter.unusedVariables false
set_option linter.unusedSimpArgs false
namespace Go.G880.Nw
open Go Go.RX Go.G880 Go.Newton

/-- The number lies in the interval. -/
def has (X : Iv) (q : Rat) : Prop := (X.lo : Rat) ≤ q * 4294967296 ∧ q * 4294967296 ≤ (X.hi : Rat)
theorem make_of {a b : Int} (h : spec_l04Ok (spec_l04Make a b) = true) : spec_l04Make a b = ⟨a, b⟩ := by
  simp only [spec_l04Make] at h ⊢
  cases hk : spec_l04Ok ⟨a, b⟩
  · rw [hk] at h
    simp only [Bool.not_false, cond_true] at h
    rw [whole_not] at h
    cases h
  · simp
theorem AddI_has {A B : Iv} {a b : Rat} (ha : has A a) (hb : has B b) (h : spec_l04Ok (spec_AddI A B) = true) : has (spec_AddI A B) (a + b) := by
  simp only [spec_AddI] at h ⊢
  cases kA : spec_l04Ok A
  · rw [kA] at h; simp only [Bool.not_false, cond_true, whole_not] at h; cases h
  cases kB : spec_l04Ok B
  · rw [kA, kB] at h; simp only [Bool.not_false, Bool.not_true, cond_false, cond_true, whole_not] at h; cases h
  rw [kA, kB] at h
  simp only [Bool.not_true, cond_false] at h ⊢
  rw [make_of h]
  have iA := (ok_iff _).1 kA
  have iB := (ok_iff _).1 kB
  simp only [has] at *
  rw [w64_id (by omega) (by omega), w64_id (by omega) (by omega), Rat.intCast_add, Rat.intCast_add]
  grind
theorem SubI_has {A B : Iv} {a b : Rat} (ha : has A a) (hb : has B b) (h : spec_l04Ok (spec_SubI A B) = true) : has (spec_SubI A B) (a - b) := by
  simp only [spec_SubI] at h ⊢
  cases kA : spec_l04Ok A
  · rw [kA] at h; simp only [Bool.not_false, cond_true, whole_not] at h; cases h
  cases kB : spec_l04Ok B
  · rw [kA, kB] at h; simp only [Bool.not_false, Bool.not_true, cond_false, cond_true, whole_not] at h; cases h
  rw [kA, kB] at h
  simp only [Bool.not_true, cond_false] at h ⊢
  rw [make_of h]
  have iA := (ok_iff _).1 kA
  have iB := (ok_iff _).1 kB
  simp only [has] at *
  rw [w64_id (by omega) (by omega), w64_id (by omega) (by omega), Rat.intCast_sub, Rat.intCast_sub]
  grind

/-! ### Rounded products and quotients -/
theorem fix_in64 {n : Int} (h : spec_l03Ok n = true) : In64 n := in64_fix h
theorem end_val {n : Int} {ok : Bool} (h : (spec_l03End n ok).2 = true) : ok = true ∧ (spec_l03End n ok).1 = n := by
  simp only [spec_l03End] at h ⊢
  cases ok
  · simp at h
  cases hk : spec_l03Ok n
  · rw [hk] at h; simp at h
  · simp
theorem MulDown_val {a b : Int} (h : (spec_l03MulDown a b).2 = true) : (spec_l03MulDown a b).1 * 4294967296 ≤ a * b := by
  simp only [spec_l03MulDown] at h ⊢
  cases ka : spec_l03Ok a
  · rw [ka] at h; simp at h
  cases kb : spec_l03Ok b
  · rw [ka, kb] at h; simp at h
  rw [ka, kb] at h
  simp only [Bool.not_true, cond_false] at h ⊢
  obtain ⟨h1, h2⟩ := end_val h
  rw [h2]
  have pr := prod_range (in64_fix ka) (in64_fix kb)
  have hr : spec_l00In 32 0 126 = true := by decide
  simp only [spec_MulFloor, hr, Bool.not_true, cond_false, l02Mul_eq (in64_fix ka) (in64_fix kb), (Shift32 pr.1 pr.2).2] at h1 ⊢
  have hq := quot_range (z := a * b) (d := 4294967296) pr (by omega)
  rw [WideInt_W hq.1 hq.2] at h1 ⊢
  split at h1
  · rw [if_pos (by assumption)]
    simp only
    omega
  · cases h1
theorem MulDown_ok2 {a b : Int} (h : (spec_l03MulDown a b).2 = true) : spec_l03Ok a = true ∧ spec_l03Ok b = true := by
  simp only [spec_l03MulDown] at h
  cases ka : spec_l03Ok a
  · rw [ka] at h; simp at h
  cases kb : spec_l03Ok b
  · rw [ka, kb] at h; simp at h
  exact ⟨rfl, rfl⟩
theorem MulUp_val {a b : Int} (h : (spec_l03MulUp a b).2 = true) : a * b ≤ (spec_l03MulUp a b).1 * 4294967296 := by
  simp only [spec_l03MulUp] at h ⊢
  cases ka : spec_l03Ok a
  · rw [ka] at h; simp at h
  rw [ka] at h
  simp only [Bool.not_true, cond_false] at h ⊢
  rw [(neg_fix ka).1] at h ⊢
  cases kd : (spec_l03MulDown (-a) b).2
  · rw [kd] at h; simp at h
  simp only [Bool.not_true, cond_false]
  have hv := MulDown_val kd
  have ho := MulDown_ok kd
  rw [(neg_fix ho).1, Int.neg_mul]
  rw [Int.neg_mul] at hv
  omega
theorem DivDown_pos {a b : Int} (hb : 0 < b) (h : (spec_l03DivDown a b).2 = true) : (spec_l03DivDown a b).1 * b ≤ a * 4294967296 := by
  simp only [spec_l03DivDown] at h ⊢
  cases ka : spec_l03Ok a
  · rw [ka] at h; simp at h
  cases kb : spec_l03Ok b
  · rw [ka, kb] at h; simp at h
  have hz : (b == 0) = false := by simp; omega
  have hn : decide (b < 0) = false := decide_eq_false (by omega)
  rw [ka, kb, hz, hn] at h
  simp only [Bool.not_true, cond_false, hz, hn] at h ⊢
  obtain ⟨h1, h2⟩ := end_val h
  rw [h2]
  have fb := in64_fix kb
  simp only [In64] at fb
  rw [spec_MulDivFloor_val (in64_fix ka) in64_unit hb (by omega)] at h1 ⊢
  split at h1
  · rw [if_pos (by assumption)]
    exact Int.ediv_mul_le _ (by omega)
  · cases h1
theorem DivDown_neg {a b : Int} (hb : b < 0) (h : (spec_l03DivDown a b).2 = true) : a * 4294967296 ≤ (spec_l03DivDown a b).1 * b := by
  simp only [spec_l03DivDown] at h ⊢
  cases ka : spec_l03Ok a
  · rw [ka] at h; simp at h
  cases kb : spec_l03Ok b
  · rw [ka, kb] at h; simp at h
  have hz : (b == 0) = false := by simp; omega
  have hn : decide (b < 0) = true := decide_eq_true hb
  rw [ka, kb, hz, hn] at h
  simp only [Bool.not_true, cond_false, cond_true, hz, hn, (neg_fix ka).1, (neg_fix kb).1] at h ⊢
  obtain ⟨h1, h2⟩ := end_val h
  rw [h2]
  have fb := (l03Ok_iff b).1 kb
  have hp : 0 < -b := by omega
  have hq : -b ≤ 9223372036854775807 := by omega
  rw [spec_MulDivFloor_val (in64_fix (neg_fix ka).2) in64_unit hp hq] at h1 ⊢
  split at h1
  · rw [if_pos (by assumption)]
    have := Int.ediv_mul_le (-a * 4294967296) (b := -b) (by omega)
    simp only
    rw [Int.mul_neg, Int.neg_mul] at this
    rw [Int.neg_mul]
    omega
  · cases h1
theorem DivDown_nz {a b : Int} (h : (spec_l03DivDown a b).2 = true) : spec_l03Ok a = true ∧ spec_l03Ok (spec_l03DivDown a b).1 = true := by
  have h0 := h
  simp only [spec_l03DivDown] at h
  cases ka : spec_l03Ok a
  · rw [ka] at h; simp at h
  exact ⟨rfl, DivDown_ok h0⟩
theorem DivUp_down {a b : Int} (h : (spec_l03DivUp a b).2 = true) : spec_l03Ok a = true ∧ (spec_l03DivDown (-a) b).2 = true ∧ (spec_l03DivUp a b).1 = -(spec_l03DivDown (-a) b).1 := by
  simp only [spec_l03DivUp] at h ⊢
  cases ka : spec_l03Ok a
  · rw [ka] at h; simp at h
  rw [ka] at h
  simp only [Bool.not_true, cond_false] at h ⊢
  rw [(neg_fix ka).1] at h ⊢
  exact ⟨trivial, h, (neg_fix (DivDown_ok h)).1⟩
end Go.G880.Nw
/- The intervals' products and quotients enclose. -/
set_option linter.unusedVariables false
set_option linter.unusedSimpArgs false
namespace Go.G880.Nw
open Go Go.RX Go.G880 Go.Newton

theorem min_le (a b : Int) : spec_l00Min a b ≤ a ∧ spec_l00Min a b ≤ b := by
  simp only [spec_l00Min, Bool.cond_eq_ite, decide_eq_true_eq]
  split <;> omega
theorem le_max (a b : Int) : a ≤ spec_l00Max a b ∧ b ≤ spec_l00Max a b := by
  simp only [spec_l00Max, Bool.cond_eq_ite, decide_eq_true_eq]
  split <;> omega
/-- The least and the greatest of four. -/
theorem four (d1 d2 d3 d4 u1 u2 u3 u4 : Int) :
    let lo := spec_l00Min (spec_l00Min (spec_l00Min (spec_l00Min 1152921504606846976 d1) d2) d3) d4
    let hi := spec_l00Max (spec_l00Max (spec_l00Max (spec_l00Max (-1152921504606846976) u1) u2) u3) u4
    (lo ≤ d1 ∧ lo ≤ d2 ∧ lo ≤ d3 ∧ lo ≤ d4) ∧ (u1 ≤ hi ∧ u2 ≤ hi ∧ u3 ≤ hi ∧ u4 ≤ hi) := by
  intro lo hi
  have a1 := min_le 1152921504606846976 d1
  have a2 := min_le (spec_l00Min 1152921504606846976 d1) d2
  have a3 := min_le (spec_l00Min (spec_l00Min 1152921504606846976 d1) d2) d3
  have a4 := min_le (spec_l00Min (spec_l00Min (spec_l00Min 1152921504606846976 d1) d2) d3) d4
  have b1 := le_max (-1152921504606846976) u1
  have b2 := le_max (spec_l00Max (-1152921504606846976) u1) u2
  have b3 := le_max (spec_l00Max (spec_l00Max (-1152921504606846976) u1) u2) u3
  have b4 := le_max (spec_l00Max (spec_l00Max (spec_l00Max (-1152921504606846976) u1) u2) u3) u4
  show (spec_l00Min (spec_l00Min (spec_l00Min (spec_l00Min 1152921504606846976 d1) d2) d3) d4 ≤ d1 ∧ _) ∧ _
  omega
/-- A product of two numbers of ranges lies between the products of the ends. -/
theorem bil_lo {x1 x2 y1 y2 a b L : Rat} (h1 : x1 ≤ a) (h2 : a ≤ x2) (h3 : y1 ≤ b) (h4 : b ≤ y2) (p1 : L ≤ x1 * y1) (p2 : L ≤ x1 * y2) (p3 : L ≤ x2 * y1) (p4 : L ≤ x2 * y2) : L ≤ a * b := by
  have q : ∀ x : Rat, L ≤ x * y1 → L ≤ x * y2 → L ≤ x * b := by
    intro x g1 g2
    by_cases hx : 0 ≤ x
    · have := Rat.mul_nonneg hx (show 0 ≤ b - y1 by grind)
      grind
    · have := Rat.mul_nonneg (show 0 ≤ -x by grind) (show 0 ≤ y2 - b by grind)
      grind
  have q1 := q x1 p1 p2
  have q2 := q x2 p3 p4
  by_cases hb : 0 ≤ b
  · have := Rat.mul_nonneg (show 0 ≤ a - x1 by grind) hb
    grind
  · have := Rat.mul_nonneg (show 0 ≤ x2 - a by grind) (show 0 ≤ -b by grind)
    grind
theorem bil_hi {x1 x2 y1 y2 a b L : Rat} (h1 : x1 ≤ a) (h2 : a ≤ x2) (h3 : y1 ≤ b) (h4 : b ≤ y2) (p1 : x1 * y1 ≤ L) (p2 : x1 * y2 ≤ L) (p3 : x2 * y1 ≤ L) (p4 : x2 * y2 ≤ L) : a * b ≤ L := by
  have := bil_lo (x1 := -x2) (x2 := -x1) (y1 := y1) (y2 := y2) (a := -a) (b := b) (L := -L) (by grind) (by grind) h3 h4 (by grind) (by grind) (by grind) (by grind)
  grind
theorem cst {a b : Int} (h : a ≤ b) : (a : Rat) ≤ (b : Rat) := by exact_mod_cast h
theorem castU : ((4294967296 : Int) : Rat) = 4294967296 := rfl
theorem down_cast {n a b : Int} (h : n * 4294967296 ≤ a * b) : (n : Rat) * 4294967296 ≤ (a : Rat) * (b : Rat) := by
  have := cst h
  rw [Rat.intCast_mul, Rat.intCast_mul, castU] at this
  exact this
theorem up_cast {n a b : Int} (h : a * b ≤ n * 4294967296) : (a : Rat) * (b : Rat) ≤ (n : Rat) * 4294967296 := by
  have := cst h
  rw [Rat.intCast_mul, Rat.intCast_mul, castU] at this
  exact this
theorem le_of_mulU {x y : Rat} (h : x * 4294967296 ≤ y * 4294967296) : x ≤ y := le_of_mul_le (s := 4294967296) (by grind) (by grind)
theorem scale_le {x y : Rat} (h : x ≤ y) : x * 4294967296 ≤ y * 4294967296 := by
  have := Rat.mul_le_mul_of_nonneg_left h (show (0 : Rat) ≤ 4294967296 by grind)
  grind
theorem MulI_has {A B : Iv} {a b : Rat} (ha : has A a) (hb : has B b) (h : spec_l04Ok (spec_MulI A B) = true) : has (spec_MulI A B) (a * b) := by
  simp only [spec_MulI] at h ⊢
  cases kA : spec_l04Ok A
  · rw [kA] at h; simp only [Bool.not_false, cond_true, whole_not] at h; cases h
  cases kB : spec_l04Ok B
  · rw [kA, kB] at h; simp only [Bool.not_false, Bool.not_true, cond_false, cond_true, whole_not] at h; cases h
  rw [kA, kB] at h
  simp only [Bool.not_true, cond_false] at h ⊢
  cases k1 : (spec_l03MulDown A.lo B.lo).2
  · rw [k1] at h; simp only [Bool.not_false, cond_true, whole_not] at h; cases h
  cases k2 : (spec_l03MulUp A.lo B.lo).2
  · rw [k1, k2] at h; simp only [Bool.not_false, Bool.not_true, cond_false, cond_true, whole_not] at h; cases h
  cases k3 : (spec_l03MulDown A.lo B.hi).2
  · rw [k1, k2, k3] at h; simp only [Bool.not_false, Bool.not_true, cond_false, cond_true, whole_not] at h; cases h
  cases k4 : (spec_l03MulUp A.lo B.hi).2
  · rw [k1, k2, k3, k4] at h; simp only [Bool.not_false, Bool.not_true, cond_false, cond_true, whole_not] at h; cases h
  cases k5 : (spec_l03MulDown A.hi B.lo).2
  · rw [k1, k2, k3, k4, k5] at h; simp only [Bool.not_false, Bool.not_true, cond_false, cond_true, whole_not] at h; cases h
  cases k6 : (spec_l03MulUp A.hi B.lo).2
  · rw [k1, k2, k3, k4, k5, k6] at h; simp only [Bool.not_false, Bool.not_true, cond_false, cond_true, whole_not] at h; cases h
  cases k7 : (spec_l03MulDown A.hi B.hi).2
  · rw [k1, k2, k3, k4, k5, k6, k7] at h; simp only [Bool.not_false, Bool.not_true, cond_false, cond_true, whole_not] at h; cases h
  cases k8 : (spec_l03MulUp A.hi B.hi).2
  · rw [k1, k2, k3, k4, k5, k6, k7, k8] at h; simp only [Bool.not_false, Bool.not_true, cond_false, cond_true, whole_not] at h; cases h
  rw [k1, k2, k3, k4, k5, k6, k7, k8] at h
  simp only [Bool.not_true, cond_false] at h ⊢
  rw [make_of h]
  obtain ⟨⟨m1, m2, m3, m4⟩, n1, n2, n3, n4⟩ := four (spec_l03MulDown A.lo B.lo).1 (spec_l03MulDown A.lo B.hi).1 (spec_l03MulDown A.hi B.lo).1 (spec_l03MulDown A.hi B.hi).1 (spec_l03MulUp A.lo B.lo).1 (spec_l03MulUp A.lo B.hi).1 (spec_l03MulUp A.hi B.lo).1 (spec_l03MulUp A.hi B.hi).1
  generalize spec_l00Min (spec_l00Min (spec_l00Min (spec_l00Min 1152921504606846976 _) _) _) _ = lo at *
  generalize spec_l00Max (spec_l00Max (spec_l00Max (spec_l00Max (-1152921504606846976) _) _) _) _ = hi at *
  have d1 := MulDown_val k1
  have d2 := MulDown_val k3
  have d3 := MulDown_val k5
  have d4 := MulDown_val k7
  have u1 := MulUp_val k2
  have u2 := MulUp_val k4
  have u3 := MulUp_val k6
  have u4 := MulUp_val k8
  have e1 := down_cast (n := lo) (a := A.lo) (b := B.lo) (by omega)
  have e2 := down_cast (n := lo) (a := A.lo) (b := B.hi) (by omega)
  have e3 := down_cast (n := lo) (a := A.hi) (b := B.lo) (by omega)
  have e4 := down_cast (n := lo) (a := A.hi) (b := B.hi) (by omega)
  have f1 := up_cast (n := hi) (a := A.lo) (b := B.lo) (by omega)
  have f2 := up_cast (n := hi) (a := A.lo) (b := B.hi) (by omega)
  have f3 := up_cast (n := hi) (a := A.hi) (b := B.lo) (by omega)
  have f4 := up_cast (n := hi) (a := A.hi) (b := B.hi) (by omega)
  obtain ⟨a1, a2⟩ := ha
  obtain ⟨b1, b2⟩ := hb
  have g1 := bil_lo a1 a2 b1 b2 e1 e2 e3 e4
  have g2 := bil_hi a1 a2 b1 b2 f1 f2 f3 f4
  have ee : a * 4294967296 * (b * 4294967296) = a * b * 4294967296 * 4294967296 := by grind
  rw [ee] at g1 g2
  exact ⟨le_of_mulU g1, le_of_mulU g2⟩
/-- A quotient by an end of the divisor. -/
theorem div_lo {x1 x2 y lo : Int} {a r : Rat} (hy : y ≠ 0) (h1 : (x1 : Rat) ≤ a * 4294967296) (h2 : a * 4294967296 ≤ (x2 : Rat)) (hr : (y : Rat) * r = a * 4294967296)
    (l1 : lo ≤ (spec_l03DivDown x1 y).1) (l2 : lo ≤ (spec_l03DivDown x2 y).1) (k1 : (spec_l03DivDown x1 y).2 = true) (k2 : (spec_l03DivDown x2 y).2 = true) : (lo : Rat) ≤ r * 4294967296 := by
  by_cases hp : 0 < y
  · have v := DivDown_pos hp k1
    have v2 : lo * y ≤ x1 * 4294967296 := Int.le_trans (Int.mul_le_mul_of_nonneg_right l1 (by omega)) v
    have v3 := cst v2
    rw [Rat.intCast_mul, Rat.intCast_mul, castU] at v3
    have hyr : (0 : Rat) < (y : Rat) := by exact_mod_cast hp
    refine le_of_mul_le hyr ?_
    have s := scale_le h1
    grind
  · have hn : y < 0 := by omega
    have v := DivDown_neg hn k2
    have v2 : x2 * 4294967296 ≤ lo * y := by
      have w := Int.mul_le_mul_of_nonneg_right l2 (show 0 ≤ -y by omega)
      rw [Int.mul_neg, Int.mul_neg] at w
      omega
    have v3 := cst v2
    rw [Rat.intCast_mul, Rat.intCast_mul, castU] at v3
    have hyr : (0 : Rat) < -(y : Rat) := by
      have : (y : Rat) < ((0 : Int) : Rat) := by exact_mod_cast hn
      have z : ((0 : Int) : Rat) = 0 := rfl
      rw [z] at this
      grind
    refine le_of_mul_le hyr ?_
    have s := scale_le h2
    grind
theorem cast_neg (x : Int) : ((-x : Int) : Rat) = -(x : Rat) := by simp
theorem DivI_has {A B : Iv} {a r : Rat} (ha : has A a) (h : spec_l04Ok (spec_DivI A B) = true) (y : Int) (hy : y = B.lo ∨ y = B.hi) (hr : (y : Rat) * r = a * 4294967296) : has (spec_DivI A B) r := by
  simp only [spec_DivI] at h ⊢
  cases kA : spec_l04Ok A
  · rw [kA] at h; simp only [Bool.not_false, cond_true, whole_not] at h; cases h
  cases kB : spec_l04Ok B
  · rw [kA, kB] at h; simp only [Bool.not_false, Bool.not_true, cond_false, cond_true, whole_not] at h; cases h
  cases kH : spec_l04Has B 0
  case true => rw [kA, kB, kH] at h; simp only [Bool.not_true, cond_false, cond_true, whole_not] at h; cases h
  rw [kA, kB, kH] at h
  simp only [Bool.not_true, cond_false] at h ⊢
  cases k1 : (spec_l03DivDown A.lo B.lo).2
  · rw [k1] at h; simp only [Bool.not_false, cond_true, whole_not] at h; cases h
  cases k2 : (spec_l03DivUp A.lo B.lo).2
  · rw [k1, k2] at h; simp only [Bool.not_false, Bool.not_true, cond_false, cond_true, whole_not] at h; cases h
  cases k3 : (spec_l03DivDown A.lo B.hi).2
  · rw [k1, k2, k3] at h; simp only [Bool.not_false, Bool.not_true, cond_false, cond_true, whole_not] at h; cases h
  cases k4 : (spec_l03DivUp A.lo B.hi).2
  · rw [k1, k2, k3, k4] at h; simp only [Bool.not_false, Bool.not_true, cond_false, cond_true, whole_not] at h; cases h
  cases k5 : (spec_l03DivDown A.hi B.lo).2
  · rw [k1, k2, k3, k4, k5] at h; simp only [Bool.not_false, Bool.not_true, cond_false, cond_true, whole_not] at h; cases h
  cases k6 : (spec_l03DivUp A.hi B.lo).2
  · rw [k1, k2, k3, k4, k5, k6] at h; simp only [Bool.not_false, Bool.not_true, cond_false, cond_true, whole_not] at h; cases h
  cases k7 : (spec_l03DivDown A.hi B.hi).2
  · rw [k1, k2, k3, k4, k5, k6, k7] at h; simp only [Bool.not_false, Bool.not_true, cond_false, cond_true, whole_not] at h; cases h
  cases k8 : (spec_l03DivUp A.hi B.hi).2
  · rw [k1, k2, k3, k4, k5, k6, k7, k8] at h; simp only [Bool.not_false, Bool.not_true, cond_false, cond_true, whole_not] at h; cases h
  rw [k1, k2, k3, k4, k5, k6, k7, k8] at h
  simp only [Bool.not_true, cond_false] at h ⊢
  rw [make_of h]
  obtain ⟨⟨m1, m2, m3, m4⟩, n1, n2, n3, n4⟩ := four (spec_l03DivDown A.lo B.lo).1 (spec_l03DivDown A.lo B.hi).1 (spec_l03DivDown A.hi B.lo).1 (spec_l03DivDown A.hi B.hi).1 (spec_l03DivUp A.lo B.lo).1 (spec_l03DivUp A.lo B.hi).1 (spec_l03DivUp A.hi B.lo).1 (spec_l03DivUp A.hi B.hi).1
  generalize spec_l00Min (spec_l00Min (spec_l00Min (spec_l00Min 1152921504606846976 _) _) _) _ = lo at *
  generalize spec_l00Max (spec_l00Max (spec_l00Max (spec_l00Max (-1152921504606846976) _) _) _) _ = hi at *
  obtain ⟨_, u2, e2⟩ := DivUp_down k2
  obtain ⟨_, u4, e4⟩ := DivUp_down k4
  obtain ⟨_, u6, e6⟩ := DivUp_down k6
  obtain ⟨_, u8, e8⟩ := DivUp_down k8
  rw [e2] at n1
  rw [e4] at n2
  rw [e6] at n3
  rw [e8] at n4
  have hz : B.lo ≠ 0 ∧ B.hi ≠ 0 := by
    have hb := (ok_iff _).1 kB
    have := mt (l00In_iff 0 B.lo B.hi).2 (by rw [spec_l04Has] at kH; rw [kH]; simp)
    omega
  obtain ⟨a1, a2⟩ := ha
  have a1' : ((-A.hi : Int) : Rat) ≤ (-a) * 4294967296 := by rw [cast_neg]; grind
  have a2' : (-a) * 4294967296 ≤ ((-A.lo : Int) : Rat) := by rw [cast_neg]; grind
  have hr' : (y : Rat) * (-r) = (-a) * 4294967296 := by grind
  have fin : ((-hi : Int) : Rat) ≤ (-r) * 4294967296 → r * 4294967296 ≤ (hi : Rat) := by
    intro w
    rw [cast_neg] at w
    grind
  rcases hy with rfl | rfl
  · exact ⟨div_lo hz.1 a1 a2 hr m1 m3 k1 k5, fin (div_lo hz.1 a1' a2' hr' (by omega) (by omega) u6 u2)⟩
  · exact ⟨div_lo hz.2 a1 a2 hr m2 m4 k3 k7, fin (div_lo hz.2 a1' a2' hr' (by omega) (by omega) u8 u4)⟩
end Go.G880.Nw
/- Enclosing: intervals that are bounded, or whole. -/
set_option linter.unusedVariables false
set_option linter.unusedSimpArgs false
namespace Go.G880.Nw
open Go Go.RX Go.G880 Go.Newton

/-- The number lies in the interval, if that is bounded. -/
def HasW (X : Iv) (q : Rat) : Prop := spec_l04Ok X = true → has X q
theorem AddI_ok {A B : Iv} (h : spec_l04Ok (spec_AddI A B) = true) : spec_l04Ok A = true ∧ spec_l04Ok B = true := by
  simp only [spec_AddI] at h
  cases kA : spec_l04Ok A
  · rw [kA] at h; simp only [Bool.not_false, cond_true, whole_not] at h; cases h
  cases kB : spec_l04Ok B
  · rw [kA, kB] at h; simp only [Bool.not_false, Bool.not_true, cond_false, cond_true, whole_not] at h; cases h
  exact ⟨rfl, rfl⟩
theorem SubI_ok2 {A B : Iv} (h : spec_l04Ok (spec_SubI A B) = true) : spec_l04Ok A = true ∧ spec_l04Ok B = true := by
  simp only [spec_SubI] at h
  cases kA : spec_l04Ok A
  · rw [kA] at h; simp only [Bool.not_false, cond_true, whole_not] at h; cases h
  cases kB : spec_l04Ok B
  · rw [kA, kB] at h; simp only [Bool.not_false, Bool.not_true, cond_false, cond_true, whole_not] at h; cases h
  exact ⟨rfl, rfl⟩
theorem MulI_ok2 {A B : Iv} (h : spec_l04Ok (spec_MulI A B) = true) : spec_l04Ok A = true ∧ spec_l04Ok B = true := by
  simp only [spec_MulI] at h
  cases kA : spec_l04Ok A
  · rw [kA] at h; simp only [Bool.not_false, cond_true, whole_not] at h; cases h
  cases kB : spec_l04Ok B
  · rw [kA, kB] at h; simp only [Bool.not_false, Bool.not_true, cond_false, cond_true, whole_not] at h; cases h
  exact ⟨rfl, rfl⟩
theorem DivI_ok2 {A B : Iv} (h : spec_l04Ok (spec_DivI A B) = true) : spec_l04Ok A = true ∧ spec_l04Ok B = true ∧ spec_l04Has B 0 = false := by
  simp only [spec_DivI] at h
  cases kA : spec_l04Ok A
  · rw [kA] at h; simp only [Bool.not_false, cond_true, whole_not] at h; cases h
  cases kB : spec_l04Ok B
  · rw [kA, kB] at h; simp only [Bool.not_false, Bool.not_true, cond_false, cond_true, whole_not] at h; cases h
  cases kH : spec_l04Has B 0
  case true => rw [kA, kB, kH] at h; simp only [Bool.not_true, cond_false, cond_true, whole_not] at h; cases h
  exact ⟨rfl, rfl, rfl⟩
theorem AddW {A B : Iv} {a b : Rat} (ha : HasW A a) (hb : HasW B b) : HasW (spec_AddI A B) (a + b) := fun h => AddI_has (ha (AddI_ok h).1) (hb (AddI_ok h).2) h
theorem MulW {A B : Iv} {a b : Rat} (ha : HasW A a) (hb : HasW B b) : HasW (spec_MulI A B) (a * b) := fun h => MulI_has (ha (MulI_ok2 h).1) (hb (MulI_ok2 h).2) h

/-- A fix, as a number. -/
def fx (n : Int) : Rat := (n : Rat) * (1 / 4294967296)
theorem fx_mul (n : Int) : fx n * 4294967296 = (n : Rat) := by
  have : (1 / 4294967296 : Rat) * 4294967296 = 1 := by decide +kernel
  rw [fx, Rat.mul_assoc, this, Rat.mul_one]
theorem has_pt {n : Int} : has ⟨n, n⟩ (fx n) := by
  simp only [has, fx_mul]
  exact ⟨Rat.le_refl, Rat.le_refl⟩
theorem has_lo {X : Iv} (h : spec_l04Ok X = true) : has X (fx X.lo) := by
  simp only [has, fx_mul]
  exact ⟨Rat.le_refl, cst ((ok_iff _).1 h).2.1⟩
theorem fx_le {a b : Int} (h : a ≤ b) : fx a ≤ fx b := le_of_mulU (by rw [fx_mul, fx_mul]; exact cst h)
theorem le_fx {a b : Int} (h : fx a ≤ fx b) : a ≤ b := by
  have := scale_le h
  rw [fx_mul, fx_mul] at this
  exact_mod_cast this
theorem has_fx {X : Iv} {q : Rat} (h : has X q) : fx X.lo ≤ q ∧ q ≤ fx X.hi :=
  ⟨le_of_mulU (by rw [fx_mul]; exact h.1), le_of_mulU (by rw [fx_mul]; exact h.2)⟩
theorem fx_has {X : Iv} {q : Rat} (h1 : fx X.lo ≤ q) (h2 : q ≤ fx X.hi) : has X q := by
  have a := scale_le h1
  have b := scale_le h2
  rw [fx_mul] at a b
  exact ⟨a, b⟩
theorem IntegerW (n : Int) : HasW (spec_Integer n) (n : Rat) := by
  intro h
  simp only [spec_Integer] at h ⊢
  cases k : spec_l00In n (-268435455) 268435455
  · rw [k] at h; simp only [Bool.not_false, cond_true, whole_not] at h; cases h
  rw [k] at h
  simp only [Bool.not_true, cond_false] at h ⊢
  rw [make_of h]
  have hb := (l00In_iff _ _ _).1 k
  rw [w64_id (by omega) (by omega)]
  have e : ((n * 4294967296 : Int) : Rat) = (n : Rat) * 4294967296 := by rw [Rat.intCast_mul, castU]
  simp only [has, e]
  exact ⟨Rat.le_refl, Rat.le_refl⟩

end Go.G880.Nw
/- Products and inverses of matrices enclose. -/
set_option linter.unusedVariables false
set_option linter.unusedSimpArgs false
namespace Go.G880.Nw
open Go Go.RX Go.G880 Go.Newton

theorem SubW {A B : Iv} {a b : Rat} (ha : HasW A a) (hb : HasW B b) : HasW (spec_SubI A B) (a - b) := fun h => SubI_has (ha (SubI_ok2 h).1) (hb (SubI_ok2 h).2) h
/-- A quotient by any number of the divisor. -/
theorem div_between {y1 y2 : Int} {a d r r1 r2 : Rat} (hz : ¬ (y1 ≤ 0 ∧ 0 ≤ y2)) (h12 : y1 ≤ y2) (h1 : (y1 : Rat) ≤ d * 4294967296) (h2 : d * 4294967296 ≤ (y2 : Rat)) (e : d * r = a) (e1 : (y1 : Rat) * r1 = a * 4294967296) (e2 : (y2 : Rat) * r2 = a * 4294967296) :
    (r1 ≤ r ∨ r2 ≤ r) ∧ (r ≤ r1 ∨ r ≤ r2) := by
  have z0 : ((0 : Int) : Rat) = 0 := rfl
  have c12 := cst h12
  by_cases hp : 0 < y1
  · have p1 : (0 : Rat) < (y1 : Rat) := by have : ((0 : Int) : Rat) < (y1 : Rat) := by exact_mod_cast hp
                                           rwa [z0] at this
    have pd : (0 : Rat) < d * 4294967296 := by grind
    have p2 : (0 : Rat) < (y2 : Rat) := by grind
    by_cases ha : 0 ≤ a
    · have r0 : 0 ≤ r := le_of_mul_le pd (by grind)
      constructor
      · right
        have := Rat.mul_le_mul_of_nonneg_left h2 r0
        exact le_of_mul_le p2 (by grind)
      · left
        have := Rat.mul_le_mul_of_nonneg_left h1 r0
        exact le_of_mul_le p1 (by grind)
    · have r0 : 0 ≤ -r := le_of_mul_le pd (by grind)
      constructor
      · left
        have := Rat.mul_le_mul_of_nonneg_left h1 r0
        exact le_of_mul_le p1 (by grind)
      · right
        have := Rat.mul_le_mul_of_nonneg_left h2 r0
        exact le_of_mul_le p2 (by grind)
  · have hn : y2 < 0 := by omega
    have p2 : (0 : Rat) < -(y2 : Rat) := by have : (y2 : Rat) < ((0 : Int) : Rat) := by exact_mod_cast hn
                                            rw [z0] at this
                                            grind
    have pd : (0 : Rat) < -(d * 4294967296) := by grind
    have p1 : (0 : Rat) < -(y1 : Rat) := by grind
    by_cases ha : 0 ≤ a
    · have r0 : 0 ≤ -r := le_of_mul_le pd (by grind)
      constructor
      · right
        have := Rat.mul_le_mul_of_nonneg_left h2 r0
        exact le_of_mul_le p2 (by grind)
      · left
        have := Rat.mul_le_mul_of_nonneg_left h1 r0
        exact le_of_mul_le p1 (by grind)
    · have r0 : 0 ≤ r := le_of_mul_le pd (by grind)
      constructor
      · left
        have := Rat.mul_le_mul_of_nonneg_left h1 r0
        exact le_of_mul_le p1 (by grind)
      · right
        have := Rat.mul_le_mul_of_nonneg_left h2 r0
        exact le_of_mul_le p2 (by grind)
theorem quot_ex {y : Int} {a : Rat} (hy : y ≠ 0) : ∃ r : Rat, (y : Rat) * r = a * 4294967296 := by
  have hne : (y : Rat) ≠ 0 := by
    intro h
    have : ((y : Int) : Rat) = ((0 : Int) : Rat) := h
    exact hy (by exact_mod_cast this)
  refine ⟨(y : Rat)⁻¹ * (a * 4294967296), ?_⟩
  rw [← Rat.mul_assoc, Rat.mul_inv_cancel _ hne, Rat.one_mul]
theorem DivW {A B : Iv} {a d r : Rat} (ha : HasW A a) (hd : HasW B d) (e : d * r = a) : HasW (spec_DivI A B) r := by
  intro h
  obtain ⟨o1, o2, o3⟩ := DivI_ok2 h
  have hB := (ok_iff _).1 o2
  have hz : ¬ (B.lo ≤ 0 ∧ 0 ≤ B.hi) := mt (l00In_iff 0 B.lo B.hi).2 (by rw [spec_l04Has] at o3; rw [o3]; simp)
  obtain ⟨r1, e1⟩ := quot_ex (y := B.lo) (a := a) (by omega)
  obtain ⟨r2, e2⟩ := quot_ex (y := B.hi) (a := a) (by omega)
  have d1 := DivI_has (ha o1) h B.lo (Or.inl rfl) e1
  have d2 := DivI_has (ha o1) h B.hi (Or.inr rfl) e2
  have b := div_between hz hB.2.1 (hd o2).1 (hd o2).2 e e1 e2
  constructor
  · rcases b.1 with g | g
    · exact Rat.le_trans d1.1 (scale_le g)
    · exact Rat.le_trans d2.1 (scale_le g)
  · rcases b.2 with g | g
    · exact Rat.le_trans (scale_le g) d1.2
    · exact Rat.le_trans (scale_le g) d2.2
theorem OverW {A B : Iv} {q : Rat} (ha : HasW A q) (hb : HasW B q) : spec_OverlapI A B = true := by
  simp only [spec_OverlapI, spec_MeetI]
  cases kA : spec_l04Ok A
  · cases kB : spec_l04Ok B <;> simp
  cases kB : spec_l04Ok B
  · simp
  have a := ha kA
  have b := hb kB
  have h1 : A.lo ≤ B.hi := by have := Rat.le_trans a.1 b.2; exact_mod_cast this
  have h2 : B.lo ≤ A.hi := by have := Rat.le_trans b.1 a.2; exact_mod_cast this
  have iA := (ok_iff _).1 kA
  have iB := (ok_iff _).1 kB
  have : decide (spec_l00Max A.lo B.lo > spec_l00Min A.hi B.hi) = false := by
    refine decide_eq_false ?_
    simp only [spec_l00Max, spec_l00Min, Bool.cond_eq_ite, decide_eq_true_eq]
    split <;> split <;> omega
  simp only [Bool.not_true, cond_false, this]

/-! ### Vectors and matrices of numbers -/
structure Q3 where
  x : Rat
  y : Rat
  z : Rat
structure QM where
  a : Q3
  b : Q3
  c : Q3
def VW (A : V3) (q : Q3) : Prop := HasW A.x q.x ∧ HasW A.y q.y ∧ HasW A.z q.z
def MW (A : M3) (q : QM) : Prop := VW A.a q.a ∧ VW A.b q.b ∧ VW A.c q.c
def dot (p q : Q3) : Rat := p.x * q.x + p.y * q.y + p.z * q.z
def cross (p q : Q3) : Q3 := ⟨p.y * q.z - p.z * q.y, p.z * q.x - p.x * q.z, p.x * q.y - p.y * q.x⟩
def app (m : QM) (v : Q3) : Q3 := ⟨dot m.a v, dot m.b v, dot m.c v⟩
def cols (m : QM) : QM := ⟨⟨m.a.x, m.b.x, m.c.x⟩, ⟨m.a.y, m.b.y, m.c.y⟩, ⟨m.a.z, m.b.z, m.c.z⟩⟩
def mul (m n : QM) : QM := ⟨app (cols n) m.a, app (cols n) m.b, app (cols n) m.c⟩
def lows (A : V3) : Q3 := ⟨fx A.x.lo, fx A.y.lo, fx A.z.lo⟩
def lowm (A : M3) : QM := ⟨lows A.a, lows A.b, lows A.c⟩
theorem lowsW (A : V3) : VW A (lows A) := ⟨fun h => has_lo h, fun h => has_lo h, fun h => has_lo h⟩
theorem lowmW (A : M3) : MW A (lowm A) := ⟨lowsW _, lowsW _, lowsW _⟩
theorem dotW {A B : V3} {p q : Q3} (ha : VW A p) (hb : VW B q) : HasW (spec_DotV A B) (dot p q) := AddW (AddW (MulW ha.1 hb.1) (MulW ha.2.1 hb.2.1)) (MulW ha.2.2 hb.2.2)
theorem crossW {A B : V3} {p q : Q3} (ha : VW A p) (hb : VW B q) : VW (spec_CrossV A B) (cross p q) :=
  ⟨SubW (MulW ha.2.1 hb.2.2) (MulW ha.2.2 hb.2.1), SubW (MulW ha.2.2 hb.1) (MulW ha.1 hb.2.2), SubW (MulW ha.1 hb.2.1) (MulW ha.2.1 hb.1)⟩
theorem appW {A : M3} {B : V3} {p : QM} {q : Q3} (ha : MW A p) (hb : VW B q) : VW (spec_ApplyM A B) (app p q) := ⟨dotW ha.1 hb, dotW ha.2.1 hb, dotW ha.2.2 hb⟩
theorem colsW {A : M3} {p : QM} (ha : MW A p) : MW (spec_l10Columns A) (cols p) := ⟨⟨ha.1.1, ha.2.1.1, ha.2.2.1⟩, ⟨ha.1.2.1, ha.2.1.2.1, ha.2.2.2.1⟩, ⟨ha.1.2.2, ha.2.1.2.2, ha.2.2.2.2⟩⟩
theorem mulW {A B : M3} {p q : QM} (ha : MW A p) (hb : MW B q) : MW (spec_MulM A B) (mul p q) := ⟨appW (colsW hb) ha.1, appW (colsW hb) ha.2.1, appW (colsW hb) ha.2.2⟩
theorem overV {A B : V3} {q : Q3} (ha : VW A q) (hb : VW B q) : spec_OverlapV A B = true := by
  simp only [spec_OverlapV, OverW ha.1 hb.1, OverW ha.2.1 hb.2.1, OverW ha.2.2 hb.2.2, cond_true]
theorem mul_app (p q : QM) (v : Q3) : app (mul p q) v = app p (app q v) := by
  simp only [app, mul, cols, dot, Q3.mk.injEq]
  refine ⟨?_, ?_, ?_⟩ <;> grind
/-- Products act one after the other. -/
theorem law_product (m n : M3) (v : V3) : spec_OverlapV (spec_ApplyM (spec_MulM m n) v) (spec_ApplyM m (spec_ApplyM n v)) = true := by
  have a := appW (mulW (lowmW m) (lowmW n)) (lowsW v)
  rw [mul_app] at a
  exact overV a (appW (lowmW m) (appW (lowmW n) (lowsW v)))
theorem unitV (a b c : Int) : VW ⟨spec_Integer a, spec_Integer b, spec_Integer c⟩ ⟨(a : Rat), (b : Rat), (c : Rat)⟩ := ⟨IntegerW a, IntegerW b, IntegerW c⟩
theorem inv_ex {d : Rat} (a : Rat) (h : d ≠ 0) : ∃ r : Rat, d * r = a := ⟨d⁻¹ * a, by rw [← Rat.mul_assoc, Rat.mul_inv_cancel _ h, Rat.one_mul]⟩
theorem lin {d x y z ax ay az cx cy cz t : Rat} (hx : d * x = cx) (hy : d * y = cy) (hz : d * z = cz) (hd : d ≠ 0) (h : ax * cx + ay * cy + az * cz = d * t) : x * ax + y * ay + z * az = t := by
  have e : d * (x * ax + y * ay + z * az) = d * t := by
    rw [← h, ← hx, ← hy, ← hz]
    grind
  have e2 := congrArg (fun t => d⁻¹ * t) e
  simp only [← Rat.mul_assoc, Rat.inv_mul_cancel _ hd, Rat.one_mul] at e2
  exact e2
theorem det_a (a b c : Q3) : a.x * (cross b c).x + a.y * (cross b c).y + a.z * (cross b c).z = dot a (cross b c) * 1 := by
  simp only [dot, cross]; grind
theorem det_0 (a c : Q3) (d : Rat) : a.x * (cross c a).x + a.y * (cross c a).y + a.z * (cross c a).z = d * 0 := by
  simp only [cross]; grind
theorem det_1 (a b : Q3) (d : Rat) : a.x * (cross a b).x + a.y * (cross a b).y + a.z * (cross a b).z = d * 0 := by
  simp only [cross]; grind
theorem det_b (a b c : Q3) : b.x * (cross c a).x + b.y * (cross c a).y + b.z * (cross c a).z = dot a (cross b c) * 1 := by
  simp only [dot, cross]; grind
theorem det_c (a b c : Q3) : c.x * (cross a b).x + c.y * (cross a b).y + c.z * (cross a b).z = dot a (cross b c) * 1 := by
  simp only [dot, cross]; grind
/-- A matrix times its inverse. -/
theorem law_inverse (m : M3) (h : (spec_InverseM m).2 = true) :
    spec_OverlapV (spec_MulM m (spec_InverseM m).1).a ⟨spec_Integer 1, spec_Integer 0, spec_Integer 0⟩ = true ∧
    spec_OverlapV (spec_MulM m (spec_InverseM m).1).b ⟨spec_Integer 0, spec_Integer 1, spec_Integer 0⟩ = true ∧
    spec_OverlapV (spec_MulM m (spec_InverseM m).1).c ⟨spec_Integer 0, spec_Integer 0, spec_Integer 1⟩ = true := by
  have hm := lowmW m
  generalize lowm m = p at hm
  have bc := crossW hm.2.1 hm.2.2
  have ca := crossW hm.2.2 hm.1
  have ab := crossW hm.1 hm.2.1
  have det := dotW hm.1 bc
  simp only [spec_InverseM] at h ⊢
  cases hk : spec_HasI (spec_DotV m.a (spec_CrossV m.b m.c)) 0
  case true => rw [hk] at h; simp at h
  simp only [cond_false]
  have hk2 : spec_l04Ok (spec_DotV m.a (spec_CrossV m.b m.c)) = true ∧ spec_l04Has (spec_DotV m.a (spec_CrossV m.b m.c)) 0 = false := by
    simp only [spec_HasI] at hk
    cases k : spec_l04Ok (spec_DotV m.a (spec_CrossV m.b m.c))
    · rw [k] at hk; simp at hk
    · rw [k] at hk; simpa using hk
  generalize spec_DotV m.a (spec_CrossV m.b m.c) = D at *
  have hd0 : dot p.a (cross p.b p.c) ≠ 0 := by
    intro h0
    have hh := det hk2.1
    rw [h0] at hh
    have n := mt (l00In_iff 0 D.lo D.hi).2 (by rw [← spec_l04Has]; rw [hk2.2]; simp)
    have e0 : (0 : Rat) * 4294967296 = ((0 : Int) : Rat) := by decide +kernel
    have h1 := hh.1
    have h2 := hh.2
    rw [e0] at h1 h2
    exact n ⟨by exact_mod_cast h1, by exact_mod_cast h2⟩
  obtain ⟨x1, ex1⟩ := inv_ex (cross p.b p.c).x hd0
  obtain ⟨x2, ex2⟩ := inv_ex (cross p.c p.a).x hd0
  obtain ⟨x3, ex3⟩ := inv_ex (cross p.a p.b).x hd0
  obtain ⟨y1, ey1⟩ := inv_ex (cross p.b p.c).y hd0
  obtain ⟨y2, ey2⟩ := inv_ex (cross p.c p.a).y hd0
  obtain ⟨y3, ey3⟩ := inv_ex (cross p.a p.b).y hd0
  obtain ⟨z1, ez1⟩ := inv_ex (cross p.b p.c).z hd0
  obtain ⟨z2, ez2⟩ := inv_ex (cross p.c p.a).z hd0
  obtain ⟨z3, ez3⟩ := inv_ex (cross p.a p.b).z hd0
  have hb : MW (M3.mk (spec_l10Over (spec_l10Columns (M3.mk (spec_CrossV m.b m.c) (spec_CrossV m.c m.a) (spec_CrossV m.a m.b))).a D) (spec_l10Over (spec_l10Columns (M3.mk (spec_CrossV m.b m.c) (spec_CrossV m.c m.a) (spec_CrossV m.a m.b))).b D) (spec_l10Over (spec_l10Columns (M3.mk (spec_CrossV m.b m.c) (spec_CrossV m.c m.a) (spec_CrossV m.a m.b))).c D)) ⟨⟨x1, x2, x3⟩, ⟨y1, y2, y3⟩, ⟨z1, z2, z3⟩⟩ :=
    ⟨⟨DivW bc.1 det ex1, DivW ca.1 det ex2, DivW ab.1 det ex3⟩, ⟨DivW bc.2.1 det ey1, DivW ca.2.1 det ey2, DivW ab.2.1 det ey3⟩, ⟨DivW bc.2.2 det ez1, DivW ca.2.2 det ez2, DivW ab.2.2 det ez3⟩⟩
  have hp := mulW hm hb
  have one0 : ((0 : Int) : Rat) = 0 := rfl
  have one1 : ((1 : Int) : Rat) = 1 := rfl
  have eM : mul p ⟨⟨x1, x2, x3⟩, ⟨y1, y2, y3⟩, ⟨z1, z2, z3⟩⟩ = ⟨⟨1, 0, 0⟩, ⟨0, 1, 0⟩, ⟨0, 0, 1⟩⟩ := by
    simp only [mul, app, cols, QM.mk.injEq, Q3.mk.injEq]
    exact ⟨⟨lin ex1 ey1 ez1 hd0 (det_a _ _ _), lin ex2 ey2 ez2 hd0 (det_0 _ _ _), lin ex3 ey3 ez3 hd0 (det_1 _ _ _)⟩,
      ⟨lin ex1 ey1 ez1 hd0 (det_1 _ _ _), lin ex2 ey2 ez2 hd0 (det_b _ _ _), lin ex3 ey3 ez3 hd0 (det_0 _ _ _)⟩,
      ⟨lin ex1 ey1 ez1 hd0 (det_0 _ _ _), lin ex2 ey2 ez2 hd0 (det_1 _ _ _), lin ex3 ey3 ez3 hd0 (det_c _ _ _)⟩⟩
  rw [eM] at hp
  have u1 := unitV 1 0 0
  have u2 := unitV 0 1 0
  have u3 := unitV 0 0 1
  simp only [one0, one1] at u1 u2 u3
  exact ⟨overV hp.1 u1, overV hp.2.1 u2, overV hp.2.2 u3⟩
end Go.G880.Nw
