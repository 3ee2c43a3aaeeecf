/- Polynomials over the rationals: the mean value bounds, by subdivision. -/
import Derived.Test.YtogpbandlpjccaaGreatDoorPB
namespace Go.Newton
def evp : List Rat → Rat → Rat
 | [], _ => 0
 | c :: q, u => c + u * evp q u
def dv : List Rat → Rat → Rat
 | [], _ => 0
 | _ :: q, u => evp q u + u * dv q u
theorem mul_le (a b A B : Rat) (h1 : -A ≤ a) (h2 : a ≤ A) (h3 : -B ≤ b) (h4 : b ≤ B) : a * b ≤ A * B ∧ -(A * B) ≤ a * b := by
 have p1 : 0 ≤ (A - a) * (B + b) := Rat.mul_nonneg (by grind) (by grind)
 have p2 : 0 ≤ (A + a) * (B - b) := Rat.mul_nonneg (by grind) (by grind)
 have p3 : 0 ≤ (A - a) * (B - b) := Rat.mul_nonneg (by grind) (by grind)
 have p4 : 0 ≤ (A + a) * (B + b) := Rat.mul_nonneg (by grind) (by grind)
 constructor <;> grind
theorem arch (x : Rat) : ∃ N : Nat, 0 < N ∧ x < (N : Rat) := by
 refine ⟨x.ceil.toNat + 1, by omega, ?_⟩
 have h1 : x ≤ (x.ceil : Rat) := Rat.le_ceil
 have h2 : x.ceil ≤ ((x.ceil.toNat : Nat) : Int) := by omega
 have h3 : (x.ceil : Rat) ≤ (((x.ceil.toNat : Nat) : Int) : Rat) := by exact_mod_cast h2
 have h4 : ((x.ceil.toNat + 1 : Nat) : Rat) = (((x.ceil.toNat : Nat) : Int) : Rat) + 1 := by
  rw [Rat.intCast_natCast]
  simp
 rw [h4]
 grind
theorem limit (X C : Rat) (_hC : 0 ≤ C) (h : ∀ N : Nat, 0 < N → -C ≤ (N : Rat) * X) : 0 ≤ X := by
 by_cases hX : 0 ≤ X
 ·exact hX
 ·exfalso
  have hX' : 0 < -X := by grind
  have hne : -X ≠ 0 := by grind
  obtain ⟨N, hN, hb⟩ := arch (C * (-X)⁻¹)
  have h1 := h N hN
  have h2 : C * (-X)⁻¹ * (-X) < (N : Rat) * (-X) := Rat.mul_lt_mul_of_pos_right hb hX'
  have h3 : (-X)⁻¹ * (-X) = 1 := by rw [Rat.mul_comm]; exact Rat.mul_inv_cancel _ hne
  have h4 : C * (-X)⁻¹ * (-X) = C := by rw [Rat.mul_assoc, h3, Rat.mul_one]
  rw [h4] at h2
  grind
theorem le_of_mul_le {s x y : Rat} (hs : 0 < s) (h : s * x ≤ s * y) : x ≤ y := by
 by_cases hxy : x ≤ y
 ·exact hxy
 ·have := Rat.mul_lt_mul_of_pos_left (show y < x by grind) hs
  grind
end Go.Newton
/- The intervals' operations enclose: sums, differences, products, quotients. -/
set_option linter.unusedVariables false
set_option linter.unusedSimpArgs false
namespace Go.G880.Nw
open Go Go.RX Go.G880 Go.Newton
def has (X : Iv) (q : Rat) : Prop := (X.lo : Rat) ≤ q * 4294967296 ∧ q * 4294967296 ≤ (X.hi : Rat)
theorem make_of {a b : Int} (h : spec_l04Ok (spec_l04Make a b) = true) : spec_l04Make a b = ⟨a, b⟩ := by
 simp only [spec_l04Make] at h ⊢
 cases hk : spec_l04Ok ⟨a, b⟩
 ·rw [hk] at h
  simp only [Bool.not_false, cond_true] at h
  rw [whole_not] at h
  cases h
 ·simp
theorem end_val {n : Int} {ok : Bool} (h : (spec_l03End n ok).2 = true) : ok = true ∧ (spec_l03End n ok).1 = n := by
 simp only [spec_l03End] at h ⊢
 cases ok
 ·simp at h
 cases hk : spec_l03Ok n
 ·rw [hk] at h; simp at h
 ·simp
theorem MulDown_val {a b : Int} (h : (spec_l03MulDown a b).2 = true) : (spec_l03MulDown a b).1 * 4294967296 ≤ a * b := by
 simp only [spec_l03MulDown] at h ⊢
 cases ka : spec_l03Ok a
 ·rw [ka] at h; simp at h
 cases kb : spec_l03Ok b
 ·rw [ka, kb] at h; simp at h
 rw [ka, kb] at h
 simp only [Bool.not_true, cond_false] at h ⊢
 obtain ⟨h1, h2⟩ := end_val h
 rw [h2]
 have pr := prod_range (in64_fix ka) (in64_fix kb)
 have hr : spec_l00In 32 0 126 = true := by decide
 simp only [spec_MulFloor, hr, Bool.not_true, cond_false, l02Mul_eq (in64_fix ka) (in64_fix kb), (Shift32 pr.1 pr.2).2] at h1 ⊢
 have hq := quot_range (z := a * b) (d := 4294967296) pr (by omega)
 rw [WideInt_W hq.1 hq.2] at h1 ⊢
 split at h1
 ·rw [if_pos (by assumption)]
  simp only
  omega
 ·cases h1
theorem MulUp_val {a b : Int} (h : (spec_l03MulUp a b).2 = true) : a * b ≤ (spec_l03MulUp a b).1 * 4294967296 := by
 simp only [spec_l03MulUp] at h ⊢
 cases ka : spec_l03Ok a
 ·rw [ka] at h; simp at h
 rw [ka] at h
 simp only [Bool.not_true, cond_false] at h ⊢
 rw [(neg_fix ka).1] at h ⊢
 cases kd : (spec_l03MulDown (-a) b).2
 ·rw [kd] at h; simp at h
 simp only [Bool.not_true, cond_false]
 have hv := MulDown_val kd
 have ho := MulDown_ok kd
 rw [(neg_fix ho).1, Int.neg_mul]
 rw [Int.neg_mul] at hv
 omega
theorem DivDown_pos {a b : Int} (hb : 0 < b) (h : (spec_l03DivDown a b).2 = true) : (spec_l03DivDown a b).1 * b ≤ a * 4294967296 := by
 simp only [spec_l03DivDown] at h ⊢
 cases ka : spec_l03Ok a
 ·rw [ka] at h; simp at h
 cases kb : spec_l03Ok b
 ·rw [ka, kb] at h; simp at h
 have hz : (b == 0) = false := by simp; omega
 have hn : decide (b < 0) = false := decide_eq_false (by omega)
 rw [ka, kb, hz, hn] at h
 simp only [Bool.not_true, cond_false, hz, hn] at h ⊢
 obtain ⟨h1, h2⟩ := end_val h
 rw [h2]
 have fb := in64_fix kb
 simp only [In64] at fb
 rw [spec_MulDivFloor_val (in64_fix ka) in64_unit hb (by omega)] at h1 ⊢
 split at h1
 ·rw [if_pos (by assumption)]
  exact Int.ediv_mul_le _ (by omega)
 ·cases h1
theorem DivDown_neg {a b : Int} (hb : b < 0) (h : (spec_l03DivDown a b).2 = true) : a * 4294967296 ≤ (spec_l03DivDown a b).1 * b := by
 simp only [spec_l03DivDown] at h ⊢
 cases ka : spec_l03Ok a
 ·rw [ka] at h; simp at h
 cases kb : spec_l03Ok b
 ·rw [ka, kb] at h; simp at h
 have hz : (b == 0) = false := by simp; omega
 have hn : decide (b < 0) = true := decide_eq_true hb
 rw [ka, kb, hz, hn] at h
 simp only [Bool.not_true, cond_false, cond_true, hz, hn, (neg_fix ka).1, (neg_fix kb).1] at h ⊢
 obtain ⟨h1, h2⟩ := end_val h
 rw [h2]
 have fb := (l03Ok_iff b).1 kb
 have hp : 0 < -b := by omega
 have hq : -b ≤ 9223372036854775807 := by omega
 rw [spec_MulDivFloor_val (in64_fix (neg_fix ka).2) in64_unit hp hq] at h1 ⊢
 split at h1
 ·rw [if_pos (by assumption)]
  have := Int.ediv_mul_le (-a * 4294967296) (b := -b) (by omega)
  simp only
  rw [Int.mul_neg, Int.neg_mul] at this
  rw [Int.neg_mul]
  omega
 ·cases h1
theorem DivUp_down {a b : Int} (h : (spec_l03DivUp a b).2 = true) : spec_l03Ok a = true ∧ (spec_l03DivDown (-a) b).2 = true ∧ (spec_l03DivUp a b).1 = -(spec_l03DivDown (-a) b).1 := by
 simp only [spec_l03DivUp] at h ⊢
 cases ka : spec_l03Ok a
 ·rw [ka] at h; simp at h
 rw [ka] at h
 simp only [Bool.not_true, cond_false] at h ⊢
 rw [(neg_fix ka).1] at h ⊢
 exact ⟨trivial, h, (neg_fix (DivDown_ok h)).1⟩
end Go.G880.Nw
/- The intervals' products and quotients enclose. -/
set_option linter.unusedVariables false
set_option linter.unusedSimpArgs false
namespace Go.G880.Nw
open Go Go.RX Go.G880 Go.Newton
theorem min_le (a b : Int) : spec_l00Min a b ≤ a ∧ spec_l00Min a b ≤ b := by
 simp only [spec_l00Min, Bool.cond_eq_ite, decide_eq_true_eq]
 split <;> omega
theorem le_max (a b : Int) : a ≤ spec_l00Max a b ∧ b ≤ spec_l00Max a b := by
 simp only [spec_l00Max, Bool.cond_eq_ite, decide_eq_true_eq]
 split <;> omega
theorem four (d1 d2 d3 d4 u1 u2 u3 u4 : Int) :
  let lo := spec_l00Min (spec_l00Min (spec_l00Min (spec_l00Min 1152921504606846976 d1) d2) d3) d4
  let hi := spec_l00Max (spec_l00Max (spec_l00Max (spec_l00Max (-1152921504606846976) u1) u2) u3) u4
  (lo ≤ d1 ∧ lo ≤ d2 ∧ lo ≤ d3 ∧ lo ≤ d4) ∧ (u1 ≤ hi ∧ u2 ≤ hi ∧ u3 ≤ hi ∧ u4 ≤ hi) := by
 intro lo hi
 have a1 := min_le 1152921504606846976 d1
 have a2 := min_le (spec_l00Min 1152921504606846976 d1) d2
 have a3 := min_le (spec_l00Min (spec_l00Min 1152921504606846976 d1) d2) d3
 have a4 := min_le (spec_l00Min (spec_l00Min (spec_l00Min 1152921504606846976 d1) d2) d3) d4
 have b1 := le_max (-1152921504606846976) u1
 have b2 := le_max (spec_l00Max (-1152921504606846976) u1) u2
 have b3 := le_max (spec_l00Max (spec_l00Max (-1152921504606846976) u1) u2) u3
 have b4 := le_max (spec_l00Max (spec_l00Max (spec_l00Max (-1152921504606846976) u1) u2) u3) u4
 show (spec_l00Min (spec_l00Min (spec_l00Min (spec_l00Min 1152921504606846976 d1) d2) d3) d4 ≤ d1 ∧ _) ∧ _
 omega
theorem bil_lo {x1 x2 y1 y2 a b L : Rat} (h1 : x1 ≤ a) (h2 : a ≤ x2) (h3 : y1 ≤ b) (h4 : b ≤ y2) (p1 : L ≤ x1 * y1) (p2 : L ≤ x1 * y2) (p3 : L ≤ x2 * y1) (p4 : L ≤ x2 * y2) : L ≤ a * b := by
 have q : ∀ x : Rat, L ≤ x * y1 → L ≤ x * y2 → L ≤ x * b := by
  intro x g1 g2
  by_cases hx : 0 ≤ x
  ·have := Rat.mul_nonneg hx (show 0 ≤ b - y1 by grind)
   grind
  ·have := Rat.mul_nonneg (show 0 ≤ -x by grind) (show 0 ≤ y2 - b by grind)
   grind
 have q1 := q x1 p1 p2
 have q2 := q x2 p3 p4
 by_cases hb : 0 ≤ b
 ·have := Rat.mul_nonneg (show 0 ≤ a - x1 by grind) hb
  grind
 ·have := Rat.mul_nonneg (show 0 ≤ x2 - a by grind) (show 0 ≤ -b by grind)
  grind
theorem bil_hi {x1 x2 y1 y2 a b L : Rat} (h1 : x1 ≤ a) (h2 : a ≤ x2) (h3 : y1 ≤ b) (h4 : b ≤ y2) (p1 : x1 * y1 ≤ L) (p2 : x1 * y2 ≤ L) (p3 : x2 * y1 ≤ L) (p4 : x2 * y2 ≤ L) : a * b ≤ L := by
 have := bil_lo (x1 := -x2) (x2 := -x1) (y1 := y1) (y2 := y2) (a := -a) (b := b) (L := -L) (by grind) (by grind) h3 h4 (by grind) (by grind) (by grind) (by grind)
 grind
theorem cst {a b : Int} (h : a ≤ b) : (a : Rat) ≤ (b : Rat) := by exact_mod_cast h
theorem castU : ((4294967296 : Int) : Rat) = 4294967296 := rfl
theorem down_cast {n a b : Int} (h : n * 4294967296 ≤ a * b) : (n : Rat) * 4294967296 ≤ (a : Rat) * (b : Rat) := by
 have := cst h
 rw [Rat.intCast_mul, Rat.intCast_mul, castU] at this
 exact this
theorem up_cast {n a b : Int} (h : a * b ≤ n * 4294967296) : (a : Rat) * (b : Rat) ≤ (n : Rat) * 4294967296 := by
 have := cst h
 rw [Rat.intCast_mul, Rat.intCast_mul, castU] at this
 exact this
theorem le_of_mulU {x y : Rat} (h : x * 4294967296 ≤ y * 4294967296) : x ≤ y := le_of_mul_le (s := 4294967296) (by grind) (by grind)
theorem scale_le {x y : Rat} (h : x ≤ y) : x * 4294967296 ≤ y * 4294967296 := by
 have := Rat.mul_le_mul_of_nonneg_left h (show (0 : Rat) ≤ 4294967296 by grind)
 grind
theorem MulI_has {A B : Iv} {a b : Rat} (ha : has A a) (hb : has B b) (h : spec_l04Ok (spec_MulI A B) = true) : has (spec_MulI A B) (a * b) := by
 simp only [spec_MulI] at h ⊢
 cases kA : spec_l04Ok A
 ·rw [kA] at h; simp only [Bool.not_false, cond_true, whole_not] at h; cases h
 cases kB : spec_l04Ok B
 ·rw [kA, kB] at h; simp only [Bool.not_false, Bool.not_true, cond_false, cond_true, whole_not] at h; cases h
 rw [kA, kB] at h
 simp only [Bool.not_true, cond_false] at h ⊢
 cases k1 : (spec_l03MulDown A.lo B.lo).2
 ·rw [k1] at h; simp only [Bool.not_false, cond_true, whole_not] at h; cases h
 cases k2 : (spec_l03MulUp A.lo B.lo).2
 ·rw [k1, k2] at h; simp only [Bool.not_false, Bool.not_true, cond_false, cond_true, whole_not] at h; cases h
 cases k3 : (spec_l03MulDown A.lo B.hi).2
 ·rw [k1, k2, k3] at h; simp only [Bool.not_false, Bool.not_true, cond_false, cond_true, whole_not] at h; cases h
 cases k4 : (spec_l03MulUp A.lo B.hi).2
 ·rw [k1, k2, k3, k4] at h; simp only [Bool.not_false, Bool.not_true, cond_false, cond_true, whole_not] at h; cases h
 cases k5 : (spec_l03MulDown A.hi B.lo).2
 ·rw [k1, k2, k3, k4, k5] at h; simp only [Bool.not_false, Bool.not_true, cond_false, cond_true, whole_not] at h; cases h
 cases k6 : (spec_l03MulUp A.hi B.lo).2
 ·rw [k1, k2, k3, k4, k5, k6] at h; simp only [Bool.not_false, Bool.not_true, cond_false, cond_true, whole_not] at h; cases h
 cases k7 : (spec_l03MulDown A.hi B.hi).2
 ·rw [k1, k2, k3, k4, k5, k6, k7] at h; simp only [Bool.not_false, Bool.not_true, cond_false, cond_true, whole_not] at h; cases h
 cases k8 : (spec_l03MulUp A.hi B.hi).2
 ·rw [k1, k2, k3, k4, k5, k6, k7, k8] at h; simp only [Bool.not_false, Bool.not_true, cond_false, cond_true, whole_not] at h; cases h
 rw [k1, k2, k3, k4, k5, k6, k7, k8] at h
 simp only [Bool.not_true, cond_false] at h ⊢
 rw [make_of h]
 obtain ⟨⟨m1, m2, m3, m4⟩, n1, n2, n3, n4⟩ := four (spec_l03MulDown A.lo B.lo).1 (spec_l03MulDown A.lo B.hi).1 (spec_l03MulDown A.hi B.lo).1 (spec_l03MulDown A.hi B.hi).1 (spec_l03MulUp A.lo B.lo).1 (spec_l03MulUp A.lo B.hi).1 (spec_l03MulUp A.hi B.lo).1 (spec_l03MulUp A.hi B.hi).1
 generalize spec_l00Min (spec_l00Min (spec_l00Min (spec_l00Min 1152921504606846976 _) _) _) _ = lo at *
 generalize spec_l00Max (spec_l00Max (spec_l00Max (spec_l00Max (-1152921504606846976) _) _) _) _ = hi at *
 have d1 := MulDown_val k1
 have d2 := MulDown_val k3
 have d3 := MulDown_val k5
 have d4 := MulDown_val k7
 have u1 := MulUp_val k2
 have u2 := MulUp_val k4
 have u3 := MulUp_val k6
 have u4 := MulUp_val k8
 have e1 := down_cast (n := lo) (a := A.lo) (b := B.lo) (by omega)
 have e2 := down_cast (n := lo) (a := A.lo) (b := B.hi) (by omega)
 have e3 := down_cast (n := lo) (a := A.hi) (b := B.lo) (by omega)
 have e4 := down_cast (n := lo) (a := A.hi) (b := B.hi) (by omega)
 have f1 := up_cast (n := hi) (a := A.lo) (b := B.lo) (by omega)
 have f2 := up_cast (n := hi) (a := A.lo) (b := B.hi) (by omega)
 have f3 := up_cast (n := hi) (a := A.hi) (b := B.lo) (by omega)
 have f4 := up_cast (n := hi) (a := A.hi) (b := B.hi) (by omega)
 obtain ⟨a1, a2⟩ := ha
 obtain ⟨b1, b2⟩ := hb
 have g1 := bil_lo a1 a2 b1 b2 e1 e2 e3 e4
 have g2 := bil_hi a1 a2 b1 b2 f1 f2 f3 f4
 have ee : a * 4294967296 * (b * 4294967296) = a * b * 4294967296 * 4294967296 := by grind
 rw [ee] at g1 g2
 exact ⟨le_of_mulU g1, le_of_mulU g2⟩
theorem div_lo {x1 x2 y lo : Int} {a r : Rat} (hy : y ≠ 0) (h1 : (x1 : Rat) ≤ a * 4294967296) (h2 : a * 4294967296 ≤ (x2 : Rat)) (hr : (y : Rat) * r = a * 4294967296)
  (l1 : lo ≤ (spec_l03DivDown x1 y).1) (l2 : lo ≤ (spec_l03DivDown x2 y).1) (k1 : (spec_l03DivDown x1 y).2 = true) (k2 : (spec_l03DivDown x2 y).2 = true) : (lo : Rat) ≤ r * 4294967296 := by
 by_cases hp : 0 < y
 ·have v := DivDown_pos hp k1
  have v2 : lo * y ≤ x1 * 4294967296 := Int.le_trans (Int.mul_le_mul_of_nonneg_right l1 (by omega)) v
  have v3 := cst v2
  rw [Rat.intCast_mul, Rat.intCast_mul, castU] at v3
  have hyr : (0 : Rat) < (y : Rat) := by exact_mod_cast hp
  refine le_of_mul_le hyr ?_
  have s := scale_le h1
  grind
 ·have hn : y < 0 := by omega
  have v := DivDown_neg hn k2
  have v2 : x2 * 4294967296 ≤ lo * y := by
   have w := Int.mul_le_mul_of_nonneg_right l2 (show 0 ≤ -y by omega)
   rw [Int.mul_neg, Int.mul_neg] at w
   omega
  have v3 := cst v2
  rw [Rat.intCast_mul, Rat.intCast_mul, castU] at v3
  have hyr : (0 : Rat) < -(y : Rat) := by
   have : (y : Rat) < ((0 : Int) : Rat) := by exact_mod_cast hn
   have z : ((0 : Int) : Rat) = 0 := rfl
   rw [z] at this
   grind
  refine le_of_mul_le hyr ?_
  have s := scale_le h2
  grind
theorem cast_neg (x : Int) : ((-x : Int) : Rat) = -(x : Rat) := by simp
theorem DivI_has {A B : Iv} {a r : Rat} (ha : has A a) (h : spec_l04Ok (spec_DivI A B) = true) (y : Int) (hy : y = B.lo ∨ y = B.hi) (hr : (y : Rat) * r = a * 4294967296) : has (spec_DivI A B) r := by
 simp only [spec_DivI] at h ⊢
 cases kA : spec_l04Ok A
 ·rw [kA] at h; simp only [Bool.not_false, cond_true, whole_not] at h; cases h
 cases kB : spec_l04Ok B
 ·rw [kA, kB] at h; simp only [Bool.not_false, Bool.not_true, cond_false, cond_true, whole_not] at h; cases h
 cases kH : spec_l04Has B 0
 case true => rw [kA, kB, kH] at h; simp only [Bool.not_true, cond_false, cond_true, whole_not] at h; cases h
 rw [kA, kB, kH] at h
 simp only [Bool.not_true, cond_false] at h ⊢
 cases k1 : (spec_l03DivDown A.lo B.lo).2
 ·rw [k1] at h; simp only [Bool.not_false, cond_true, whole_not] at h; cases h
 cases k2 : (spec_l03DivUp A.lo B.lo).2
 ·rw [k1, k2] at h; simp only [Bool.not_false, Bool.not_true, cond_false, cond_true, whole_not] at h; cases h
 cases k3 : (spec_l03DivDown A.lo B.hi).2
 ·rw [k1, k2, k3] at h; simp only [Bool.not_false, Bool.not_true, cond_false, cond_true, whole_not] at h; cases h
 cases k4 : (spec_l03DivUp A.lo B.hi).2
 ·rw [k1, k2, k3, k4] at h; simp only [Bool.not_false, Bool.not_true, cond_false, cond_true, whole_not] at h; cases h
 cases k5 : (spec_l03DivDown A.hi B.lo).2
 ·rw [k1, k2, k3, k4, k5] at h; simp only [Bool.not_false, Bool.not_true, cond_false, cond_true, whole_not] at h; cases h
 cases k6 : (spec_l03DivUp A.hi B.lo).2
 ·rw [k1, k2, k3, k4, k5, k6] at h; simp only [Bool.not_false, Bool.not_true, cond_false, cond_true, whole_not] at h; cases h
 cases k7 : (spec_l03DivDown A.hi B.hi).2
 ·rw [k1, k2, k3, k4, k5, k6, k7] at h; simp only [Bool.not_false, Bool.not_true, cond_false, cond_true, whole_not] at h; cases h
 cases k8 : (spec_l03DivUp A.hi B.hi).2
 ·rw [k1, k2, k3, k4, k5, k6, k7, k8] at h; simp only [Bool.not_false, Bool.not_true, cond_false, cond_true, whole_not] at h; cases h
 rw [k1, k2, k3, k4, k5, k6, k7, k8] at h
 simp only [Bool.not_true, cond_false] at h ⊢
 rw [make_of h]
 obtain ⟨⟨m1, m2, m3, m4⟩, n1, n2, n3, n4⟩ := four (spec_l03DivDown A.lo B.lo).1 (spec_l03DivDown A.lo B.hi).1 (spec_l03DivDown A.hi B.lo).1 (spec_l03DivDown A.hi B.hi).1 (spec_l03DivUp A.lo B.lo).1 (spec_l03DivUp A.lo B.hi).1 (spec_l03DivUp A.hi B.lo).1 (spec_l03DivUp A.hi B.hi).1
 generalize spec_l00Min (spec_l00Min (spec_l00Min (spec_l00Min 1152921504606846976 _) _) _) _ = lo at *
 generalize spec_l00Max (spec_l00Max (spec_l00Max (spec_l00Max (-1152921504606846976) _) _) _) _ = hi at *
 obtain ⟨_, u2, e2⟩ := DivUp_down k2
 obtain ⟨_, u4, e4⟩ := DivUp_down k4
 obtain ⟨_, u6, e6⟩ := DivUp_down k6
 obtain ⟨_, u8, e8⟩ := DivUp_down k8
 rw [e2] at n1
 rw [e4] at n2
 rw [e6] at n3
 rw [e8] at n4
 have hz : B.lo ≠ 0 ∧ B.hi ≠ 0 := by
  have hb := (ok_iff _).1 kB
  have := mt (l00In_iff 0 B.lo B.hi).2 (by rw [spec_l04Has] at kH; rw [kH]; simp)
  omega
 obtain ⟨a1, a2⟩ := ha
 have a1' : ((-A.hi : Int) : Rat) ≤ (-a) * 4294967296 := by rw [cast_neg]; grind
 have a2' : (-a) * 4294967296 ≤ ((-A.lo : Int) : Rat) := by rw [cast_neg]; grind
 have hr' : (y : Rat) * (-r) = (-a) * 4294967296 := by grind
 have fin : ((-hi : Int) : Rat) ≤ (-r) * 4294967296 → r * 4294967296 ≤ (hi : Rat) := by
  intro w
  rw [cast_neg] at w
  grind
 rcases hy with rfl | rfl
 ·exact ⟨div_lo hz.1 a1 a2 hr m1 m3 k1 k5, fin (div_lo hz.1 a1' a2' hr' (by omega) (by omega) u6 u2)⟩
 ·exact ⟨div_lo hz.2 a1 a2 hr m2 m4 k3 k7, fin (div_lo hz.2 a1' a2' hr' (by omega) (by omega) u8 u4)⟩
end Go.G880.Nw
/- Enclosing: intervals that are bounded, or whole. -/
set_option linter.unusedVariables false
set_option linter.unusedSimpArgs false
namespace Go.G880.Nw
open Go Go.RX Go.G880 Go.Newton
def HasW (X : Iv) (q : Rat) : Prop := spec_l04Ok X = true → has X q
theorem AddI_ok {A B : Iv} (h : spec_l04Ok (spec_AddI A B) = true) : spec_l04Ok A = true ∧ spec_l04Ok B = true := by
 simp only [spec_AddI] at h
 cases kA : spec_l04Ok A
 ·rw [kA] at h; simp only [Bool.not_false, cond_true, whole_not] at h; cases h
 cases kB : spec_l04Ok B
 ·rw [kA, kB] at h; simp only [Bool.not_false, Bool.not_true, cond_false, cond_true, whole_not] at h; cases h
 exact ⟨rfl, rfl⟩
theorem SubI_ok2 {A B : Iv} (h : spec_l04Ok (spec_SubI A B) = true) : spec_l04Ok A = true ∧ spec_l04Ok B = true := by
 simp only [spec_SubI] at h
 cases kA : spec_l04Ok A
 ·rw [kA] at h; simp only [Bool.not_false, cond_true, whole_not] at h; cases h
 cases kB : spec_l04Ok B
 ·rw [kA, kB] at h; simp only [Bool.not_false, Bool.not_true, cond_false, cond_true, whole_not] at h; cases h
 exact ⟨rfl, rfl⟩
theorem MulI_ok2 {A B : Iv} (h : spec_l04Ok (spec_MulI A B) = true) : spec_l04Ok A = true ∧ spec_l04Ok B = true := by
 simp only [spec_MulI] at h
 cases kA : spec_l04Ok A
 ·rw [kA] at h; simp only [Bool.not_false, cond_true, whole_not] at h; cases h
 cases kB : spec_l04Ok B
 ·rw [kA, kB] at h; simp only [Bool.not_false, Bool.not_true, cond_false, cond_true, whole_not] at h; cases h
 exact ⟨rfl, rfl⟩
theorem DivI_ok2 {A B : Iv} (h : spec_l04Ok (spec_DivI A B) = true) : spec_l04Ok A = true ∧ spec_l04Ok B = true ∧ spec_l04Has B 0 = false := by
 simp only [spec_DivI] at h
 cases kA : spec_l04Ok A
 ·rw [kA] at h; simp only [Bool.not_false, cond_true, whole_not] at h; cases h
 cases kB : spec_l04Ok B
 ·rw [kA, kB] at h; simp only [Bool.not_false, Bool.not_true, cond_false, cond_true, whole_not] at h; cases h
 cases kH : spec_l04Has B 0
 case true => rw [kA, kB, kH] at h; simp only [Bool.not_true, cond_false, cond_true, whole_not] at h; cases h
 exact ⟨rfl, rfl, rfl⟩
def fx (n : Int) : Rat := (n : Rat) * (1 / 4294967296)
theorem fx_mul (n : Int) : fx n * 4294967296 = (n : Rat) := by
 have : (1 / 4294967296 : Rat) * 4294967296 = 1 := by decide +kernel
 rw [fx, Rat.mul_assoc, this, Rat.mul_one]
theorem has_lo {X : Iv} (h : spec_l04Ok X = true) : has X (fx X.lo) := by
 simp only [has, fx_mul]
 exact ⟨Rat.le_refl, cst ((ok_iff _).1 h).2.1⟩
theorem fx_le {a b : Int} (h : a ≤ b) : fx a ≤ fx b := le_of_mulU (by rw [fx_mul, fx_mul]; exact cst h)
theorem le_fx {a b : Int} (h : fx a ≤ fx b) : a ≤ b := by
 have := scale_le h
 rw [fx_mul, fx_mul] at this
 exact_mod_cast this
theorem has_fx {X : Iv} {q : Rat} (h : has X q) : fx X.lo ≤ q ∧ q ≤ fx X.hi :=
 ⟨le_of_mulU (by rw [fx_mul]; exact h.1), le_of_mulU (by rw [fx_mul]; exact h.2)⟩
theorem fx_has {X : Iv} {q : Rat} (h1 : fx X.lo ≤ q) (h2 : q ≤ fx X.hi) : has X q := by
 have a := scale_le h1
 have b := scale_le h2
 rw [fx_mul] at a b
 exact ⟨a, b⟩
theorem IntegerW (n : Int) : HasW (spec_Integer n) (n : Rat) := by
 intro h
 simp only [spec_Integer] at h ⊢
 cases k : spec_l00In n (-268435455) 268435455
 ·rw [k] at h; simp only [Bool.not_false, cond_true, whole_not] at h; cases h
 rw [k] at h
 simp only [Bool.not_true, cond_false] at h ⊢
 rw [make_of h]
 have hb := (l00In_iff _ _ _).1 k
 rw [w64_id (by omega) (by omega)]
 have e : ((n * 4294967296 : Int) : Rat) = (n : Rat) * 4294967296 := by rw [Rat.intCast_mul, castU]
 simp only [has, e]
 exact ⟨Rat.le_refl, Rat.le_refl⟩
end Go.G880.Nw
/- Products and inverses of matrices enclose. -/
set_option linter.unusedVariables false
set_option linter.unusedSimpArgs false
namespace Go.G880.Nw
open Go Go.RX Go.G880 Go.Newton
theorem div_between {y1 y2 : Int} {a d r r1 r2 : Rat} (hz : ¬ (y1 ≤ 0 ∧ 0 ≤ y2)) (h12 : y1 ≤ y2) (h1 : (y1 : Rat) ≤ d * 4294967296) (h2 : d * 4294967296 ≤ (y2 : Rat)) (e : d * r = a) (e1 : (y1 : Rat) * r1 = a * 4294967296) (e2 : (y2 : Rat) * r2 = a * 4294967296) :
    (r1 ≤ r ∨ r2 ≤ r) ∧ (r ≤ r1 ∨ r ≤ r2) := by
  have z0 : ((0 : Int) : Rat) = 0 := rfl
  have c12 := cst h12
  by_cases hp : 0 < y1
  · have p1 : (0 : Rat) < (y1 : Rat) := by have : ((0 : Int) : Rat) < (y1 : Rat) := by exact_mod_cast hp
                                           rwa [z0] at this
    have pd : (0 : Rat) < d * 4294967296 := by grind
    have p2 : (0 : Rat) < (y2 : Rat) := by grind
    by_cases ha : 0 ≤ a
    · have r0 : 0 ≤ r := le_of_mul_le pd (by grind)
      constructor
      · right
        have := Rat.mul_le_mul_of_nonneg_left h2 r0
        exact le_of_mul_le p2 (by grind)
      · left
        have := Rat.mul_le_mul_of_nonneg_left h1 r0
        exact le_of_mul_le p1 (by grind)
    · have r0 : 0 ≤ -r := le_of_mul_le pd (by grind)
      constructor
      · left
        have := Rat.mul_le_mul_of_nonneg_left h1 r0
        exact le_of_mul_le p1 (by grind)
      · right
        have := Rat.mul_le_mul_of_nonneg_left h2 r0
        exact le_of_mul_le p2 (by grind)
  · have hn : y2 < 0 := by omega
    have p2 : (0 : Rat) < -(y2 : Rat) := by have : (y2 : Rat) < ((0 : Int) : Rat) := by exact_mod_cast hn
                                            rw [z0] at this
                                            grind
    have pd : (0 : Rat) < -(d * 4294967296) := by grind
    have p1 : (0 : Rat) < -(y1 : Rat) := by grind
    by_cases ha : 0 ≤ a
    · have r0 : 0 ≤ -r := le_of_mul_le pd (by grind)
      constructor
      · right
        have := Rat.mul_le_mul_of_nonneg_left h2 r0
        exact le_of_mul_le p2 (by grind)
      · left
        have := Rat.mul_le_mul_of_nonneg_left h1 r0
        exact le_of_mul_le p1 (by grind)
    · have r0 : 0 ≤ r := le_of_mul_le pd (by grind)
      constructor
      · left
        have := Rat.mul_le_mul_of_nonneg_left h1 r0
        exact le_of_mul_le p1 (by grind)
      · right
        have := Rat.mul_le_mul_of_nonneg_left h2 r0
        exact le_of_mul_le p2 (by grind)
theorem quot_ex {y : Int} {a : Rat} (hy : y ≠ 0) : ∃ r : Rat, (y : Rat) * r = a * 4294967296 := by
  have hne : (y : Rat) ≠ 0 := by
    intro h
    have : ((y : Int) : Rat) = ((0 : Int) : Rat) := h
    exact hy (by exact_mod_cast this)
  refine ⟨(y : Rat)⁻¹ * (a * 4294967296), ?_⟩
  rw [← Rat.mul_assoc, Rat.mul_inv_cancel _ hne, Rat.one_mul]
theorem DivW {A B : Iv} {a d r : Rat} (ha : HasW A a) (hd : HasW B d) (e : d * r = a) : HasW (spec_DivI A B) r := by
  intro h
  obtain ⟨o1, o2, o3⟩ := DivI_ok2 h
  have hB := (ok_iff _).1 o2
  have hz : ¬ (B.lo ≤ 0 ∧ 0 ≤ B.hi) := mt (l00In_iff 0 B.lo B.hi).2 (by rw [spec_l04Has] at o3; rw [o3]; simp)
  obtain ⟨r1, e1⟩ := quot_ex (y := B.lo) (a := a) (by omega)
  obtain ⟨r2, e2⟩ := quot_ex (y := B.hi) (a := a) (by omega)
  have d1 := DivI_has (ha o1) h B.lo (Or.inl rfl) e1
  have d2 := DivI_has (ha o1) h B.hi (Or.inr rfl) e2
  have b := div_between hz hB.2.1 (hd o2).1 (hd o2).2 e e1 e2
  constructor
  · rcases b.1 with g | g
    · exact Rat.le_trans d1.1 (scale_le g)
    · exact Rat.le_trans d2.1 (scale_le g)
  · rcases b.2 with g | g
    · exact Rat.le_trans (scale_le g) d1.2
    · exact Rat.le_trans (scale_le g) d2.2
structure Q3 where
  x : Rat
  y : Rat
  z : Rat
structure QM where
  a : Q3
  b : Q3
  c : Q3
def dot (p q : Q3) : Rat := p.x * q.x + p.y * q.y + p.z * q.z
def app (m : QM) (v : Q3) : Q3 := ⟨dot m.a v, dot m.b v, dot m.c v⟩
def cols (m : QM) : QM := ⟨⟨m.a.x, m.b.x, m.c.x⟩, ⟨m.a.y, m.b.y, m.c.y⟩, ⟨m.a.z, m.b.z, m.c.z⟩⟩
def mul (m n : QM) : QM := ⟨app (cols n) m.a, app (cols n) m.b, app (cols n) m.c⟩
theorem inv_ex {d : Rat} (a : Rat) (h : d ≠ 0) : ∃ r : Rat, d * r = a := ⟨d⁻¹ * a, by rw [← Rat.mul_assoc, Rat.mul_inv_cancel _ h, Rat.one_mul]⟩
end Go.G880.Nw
