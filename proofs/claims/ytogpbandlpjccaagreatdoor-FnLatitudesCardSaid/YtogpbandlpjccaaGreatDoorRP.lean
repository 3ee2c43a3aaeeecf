/- Directions: what the program's intervals enclose. -/
import Derived.Test.YtogpbandlpjccaaGreatDoorRO
set_option linter.unusedVariables false
set_option linter.unusedSimpArgs false
namespace Go.G880.Re
open Go Go.RX Go.G880 Go.Rl
open Classical in
noncomputable def dir (y x : R) : R := if 0 < y then qt - atan (x / y) else if y < 0 then -qt - atan (x / y) else 0
theorem dir_pos {y x : R} (h : 0 < y) : dir y x = qt - atan (x / y) := if_pos h
theorem dir_neg {y x : R} (h : y < 0) : dir y x = -qt - atan (x / y) := by unfold dir; rw [if_neg (by grind), if_pos h]
theorem dir_zero (x : R) : dir 0 x = 0 := by unfold dir; rw [if_neg (by grind), if_neg (by grind)]
theorem atan_quot {y x : R} (h : 0 < y) (k : 0 < x) : atan (y / x) = qt - atan (x / y) := by
 rw [atan_inv (R.div_pos h k), show (y / x)⁻¹ = x / y by grind]
theorem atan_quot_neg {y x : R} (h : y < 0) (k : 0 < x) : atan (y / x) = -qt - atan (x / y) := by
 have := atan_quot (y := -y) (x := x) (by grind) k
 rw [show -y / x = -(y / x) by grind, show x / -y = -(x / y) by grind, atan_neg, atan_neg] at this
 grind
theorem dir_right {y x : R} (h : 0 < x) : dir y x = atan (y / x) := by
 by_cases h1 : 0 < y
 ·rw [dir_pos h1, atan_quot h1 h]
 ·by_cases h2 : y < 0
  ·rw [dir_neg h2, atan_quot_neg h2 h]
  ·have : y = 0 := by grind
   rw [this, dir_zero, show (0 : R) / x = 0 by grind, atan_zero]
theorem isOpen_iff {n : Int} (h : impl_isOpen n = true) : -1152921504606846976 < n ∧ n < 1152921504606846976 := by
 unfold impl_isOpen at h
 cases k : decide ((-1152921504606846976) < n)
 ·rw [k] at h; simp at h
 ·rw [k] at h
  exact ⟨of_decide_eq_true k, of_decide_eq_true h⟩
def dCore (y x : Int) : Iv := bif decide ((impl_abs y) > (impl_abs x)) then (bif decide (y < 0) then ((impl_SubI (impl_TurnI (-1)) (impl_AtanI (impl_DivI (impl_at x) (impl_at y))))) else ((impl_SubI (impl_TurnI 1) (impl_AtanI (impl_DivI (impl_at x) (impl_at y)))))) else (bif decide (x > 0) then (impl_AtanI (impl_DivI (impl_at y) (impl_at x))) else (bif decide (y < 0) then ((impl_AddI (impl_AtanI (impl_DivI (impl_at y) (impl_at x))) (impl_TurnI (-2)))) else ((impl_AddI (impl_AtanI (impl_DivI (impl_at y) (impl_at x))) (impl_TurnI 2)))))
theorem At_eq (y x : Int) : impl_DirectionAt y x = bif (!(impl_isOpen y)) then impl_Whole else bif (!(impl_isOpen x)) then impl_Whole else bif ((y == 0) && (x == 0)) then impl_Whole else dCore y x := by
 unfold impl_DirectionAt dCore
 cases impl_isOpen y <;> cases impl_isOpen x <;> cases (y == 0) <;> cases (x == 0) <;> rfl
theorem abs_val {n : Int} (h : -1152921504606846976 < n ∧ n < 1152921504606846976) : impl_abs n = if 0 ≤ n then n else -n := by
 unfold impl_abs mxI
 rw [w64_id (by omega) (by omega)]
 split <;> split <;> omega
theorem fR_neg_of {n : Int} (h : n < 0) : fR n < 0 := by
 have := fR_pos (n := -n) (by omega)
 rw [fR_neg] at this
 grind
theorem two_cast : ((2 : Int) : R) = 2 := rfl
theorem DirAtJ {y x : Int} (h : y ≠ 0 ∨ 0 < x) : HR (impl_DirectionAt y x) (dir (fR y) (fR x)) := by
 rw [At_eq]
 cases oy : impl_isOpen y
 ·exact hr_whole _
 cases ox : impl_isOpen x
 ·exact hr_whole _
 have iy := isOpen_iff oy
 have ix := isOpen_iff ox
 have hz : ((y == 0) && (x == 0)) = false := by
  cases c : ((y == 0) && (x == 0))
  ·rfl
  ·simp at c; omega
 rw [hz]
 simp only [Bool.not_true, cond_false]
 unfold dCore
 rw [abs_val iy, abs_val ix]
 have a1 := AtanJ (DivJ (atJ x) (atJ y))
 have a2 := AtanJ (DivJ (atJ y) (atJ x))
 by_cases hc : (if 0 ≤ y then y else -y) > (if 0 ≤ x then x else -x)
 ·rw [decide_eq_true hc, cond_true]
  have hy : y ≠ 0 := by
   rintro rfl
   split at hc <;> split at hc <;> omega
  by_cases hn : y < 0
  ·rw [decide_eq_true hn, cond_true, dir_neg (fR_neg_of hn)]
   exact (SubJ (TurnJ (-1)) a1).eq (by rw [cast_neg, one_cast]; grind)
  ·rw [decide_eq_false hn, cond_false, dir_pos (fR_pos (by omega))]
   exact (SubJ (TurnJ 1) a1).eq (by rw [one_cast]; grind)
 ·rw [decide_eq_false hc, cond_false]
  by_cases hx : x > 0
  ·rw [decide_eq_true hx, cond_true, dir_right (fR_pos hx)]
   exact a2
  ·rw [decide_eq_false hx, cond_false]
   have hx0 : x < 0 := by
    rcases h with h | h
    ·split at hc <;> split at hc <;> omega
    ·omega
   have fx := fR_neg_of hx0
   have ey : y ≠ 0 := by rcases h with h | h <;> omega
   by_cases hn : y < 0
   ·rw [decide_eq_true hn, cond_true]
    have fy := fR_neg_of hn
    have q := atan_quot (y := -fR y) (x := -fR x) (by grind) (by grind)
    rw [show -fR y / -fR x = fR y / fR x by grind, show -fR x / -fR y = fR x / fR y by grind] at q
    rw [dir_neg fy]
    exact (AddJ a2 (TurnJ (-2))).eq (by rw [cast_neg, two_cast]; grind)
   ·rw [decide_eq_false hn, cond_false]
    have fy := fR_pos (n := y) (by omega)
    have q := atan_quot_neg (y := -fR y) (x := -fR x) (by grind) (by grind)
    rw [show -fR y / -fR x = fR y / fR x by grind, show -fR x / -fR y = fR x / fR y by grind] at q
    rw [dir_pos fy]
    exact (AddJ a2 (TurnJ 2)).eq (by rw [two_cast]; grind)
theorem conv {H : Iv} {a b v : R} (ha : HR H a) (hb : HR H b) (h1 : a ≤ v) (h2 : v ≤ b) : HR H v := fun o => by
 have x := ha o
 have y := hb o
 unfold In at *
 grind
def hull4 (Y X : Iv) : Iv := impl_HullI (impl_HullI (impl_DirectionAt Y.lo X.lo) (impl_DirectionAt Y.lo X.hi)) (impl_HullI (impl_DirectionAt Y.hi X.lo) (impl_DirectionAt Y.hi X.hi))
theorem Dir_eq (y x : Iv) : impl_DirectionI y x = bif (!(impl_areBounded y x)) then impl_Whole else bif (impl_HasI y 0 && impl_HasI x 0) then impl_Whole else bif (decide (x.lo < 0) && (decide (y.lo < 0) && decide (y.hi ≥ 0))) then impl_Whole else hull4 y x := by
 unfold impl_DirectionI hull4
 cases impl_areBounded y x <;> cases impl_HasI y 0 <;> cases impl_HasI x 0 <;> cases decide (x.lo < 0) <;> cases decide (y.lo < 0) <;> cases decide (y.hi ≥ 0) <;> rfl
theorem quot_le {a b c d : R} (hb : 0 < b) (hd : 0 < d) (h : a * d ≤ c * b) : a / b ≤ c / d := by
 rw [R.div_le hb]
 have e : c / d * b = c * b / d := by grind
 rw [e, R.le_div hd]
 exact h
theorem DirJ {Y X : Iv} {y x : R} (hy : HR Y y) (hx : HR X x) (x0 : 0 ≤ x) : HR (impl_DirectionI Y X) (dir y x) := by
 rw [Dir_eq]
 unfold impl_areBounded
 cases k1 : impl_ValidInterval Y
 ·exact hr_whole _
 cases k2 : impl_ValidInterval X
 ·exact hr_whole _
 simp only [cond_true, Bool.not_true, cond_false]
 cases kz : (impl_HasI Y 0 && impl_HasI X 0)
 case true => exact hr_whole _
 cases kw : (decide (X.lo < 0) && (decide (Y.lo < 0) && decide (Y.hi ≥ 0)))
 case true => exact hr_whole _
 simp only [cond_false]
 have iy := hy k1
 have ix := hx k2
 have oy := (ok_iff _).1 k1
 have ox := (ok_iff _).1 k2
 unfold In at iy ix
 have c11 : ∀ {v}, HR (impl_DirectionAt Y.lo X.lo) v → HR (hull4 Y X) v := fun h => HullJ1 (.inl (HullJ1 (.inl h)))
 have c12 : ∀ {v}, HR (impl_DirectionAt Y.lo X.hi) v → HR (hull4 Y X) v := fun h => HullJ1 (.inl (HullJ1 (.inr h)))
 have c21 : ∀ {v}, HR (impl_DirectionAt Y.hi X.lo) v → HR (hull4 Y X) v := fun h => HullJ1 (.inr (HullJ1 (.inl h)))
 have c22 : ∀ {v}, HR (impl_DirectionAt Y.hi X.hi) v → HR (hull4 Y X) v := fun h => HullJ1 (.inr (HullJ1 (.inr h)))
 by_cases p1 : 0 < Y.lo
 ·have f1 := fR_pos p1
  have f2 := fR_pos (n := Y.hi) (by omega)
  have yp : 0 < y := by grind
  rw [dir_pos yp]
  have lo := c12 (DirAtJ (y := Y.lo) (x := X.hi) (.inl (by omega)))
  rw [dir_pos f1] at lo
  have q : atan (x / y) ≤ atan (fR X.hi / fR Y.lo) := atan_le_iff.2 (quot_le yp f1 (by
   have := R.mul_nn (a := x) (b := y - fR Y.lo) x0 (by grind)
   have := R.mul_nn (a := fR X.hi - x) (b := y) (by grind) (by grind)
   grind))
  by_cases n1 : 0 ≤ fR X.lo
  ·have hi := c21 (DirAtJ (y := Y.hi) (x := X.lo) (.inl (by omega)))
   rw [dir_pos f2] at hi
   have r : atan (fR X.lo / fR Y.hi) ≤ atan (x / y) := atan_le_iff.2 (quot_le f2 yp (by
    have := R.mul_nn (a := fR X.lo) (b := fR Y.hi - y) n1 (by grind)
    have := R.mul_nn (a := x - fR X.lo) (b := fR Y.hi) (by grind) (by grind)
    grind))
   exact conv lo hi (by grind) (by grind)
  ·have hi := c11 (DirAtJ (y := Y.lo) (x := X.lo) (.inl (by omega)))
   rw [dir_pos f1] at hi
   have r : atan (fR X.lo / fR Y.lo) ≤ atan (x / y) := atan_le_iff.2 (quot_le f1 yp (by
    have := R.mul_nn (a := x) (b := fR Y.lo) x0 (by grind)
    have := R.mul_nn (a := -fR X.lo) (b := y) (by grind) (by grind)
    grind))
   exact conv lo hi (by grind) (by grind)
 by_cases p2 : Y.hi < 0
 ·have f2 := fR_neg_of p2
  have f1 := fR_neg_of (n := Y.lo) (by omega)
  have yn : y < 0 := by grind
  rw [dir_neg yn]
  have flip : ∀ a b : R, a / b = -a / -b := fun a b => by grind
  have hi := c22 (DirAtJ (y := Y.hi) (x := X.hi) (.inl (by omega)))
  rw [dir_neg f2] at hi
  have q : atan (fR X.hi / fR Y.hi) ≤ atan (x / y) := atan_le_iff.2 (by
   rw [flip (fR X.hi), flip x]
   refine quot_le (by grind) (by grind) ?_
   have := R.mul_nn (a := x) (b := fR Y.hi - y) x0 (by grind)
   have := R.mul_nn (a := fR X.hi - x) (b := -y) (by grind) (by grind)
   grind)
  by_cases n1 : 0 ≤ fR X.lo
  ·have lo := c11 (DirAtJ (y := Y.lo) (x := X.lo) (.inl (by omega)))
   rw [dir_neg f1] at lo
   have r : atan (x / y) ≤ atan (fR X.lo / fR Y.lo) := atan_le_iff.2 (by
    rw [flip (fR X.lo), flip x]
    refine quot_le (by grind) (by grind) ?_
    have := R.mul_nn (a := fR X.lo) (b := y - fR Y.lo) n1 (by grind)
    have := R.mul_nn (a := x - fR X.lo) (b := -fR Y.lo) (by grind) (by grind)
    grind)
   exact conv lo hi (by grind) (by grind)
  ·have lo := c21 (DirAtJ (y := Y.hi) (x := X.lo) (.inl (by omega)))
   rw [dir_neg f2] at lo
   have r : atan (x / y) ≤ atan (fR X.lo / fR Y.hi) := atan_le_iff.2 (by
    rw [flip (fR X.lo), flip x]
    refine quot_le (by grind) (by grind) ?_
    have := R.mul_nn (a := x) (b := -fR Y.hi) x0 (by grind)
    have := R.mul_nn (a := -fR X.lo) (b := -y) (by grind) (by grind)
    grind)
   exact conv lo hi (by grind) (by grind)
 ·-- the interval of y has 0
  have hy0 : impl_HasI Y 0 = true := by
   unfold impl_HasI impl_IsWhole
   rw [k1]
   exact (l00In_iff _ _ _).2 (by omega)
  rw [hy0, Bool.true_and] at kz
  have xp : 0 < X.lo := by
   apply Classical.byContradiction
   intro hn
   have : 0 ≤ X.hi := by
    apply Classical.byContradiction
    intro hh
    have := fR_neg_of (n := X.hi) (by omega)
    grind
   have hx0 : impl_HasI X 0 = true := by
    unfold impl_HasI impl_IsWhole
    rw [k2]
    exact (l00In_iff _ _ _).2 (by omega)
   rw [hx0] at kz
   cases kz
  have f1 := fR_pos xp
  have x1 : 0 < x := by grind
  have g1 := fR_le.2 (show Y.lo ≤ 0 by omega)
  have g2 := fR_le.2 (show 0 ≤ Y.hi by omega)
  rw [fR_zero] at g1 g2
  rw [dir_right x1]
  have lo := c11 (DirAtJ (y := Y.lo) (x := X.lo) (.inr xp))
  have hi := c21 (DirAtJ (y := Y.hi) (x := X.lo) (.inr xp))
  rw [dir_right f1] at lo hi
  have q : atan (fR Y.lo / fR X.lo) ≤ atan (y / x) := atan_le_iff.2 (quot_le f1 x1 (by
   have := R.mul_nn (a := -fR Y.lo) (b := x - fR X.lo) (by grind) (by grind)
   have := R.mul_nn (a := y - fR Y.lo) (b := fR X.lo) (by grind) (by grind)
   grind))
  have r : atan (y / x) ≤ atan (fR Y.hi / fR X.lo) := atan_le_iff.2 (quot_le x1 f1 (by
   have := R.mul_nn (a := fR Y.hi) (b := x - fR X.lo) (by grind) (by grind)
   have := R.mul_nn (a := fR Y.hi - y) (b := fR X.lo) (by grind) (by grind)
   grind))
  exact conv lo hi q r
end Go.G880.Re
