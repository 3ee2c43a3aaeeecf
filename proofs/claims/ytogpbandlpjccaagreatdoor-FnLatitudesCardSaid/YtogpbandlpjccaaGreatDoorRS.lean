/- Latitudes of the kinds as functions of real angles: they grow, and are odd. -/
import Derived.Test.YtogpbandlpjccaaGreatDoorRQ
set_option linter.unusedVariables false
set_option linter.unusedSimpArgs false
namespace Go.G880.Re
open Go Go.RX Go.G880 Go.Rl
theorem dir_odd (y x : R) : dir (-y) x = -dir y x := by
 by_cases h : 0 < y
 ·rw [dir_pos h, dir_neg (by grind), show x / -y = -(x / y) by grind, atan_neg]; grind
 by_cases k : y < 0
 ·rw [dir_neg k, dir_pos (by grind), show x / -y = -(x / y) by grind, atan_neg]; grind
 have : y = 0 := by grind
 rw [this, show -(0 : R) = 0 by grind, dir_zero]
 grind
theorem dir_bd {y x : R} (h : 0 ≤ x) : -qt ≤ dir y x ∧ dir y x ≤ qt := by
 have q := qt_ge
 by_cases k : 0 < y
 ·have t : 0 ≤ x / y := (R.le_div k).2 (by grind)
  have a := atan_nn t
  have b := atan_hi (x / y)
  rw [dir_pos k]
  grind
 by_cases k : y < 0
 ·have t : 0 ≤ x / -y := (R.le_div (by grind)).2 (by grind)
  have a := atan_nn t
  have b := atan_hi (x / -y)
  rw [show x / -y = -(x / y) by grind, atan_neg] at a b
  rw [dir_neg k]
  grind
 have : y = 0 := by grind
 rw [this, dir_zero]
 grind
noncomputable def latD (b t : R) : R := dir (b * sin t) (cos t)
theorem latD_odd (b t : R) : latD b (-t) = -latD b t := by unfold latD; rw [sin_neg, cos_neg, show b * -sin t = -(b * sin t) by grind, dir_odd]
theorem latD_mono {b t u : R} (hb : 0 < b) (h1 : -qt ≤ t) (h : t ≤ u) (h2 : u ≤ qt) : latD b t ≤ latD b u := by
 have q := qt_ge
 have ct := cos_nn (x := t) h1 (by grind)
 have cu := cos_nn (x := u) (by grind) h2
 by_cases e1 : u = qt
 ·have e : latD b u = qt := by
   unfold latD
   rw [e1, sin_qt, cos_qt, dir_pos (by grind), show (0 : R) / (b * 1) = 0 by grind, atan_zero]
   grind
  rw [e]
  exact (dir_bd ct).2
 by_cases e2 : t = -qt
 ·have e : latD b t = -qt := by
   unfold latD
   rw [e2, sin_neg_qt, cos_neg_qt, dir_neg (by grind), show (0 : R) / (b * -1) = 0 by grind, atan_zero]
   grind
  rw [e]
  exact (dir_bd cu).1
 have pt := cos_pos (x := t) (by grind) (by grind)
 have pu := cos_pos (x := u) (by grind) (by grind)
 unfold latD
 rw [dir_right pt, dir_right pu]
 refine atan_le_iff.2 (quot_le pt pu ?_)
 have s := sin_nn (x := u - t) (by grind) (by grind)
 rw [sin_sub] at s
 have := R.mul_nn (a := b) (b := sin u * cos t - cos u * sin t) (by grind) s
 grind
noncomputable def psi (g t : R) : R := asinh (sin t / cos t) - g * atanh (g * sin t)
theorem psi_odd {g t : R} (hg : 0 ≤ g) (hg1 : g < 1) : psi g (-t) = -psi g t := by
 have b := sin_bd t
 have m := (show Bd g g by unfold Bd; grind).mul b
 unfold Bd at m
 unfold psi
 rw [sin_neg, cos_neg, show -sin t / cos t = -(sin t / cos t) by grind, asinh_neg, show g * -sin t = -(g * sin t) by grind, atanh_neg (by grind) (by grind)]
 grind
theorem asinh_tan {t : R} (h1 : -qt < t) (h2 : t < qt) : asinh (sin t / cos t) = atanh (sin t) := by
 have c := cos_pos h1 h2
 have q := sq_one t
 have s1 : -1 < sin t ∧ sin t < 1 := by
  have := R.mul_pos c c
  constructor
  ·apply Classical.byContradiction
   intro hn
   have := (sin_bd t).1
   have e : sin t = -1 := by grind
   rw [e] at q
   grind
  ·apply Classical.byContradiction
   intro hn
   have := (sin_bd t).2
   have e : sin t = 1 := by grind
   rw [e] at q
   grind
 have e1 : sqrt (sin t / cos t * (sin t / cos t) + 1) = 1 / cos t := by
  have p := R.div_pos (a := 1) (b := cos t) (by grind) c
  refine sqrt_of (by grind) ?_
  generalize sin t = s at *
  generalize cos t = k at *
  have : k ≠ 0 := by grind
  grind
 have p1 : 0 < (1 + sin t) / cos t := R.div_pos (by grind) c
 have e2 : sin t / cos t + 1 / cos t = (1 + sin t) / cos t := by grind
 have e3 : (1 + sin t) / (1 - sin t) = (1 + sin t) / cos t * ((1 + sin t) / cos t) := by
  generalize sin t = s at *
  generalize cos t = k at *
  have n1 : k ≠ 0 := by grind
  have n2 : 1 - s ≠ 0 := by grind
  have : (1 + s) * (1 - s) = k * k := by grind
  grind
 unfold asinh atanh
 rw [e1, e2, e3, log_mul p1 p1]
 grind
theorem quot_mul {a b c d : R} (hb : 0 < b) (hd : 0 < d) : a / b * (c / d) = (a * c) / (b * d) := by
 have p := R.mul_pos hb hd
 have n1 : b ≠ 0 := by grind
 have n2 : d ≠ 0 := by grind
 have n3 : b * d ≠ 0 := by grind
 grind
theorem atanh_gap {g s r : R} (hg : 0 ≤ g) (hg1 : g < 1) (h1 : -1 < s) (h : s ≤ r) (h2 : r < 1) : g * (atanh (g * r) - atanh (g * s)) ≤ atanh r - atanh s := by
 have bs : Bd (g * s) g := by
  have := (show Bd g g by unfold Bd; grind).mul (show Bd s 1 by unfold Bd; grind)
  exact this.mono (by grind)
 have br : Bd (g * r) g := by
  have := (show Bd g g by unfold Bd; grind).mul (show Bd r 1 by unfold Bd; grind)
  exact this.mono (by grind)
 unfold Bd at bs br
 have gm : atanh (g * s) ≤ atanh (g * r) := atanh_mono (by grind) (by have := R.mul_nn (a := g) (b := r - s) hg (by grind); grind) (by grind)
 have key : atanh (g * r) - atanh (g * s) ≤ atanh r - atanh s := by
  have a1 := atanh_pos (t := s) h1 (by grind)
  have a2 := atanh_pos (t := r) (by grind) h2
  have b1 := atanh_pos (t := g * s) (by grind) (by grind)
  have b2 := atanh_pos (t := g * r) (by grind) (by grind)
  have l := (log_le_iff (R.mul_pos b2 a1) (R.mul_pos b1 a2)).2 (by
   have d1 : 0 < (1 - g * r) * (1 - s) := R.mul_pos (by grind) (by grind)
   have d2 : 0 < (1 - g * s) * (1 - r) := R.mul_pos (by grind) (by grind)
   rw [quot_mul (show 0 < 1 - g * r by grind) (show 0 < 1 - s by grind), quot_mul (show 0 < 1 - g * s by grind) (show 0 < 1 - r by grind)]
   refine quot_le d1 d2 ?_
   -- (1 + g r)(1 + s)(1 - g s)(1 - r) ≤ (1 + g s)(1 + r)(1 - g r)(1 - s)
   have k1 := R.mul_nn (a := 1 - g) (b := r - s) (by grind) (by grind)
   have bsr : Bd (s * r) 1 := (show Bd s 1 by unfold Bd; grind).mul (show Bd r 1 by unfold Bd; grind) |>.mono (by grind)
   have bg : Bd (g * (s * r)) 1 := (show Bd g 1 by unfold Bd; grind).mul bsr |>.mono (by grind)
   unfold Bd at bg
   have k2 := R.mul_nn (a := (1 - g) * (r - s)) (b := 1 + g * (s * r)) k1 (by grind)
   have e : (1 + g * s) * (1 + r) * ((1 - g * r) * (1 - s)) - (1 + g * r) * (1 + s) * ((1 - g * s) * (1 - r)) = 2 * ((1 - g) * (r - s) * (1 + g * (s * r))) := by grind
   grind)
  rw [log_mul b2 a1, log_mul b1 a2] at l
  unfold atanh
  grind
 have := R.mul_nn (a := 1 - g) (b := atanh (g * r) - atanh (g * s)) (by grind) (by grind)
 grind
theorem psi_mono {g t u : R} (hg : 0 ≤ g) (hg1 : g < 1) (h1 : -qt < t) (h : t ≤ u) (h2 : u < qt) : psi g t ≤ psi g u := by
 have one : ∀ x, -qt < x → x < qt → -1 < sin x ∧ sin x < 1 := fun x a b => by
  have c := cos_pos a b
  have q := sq_one x
  have := R.mul_pos c c
  constructor
  ·apply Classical.byContradiction
   intro hn
   have := (sin_bd x).1
   have e : sin x = -1 := by grind
   rw [e] at q
   grind
  ·apply Classical.byContradiction
   intro hn
   have := (sin_bd x).2
   have e : sin x = 1 := by grind
   rw [e] at q
   grind
 have a := one t h1 (by grind)
 have b := one u (by grind) h2
 have m := sin_mono (x := t) (y := u) (by grind) (by grind) h
 unfold psi
 rw [asinh_tan h1 (by grind), asinh_tan (by grind) h2]
 have := atanh_gap hg hg1 a.1 m b.2
 grind
open Classical in
noncomputable def qz (w s : R) : R := if w = 0 then 2 * s else (1 - w) * (s / (1 - w * (s * s)) + atanh (sqrt w * s) / sqrt w)
theorem qz_zero {w : R} (h : w = 0) (s : R) : qz w s = 2 * s := if_pos h
theorem qz_pos {w : R} (h : 0 < w) (s : R) : qz w s = (1 - w) * (s / (1 - w * (s * s)) + atanh (sqrt w * s) / sqrt w) := if_neg (by grind)
theorem root_rng {w : R} (h : 0 < w) (h1 : w ≤ 1 / 50) : 0 < sqrt w ∧ sqrt w ≤ 1 / 2 := by
 refine ⟨sqrt_pos h, sq_le (by grind) ?_⟩
 rw [sqrt_sq (by grind)]
 grind
theorem sq_le1 {s : R} (h : Bd s 1) : 0 ≤ s * s ∧ s * s ≤ 1 := by
 have a := R.sq_nn s
 have b := bd_sq h
 grind
theorem qz_odd {w s : R} (h0 : 0 ≤ w) (h1 : w ≤ 1 / 50) (hs : Bd s 1) : qz w (-s) = -qz w s := by
 by_cases h : w = 0
 ·rw [qz_zero h, qz_zero h]; grind
 have hp : 0 < w := by grind
 have r := root_rng hp h1
 have b := (show Bd (sqrt w) (1 / 2) by unfold Bd; grind).mul hs
 unfold Bd at b
 rw [qz_pos hp, qz_pos hp, show sqrt w * -s = -(sqrt w * s) by grind, atanh_neg (by grind) (by grind), show -s * -s = s * s by grind]
 generalize atanh (sqrt w * s) = A
 grind
theorem qz_mono {w s r : R} (h0 : 0 ≤ w) (h1 : w ≤ 1 / 50) (hs : Bd s 1) (hr : Bd r 1) (h : s ≤ r) : qz w s ≤ qz w r := by
 by_cases hw : w = 0
 ·rw [qz_zero hw, qz_zero hw]; grind
 have hp : 0 < w := by grind
 have rt := root_rng hp h1
 have bs := (show Bd (sqrt w) (1 / 2) by unfold Bd; grind).mul hs
 have br := (show Bd (sqrt w) (1 / 2) by unfold Bd; grind).mul hr
 have ss := sq_le1 hs
 have rr := sq_le1 hr
 have sr := hs.mul hr
 have ws := R.mul_nn (a := w) (b := 1 - s * s) h0 (by grind)
 have wr := R.mul_nn (a := w) (b := 1 - r * r) h0 (by grind)
 unfold Bd at bs br sr
 have m1 : atanh (sqrt w * s) ≤ atanh (sqrt w * r) := atanh_mono (by grind) (by have := R.mul_nn (a := sqrt w) (b := r - s) (by grind) (by grind); grind) (by grind)
 have m2 : atanh (sqrt w * s) / sqrt w ≤ atanh (sqrt w * r) / sqrt w := quot_le rt.1 rt.1 (by
  have := R.mul_nn (a := sqrt w) (b := atanh (sqrt w * r) - atanh (sqrt w * s)) (by grind) (by grind)
  grind)
 have m3 : s / (1 - w * (s * s)) ≤ r / (1 - w * (r * r)) := quot_le (by grind) (by grind) (by
  have q := R.mul_nn (a := 1 - w) (b := 1 - s * r) (by grind) (by grind)
  have k := R.mul_nn (a := w) (b := 1 + s * r) h0 (by grind)
  have t := R.mul_nn (a := r - s) (b := 1 + w * (s * r)) (by grind) (by grind)
  grind)
 rw [qz_pos hp, qz_pos hp]
 generalize s / (1 - w * (s * s)) = A at *
 generalize r / (1 - w * (r * r)) = B at *
 generalize atanh (sqrt w * s) / sqrt w = C at *
 generalize atanh (sqrt w * r) / sqrt w = D at *
 have := R.mul_nn (a := 1 - w) (b := B + D - (A + C)) (by grind) (by grind)
 grind
theorem qz_one {w : R} (h0 : 0 ≤ w) (h1 : w ≤ 1 / 50) : 0 < qz w 1 := by
 by_cases hw : w = 0
 ·rw [qz_zero hw]; grind
 have hp : 0 < w := by grind
 have rt := root_rng hp h1
 have a0 : atanh 0 = 0 := by unfold atanh; rw [show ((1 : R) + 0) / (1 - 0) = 1 by grind, log_one]; grind
 have m := atanh_mono (t := 0) (u := sqrt w * 1) (by grind) (by grind) (by grind)
 rw [a0] at m
 have t : 0 ≤ atanh (sqrt w * 1) / sqrt w := (R.le_div rt.1).2 (by grind)
 have p : 0 < (1 : R) / (1 - w * (1 * 1)) := R.div_pos (by grind) (by grind)
 rw [qz_pos hp]
 exact R.mul_pos (by grind) (by grind)
theorem ZoneJ {e : El} (h : impl_ValidEllipsoid e = true) {S : Iv} {s : R} (hs : HR S s) : HR (impl_zone e S) (qz (ecc e) s) := by
 have g := good_of h
 have rg := ecc_rng g
 unfold impl_zone
 by_cases h0 : e.num = 0
 ·have : (e.num == 0) = true := by simp [h0]
  rw [this, cond_true]
  have z : ecc e = 0 := by
   have f : flat e = 0 := by unfold flat; rw [h0, show ((0 : Int) : R) = 0 from rfl]; grind
   unfold ecc
   rw [f]; grind
  rw [qz_zero z]
  exact (MulJ (IntJ 2) hs).eq rfl
 ·have : (e.num == 0) = false := by simp [h0]
  rw [this, cond_false]
  have p : 0 < ecc e := by
   have n := cast_lt.2 (show 0 < e.num by have := g.n0; omega)
   have d := cast_lt.2 (show 0 < e.den by have := g.d0; omega)
   have f : 0 < flat e := R.div_pos n d
   have fr := flat_rng g
   exact R.mul_pos f (by grind)
  rw [qz_pos p]
  have E := EccJ h g
  have gJ := SqrtJ E
  exact MulJ (oneJ E) (AddJ (DivJ hs (oneJ (MulJ E (SqrJ hs)))) (DivJ (AtanhJ (MulJ gJ hs)) gJ))
end Go.G880.Re
