/- Every kind of latitude is enclosed by a function that grows and is odd. -/
import Derived.Test.YtogpbandlpjccaaGreatDoorRT
set_option linter.unusedVariables false
set_option linter.unusedSimpArgs false
namespace Go.G880.Re
open Go Go.RX Go.G880 Go.Rl
theorem arcA_mono {e : El} (g : Good e) {t u : R} (h : t ≤ u) : arcA e t ≤ arcA e u := by
 have r := thd_rng g
 have m := maj_pos g
 have p := R.div_pos (a := maj e) (b := 1 + thd e) m (by grind)
 have a := arcT_mono r.1 r.2 h
 unfold arcA
 have := R.mul_nn (a := maj e / (1 + thd e)) (b := arcT (thd e) u - arcT (thd e) t) (by grind) (by grind)
 grind
theorem arcA_odd (e : El) (t : R) : arcA e (-t) = -arcA e t := by unfold arcA; rw [arcT_odd]; grind
theorem arcA_pos {e : El} (g : Good e) : 0 < arcA e qt := by
 have r := thd_rng g
 have q := qt_ge
 have m := maj_pos g
 have p := R.div_pos (a := maj e) (b := 1 + thd e) m (by grind)
 refine R.mul_pos p ?_
 have s2 : sin (2 * qt) = 0 := by rw [show 2 * qt = qt + qt by grind, sin_shift, cos_qt]
 have c2 : cos (2 * qt) = -1 := by rw [show 2 * qt = qt + qt by grind, cos_shift, sin_qt]
 have s4 : sin (4 * qt) = 0 := by rw [show 4 * qt = 2 * qt + 2 * qt by grind, sin_add, s2]; grind
 have c4 : cos (4 * qt) = 1 := by rw [show 4 * qt = 2 * qt + 2 * qt by grind, cos_add, s2, c2]; grind
 have s6 : sin (6 * qt) = 0 := by rw [show 6 * qt = 4 * qt + 2 * qt by grind, sin_add, s2, s4]; grind
 have s8 : sin (8 * qt) = 0 := by rw [show 8 * qt = 4 * qt + 4 * qt by grind, sin_add, s4]; grind
 unfold arcT
 rw [s2, s4, s6, s8]
 have a := R.sq_nn (thd e)
 have b := R.mul_nn a a
 have c := R.mul_pos (a := 1 + thd e * thd e / 4 + thd e * thd e * (thd e * thd e) / 64) (b := qt) (by grind) (by grind)
 grind
theorem within_of {n a b : Int} (h : impl_within n a b = true) : a ≤ n ∧ n ≤ b := (l00In_iff _ _ _).1 h
theorem ArcJ {e : El} (h : impl_ValidEllipsoid e = true) {X : Iv} {x : R} (hx : HR X x) : HR (impl_ArcI e X) (arcA e x) := by
 unfold impl_ArcI
 rw [h]
 simp only [Bool.not_true, cond_false]
 cases w1 : impl_within X.lo (-8589934592) 8589934592
 ·exact hr_whole _
 cases w2 : impl_within X.hi (-8589934592) 8589934592
 ·exact hr_whole _
 simp only [Bool.not_true, cond_false]
 unfold impl_IsWhole
 cases k : impl_ValidInterval X
 ·exact hr_whole _
 simp only [Bool.not_true, cond_false]
 have i := hx k
 unfold In at i
 have g := good_of h
 exact monoJ (arcJ h (within_of w1)) (arcJ h (within_of w2)) fun _ _ => ⟨arcA_mono g i.1, arcA_mono g i.2⟩
def Mid (n : Int) : Prop := -6746518851 ≤ n ∧ n ≤ 6746518851
theorem mid_rng {n : Int} (h : Mid n) : -qt < fR n ∧ fR n < qt := by
 have l := qt_low
 have s : fR 6746518851 < fR 6746518852 := by
  have a := fR_pos (n := 1) (by omega)
  have e := fR_add 6746518851 1
  rw [show (6746518851 + 1 : Int) = 6746518852 by omega] at e
  grind
 have a := fR_le.2 h.1
 have b := fR_le.2 h.2
 rw [fR_neg] at a
 grind
theorem eccRoot {e : El} (g : Good e) : 0 ≤ sqrt (ecc e) ∧ sqrt (ecc e) < 1 := by
 have r := ecc_rng g
 refine ⟨sqrt_nn _, ?_⟩
 have := sq_le (x := sqrt (ecc e)) (y := 1 / 2) (by grind) (by rw [sqrt_sq r.1]; grind)
 grind
theorem IsoJ {e : El} (h : impl_ValidEllipsoid e = true) (n : Int) : HR (impl_isometric e n) (psi (sqrt (ecc e)) (fR n)) := by
 have E := SqrtJ (EccJ h (good_of h))
 unfold impl_isometric
 exact SubJ (AsinhJ (TanJ n)) (MulJ E (AtanhJ (MulJ E (SinJ n))))
theorem sub_bad {A B : Iv} (h : spec_l04Ok A = false) : spec_l04Ok (impl_SubI A B) = false := by
 rw [SubI_eq]
 cases k : spec_l04Ok (spec_SubI A B)
 ·rfl
 ·exfalso
  have a : HR (spec_SubI A B) (fR (spec_SubI A B).hi + 1) := (SubR (hr_bad h (fR (spec_SubI A B).hi + 1 + fR B.lo)) (hr_lo B)).eq (by grind)
  have := (a k).2
  grind
theorem iso_bad {e : El} {n : Int} (h : n = 6746518852 ∨ n = 6746518853 ∨ n = -6746518852 ∨ n = -6746518853) : spec_l04Ok (impl_isometric e n) = false := by
 have t : impl_TanI (impl_at n) = impl_Whole := by
  have ext : ∀ X : Iv, X.lo = impl_Whole.lo → X.hi = impl_Whole.hi → X = impl_Whole := fun ⟨a, b⟩ h1 h2 => by
   simp only [] at h1 h2
   rw [h1, h2]
  rcases h with rfl | rfl | rfl | rfl <;> exact ext _ (by decide +kernel) (by decide +kernel)
 have a : impl_AsinhI impl_Whole = impl_Whole := by rw [Asinh_eq]; rfl
 unfold impl_isometric
 rw [t, a]
 exact sub_bad not_ok_whole
open Classical in
noncomputable def F3 (e : El) (n : Int) : R := if 6746518851 < n then qt else if n < -6746518851 then -qt else atan (sinh (psi (sqrt (ecc e)) (fR n)))
noncomputable def F4 (e : El) (n : Int) : R := asin (qz (ecc e) (sin (phi n)) / qz (ecc e) 1)
noncomputable def F5 (e : El) (n : Int) : R := qt * arcA e (fR n) / arcA e qt
noncomputable def F6 (e : El) (n : Int) : R := psi (sqrt (ecc e)) (fR n)
def In6 (n : Int) : Prop := -6746518853 ≤ n ∧ n ≤ 6746518853
structure Kind (L : Int → Iv) (F : Int → R) : Prop where
 rng : ∀ n, spec_l04Ok (L n) = true → In6 n
 has : ∀ n, spec_l04Ok (L n) = true → HR (L n) (F n)
 mono : ∀ m n, spec_l04Ok (L m) = true → spec_l04Ok (L n) = true → m ≤ n → F m ≤ F n
 odd : ∀ n, spec_l04Ok (L n) = true → spec_l04Ok (L (-n)) = true → F (-n) = -F n
theorem quart : w64 (0 - impl_quarter) = -6746518853 ∧ impl_quarter = 6746518853 := by rw [quarter_val]; exact ⟨by decide, rfl⟩
theorem lat_at {k : Int} {e : El} {n : Int} (o : spec_l04Ok (impl_LatitudeAt k e n) = true) : impl_isLatitude k = true ∧ impl_ValidEllipsoid e = true ∧ In6 n := by
 unfold impl_LatitudeAt at o
 cases c1 : impl_isLatitude k
 ·rw [c1] at o; exact absurd (show spec_l04Ok impl_Whole = true from o) (by decide)
 cases c2 : impl_ValidEllipsoid e
 ·rw [c1, c2] at o; exact absurd (show spec_l04Ok impl_Whole = true from o) (by decide)
 cases c3 : impl_within n (w64 (0 - impl_quarter)) impl_quarter
 ·rw [c1, c2, c3] at o; exact absurd (show spec_l04Ok impl_Whole = true from o) (by decide)
 rw [quart.1, quart.2] at c3
 exact ⟨rfl, rfl, within_of c3⟩
theorem lat_val {k : Int} {e : El} {n : Int} (c1 : impl_isLatitude k = true) (c2 : impl_ValidEllipsoid e = true) (c3 : In6 n) : impl_LatitudeAt k e n = bif (k == 1) then ((impl_DirectionI (impl_MulI (impl_oneLess (impl_FlatteningI e)) (impl_SinAt n)) (impl_CosAt n))) else (bif (k == 2) then ((impl_DirectionI (impl_MulI (impl_oneLess (impl_EccI e)) (impl_SinAt n)) (impl_CosAt n))) else (bif (k == 3) then ((impl_AtanI (impl_SinhI (impl_isometric e n)))) else (bif (k == 4) then ((impl_AsinI (impl_DivI (impl_zone e (impl_SinAt n)) (impl_zone e (impl_Integer 1))))) else (bif (k == 5) then ((impl_DivI (impl_MulI (impl_TurnI 1) (impl_ArcI e (impl_at n))) (impl_ArcI e (impl_TurnI 1)))) else ((impl_isometric e n)))))) := by
 have w : impl_within n (w64 (0 - impl_quarter)) impl_quarter = true := by rw [quart.1, quart.2]; exact (l00In_iff _ _ _).2 c3
 unfold impl_LatitudeAt
 rw [c1, c2, w]
 rfl
theorem kind12 {e : El} (v : impl_ValidEllipsoid e = true) {b : R} {B : Iv} (hb : 0 < b) (hB : HR B b) (L : Int → Iv) (hL : ∀ n, spec_l04Ok (L n) = true → In6 n ∧ L n = impl_DirectionI (impl_MulI B (impl_SinAt n)) (impl_CosAt n)) : Kind L (fun n => latD b (phi n)) := by
 refine ⟨fun n o => (hL n o).1, fun n o => ?_, fun m n o1 o2 h => ?_, fun n o1 o2 => ?_⟩
 ·obtain ⟨i, e⟩ := hL n o
  rw [e]
  have p := phi_bd i
  exact DirJ (MulJ hB SinP) CosP (cos_nn p.1 p.2)
 ·have i := (hL m o1).1
  have j := (hL n o2).1
  exact latD_mono hb (phi_bd i).1 (phi_mono i.1 j.2 h) (phi_bd j).2
 ·have i := (hL n o1).1
  show latD b (phi (-n)) = -latD b (phi n)
  rw [phi_neg i, latD_odd]
theorem kind3 {e : El} (v : impl_ValidEllipsoid e = true) (L : Int → Iv) (hL : ∀ n, spec_l04Ok (L n) = true → In6 n ∧ L n = impl_AtanI (impl_SinhI (impl_isometric e n))) : Kind L (F3 e) := by
 have g := good_of v
 have r := eccRoot g
 have q := qt_ge
 refine ⟨fun n o => (hL n o).1, fun n o => ?_, fun m n o1 o2 h => ?_, fun n o1 o2 => ?_⟩
 ·obtain ⟨i, el⟩ := hL n o
  rw [el]
  unfold In6 at i
  have bad : (6746518851 < n ∨ n < -6746518851) → impl_AtanI (impl_SinhI (impl_isometric e n)) = impl_halfCircle := fun h => by
   have ib := iso_bad (e := e) (n := n) (by omega)
   have s : impl_SinhI (impl_isometric e n) = impl_Whole := by
    unfold impl_SinhI impl_IsWhole
    rw [valid_ok, ib]
    rfl
   rw [s]
   rfl
  unfold F3
  split
  ·rw [bad (by omega)]; exact halfJ (by unfold Bd; grind)
  ·split
   ·rw [bad (by omega)]; exact halfJ (by unfold Bd; grind)
   ·exact AtanJ (SinhJ (IsoJ v n))
 ·unfold F3
  have b1 := atan_bd (sinh (psi (sqrt (ecc e)) (fR m)))
  have b2 := atan_bd (sinh (psi (sqrt (ecc e)) (fR n)))
  unfold Bd at b1 b2
  by_cases m1 : 6746518851 < m
  ·rw [if_pos m1, if_pos (by omega)]; grind
  by_cases n2 : n < -6746518851
  ·rw [if_neg m1, if_pos (by omega), if_neg (by omega), if_pos n2]; grind
  by_cases m2 : m < -6746518851
  ·rw [if_neg m1, if_pos m2]
   split
   ·grind
   ·grind
  by_cases n1 : 6746518851 < n
  ·rw [if_neg m1, if_neg m2, if_pos n1]; grind
  rw [if_neg m1, if_neg m2, if_neg n1, if_neg n2]
  have a := mid_rng (n := m) (by unfold Mid; omega)
  have b := mid_rng (n := n) (by unfold Mid; omega)
  exact atan_le_iff.2 (sinh_mono (psi_mono r.1 r.2 a.1 (fR_le.2 h) b.2))
 ·unfold F3
  by_cases n1 : 6746518851 < n
  ·rw [if_neg (by omega), if_pos (by omega), if_pos n1]
  by_cases n2 : n < -6746518851
  ·rw [if_pos (by omega), if_neg n1, if_pos n2]; grind
  rw [if_neg (by omega), if_neg (by omega), if_neg n1, if_neg n2, fR_neg, psi_odd r.1 r.2, sinh_neg, atan_neg]
theorem kind4 {e : El} (v : impl_ValidEllipsoid e = true) (L : Int → Iv) (hL : ∀ n, spec_l04Ok (L n) = true → In6 n ∧ L n = impl_AsinI (impl_DivI (impl_zone e (impl_SinAt n)) (impl_zone e (impl_Integer 1)))) : Kind L (F4 e) := by
 have g := good_of v
 have w := ecc_rng g
 have q1 := qz_one w.1 w.2
 have bd : ∀ t : R, Bd (qz (ecc e) (sin t) / qz (ecc e) 1) 1 := fun t => by
  have s := sin_bd t
  have o : Bd (1 : R) 1 := by unfold Bd; grind
  have mo : Bd (-1 : R) 1 := by unfold Bd; grind
  have a := qz_mono w.1 w.2 s o s.2
  have b := qz_mono w.1 w.2 mo s s.1
  rw [qz_odd w.1 w.2 o] at b
  exact ⟨(R.le_div q1).2 (by grind), (R.div_le q1).2 (by grind)⟩
 refine ⟨fun n o => (hL n o).1, fun n o => ?_, fun m n o1 o2 h => ?_, fun n o1 o2 => ?_⟩
 ·obtain ⟨i, el⟩ := hL n o
  rw [el]
  exact AsinJ (DivJ (ZoneJ v SinP) ((ZoneJ v (IntJ 1)).eq rfl)) (bd _)
 ·have i := (hL m o1).1
  have j := (hL n o2).1
  have s := sin_mono (phi_bd i).1 (phi_bd j).2 (phi_mono i.1 j.2 h)
  refine asin_le (bd _) (bd _) (quot_le q1 q1 ?_)
  have := qz_mono w.1 w.2 (sin_bd (phi m)) (sin_bd (phi n)) s
  have := R.mul_nn (a := qz (ecc e) 1) (b := qz (ecc e) (sin (phi n)) - qz (ecc e) (sin (phi m))) (by grind) (by grind)
  grind
 ·have i := (hL n o1).1
  unfold F4
  rw [phi_neg i, sin_neg, qz_odd w.1 w.2 (sin_bd _), show -qz (ecc e) (sin (phi n)) / qz (ecc e) 1 = -(qz (ecc e) (sin (phi n)) / qz (ecc e) 1) by grind, asin_neg (bd _)]
theorem kind5 {e : El} (v : impl_ValidEllipsoid e = true) (L : Int → Iv) (hL : ∀ n, spec_l04Ok (L n) = true → In6 n ∧ L n = impl_DivI (impl_MulI (impl_TurnI 1) (impl_ArcI e (impl_at n))) (impl_ArcI e (impl_TurnI 1))) : Kind L (F5 e) := by
 have g := good_of v
 have p := arcA_pos g
 have q := qt_ge
 have t1 : HR (impl_TurnI 1) qt := (TurnJ 1).eq (by rw [one_cast]; grind)
 refine ⟨fun n o => (hL n o).1, fun n o => ?_, fun m n o1 o2 h => ?_, fun n o1 o2 => ?_⟩
 ·rw [(hL n o).2]
  exact DivJ (MulJ t1 (ArcJ v (atJ n))) (ArcJ v t1)
 ·have a := arcA_mono g (fR_le.2 h)
  refine quot_le p p ?_
  have := R.mul_nn (a := qt) (b := arcA e (fR n) - arcA e (fR m)) (by grind) (by grind)
  have := R.mul_nn (a := arcA e qt) (b := qt * (arcA e (fR n) - arcA e (fR m))) (by grind) this
  grind
 ·unfold F5
  rw [fR_neg, arcA_odd]
  grind
theorem kind6 {e : El} (v : impl_ValidEllipsoid e = true) (L : Int → Iv) (hL : ∀ n, spec_l04Ok (L n) = true → In6 n ∧ L n = impl_isometric e n) : Kind L (F6 e) := by
 have g := good_of v
 have r := eccRoot g
 have mid : ∀ n, spec_l04Ok (L n) = true → Mid n := fun n o => by
  obtain ⟨i, el⟩ := hL n o
  unfold In6 at i
  unfold Mid
  apply Classical.byContradiction
  intro hn
  have := iso_bad (e := e) (n := n) (by omega)
  rw [el, this] at o
  cases o
 refine ⟨fun n o => (hL n o).1, fun n o => ?_, fun m n o1 o2 h => ?_, fun n o1 o2 => ?_⟩
 ·rw [(hL n o).2]; exact IsoJ v n
 ·have a := mid_rng (mid m o1)
  have b := mid_rng (mid n o2)
  exact psi_mono r.1 r.2 a.1 (fR_le.2 h) b.2
 ·unfold F6
  rw [fR_neg, psi_odd r.1 r.2]
theorem kinds (k : Int) (e : El) : ∃ F, Kind (impl_LatitudeAt k e) F := by
 by_cases any : ∃ n, spec_l04Ok (impl_LatitudeAt k e n) = true
 case neg =>
  have no : ∀ n, ¬ spec_l04Ok (impl_LatitudeAt k e n) = true := fun n h => any ⟨n, h⟩
  exact ⟨fun _ => 0, fun n o => absurd o (no n), fun n o => absurd o (no n), fun m n o => absurd o (no m), fun n o => absurd o (no n)⟩
 obtain ⟨n0, h0⟩ := any
 obtain ⟨c1, v, _⟩ := lat_at h0
 have g := good_of v
 have f := flat_rng g
 have w := ecc_rng g
 have kr := within_of (show impl_within k 1 6 = true from c1)
 have val := fun n (o : spec_l04Ok (impl_LatitudeAt k e n) = true) => lat_val (n := n) c1 v (lat_at o).2.2
 have rg := fun n (o : spec_l04Ok (impl_LatitudeAt k e n) = true) => (lat_at o).2.2
 have : k = 1 ∨ k = 2 ∨ k = 3 ∨ k = 4 ∨ k = 5 ∨ k = 6 := by omega
 rcases this with rfl | rfl | rfl | rfl | rfl | rfl
 ·exact ⟨_, kind12 v (b := 1 - flat e) (by grind) (oneJ (FlatJ v g)) _ fun n o => ⟨rg n o, val n o⟩⟩
 ·exact ⟨_, kind12 v (b := 1 - ecc e) (by grind) (oneJ (EccJ v g)) _ fun n o => ⟨rg n o, val n o⟩⟩
 ·exact ⟨_, kind3 v _ fun n o => ⟨rg n o, val n o⟩⟩
 ·exact ⟨_, kind4 v _ fun n o => ⟨rg n o, val n o⟩⟩
 ·exact ⟨_, kind5 v _ fun n o => ⟨rg n o, val n o⟩⟩
 ·exact ⟨_, kind6 v _ fun n o => ⟨rg n o, val n o⟩⟩
end Go.G880.Re
