/- Latitudes of the kinds: what the program's intervals enclose. -/
import Derived.Test.YtogpbandlpjccaaGreatDoorRP
set_option linter.unusedVariables false
set_option linter.unusedSimpArgs false
namespace Go.G880.Re
open Go Go.RX Go.G880 Go.Rl
noncomputable def phi (n : Int) : R := if n = 6746518853 then qt else if n = -6746518853 then -qt else fR n
theorem qt_low : fR 6746518852 ≤ qt := by
 have h := TurnJ 1 (by decide +kernel)
 have := h.1
 rw [show (impl_TurnI 1).lo = 6746518852 by decide +kernel, one_cast] at this
 grind
theorem phi_in {n : Int} (h : -6746518853 < n ∧ n < 6746518853) : phi n = fR n := by unfold phi; rw [if_neg (by omega), if_neg (by omega)]
theorem phi_top : phi 6746518853 = qt := if_pos rfl
theorem phi_bot : phi (-6746518853) = -qt := by unfold phi; rw [if_neg (by omega), if_pos rfl]
theorem phi_bd {n : Int} (h : -6746518853 ≤ n ∧ n ≤ 6746518853) : -qt ≤ phi n ∧ phi n ≤ qt := by
 have q := qt_ge
 by_cases h1 : n = 6746518853
 ·rw [h1, phi_top]; grind
 by_cases h2 : n = -6746518853
 ·rw [h2, phi_bot]; grind
 rw [phi_in (by omega)]
 have l := qt_low
 have a := fR_le.2 (show n ≤ 6746518852 by omega)
 have b := fR_le.2 (show -6746518852 ≤ n by omega)
 rw [fR_neg] at b
 grind
theorem phi_mono {m n : Int} (hm : -6746518853 ≤ m) (hn : n ≤ 6746518853) (h : m ≤ n) : phi m ≤ phi n := by
 have bm := phi_bd (n := m) (by omega)
 have bn := phi_bd (n := n) (by omega)
 by_cases h1 : n = 6746518853
 ·rw [h1, phi_top]; exact bm.2
 by_cases h2 : m = -6746518853
 ·rw [h2, phi_bot]; exact bn.1
 rw [phi_in (by omega), phi_in (by omega)]
 exact fR_le.2 h
theorem phi_neg {n : Int} (h : -6746518853 ≤ n ∧ n ≤ 6746518853) : phi (-n) = -phi n := by
 by_cases h1 : n = 6746518853
 ·rw [h1, phi_top, phi_bot]
 by_cases h2 : n = -6746518853
 ·rw [h2, phi_bot, show (- -6746518853 : Int) = 6746518853 by omega, phi_top]; grind
 rw [phi_in (by omega), phi_in (by omega), fR_neg]
theorem hr_int {X : Iv} {n : Int} (h : X.lo ≤ n ∧ n ≤ X.hi) : HR X (fR n) := fun _ => ⟨fR_le.2 h.1, fR_le.2 h.2⟩
theorem sin_neg_qt : sin (-qt) = -1 := by rw [sin_neg, sin_qt]
theorem cos_neg_qt : cos (-qt) = 0 := by rw [cos_neg, cos_qt]
theorem SinP {n : Int} : HR (impl_SinAt n) (sin (phi n)) := by
 by_cases h1 : n = 6746518853
 ·rw [h1, phi_top, sin_qt, ← fR_U]
  exact hr_int (by decide +kernel)
 by_cases h2 : n = -6746518853
 ·rw [h2, phi_bot, sin_neg_qt, ← fR_mU]
  exact hr_int (by decide +kernel)
 unfold phi
 rw [if_neg h1, if_neg h2]
 exact SinJ n
theorem CosP {n : Int} : HR (impl_CosAt n) (cos (phi n)) := by
 by_cases h1 : n = 6746518853
 ·rw [h1, phi_top, cos_qt, ← fR_zero]
  exact hr_int (by decide +kernel)
 by_cases h2 : n = -6746518853
 ·rw [h2, phi_bot, cos_neg_qt, ← fR_zero]
  exact hr_int (by decide +kernel)
 unfold phi
 rw [if_neg h1, if_neg h2]
 exact CosJ n
structure Good (e : El) : Prop where
 a0 : 1000 ≤ e.a
 a1 : e.a ≤ 100000000000
 d0 : 1 ≤ e.den
 d1 : e.den ≤ 1000000000000
 n0 : 0 ≤ e.num
 n1 : e.num * 100 ≤ e.den
theorem good_of {e : El} (h : impl_ValidEllipsoid e = true) : Good e := by
 unfold impl_ValidEllipsoid at h
 cases c1 : impl_within e.a 1000 100000000000
 ·rw [c1] at h; simp at h
 cases c2 : impl_within e.den 1 1000000000000
 ·rw [c1, c2] at h; simp at h
 rw [c1, c2] at h
 simp only [cond_true] at h
 have a := (l00In_iff _ _ _).1 c1
 have b := (l00In_iff _ _ _).1 c2
 have c := (l00In_iff _ _ _).1 h
 have : 0 ≤ e.num ∧ e.num ≤ e.den / 100 := by
  refine ⟨c.1, ?_⟩
  have c2 := c.2
  first | rwa [tdiv_nn _ (by omega), w64_id (by omega) (by omega)] at c2 | rwa [tdiv_nn _ (by omega)] at c2 | skip
 exact ⟨a.1, a.2, b.1, b.2, this.1, by omega⟩
noncomputable def flat (e : El) : R := (e.num : R) / (e.den : R)
noncomputable def ecc (e : El) : R := flat e * (2 - flat e)
theorem flat_rng {e : El} (g : Good e) : 0 ≤ flat e ∧ flat e ≤ 1 / 100 := by
 have d := cast_lt.2 (show 0 < e.den by have := g.d0; omega)
 have n := cast_le.2 g.n0
 have m := cast_le.2 g.n1
 rw [cast_mul] at m
 have z : ((0 : Int) : R) = 0 := rfl
 have c : ((100 : Int) : R) = 100 := rfl
 rw [z] at d n
 rw [c] at m
 unfold flat
 constructor
 ·rw [R.le_div d]; grind
 ·rw [R.div_le d]; grind
theorem ecc_rng {e : El} (g : Good e) : 0 ≤ ecc e ∧ ecc e ≤ 1 / 50 := by
 have f := flat_rng g
 have a := R.mul_nn (a := flat e) (b := 2 - flat e) f.1 (by grind)
 have b := R.mul_nn (a := flat e) (b := flat e) f.1 f.1
 unfold ecc
 grind
theorem FlatJ {e : El} (h : impl_ValidEllipsoid e = true) (g : Good e) : HR (impl_FlatteningI e) (flat e) := by
 have v : spec_l12Ok e = true := by rw [← ValidEllipsoid_eq]; exact h
 rw [FlatteningI_eq]
 unfold spec_FlatteningI
 rw [v]
 have := g.d0
 have := g.d1
 have := g.n0
 have := g.n1
 exact QuotR ⟨by omega, by omega⟩ (by omega) (by omega)
theorem EccJ {e : El} (h : impl_ValidEllipsoid e = true) (g : Good e) : HR (impl_EccI e) (ecc e) := MulJ (FlatJ h g) ((SubJ (IntJ 2) (FlatJ h g)).eq rfl)
theorem oneJ {X : Iv} {x : R} (h : HR X x) : HR (impl_oneLess X) (1 - x) := (SubJ (IntJ 1) h).eq rfl
end Go.G880.Re
