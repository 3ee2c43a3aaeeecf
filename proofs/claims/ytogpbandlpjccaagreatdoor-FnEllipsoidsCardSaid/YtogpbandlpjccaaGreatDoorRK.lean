/- More Go functions as plain Lean functions. -/
import Derived.Test.YtogpbandlpjccaaGreatDoorRG
set_option linter.unusedVariables false
namespace Go.G880
open Go Go.RX
def laws_a2Long (code : List Value) (more : List Value) : Bool := bif decide ((code.length : Int) > 3000) then true else (decide ((more.length : Int) > 3000))
def impl_isOpen (n : Int) : Bool := bif decide ((-1152921504606846976) < n) then (decide (n < 1152921504606846976)) else false
def impl_halfCircle : Iv := (Iv.mk (w64 (0 - (impl_TurnI 1).hi)) (impl_TurnI 1).hi)
def impl_halved (x : Iv) : Iv := (impl_DivI x (impl_AddI (impl_Integer 1) (impl_SqrtI (impl_AddI (impl_Integer 1) (impl_SqrI x)))))
def impl_ArcSeries (x : Iv) : Iv := bif (!(impl_InsideI x (Iv.mk (-1073741824) 1073741824))) then impl_Whole else (let t3 := (impl_SqrI x); (impl_AddI (impl_MulI x (impl_SubI (impl_Quotient 1 1) (impl_MulI t3 (impl_SubI (impl_Quotient 1 3) (impl_MulI t3 (impl_SubI (impl_Quotient 1 5) (impl_MulI t3 (impl_SubI (impl_Quotient 1 7) (impl_MulI t3 (impl_SubI (impl_Quotient 1 9) (impl_MulI t3 (impl_SubI (impl_Quotient 1 11) (impl_MulI t3 (impl_SubI (impl_Quotient 1 13) (impl_MulI t3 (impl_SubI (impl_Quotient 1 15) (impl_MulI t3 (impl_SubI (impl_Quotient 1 17) (impl_MulI t3 (impl_SubI (impl_Quotient 1 19) (impl_MulI t3 (impl_Quotient 1 21)))))))))))))))))))))) impl_tiny))
def impl_DoubleI (a : Iv) : Iv := (impl_AddI a a)
def impl_fourfold (x : Iv) : Iv := (impl_DoubleI (impl_DoubleI (impl_ArcSeries (impl_halved (impl_halved x)))))
def impl_AtanAt.A (n : Int) : Iv := bif (!(impl_isOpen n)) then impl_halfCircle else (bif decide (n > 4294967296) then ((impl_SubI (impl_TurnI 1) (impl_fourfold (impl_DivI (impl_Integer 1) (impl_at n))))) else ((impl_fourfold (impl_at n))))
def impl_AtanAt (n : Int) : Iv := bif (!(impl_isOpen n)) then impl_halfCircle else (bif decide (n < 0) then ((impl_NegI (impl_AtanAt.A (w64 (0 - n))))) else (bif decide (n > 4294967296) then ((impl_SubI (impl_TurnI 1) (impl_fourfold (impl_DivI (impl_Integer 1) (impl_at n))))) else ((impl_fourfold (impl_at n)))))
def impl_LogTwoI.A (k : Int) : Iv := bif (!(impl_within k (-64) 64)) then impl_Whole else ((Iv.mk (impl_MulFloor k 1598288580650331957 29).1 (w64 (0 - (impl_MulFloor (w64 (0 - k)) 1598288580650331958 29).1))))
def impl_LogTwoI (k : Int) : Iv := bif (!(impl_within k (-64) 64)) then impl_Whole else (bif decide (k < 0) then ((impl_NegI (impl_LogTwoI.A (w64 (0 - k))))) else ((Iv.mk (impl_MulFloor k 1598288580650331957 29).1 (w64 (0 - (impl_MulFloor (w64 (0 - k)) 1598288580650331958 29).1)))))
end Go.G880
/- What the program's own interval functions enclose. -/
set_option linter.unusedVariables false
set_option linter.unusedSimpArgs false
namespace Go.G880.Re
open Go Go.RX Go.G880 Go.Rl
theorem fR_ge_of {n a d : Int} (hd : 0 < d) (h : n * d ≤ a * 4294967296) : fR n ≤ (a : R) / (d : R) := by
 have p : (0 : R) < (d : R) := by have := cast_lt.2 hd; exact this
 rw [R.le_div p, fR_val]
 have := cast_le.2 h
 rw [cast_mul, cast_mul] at this
 have e : ((4294967296 : Int) : R) = 4294967296 := rfl
 rw [e] at this
 grind
theorem fR_le_of {n a d : Int} (hd : 0 < d) (h : a * 4294967296 ≤ n * d) : (a : R) / (d : R) ≤ fR n := by
 have p : (0 : R) < (d : R) := by have := cast_lt.2 hd; exact this
 rw [R.div_le p, fR_val]
 have := cast_le.2 h
 rw [cast_mul, cast_mul] at this
 have e : ((4294967296 : Int) : R) = 4294967296 := rfl
 rw [e] at this
 grind
theorem end_ok {n : Int} {b : Bool} (h : (spec_l03End n b).2 = true) : (spec_l03End n b).1 = n ∧ b = true := by
 unfold spec_l03End at h ⊢
 cases b
 ·simp at h
 ·cases k : spec_l03Ok n
  ·rw [k] at h; simp at h
  ·simp
theorem QuotR {a d : Int} (ha : In64 a) (h : 0 < d) (hd : d ≤ 9223372036854775807) : HR (spec_Quotient a d) ((a : R) / (d : R)) := by
 have h1 : decide (d < 0) = false := decide_eq_false (by omega)
 have h2 : decide (d ≤ 0) = false := decide_eq_false (by omega)
 unfold spec_Quotient
 simp only [h1, cond_false]
 cases k1 : (spec_l03Floor a d).2
 ·exact hr_whole _
 cases k2 : (spec_l03Ceil a d).2
 ·exact hr_whole _
 simp only [Bool.not_true, cond_false]
 simp only [spec_l03Floor, h2, cond_false] at k1 ⊢
 simp only [spec_l03Ceil, h2, cond_false] at k2 ⊢
 rw [spec_MulDivFloor_val ha in64_unit h hd] at k1 k2 ⊢
 have hm := Int.emod_add_mul_ediv (a * 4294967296) d
 have m1 := Int.emod_nonneg (a * 4294967296) (show d ≠ 0 by omega)
 have m2 := Int.emod_lt_of_pos (a * 4294967296) h
 rw [Int.mul_comm d] at hm
 generalize a * 4294967296 / d = q at *
 generalize a * 4294967296 % d = r at *
 split at k1
 case isFalse => simp [spec_l03End] at k1
 rename_i hq
 rw [if_pos hq] at k2 ⊢
 simp only [Bool.not_true, cond_false] at k2 ⊢
 have e1 := (end_ok k1).1
 rw [e1]
 have lo : fR q ≤ (a : R) / (d : R) := fR_ge_of h (by omega)
 cases c : (w64 (q * d) != w64 (a * 4294967296))
 ·rw [c] at k2
  simp only [cond_false] at k2 ⊢
  refine make_in lo (fR_le_of h ?_)
  have c : w64 (q * d) = w64 (a * 4294967296) := by simpa using c
  rw [w64_def, w64_def] at c
  omega
 ·rw [c] at k2
  simp only [cond_true] at k2 ⊢
  rw [(end_ok k2).1]
  refine make_in lo (fR_le_of h ?_)
  have q1 : q + 1 ≤ 9223372036854775807 := by
   have := (end_ok k2).1
   simp only [spec_l03End, Bool.not_true, cond_false] at k2
   cases kk : spec_l03Ok (w64 (q + 1))
   ·rw [kk] at k2; simp at k2
   ·have := (l00In_iff _ _ _).1 kk
    rw [w64_def] at this
    omega
  rw [w64_id (by omega) q1, Int.add_mul]
  omega
theorem AddJ {A B : Iv} {a b : R} (ha : HR A a) (hb : HR B b) : HR (impl_AddI A B) (a + b) := by rw [AddI_eq]; exact AddR ha hb
theorem SubJ {A B : Iv} {a b : R} (ha : HR A a) (hb : HR B b) : HR (impl_SubI A B) (a - b) := by rw [SubI_eq]; exact SubR ha hb
theorem MulJ {A B : Iv} {a b : R} (ha : HR A a) (hb : HR B b) : HR (impl_MulI A B) (a * b) := by rw [MulI_eq]; exact MulR ha hb
theorem DivJ {A B : Iv} {a b : R} (ha : HR A a) (hb : HR B b) : HR (impl_DivI A B) (a / b) := by rw [DivI_eq]; exact DivR ha hb
theorem SqrJ {A : Iv} {a : R} (ha : HR A a) : HR (impl_SqrI A) (a * a) := by rw [SqrI_eq]; exact SqrR ha
theorem SqrtJ {A : Iv} {a : R} (ha : HR A a) : HR (impl_SqrtI A) (sqrt a) := by rw [SqrtI_eq]; exact SqrtR ha
theorem IntJ (n : Int) : HR (impl_Integer n) (n : R) := by rw [Integer_eq]; exact IntR n
theorem atJ (n : Int) : HR (impl_at n) (fR n) := fun _ => in_at n
theorem QuotJ {a d : Int} (ha : In64 a) (h : 0 < d) (hd : d ≤ 9223372036854775807) : HR (impl_Quotient a d) ((a : R) / (d : R)) := by
 rw [Quotient_eq ha ⟨by omega, hd⟩]; exact QuotR ha h hd
theorem boundJ {a b : Int} {x : R} (k : Bool) (h1 : fR a ≤ x) (h2 : x ≤ fR b) : HR (impl_bounded a b k) x := by
 cases k
 ·exact hr_whole x
 ·rw [bounded_true]; exact make_in h1 h2
theorem monoJ {L H : Iv} {a b v : R} (ha : HR L a) (hb : HR H b) (h : spec_l04Ok L = true → spec_l04Ok H = true → a ≤ v ∧ v ≤ b) :
  HR (bif !(impl_areBounded L H) then impl_Whole else impl_bounded L.lo H.hi true) v := by
 unfold impl_areBounded
 cases k1 : impl_ValidInterval L
 ·exact hr_whole v
 cases k2 : impl_ValidInterval H
 ·exact hr_whole v
 have q := h k1 k2
 have a1 := ha k1
 have b1 := hb k2
 unfold In at a1 b1
 exact boundJ true (by grind) (by grind)
end Go.G880.Re
/- Loops of the latitudes: that they end, and what is asked of them. -/
set_option linter.unusedVariables false
set_option linter.unusedSimpArgs false
/- Arc tangents and arc sines: what the program's intervals enclose. -/
set_option linter.unusedVariables false
set_option linter.unusedSimpArgs false
/- Logarithms and exponentials: what the program's intervals enclose. -/
set_option linter.unusedVariables false
set_option linter.unusedSimpArgs false
namespace Go.G880.Re
open Go Go.RX Go.G880 Go.Rl
noncomputable def l2 : R := log 2
end Go.G880.Re
/- The exponential and the logarithm, their kin: what the program's intervals enclose. -/
set_option linter.unusedVariables false
set_option linter.unusedSimpArgs false
/- Logarithms of intervals, hyperbolic functions and their inverses, tangents. -/
set_option linter.unusedVariables false
set_option linter.unusedSimpArgs false
/- Directions: what the program's intervals enclose. -/
set_option linter.unusedVariables false
set_option linter.unusedSimpArgs false
namespace Go.G880.Re
open Go Go.RX Go.G880 Go.Rl
theorem abs_val {n : Int} (h : -1152921504606846976 < n ∧ n < 1152921504606846976) : impl_abs n = if 0 ≤ n then n else -n := by
 unfold impl_abs mxI
 rw [w64_id (by omega) (by omega)]
 split <;> split <;> omega
theorem conv {H : Iv} {a b v : R} (ha : HR H a) (hb : HR H b) (h1 : a ≤ v) (h2 : v ≤ b) : HR H v := fun o => by
 have x := ha o
 have y := hb o
 unfold In at *
 grind
end Go.G880.Re
/- Latitudes of the kinds: what the program's intervals enclose. -/
set_option linter.unusedVariables false
set_option linter.unusedSimpArgs false
namespace Go.G880.Re
open Go Go.RX Go.G880 Go.Rl
structure Good (e : El) : Prop where
 a0 : 1000 ≤ e.a
 a1 : e.a ≤ 100000000000
 d0 : 1 ≤ e.den
 d1 : e.den ≤ 1000000000000
 n0 : 0 ≤ e.num
 n1 : e.num * 100 ≤ e.den
theorem good_of {e : El} (h : impl_ValidEllipsoid e = true) : Good e := by
 unfold impl_ValidEllipsoid at h
 cases c1 : impl_within e.a 1000 100000000000
 ·rw [c1] at h; simp at h
 cases c2 : impl_within e.den 1 1000000000000
 ·rw [c1, c2] at h; simp at h
 rw [c1, c2] at h
 simp only [cond_true] at h
 have a := (l00In_iff _ _ _).1 c1
 have b := (l00In_iff _ _ _).1 c2
 have c := (l00In_iff _ _ _).1 h
 have : 0 ≤ e.num ∧ e.num ≤ e.den / 100 := by
  refine ⟨c.1, ?_⟩
  have c2 := c.2
  first | rwa [tdiv_nn _ (by omega), w64_id (by omega) (by omega)] at c2 | rwa [tdiv_nn _ (by omega)] at c2 | skip
 exact ⟨a.1, a.2, b.1, b.2, this.1, by omega⟩
noncomputable def flat (e : El) : R := (e.num : R) / (e.den : R)
noncomputable def ecc (e : El) : R := flat e * (2 - flat e)
theorem flat_rng {e : El} (g : Good e) : 0 ≤ flat e ∧ flat e ≤ 1 / 100 := by
 have d := cast_lt.2 (show 0 < e.den by have := g.d0; omega)
 have n := cast_le.2 g.n0
 have m := cast_le.2 g.n1
 rw [cast_mul] at m
 have z : ((0 : Int) : R) = 0 := rfl
 have c : ((100 : Int) : R) = 100 := rfl
 rw [z] at d n
 rw [c] at m
 unfold flat
 constructor
 ·rw [R.le_div d]; grind
 ·rw [R.div_le d]; grind
theorem ecc_rng {e : El} (g : Good e) : 0 ≤ ecc e ∧ ecc e ≤ 1 / 50 := by
 have f := flat_rng g
 have a := R.mul_nn (a := flat e) (b := 2 - flat e) f.1 (by grind)
 have b := R.mul_nn (a := flat e) (b := flat e) f.1 f.1
 unfold ecc
 grind
theorem FlatJ {e : El} (h : impl_ValidEllipsoid e = true) (g : Good e) : HR (impl_FlatteningI e) (flat e) := by
 have v : spec_l12Ok e = true := by rw [← ValidEllipsoid_eq]; exact h
 rw [FlatteningI_eq]
 unfold spec_FlatteningI
 rw [v]
 have := g.d0
 have := g.d1
 have := g.n0
 have := g.n1
 exact QuotR ⟨by omega, by omega⟩ (by omega) (by omega)
theorem EccJ {e : El} (h : impl_ValidEllipsoid e = true) (g : Good e) : HR (impl_EccI e) (ecc e) := MulJ (FlatJ h g) ((SubJ (IntJ 2) (FlatJ h g)).eq rfl)
theorem oneJ {X : Iv} {x : R} (h : HR X x) : HR (impl_oneLess X) (1 - x) := (SubJ (IntJ 1) h).eq rfl
end Go.G880.Re
/- Latitudes of the kinds as functions of real angles: they grow, and are odd. -/
set_option linter.unusedVariables false
set_option linter.unusedSimpArgs false
/- The meridian's arc. -/
set_option linter.unusedVariables false
set_option linter.unusedSimpArgs false
namespace Go.G880.Re
open Go Go.RX Go.G880 Go.Rl
theorem down_exact {k n : Int} (hk : -8 ≤ k ∧ k ≤ 8) (hn : -17179869184 ≤ n ∧ n ≤ 17179869184) (hp : -137438953472 ≤ k * n ∧ k * n ≤ 137438953472) : spec_l03MulDown (k * 4294967296) n = (k * n, true) := by
 have o1 : spec_l03Ok (k * 4294967296) = true := (l03Ok_iff _).2 (by omega)
 have o2 : spec_l03Ok n = true := (l03Ok_iff _).2 (by omega)
 have e : k * 4294967296 * n / 4294967296 = k * n := by
  rw [show k * 4294967296 * n = k * n * 4294967296 by rw [Int.mul_assoc, Int.mul_comm 4294967296 n, ← Int.mul_assoc]]
  exact Int.mul_ediv_cancel _ (by omega)
 have o3 : spec_l03Ok (k * n) = true := (l03Ok_iff _).2 (by omega)
 unfold spec_l03MulDown
 rw [o1, o2]
 simp only [Bool.not_true, cond_false]
 rw [MulFloor32_val ⟨by omega, by omega⟩ ⟨by omega, by omega⟩, e, if_pos (by omega)]
 simp only [spec_l03End, o3, Bool.not_true, cond_false]
theorem times_exact {k n : Int} (hk : 0 ≤ k ∧ k ≤ 8) (hn : -17179869184 ≤ n ∧ n ≤ 17179869184) : impl_times k (impl_at n) = ⟨k * n, k * n⟩ := by
 have hp : -137438953472 ≤ k * n ∧ k * n ≤ 137438953472 := by
  have a := Int.mul_le_mul_of_nonneg_left hn.1 hk.1
  have b := Int.mul_le_mul_of_nonneg_left hn.2 hk.1
  have : k * 17179869184 ≤ 137438953472 := by omega
  have : k * -17179869184 ≥ -137438953472 := by omega
  omega
 have eI : spec_Integer k = ⟨k * 4294967296, k * 4294967296⟩ := by
  unfold spec_Integer spec_l04Make
  have r : spec_l00In k (-268435455) 268435455 = true := (l00In_iff _ _ _).2 (by omega)
  rw [r, w64_id (by omega) (by omega)]
  have o : spec_l04Ok ⟨k * 4294967296, k * 4294967296⟩ = true := (ok_iff _).2 (by simp only []; omega)
  rw [o]
  rfl
 have o1 : spec_l04Ok ⟨k * 4294967296, k * 4294967296⟩ = true := (ok_iff _).2 (by simp only []; omega)
 have o2 : spec_l04Ok ⟨n, n⟩ = true := (ok_iff _).2 (by simp only []; omega)
 have o3 : spec_l04Ok ⟨k * n, k * n⟩ = true := (ok_iff _).2 (by simp only []; omega)
 have d := down_exact (k := k) (n := n) (by omega) hn hp
 have d2 := down_exact (k := -k) (n := n) (by omega) hn (by rw [Int.neg_mul]; omega)
 have ok1 : spec_l03Ok (k * 4294967296) = true := (l03Ok_iff _).2 (by omega)
 have u : spec_l03MulUp (k * 4294967296) n = (k * n, true) := by
  unfold spec_l03MulUp
  rw [w64_id (by omega) (by omega), show (0 - k * 4294967296 : Int) = -k * 4294967296 by omega, d2, ok1]
  simp only [Bool.not_true, cond_false]
  rw [Int.neg_mul, w64_id (by omega) (by omega), show (0 - -(k * n) : Int) = k * n by omega]
 unfold impl_times impl_at
 rw [Integer_eq, MulI_eq, eI]
 unfold spec_MulI
 rw [o1, o2]
 simp only [d, u, Bool.not_true, cond_false]
 generalize k * n = p at *
 have m1 : spec_l00Min 1152921504606846976 p = p := by unfold spec_l00Min; rw [decide_eq_false (by omega)]; rfl
 have m2 : spec_l00Min p p = p := by unfold spec_l00Min; rw [decide_eq_false (by omega)]; rfl
 have m3 : spec_l00Max (-1152921504606846976) p = p := by unfold spec_l00Max; rw [decide_eq_false (by omega)]; rfl
 have m4 : spec_l00Max p p = p := by unfold spec_l00Max; rw [decide_eq_false (by omega)]; rfl
 simp only [m1, m2, m3, m4]
 unfold spec_l04Make
 rw [o3]
 rfl
theorem sinTimes {k n : Int} (hk : 0 ≤ k ∧ k ≤ 8) (hn : -17179869184 ≤ n ∧ n ≤ 17179869184) : HR (impl_SinI (impl_times k (impl_at n))) (sin ((k : R) * fR n)) := by
 rw [times_exact hk hn, SinI_eq]
 refine (SinPt (k * n)).eq ?_
 rw [fR_val, fR_val, cast_mul]
 congr 1
 grind
noncomputable def thd (e : El) : R := (e.num : R) / ((2 * e.den - e.num : Int) : R)
theorem thd_rng {e : El} (g : Good e) : 0 ≤ thd e ∧ thd e ≤ 1 / 199 := by
 have n0 := g.n0
 have n1 := g.n1
 have d0 := g.d0
 have d := cast_lt.2 (show 0 < 2 * e.den - e.num by omega)
 have n := cast_le.2 n0
 have m := cast_le.2 (show e.num * 199 ≤ 2 * e.den - e.num by omega)
 rw [cast_mul] at m
 have z : ((0 : Int) : R) = 0 := rfl
 have c : ((199 : Int) : R) = 199 := rfl
 rw [z] at d n
 rw [c] at m
 unfold thd
 constructor
 ·rw [R.le_div d]; grind
 ·rw [R.div_le d]; grind
theorem ThirdJ {e : El} (h : impl_ValidEllipsoid e = true) (g : Good e) : HR (impl_ThirdI e) (thd e) := by
 unfold impl_ThirdI
 rw [h]
 have := g.d0
 have := g.d1
 have := g.n0
 have := g.n1
 rw [w64_id (n := 2 * e.den) (by omega) (by omega), w64_id (by omega) (by omega)]
 exact QuotJ ⟨by omega, by omega⟩ (by omega) (by omega)
noncomputable def maj (e : El) : R := (e.a : R) / 1000
theorem MajorJ {e : El} (h : impl_ValidEllipsoid e = true) (g : Good e) : HR (impl_MajorI e) (maj e) := by
 unfold impl_MajorI
 rw [h]
 have := g.a0
 have := g.a1
 exact (QuotJ (a := e.a) (d := 1000) ⟨by omega, by omega⟩ (by omega) (by omega)).eq rfl
theorem maj_pos {e : El} (g : Good e) : 0 < maj e := by
 have a := cast_lt.2 (show 0 < e.a by have := g.a0; omega)
 have z : ((0 : Int) : R) = 0 := rfl
 rw [z] at a
 exact R.div_pos a (by grind)
noncomputable def arcT (n t : R) : R := (1 + n * n / 4 + n * n * (n * n) / 64) * t - 3 / 2 * n * (1 - n * n / 8) * sin (2 * t) + 15 / 16 * (n * n) * (1 - n * n / 4) * sin (4 * t) - 35 / 48 * (n * n) * n * sin (6 * t) + 315 / 512 * (n * n) * (n * n) * sin (8 * t)
noncomputable def arcA (e : El) (t : R) : R := maj e / (1 + thd e) * arcT (thd e) t
theorem der_sin (k x : R) : Der (fun t => sin (k * t)) (cos (k * x) * k) x := (sin_der (k * x)).comp (((der_id x).smul k).to (by grind))
theorem arcT_mono {n t u : R} (h0 : 0 ≤ n) (h1 : n ≤ 1 / 199) (h : t ≤ u) : arcT n t ≤ arcT n u := by
 refine Rl.mono (f := arcT n) (f' := fun x => (1 + n * n / 4 + n * n * (n * n) / 64) - 3 / 2 * n * (1 - n * n / 8) * (cos (2 * x) * 2) + 15 / 16 * (n * n) * (1 - n * n / 4) * (cos (4 * x) * 4) - 35 / 48 * (n * n) * n * (cos (6 * x) * 6) + 315 / 512 * (n * n) * (n * n) * (cos (8 * x) * 8)) h (fun x _ _ => ?_) (fun x _ _ => ?_)
 ·exact ((((((der_id x).smul _).sub ((der_sin 2 x).smul _)).add ((der_sin 4 x).smul _)).sub ((der_sin 6 x).smul _)).add ((der_sin 8 x).smul _)).to (by grind)
 ·have c2 := cos_bd (2 * x)
  have c4 := cos_bd (4 * x)
  have c6 := cos_bd (6 * x)
  have c8 := cos_bd (8 * x)
  generalize cos (2 * x) = a at *
  generalize cos (4 * x) = b at *
  generalize cos (6 * x) = c at *
  generalize cos (8 * x) = d at *
  have hn : Bd n (1 / 199) := by unfold Bd; grind
  have q : Bd (n * n) (1 / 199 * (1 / 199)) := hn.mul hn
  have q0 := R.sq_nn n
  have k2 : Bd (3 / 2 * n * (1 - n * n / 8)) (1 / 50) := by
   have a := ((show Bd (3 / 2 * n) (3 / 398) by unfold Bd at *; grind).mul (show Bd (1 - n * n / 8) 1 by unfold Bd at *; grind))
   exact a.mono (by grind)
  have k4 : Bd (15 / 16 * (n * n) * (1 - n * n / 4)) (1 / 100) := by
   have a := ((show Bd (15 / 16 * (n * n)) (1 / 100) by unfold Bd at *; grind).mul (show Bd (1 - n * n / 4) 1 by unfold Bd at *; grind))
   exact a.mono (by grind)
  have k6 : Bd (35 / 48 * (n * n) * n) (1 / 100) := by
   have a := ((show Bd (35 / 48 * (n * n)) (1 / 100) by unfold Bd at *; grind).mul (show Bd n 1 by unfold Bd at *; grind))
   exact a.mono (by grind)
  have k8 : Bd (315 / 512 * (n * n) * (n * n)) (1 / 100) := by
   have a := ((show Bd (315 / 512 * (n * n)) (1 / 100) by unfold Bd at *; grind).mul (show Bd (n * n) 1 by unfold Bd at *; grind))
   exact a.mono (by grind)
  have p2 := k2.mul c2
  have p4 := k4.mul c4
  have p6 := k6.mul c6
  have p8 := k8.mul c8
  have q4 := R.mul_nn q0 q0
  unfold Bd at p2 p4 p6 p8
  grind
theorem arcT_odd (n t : R) : arcT n (-t) = -arcT n t := by
 unfold arcT
 rw [show 2 * -t = -(2 * t) by grind, show 4 * -t = -(4 * t) by grind, show 6 * -t = -(6 * t) by grind, show 8 * -t = -(8 * t) by grind, sin_neg, sin_neg, sin_neg, sin_neg]
 grind
theorem symJ {X : Iv} {x : R} (hx : HR X x) (h : 0 ≤ x) : HR (impl_symmetric X) 0 := by
 unfold impl_symmetric impl_IsWhole
 cases k : impl_ValidInterval X
 ·exact hr_whole _
 have i := hx k
 have io := (ok_iff _).1 k
 unfold In at i
 simp only [Bool.not_true, cond_false]
 rw [w64_id (by omega) (by omega)]
 refine boundJ true ?_ ?_
 ·rw [show (0 - X.hi : Int) = -X.hi by omega, fR_neg]; grind
 ·grind
theorem arcJ {e : El} (h : impl_ValidEllipsoid e = true) {n : Int} (hn : -8589934592 ≤ n ∧ n ≤ 8589934592) : HR (impl_arcAt e n) (arcA e (fR n)) := by
 have g := good_of h
 have r := thd_rng g
 have t := ThirdJ h g
 have q := SqrJ t
 have s2 := sinTimes (k := 2) (n := n) (by omega) (by omega)
 have s4 := sinTimes (k := 4) (n := n) (by omega) (by omega)
 have s6 := sinTimes (k := 6) (n := n) (by omega) (by omega)
 have s8 := sinTimes (k := 8) (n := n) (by omega) (by omega)
 have e2 : ((2 : Int) : R) = 2 := rfl
 have e4 : ((4 : Int) : R) = 4 := rfl
 have e6 : ((6 : Int) : R) = 6 := rfl
 have e8 : ((8 : Int) : R) = 8 := rfl
 rw [e2] at s2
 rw [e4] at s4
 rw [e6] at s6
 rw [e8] at s8
 have q32 : HR (impl_Quotient 3 2) (3 / 2) := (QuotJ (a := 3) (d := 2) ⟨by omega, by omega⟩ (by omega) (by omega)).eq rfl
 have q1516 : HR (impl_Quotient 15 16) (15 / 16) := (QuotJ (a := 15) (d := 16) ⟨by omega, by omega⟩ (by omega) (by omega)).eq rfl
 have q3548 : HR (impl_Quotient 35 48) (35 / 48) := (QuotJ (a := 35) (d := 48) ⟨by omega, by omega⟩ (by omega) (by omega)).eq rfl
 have q315 : HR (impl_Quotient 315 512) (315 / 512) := (QuotJ (a := 315) (d := 512) ⟨by omega, by omega⟩ (by omega) (by omega)).eq rfl
 have o : ∀ {X : Iv} {x : R} {k : Int} {c : R}, HR X x → (k : R) = c → HR (impl_over X k) (x / c) := fun {X x k c} hx hc => (DivJ hx (IntJ k)).eq (by rw [hc])
 have z := symJ (MulJ (MulJ ((MulJ (IntJ 2) q).eq (y := 2 * (thd e * thd e)) rfl) q) t) (by
  have a := R.sq_nn (thd e)
  have b := R.mul_nn a a
  have c := R.mul_nn b r.1
  grind)
 have c0 := AddJ (AddJ ((IntJ 1).eq (y := 1) rfl) (o (k := 4) q rfl)) (o (k := 64) (MulJ q q) rfl)
 have c2 := MulJ (MulJ q32 t) (oneJ (o (k := 8) q rfl))
 have c4 := MulJ (MulJ q1516 q) (oneJ (o (k := 4) q rfl))
 have c6 := MulJ (MulJ q3548 q) t
 have c8 := MulJ (MulJ q315 q) q
 have m := DivJ (MajorJ h g) ((AddJ ((IntJ 1).eq (y := 1) rfl) t))
 have big := MulJ m (AddJ (AddJ (SubJ (AddJ (SubJ (MulJ c0 (atJ n)) (MulJ c2 s2)) (MulJ c4 s4)) (MulJ c6 s6)) (MulJ c8 s8)) z)
 refine big.eq ?_
 unfold arcA arcT
 grind
end Go.G880.Re
/- Every kind of latitude is enclosed by a function that grows and is odd. -/
set_option linter.unusedVariables false
set_option linter.unusedSimpArgs false
namespace Go.G880.Re
open Go Go.RX Go.G880 Go.Rl
theorem arcA_mono {e : El} (g : Good e) {t u : R} (h : t ≤ u) : arcA e t ≤ arcA e u := by
 have r := thd_rng g
 have m := maj_pos g
 have p := R.div_pos (a := maj e) (b := 1 + thd e) m (by grind)
 have a := arcT_mono r.1 r.2 h
 unfold arcA
 have := R.mul_nn (a := maj e / (1 + thd e)) (b := arcT (thd e) u - arcT (thd e) t) (by grind) (by grind)
 grind
theorem arcA_odd (e : El) (t : R) : arcA e (-t) = -arcA e t := by unfold arcA; rw [arcT_odd]; grind
theorem within_of {n a b : Int} (h : impl_within n a b = true) : a ≤ n ∧ n ≤ b := (l00In_iff _ _ _).1 h
theorem ArcJ {e : El} (h : impl_ValidEllipsoid e = true) {X : Iv} {x : R} (hx : HR X x) : HR (impl_ArcI e X) (arcA e x) := by
 unfold impl_ArcI
 rw [h]
 simp only [Bool.not_true, cond_false]
 cases w1 : impl_within X.lo (-8589934592) 8589934592
 ·exact hr_whole _
 cases w2 : impl_within X.hi (-8589934592) 8589934592
 ·exact hr_whole _
 simp only [Bool.not_true, cond_false]
 unfold impl_IsWhole
 cases k : impl_ValidInterval X
 ·exact hr_whole _
 simp only [Bool.not_true, cond_false]
 have i := hx k
 unfold In at i
 have g := good_of h
 exact monoJ (arcJ h (within_of w1)) (arcJ h (within_of w2)) fun _ _ => ⟨arcA_mono g i.1, arcA_mono g i.2⟩
end Go.G880.Re
