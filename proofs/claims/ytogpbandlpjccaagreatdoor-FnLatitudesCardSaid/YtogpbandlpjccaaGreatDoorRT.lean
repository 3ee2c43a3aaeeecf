/- The meridian's arc. -/
import Derived.Test.YtogpbandlpjccaaGreatDoorRS
set_option linter.unusedVariables false
set_option linter.unusedSimpArgs false
namespace Go.G880.Re
open Go Go.RX Go.G880 Go.Rl
theorem down_exact {k n : Int} (hk : -8 ≤ k ∧ k ≤ 8) (hn : -17179869184 ≤ n ∧ n ≤ 17179869184) (hp : -137438953472 ≤ k * n ∧ k * n ≤ 137438953472) : spec_l03MulDown (k * 4294967296) n = (k * n, true) := by
 have o1 : spec_l03Ok (k * 4294967296) = true := (l03Ok_iff _).2 (by omega)
 have o2 : spec_l03Ok n = true := (l03Ok_iff _).2 (by omega)
 have e : k * 4294967296 * n / 4294967296 = k * n := by
  rw [show k * 4294967296 * n = k * n * 4294967296 by rw [Int.mul_assoc, Int.mul_comm 4294967296 n, ← Int.mul_assoc]]
  exact Int.mul_ediv_cancel _ (by omega)
 have o3 : spec_l03Ok (k * n) = true := (l03Ok_iff _).2 (by omega)
 unfold spec_l03MulDown
 rw [o1, o2]
 simp only [Bool.not_true, cond_false]
 rw [MulFloor32_val ⟨by omega, by omega⟩ ⟨by omega, by omega⟩, e, if_pos (by omega)]
 simp only [spec_l03End, o3, Bool.not_true, cond_false]
theorem times_exact {k n : Int} (hk : 0 ≤ k ∧ k ≤ 8) (hn : -17179869184 ≤ n ∧ n ≤ 17179869184) : impl_times k (impl_at n) = ⟨k * n, k * n⟩ := by
 have hp : -137438953472 ≤ k * n ∧ k * n ≤ 137438953472 := by
  have a := Int.mul_le_mul_of_nonneg_left hn.1 hk.1
  have b := Int.mul_le_mul_of_nonneg_left hn.2 hk.1
  have : k * 17179869184 ≤ 137438953472 := by omega
  have : k * -17179869184 ≥ -137438953472 := by omega
  omega
 have eI : spec_Integer k = ⟨k * 4294967296, k * 4294967296⟩ := by
  unfold spec_Integer spec_l04Make
  have r : spec_l00In k (-268435455) 268435455 = true := (l00In_iff _ _ _).2 (by omega)
  rw [r, w64_id (by omega) (by omega)]
  have o : spec_l04Ok ⟨k * 4294967296, k * 4294967296⟩ = true := (ok_iff _).2 (by simp only []; omega)
  rw [o]
  rfl
 have o1 : spec_l04Ok ⟨k * 4294967296, k * 4294967296⟩ = true := (ok_iff _).2 (by simp only []; omega)
 have o2 : spec_l04Ok ⟨n, n⟩ = true := (ok_iff _).2 (by simp only []; omega)
 have o3 : spec_l04Ok ⟨k * n, k * n⟩ = true := (ok_iff _).2 (by simp only []; omega)
 have d := down_exact (k := k) (n := n) (by omega) hn hp
 have d2 := down_exact (k := -k) (n := n) (by omega) hn (by rw [Int.neg_mul]; omega)
 have ok1 : spec_l03Ok (k * 4294967296) = true := (l03Ok_iff _).2 (by omega)
 have u : spec_l03MulUp (k * 4294967296) n = (k * n, true) := by
  unfold spec_l03MulUp
  rw [w64_id (by omega) (by omega), show (0 - k * 4294967296 : Int) = -k * 4294967296 by omega, d2, ok1]
  simp only [Bool.not_true, cond_false]
  rw [Int.neg_mul, w64_id (by omega) (by omega), show (0 - -(k * n) : Int) = k * n by omega]
 unfold impl_times impl_at
 rw [Integer_eq, MulI_eq, eI]
 unfold spec_MulI
 rw [o1, o2]
 simp only [d, u, Bool.not_true, cond_false]
 generalize k * n = p at *
 have m1 : spec_l00Min 1152921504606846976 p = p := by unfold spec_l00Min; rw [decide_eq_false (by omega)]; rfl
 have m2 : spec_l00Min p p = p := by unfold spec_l00Min; rw [decide_eq_false (by omega)]; rfl
 have m3 : spec_l00Max (-1152921504606846976) p = p := by unfold spec_l00Max; rw [decide_eq_false (by omega)]; rfl
 have m4 : spec_l00Max p p = p := by unfold spec_l00Max; rw [decide_eq_false (by omega)]; rfl
 simp only [m1, m2, m3, m4]
 unfold spec_l04Make
 rw [o3]
 rfl
theorem sinTimes {k n : Int} (hk : 0 ≤ k ∧ k ≤ 8) (hn : -17179869184 ≤ n ∧ n ≤ 17179869184) : HR (impl_SinI (impl_times k (impl_at n))) (sin ((k : R) * fR n)) := by
 rw [times_exact hk hn, SinI_eq]
 refine (SinPt (k * n)).eq ?_
 rw [fR_val, fR_val, cast_mul]
 congr 1
 grind
noncomputable def thd (e : El) : R := (e.num : R) / ((2 * e.den - e.num : Int) : R)
theorem thd_rng {e : El} (g : Good e) : 0 ≤ thd e ∧ thd e ≤ 1 / 199 := by
 have n0 := g.n0
 have n1 := g.n1
 have d0 := g.d0
 have d := cast_lt.2 (show 0 < 2 * e.den - e.num by omega)
 have n := cast_le.2 n0
 have m := cast_le.2 (show e.num * 199 ≤ 2 * e.den - e.num by omega)
 rw [cast_mul] at m
 have z : ((0 : Int) : R) = 0 := rfl
 have c : ((199 : Int) : R) = 199 := rfl
 rw [z] at d n
 rw [c] at m
 unfold thd
 constructor
 ·rw [R.le_div d]; grind
 ·rw [R.div_le d]; grind
theorem ThirdJ {e : El} (h : impl_ValidEllipsoid e = true) (g : Good e) : HR (impl_ThirdI e) (thd e) := by
 unfold impl_ThirdI
 rw [h]
 have := g.d0
 have := g.d1
 have := g.n0
 have := g.n1
 rw [w64_id (n := 2 * e.den) (by omega) (by omega), w64_id (by omega) (by omega)]
 exact QuotJ ⟨by omega, by omega⟩ (by omega) (by omega)
noncomputable def maj (e : El) : R := (e.a : R) / 1000
theorem MajorJ {e : El} (h : impl_ValidEllipsoid e = true) (g : Good e) : HR (impl_MajorI e) (maj e) := by
 unfold impl_MajorI
 rw [h]
 have := g.a0
 have := g.a1
 exact (QuotJ (a := e.a) (d := 1000) ⟨by omega, by omega⟩ (by omega) (by omega)).eq rfl
theorem maj_pos {e : El} (g : Good e) : 0 < maj e := by
 have a := cast_lt.2 (show 0 < e.a by have := g.a0; omega)
 have z : ((0 : Int) : R) = 0 := rfl
 rw [z] at a
 exact R.div_pos a (by grind)
noncomputable def arcT (n t : R) : R := (1 + n * n / 4 + n * n * (n * n) / 64) * t - 3 / 2 * n * (1 - n * n / 8) * sin (2 * t) + 15 / 16 * (n * n) * (1 - n * n / 4) * sin (4 * t) - 35 / 48 * (n * n) * n * sin (6 * t) + 315 / 512 * (n * n) * (n * n) * sin (8 * t)
noncomputable def arcA (e : El) (t : R) : R := maj e / (1 + thd e) * arcT (thd e) t
theorem der_sin (k x : R) : Der (fun t => sin (k * t)) (cos (k * x) * k) x := (sin_der (k * x)).comp (((der_id x).smul k).to (by grind))
theorem arcT_mono {n t u : R} (h0 : 0 ≤ n) (h1 : n ≤ 1 / 199) (h : t ≤ u) : arcT n t ≤ arcT n u := by
 refine Rl.mono (f := arcT n) (f' := fun x => (1 + n * n / 4 + n * n * (n * n) / 64) - 3 / 2 * n * (1 - n * n / 8) * (cos (2 * x) * 2) + 15 / 16 * (n * n) * (1 - n * n / 4) * (cos (4 * x) * 4) - 35 / 48 * (n * n) * n * (cos (6 * x) * 6) + 315 / 512 * (n * n) * (n * n) * (cos (8 * x) * 8)) h (fun x _ _ => ?_) (fun x _ _ => ?_)
 ·exact ((((((der_id x).smul _).sub ((der_sin 2 x).smul _)).add ((der_sin 4 x).smul _)).sub ((der_sin 6 x).smul _)).add ((der_sin 8 x).smul _)).to (by grind)
 ·have c2 := cos_bd (2 * x)
  have c4 := cos_bd (4 * x)
  have c6 := cos_bd (6 * x)
  have c8 := cos_bd (8 * x)
  generalize cos (2 * x) = a at *
  generalize cos (4 * x) = b at *
  generalize cos (6 * x) = c at *
  generalize cos (8 * x) = d at *
  have hn : Bd n (1 / 199) := by unfold Bd; grind
  have q : Bd (n * n) (1 / 199 * (1 / 199)) := hn.mul hn
  have q0 := R.sq_nn n
  have k2 : Bd (3 / 2 * n * (1 - n * n / 8)) (1 / 50) := by
   have a := ((show Bd (3 / 2 * n) (3 / 398) by unfold Bd at *; grind).mul (show Bd (1 - n * n / 8) 1 by unfold Bd at *; grind))
   exact a.mono (by grind)
  have k4 : Bd (15 / 16 * (n * n) * (1 - n * n / 4)) (1 / 100) := by
   have a := ((show Bd (15 / 16 * (n * n)) (1 / 100) by unfold Bd at *; grind).mul (show Bd (1 - n * n / 4) 1 by unfold Bd at *; grind))
   exact a.mono (by grind)
  have k6 : Bd (35 / 48 * (n * n) * n) (1 / 100) := by
   have a := ((show Bd (35 / 48 * (n * n)) (1 / 100) by unfold Bd at *; grind).mul (show Bd n 1 by unfold Bd at *; grind))
   exact a.mono (by grind)
  have k8 : Bd (315 / 512 * (n * n) * (n * n)) (1 / 100) := by
   have a := ((show Bd (315 / 512 * (n * n)) (1 / 100) by unfold Bd at *; grind).mul (show Bd (n * n) 1 by unfold Bd at *; grind))
   exact a.mono (by grind)
  have p2 := k2.mul c2
  have p4 := k4.mul c4
  have p6 := k6.mul c6
  have p8 := k8.mul c8
  have q4 := R.mul_nn q0 q0
  unfold Bd at p2 p4 p6 p8
  grind
theorem arcT_odd (n t : R) : arcT n (-t) = -arcT n t := by
 unfold arcT
 rw [show 2 * -t = -(2 * t) by grind, show 4 * -t = -(4 * t) by grind, show 6 * -t = -(6 * t) by grind, show 8 * -t = -(8 * t) by grind, sin_neg, sin_neg, sin_neg, sin_neg]
 grind
theorem symJ {X : Iv} {x : R} (hx : HR X x) (h : 0 ≤ x) : HR (impl_symmetric X) 0 := by
 unfold impl_symmetric impl_IsWhole
 cases k : impl_ValidInterval X
 ·exact hr_whole _
 have i := hx k
 have io := (ok_iff _).1 k
 unfold In at i
 simp only [Bool.not_true, cond_false]
 rw [w64_id (by omega) (by omega)]
 refine boundJ true ?_ ?_
 ·rw [show (0 - X.hi : Int) = -X.hi by omega, fR_neg]; grind
 ·grind
theorem arcJ {e : El} (h : impl_ValidEllipsoid e = true) {n : Int} (hn : -8589934592 ≤ n ∧ n ≤ 8589934592) : HR (impl_arcAt e n) (arcA e (fR n)) := by
 have g := good_of h
 have r := thd_rng g
 have t := ThirdJ h g
 have q := SqrJ t
 have s2 := sinTimes (k := 2) (n := n) (by omega) (by omega)
 have s4 := sinTimes (k := 4) (n := n) (by omega) (by omega)
 have s6 := sinTimes (k := 6) (n := n) (by omega) (by omega)
 have s8 := sinTimes (k := 8) (n := n) (by omega) (by omega)
 have e2 : ((2 : Int) : R) = 2 := rfl
 have e4 : ((4 : Int) : R) = 4 := rfl
 have e6 : ((6 : Int) : R) = 6 := rfl
 have e8 : ((8 : Int) : R) = 8 := rfl
 rw [e2] at s2
 rw [e4] at s4
 rw [e6] at s6
 rw [e8] at s8
 have q32 : HR (impl_Quotient 3 2) (3 / 2) := (QuotJ (a := 3) (d := 2) ⟨by omega, by omega⟩ (by omega) (by omega)).eq rfl
 have q1516 : HR (impl_Quotient 15 16) (15 / 16) := (QuotJ (a := 15) (d := 16) ⟨by omega, by omega⟩ (by omega) (by omega)).eq rfl
 have q3548 : HR (impl_Quotient 35 48) (35 / 48) := (QuotJ (a := 35) (d := 48) ⟨by omega, by omega⟩ (by omega) (by omega)).eq rfl
 have q315 : HR (impl_Quotient 315 512) (315 / 512) := (QuotJ (a := 315) (d := 512) ⟨by omega, by omega⟩ (by omega) (by omega)).eq rfl
 have o : ∀ {X : Iv} {x : R} {k : Int} {c : R}, HR X x → (k : R) = c → HR (impl_over X k) (x / c) := fun {X x k c} hx hc => (DivJ hx (IntJ k)).eq (by rw [hc])
 have z := symJ (MulJ (MulJ ((MulJ (IntJ 2) q).eq (y := 2 * (thd e * thd e)) rfl) q) t) (by
  have a := R.sq_nn (thd e)
  have b := R.mul_nn a a
  have c := R.mul_nn b r.1
  grind)
 have c0 := AddJ (AddJ ((IntJ 1).eq (y := 1) rfl) (o (k := 4) q rfl)) (o (k := 64) (MulJ q q) rfl)
 have c2 := MulJ (MulJ q32 t) (oneJ (o (k := 8) q rfl))
 have c4 := MulJ (MulJ q1516 q) (oneJ (o (k := 4) q rfl))
 have c6 := MulJ (MulJ q3548 q) t
 have c8 := MulJ (MulJ q315 q) q
 have m := DivJ (MajorJ h g) ((AddJ ((IntJ 1).eq (y := 1) rfl) t))
 have big := MulJ m (AddJ (AddJ (SubJ (AddJ (SubJ (MulJ c0 (atJ n)) (MulJ c2 s2)) (MulJ c4 s4)) (MulJ c6 s6)) (MulJ c8 s8)) z)
 refine big.eq ?_
 unfold arcA arcT
 grind
end Go.G880.Re
