/- Logarithms of intervals, hyperbolic functions and their inverses, tangents. -/
import Derived.Test.YtogpbandlpjccaaGreatDoorRN
set_option linter.unusedVariables false
set_option linter.unusedSimpArgs false
namespace Go.G880.Re
open Go Go.RX Go.G880 Go.Rl
theorem not_ok_whole : spec_l04Ok impl_Whole = false := by decide
theorem LogJ {X : Iv} {x : R} (hx : HR X x) : HR (impl_LogI X) (log x) := by
 unfold impl_LogI impl_IsWhole
 cases k : impl_ValidInterval X
 ·exact hr_whole _
 simp only [Bool.not_true, cond_false]
 have i := hx k
 unfold In at i
 refine monoJ (LogAtJ X.lo) (LogAtJ X.hi) fun o1 o2 => ?_
 have pos : ∀ {d : Int}, spec_l04Ok (impl_LogAt d) = true → 0 < fR d := fun {d} o => by
  apply fR_pos
  apply Classical.byContradiction
  intro hn
  have : impl_LogAt d = impl_Whole := by
   unfold impl_LogAt
   cases h0 : (!(impl_ValidFix d))
   ·rw [decide_eq_true (show d ≤ 0 by omega)]; rfl
   ·rfl
  rw [this, not_ok_whole] at o
  cases o
 have p1 := pos o1
 have p2 := pos o2
 exact ⟨(log_le_iff p1 (by grind)).2 i.1, (log_le_iff (by grind) p2).2 i.2⟩
noncomputable def sinh (x : R) : R := (exp x - exp (-x)) / 2
theorem sinh_mono {x y : R} (h : x ≤ y) : sinh x ≤ sinh y := by
 have a := exp_le h
 have b := exp_le (x := -y) (y := -x) (by grind)
 unfold sinh
 grind
theorem sinh_neg (x : R) : sinh (-x) = -sinh x := by unfold sinh; rw [show - -x = x by grind]; grind
theorem SinhJ {X : Iv} {x : R} (hx : HR X x) : HR (impl_SinhI X) (sinh x) := by
 unfold impl_SinhI impl_IsWhole
 cases k : impl_ValidInterval X
 ·exact hr_whole _
 simp only [Bool.not_true, cond_false]
 have i := hx k
 have io := (ok_iff _).1 k
 unfold In at i
 have at1 : ∀ n : Int, -1152921504606846976 < n → n < 1152921504606846976 → HR (impl_HalfI (impl_SubI (impl_ExpAt n) (impl_ExpAt (w64 (0 - n))))) (sinh (fR n)) := fun n h1 h2 => by
  rw [w64_id (by omega) (by omega), show (0 - n : Int) = -n by omega]
  refine HalfJ (SubJ (ExpAtJ n) ((ExpAtJ (-n)).eq ?_))
  rw [fR_neg]
 exact monoJ (at1 X.lo (by omega) (by omega)) (at1 X.hi (by omega) (by omega)) fun _ _ => ⟨sinh_mono i.1, sinh_mono i.2⟩
noncomputable def asinh (t : R) : R := log (t + sqrt (t * t + 1))
theorem asinh_pos (t : R) : 0 < t + sqrt (t * t + 1) ∧ (t + sqrt (t * t + 1)) * (-t + sqrt (t * t + 1)) = 1 := by
 have q := sqrt_sq (y := t * t + 1) (by have := R.sq_nn t; grind)
 have n := sqrt_nn (t * t + 1)
 generalize sqrt (t * t + 1) = s at *
 have e : (t + s) * (-t + s) = 1 := by grind
 refine ⟨?_, e⟩
 apply Classical.byContradiction
 intro hn
 have h1 : 0 ≤ -t + s := by grind
 have := R.mul_nn (a := -(t + s)) (b := -t + s) (by grind) h1
 grind
theorem asinh_neg (t : R) : asinh (-t) = -asinh t := by
 have a := asinh_pos t
 unfold asinh
 rw [show -t * -t + 1 = t * t + 1 by grind, ← log_inv a.1]
 congr 1
 have := a.2
 have h := a.1
 generalize t + sqrt (t * t + 1) = u at *
 generalize -t + sqrt (t * t + 1) = v at *
 grind
theorem asinh_mono {t u : R} (h : t ≤ u) : asinh t ≤ asinh u := by
 have a := asinh_pos t
 have b := asinh_pos u
 refine (log_le_iff a.1 b.1).2 ?_
 have q1 := sqrt_sq (y := t * t + 1) (by have := R.sq_nn t; grind)
 have q2 := sqrt_sq (y := u * u + 1) (by have := R.sq_nn u; grind)
 have p1 := sqrt_pos (x := t * t + 1) (by have := R.sq_nn t; grind)
 have p2 := sqrt_pos (x := u * u + 1) (by have := R.sq_nn u; grind)
 generalize sqrt (t * t + 1) = s at *
 generalize sqrt (u * u + 1) = r at *
 have c := R.mul_nn (a := u - t) (b := (t + s) + (u + r)) (by grind) (by grind)
 apply Classical.byContradiction
 intro hn
 have n1 : 0 < s + r := by grind
 have := R.lt_mul (c := s + r) (a := 0) (b := (t + s) - (u + r)) (by grind) n1
 grind
def gA (n : Int) : Iv := bif decide (n ≤ 35184372088832) then impl_LogI (impl_AddI (impl_at n) (impl_SqrtI (impl_AddI (impl_SqrI (impl_at n)) (impl_Integer 1)))) else impl_AddI (impl_AddI (impl_LogTwoI 1) (impl_LogAt n)) (Iv.mk 0 16)
def fA (n : Int) : Iv := bif decide (n < 0) then impl_NegI (gA (w64 (0 - n))) else gA n
theorem Asinh_eq (x : Iv) : impl_AsinhI x = bif (impl_IsWhole x) then impl_Whole else bif (!(impl_areBounded (fA x.lo) (fA x.hi))) then impl_Whole else impl_bounded (fA x.lo).lo (fA x.hi).hi true := by
 unfold impl_AsinhI fA gA
 cases impl_IsWhole x
 case true => rfl
 simp only [cond_false]
 cases decide (x.lo < 0) <;> cases decide (x.hi < 0) <;> simp only [cond_true, cond_false]
 ·cases decide (x.lo ≤ 35184372088832) <;> cases decide (x.hi ≤ 35184372088832) <;> rfl
 ·cases decide (x.lo ≤ 35184372088832) <;> cases decide (w64 (0 - x.hi) ≤ 35184372088832) <;> rfl
 ·cases decide (w64 (0 - x.lo) ≤ 35184372088832) <;> cases decide (x.hi ≤ 35184372088832) <;> rfl
 ·cases decide (w64 (0 - x.lo) ≤ 35184372088832) <;> cases decide (w64 (0 - x.hi) ≤ 35184372088832) <;> rfl
theorem asinh_far {t : R} (h : 8192 ≤ t) : 0 ≤ asinh t - (l2 + log t) ∧ asinh t - (l2 + log t) ≤ fR 16 := by
 have tp : 0 < t := by grind
 have a := asinh_pos t
 have q := sqrt_sq (y := t * t + 1) (by have := R.sq_nn t; grind)
 have n := sqrt_nn (t * t + 1)
 have e2 : l2 + log t = log (2 * t) := (log_mul (by grind) tp).symm
 rw [e2]
 have s1 : t ≤ sqrt (t * t + 1) := sq_le n (by grind)
 refine ⟨?_, ?_⟩
 ·have := (log_le_iff (x := 2 * t) (y := t + sqrt (t * t + 1)) (by grind) a.1).2 (by grind)
  unfold asinh
  grind
 ·have ev : t * t⁻¹ = 1 := by grind
  have vp : 0 < t⁻¹ := by
   have := R.div_pos (a := 1) (b := t) (by grind) tp
   grind
  have v8 : t⁻¹ ≤ 1 / 8192 := by
   have := R.mul_nn (a := t⁻¹) (b := t - 8192) (by grind) (by grind)
   grind
  generalize t⁻¹ = v at *
  have vv := R.mul_nn (a := v) (b := v) (by grind) (by grind)
  have v2 : v * v ≤ 1 / 67108864 := by
   have a := R.mul_nn (a := v) (b := 1 / 8192 - v) (by grind) (by grind)
   grind
  have s2 : sqrt (t * t + 1) ≤ t + v / 2 := sq_le (by grind) (by rw [q]; grind)
  have c1 : 0 < 1 + v * v / 4 := by grind
  have l1 := (log_le_iff (x := t + sqrt (t * t + 1)) (y := 2 * t * (1 + v * v / 4)) a.1 (R.mul_pos (by grind) c1)).2 (by
   have e : 2 * t * (1 + v * v / 4) = 2 * t + v / 2 := by grind
   rw [e]; grind)
  rw [log_mul (by grind) c1] at l1
  have l3 := log_le1 c1
  have e16 : fR 16 = 16 * (1 / 4294967296) := fR_val _
  rw [e16]
  unfold asinh
  grind
theorem gAJ {n : Int} (h : 0 ≤ n) : HR (gA n) (asinh (fR n)) := by
 unfold gA
 by_cases k : n ≤ 35184372088832
 ·rw [decide_eq_true k, cond_true]
  exact LogJ (AddJ (atJ n) (SqrtJ ((AddJ (SqrJ (atJ n)) (IntJ 1)).eq (y := fR n * fR n + 1) rfl)))
 ·rw [decide_eq_false k, cond_false]
  have e : fR 35184372088832 = 8192 := by rw [fR_val]; show (35184372088832 : R) * (1 / 4294967296) = 8192; grind
  have f := fR_le.2 (show 35184372088832 ≤ n by omega)
  rw [e] at f
  have far := asinh_far f
  have h16 : HR (Iv.mk 0 16) (asinh (fR n) - (l2 + log (fR n))) := fun _ => ⟨by show fR 0 ≤ _; rw [fR_zero]; exact far.1, far.2⟩
  refine (AddJ (AddJ (LogTwoJ 1) (LogAtJ n)) h16).eq ?_
  rw [one_cast]
  grind
theorem fAJ {n : Int} (h1 : -1152921504606846976 < n) (h2 : n < 1152921504606846976) : HR (fA n) (asinh (fR n)) := by
 unfold fA
 by_cases k : n < 0
 ·rw [decide_eq_true k, cond_true, w64_id (by omega) (by omega), show (0 - n : Int) = -n by omega]
  refine (NegJ (gAJ (n := -n) (by omega))).eq ?_
  rw [fR_neg, asinh_neg]
  grind
 ·rw [decide_eq_false k, cond_false]
  exact gAJ (by omega)
theorem AsinhJ {X : Iv} {x : R} (hx : HR X x) : HR (impl_AsinhI X) (asinh x) := by
 rw [Asinh_eq]
 unfold impl_IsWhole
 cases k : impl_ValidInterval X
 ·exact hr_whole _
 simp only [Bool.not_true, cond_false]
 have i := hx k
 have io := (ok_iff _).1 k
 unfold In at i
 exact monoJ (fAJ (by omega) (by omega)) (fAJ (by omega) (by omega)) fun _ _ => ⟨asinh_mono i.1, asinh_mono i.2⟩
noncomputable def atanh (t : R) : R := log ((1 + t) / (1 - t)) / 2
theorem atanh_pos {t : R} (h1 : -1 < t) (h2 : t < 1) : 0 < (1 + t) / (1 - t) := R.div_pos (by grind) (by grind)
theorem atanh_neg {t : R} (h1 : -1 < t) (h2 : t < 1) : atanh (-t) = -atanh t := by
 have a := atanh_pos h1 h2
 have n1 : 1 - t ≠ 0 := by grind
 have n2 : 1 + t ≠ 0 := by grind
 unfold atanh
 have e : (1 + -t) / (1 - -t) = ((1 + t) / (1 - t))⁻¹ := by grind
 rw [e, log_inv a]
 grind
theorem atanh_mono {t u : R} (h1 : -1 < t) (h : t ≤ u) (h2 : u < 1) : atanh t ≤ atanh u := by
 have a := atanh_pos (t := t) h1 (by grind)
 have b := atanh_pos (t := u) (by grind) h2
 have c := (log_le_iff a b).2 (by
  rw [R.div_le (by grind)]
  have e : (1 + u) / (1 - u) * (1 - t) = (1 + u) * (1 - t) / (1 - u) := by grind
  rw [e, R.le_div (by grind)]
  grind)
 unfold atanh
 grind
def gT (n : Int) : Iv := bif decide (n ≥ 4294967296) then impl_Whole else impl_HalfI (impl_LogI (impl_DivI (impl_at (w64 (4294967296 + n))) (impl_at (w64 (4294967296 - n)))))
def fT (n : Int) : Iv := bif decide (n < 0) then impl_NegI (gT (w64 (0 - n))) else gT n
theorem Atanh_eq (x : Iv) : impl_AtanhI x = bif (impl_IsWhole x) then impl_Whole else bif (!(impl_areBounded (fT x.lo) (fT x.hi))) then impl_Whole else impl_bounded (fT x.lo).lo (fT x.hi).hi true := by
 unfold impl_AtanhI fT gT
 cases impl_IsWhole x
 case true => rfl
 simp only [cond_false]
 cases decide (x.lo < 0) <;> cases decide (x.hi < 0) <;> simp only [cond_true, cond_false]
 ·cases decide (x.lo ≥ 4294967296) <;> cases decide (x.hi ≥ 4294967296) <;> rfl
 ·cases decide (x.lo ≥ 4294967296) <;> cases decide (w64 (0 - x.hi) ≥ 4294967296) <;> rfl
 ·cases decide (w64 (0 - x.lo) ≥ 4294967296) <;> cases decide (x.hi ≥ 4294967296) <;> rfl
 ·cases decide (w64 (0 - x.lo) ≥ 4294967296) <;> cases decide (w64 (0 - x.hi) ≥ 4294967296) <;> rfl
theorem gTJ {n : Int} (h : 0 ≤ n) : HR (gT n) (atanh (fR n)) ∧ (spec_l04Ok (gT n) = true → n < 4294967296) := by
 unfold gT
 by_cases k : n ≥ 4294967296
 ·rw [decide_eq_true k, cond_true]
  exact ⟨wholeJ _, fun o => by rw [not_ok_whole] at o; cases o⟩
 ·rw [decide_eq_false k, cond_false, w64_id (by omega) (by omega), w64_id (by omega) (by omega)]
  refine ⟨HalfJ (LogJ ((DivJ (atJ _) (atJ _)).eq ?_)), fun _ => by omega⟩
  rw [fR_add, fR_sub, fR_U]
theorem neg_ok {A : Iv} (h : spec_l04Ok (impl_NegI A) = true) : spec_l04Ok A = true := by
 rw [NegI_eq] at h
 unfold spec_NegI at h
 cases k : spec_l04Ok A
 ·rw [k] at h; simp only [Bool.not_false, cond_true] at h; exact absurd h (by decide)
 ·rfl
theorem fTJ {n : Int} (h1 : -1152921504606846976 < n) (h2 : n < 1152921504606846976) : HR (fT n) (atanh (fR n)) ∧ (spec_l04Ok (fT n) = true → -4294967296 < n ∧ n < 4294967296) := by
 unfold fT
 by_cases k : n < 0
 ·rw [decide_eq_true k, cond_true, w64_id (by omega) (by omega), show (0 - n : Int) = -n by omega]
  have g := gTJ (n := -n) (by omega)
  by_cases hn : -4294967296 < n
  ·refine ⟨(NegJ g.1).eq ?_, fun _ => by omega⟩
   have a := fR_le.2 (show -4294967295 ≤ n by omega)
   have e1 : fR (-4294967295) = -(4294967295 * (1 / 4294967296)) := by rw [fR_neg, fR_val]; rfl
   have b := fR_le.2 (show n ≤ 0 by omega)
   rw [fR_zero] at b
   rw [fR_neg, atanh_neg (by grind) (by grind)]
   grind
  ·refine ⟨hr_bad ?_ _, fun o => ?_⟩
   ·cases o : spec_l04Ok (impl_NegI (gT (-n)))
    ·rfl
    ·have := g.2 (neg_ok o); omega
   ·have := g.2 (neg_ok o); omega
 ·rw [decide_eq_false k, cond_false]
  have g := gTJ (n := n) (by omega)
  exact ⟨g.1, fun o => ⟨by omega, g.2 o⟩⟩
theorem AtanhJ {X : Iv} {x : R} (hx : HR X x) : HR (impl_AtanhI X) (atanh x) := by
 rw [Atanh_eq]
 unfold impl_IsWhole
 cases k : impl_ValidInterval X
 ·exact hr_whole _
 simp only [Bool.not_true, cond_false]
 have i := hx k
 have io := (ok_iff _).1 k
 unfold In at i
 have a := fTJ (n := X.lo) (by omega) (by omega)
 have b := fTJ (n := X.hi) (by omega) (by omega)
 refine monoJ a.1 b.1 fun o1 o2 => ?_
 have p := (a.2 o1).1
 have q := (b.2 o2).2
 have p2 := fR_le.2 (show -4294967295 ≤ X.lo by omega)
 have q2 := fR_le.2 (show X.hi ≤ 4294967295 by omega)
 have e1 : fR (-4294967295) = -(4294967295 * (1 / 4294967296)) := by rw [fR_neg, fR_val]; rfl
 have e2 : fR 4294967295 = 4294967295 * (1 / 4294967296) := fR_val _
 exact ⟨atanh_mono (by grind) i.1 (by grind), atanh_mono (by grind) i.2 (by grind)⟩
theorem SinJ (n : Int) : HR (impl_SinAt n) (sin (fR n)) := by
 unfold impl_SinAt
 rw [circle_eq]
 exact (AtR n 0).eq (by rw [show ((0 : Int) : R) = 0 from rfl]; congr 1; grind)
theorem CosJ (n : Int) : HR (impl_CosAt n) (cos (fR n)) := by
 unfold impl_CosAt
 rw [circle_eq]
 exact (AtR n 1).eq (by rw [one_cast, show fR n + 1 * qt = fR n + qt by grind, sin_shift])
theorem tan_loop (rs : List Value) (a b n : Int) : ∀ (k : Nat) (v : Int × Int × Int) (t : Int × Int × Int), iterR (fun v => impl_TanI.rnd4 rs a b n v.1 v.2.1 v.2.2) k v = .inr t → t.2.1 = impl_Whole.lo ∧ t.2.2 = impl_Whole.hi := by
 intro k
 induction k with
 | zero => intro v t h; simp [iterR] at h
 | succ k ih =>
  intro v t h
  simp only [iterR] at h
  cases hr : impl_TanI.rnd4 rs a b n v.1 v.2.1 v.2.2 with
  | inl v' => rw [hr] at h; exact ih v' t h
  | inr s =>
   rw [hr] at h
   simp only at h
   subst h
   unfold impl_TanI.rnd4 at hr
   cases c1 : decide (v.1 < n)
   ·rw [c1] at hr; simp at hr
   ·rw [c1, cond_true] at hr
    cases c2 : (andI .i64 (atI rs true v.1) 1 == 1)
    ·rw [c2] at hr; simp at hr
    ·rw [c2, cond_true] at hr
     cases hr
     exact ⟨rfl, rfl⟩
theorem TanJ (n : Int) : HR (impl_TanI (impl_at n)) (sin (fR n) / cos (fR n)) := by
 unfold impl_TanI
 cases c : impl_areAngles (impl_at n)
 ·exact hr_whole _
 simp only [Bool.not_true, cond_false]
 generalize impl_turnsIn (impl_at n) = rs
 cases hl : impl_TanI.fin4 rs (impl_at n).lo (impl_at n).hi (rs.length : Int) (0, 0, 0) with
 | inl v =>
  simp only [caseR]
  exact HullJ1 (.inl (DivJ (SinJ n) (CosJ n)))
 | inr t =>
  have := tan_loop rs _ _ _ 1001 (0, 0, 0) t hl
  simp only [caseR, this.1, this.2]
  exact wholeJ _
end Go.G880.Re
