/- The law of the latitudes. -/
import Derived.Test.YtogpbandlpjccaaGreatDoorRU
set_option linter.unusedVariables false
set_option linter.unusedSimpArgs false
set_option linter.unusedSectionVars false
namespace Go.G880.Re
open Go Go.RX Go.G880 Go.Rl
section
variable {k : Int} {e : El} {F : Int → R} (K : Kind (impl_LatitudeAt k e) F)
include K
theorem lat_I {X : Iv} (o : spec_l04Ok (impl_LatitudeI k e X) = true) :
  spec_l04Ok X = true ∧ spec_l04Ok (impl_LatitudeAt k e X.lo) = true ∧ spec_l04Ok (impl_LatitudeAt k e X.hi) = true ∧
   (impl_LatitudeI k e X).lo = (impl_LatitudeAt k e X.lo).lo ∧ (impl_LatitudeI k e X).hi = (impl_LatitudeAt k e X.hi).hi := by
 have key : ∀ Y, Y = impl_LatitudeI k e X → spec_l04Ok Y = true → spec_l04Ok X = true ∧ spec_l04Ok (impl_LatitudeAt k e X.lo) = true ∧ spec_l04Ok (impl_LatitudeAt k e X.hi) = true ∧
   Y.lo = (impl_LatitudeAt k e X.lo).lo ∧ Y.hi = (impl_LatitudeAt k e X.hi).hi := by
  intro Y hY hO
  unfold impl_LatitudeI impl_IsWhole impl_areBounded at hY
  rw [valid_ok] at hY
  cases c : spec_l04Ok X
  ·rw [c] at hY; rw [show Y = impl_Whole from hY] at hO; exact absurd hO (by decide)
  rw [c] at hY
  simp only [Bool.not_true, cond_false, valid_ok] at hY
  cases c1 : spec_l04Ok (impl_LatitudeAt k e X.lo)
  ·rw [c1] at hY; rw [show Y = impl_Whole from hY] at hO; exact absurd hO (by decide)
  cases c2 : spec_l04Ok (impl_LatitudeAt k e X.hi)
  ·rw [c1, c2] at hY; rw [show Y = impl_Whole from hY] at hO; exact absurd hO (by decide)
  rw [c1, c2] at hY
  simp only [cond_true, Bool.not_true, cond_false, bounded_true] at hY
  have := Nw.make_of (by rw [← hY]; exact hO)
  rw [this] at hY
  rw [hY]
  exact ⟨rfl, rfl, rfl, rfl, rfl⟩
 exact key _ rfl o
theorem lat_ends {X : Iv} (o : spec_l04Ok (impl_LatitudeI k e X) = true) : fR (impl_LatitudeI k e X).lo ≤ F X.lo ∧ F X.lo ≤ F X.hi ∧ F X.hi ≤ fR (impl_LatitudeI k e X).hi := by
 obtain ⟨c, a, b, e1, e2⟩ := lat_I K o
 have i := (ok_iff _).1 c
 rw [e1, e2]
 exact ⟨(K.has _ a a).1, K.mono _ _ a b i.2.1, (K.has _ b b).2⟩
theorem lat_odd (X : Iv) : spec_OverlapI (impl_LatitudeI k e (spec_NegI X)) (spec_NegI (impl_LatitudeI k e X)) = true := by
 cases a : spec_l04Ok (impl_LatitudeI k e (spec_NegI X))
 ·exact OverR (hr_bad a _) (hr_lo _)
 cases b : spec_l04Ok (impl_LatitudeI k e X)
 ·have : spec_NegI (impl_LatitudeI k e X) = spec_l04Whole := by unfold spec_NegI; rw [b]; rfl
  rw [this]
  exact OverR (hr_lo _) (hr_whole _)
 obtain ⟨c, p, q, _, _⟩ := lat_I K b
 obtain ⟨c', p', q', _, _⟩ := lat_I K a
 have i := (ok_iff _).1 c
 have eN : spec_NegI X = ⟨-X.hi, -X.lo⟩ := by
  unfold spec_NegI
  rw [c]
  simp only [Bool.not_true, cond_false]
  rw [w64_id (by omega) (by omega), w64_id (by omega) (by omega)]
  have o : spec_l04Ok ⟨0 - X.hi, 0 - X.lo⟩ = true := (ok_iff _).2 (by simp only []; omega)
  first | (unfold spec_l04Make; rw [o]; simp [show ∀ n : Int, 0 - n = -n from fun n => by omega]) | simp [show ∀ n : Int, 0 - n = -n from fun n => by omega]
 have ea := lat_ends K a
 have eb := lat_ends K b
 rw [eN] at p' q' ea
 simp only [] at p' q' ea
 have od := K.odd X.lo p q'
 refine OverR (x := F (-X.lo)) (fun _ => ?_) ?_
 ·rw [eN]; exact ⟨Std.le_trans ea.1 ea.2.1, ea.2.2⟩
 ·rw [od]
  exact NegR fun _ => ⟨eb.1, Std.le_trans eb.2.1 eb.2.2⟩
theorem inv_lo {x_hi : Int} {Y : Iv} {X : Iv} (hY : Y = impl_LatitudeI k e X) (o : spec_l04Ok (impl_LatitudeI k e X) = true) :
  -6746518853 ≤ (impl_inverseLatitude.fin2 e.a e.num e.den Y.lo x_hi k (-6746518853, 6746518853)).1 ∧ (impl_inverseLatitude.fin2 e.a e.num e.den Y.lo x_hi k (-6746518853, 6746518853)).1 ≤ X.lo := by
 obtain ⟨c, p, q, _, _⟩ := lat_I K o
 have eb := lat_ends K o
 have r := K.rng _ p
 unfold In6 at r
 let I : Int × Int → Prop := fun v => (-6746518853 ≤ v.1 ∧ v.1 ≤ v.2 ∧ v.2 ≤ 6746518853) ∧ v.1 ≤ X.lo
 have st : ∀ v v', I v → impl_inverseLatitude.rnd2 e.a e.num e.den Y.lo x_hi k v.1 v.2 = Sum.inl v' → I v' ∧ (v'.2 - v'.1).toNat < (v.2 - v.1).toNat := by
  intro v v' hv hr
  obtain ⟨hv, hx⟩ := hv
  have d := dec_inv2 (v := v) (v' := v') (by omega) hr
  refine ⟨?_, d.2⟩
  simp only [impl_inverseLatitude.rnd2, mid_val (show -1099511627776 ≤ v.1 ∧ v.1 ≤ v.2 ∧ v.2 ≤ 1099511627776 by omega)] at hr
  rw [w64_id (n := v.2 - v.1) (by omega) (by omega)] at hr
  cases h1 : decide (v.2 - v.1 > 1)
  ·rw [h1] at hr; simp at hr
  have h1' := of_decide_eq_true h1
  rw [h1, cond_true] at hr
  cases h2 : impl_isBelow (impl_LatitudeAt k ⟨e.a, e.num, e.den⟩ ((v.1 + v.2) / 2)) Y.lo
  ·rw [h2] at hr
   simp only [cond_false] at hr
   cases hr
   exact ⟨by simp only []; omega, hx⟩
  ·rw [h2] at hr
   simp only [cond_true] at hr
   cases hr
   refine ⟨by simp only []; omega, ?_⟩
   simp only []
   unfold impl_isBelow at h2
   rw [valid_ok] at h2
   have h2 : (bif spec_l04Ok (impl_LatitudeAt k e ((v.1 + v.2) / 2)) then decide ((impl_LatitudeAt k e ((v.1 + v.2) / 2)).hi < Y.lo) else false) = true := h2
   cases om : spec_l04Ok (impl_LatitudeAt k e ((v.1 + v.2) / 2))
   ·rw [om] at h2; simp at h2
   rw [om, cond_true] at h2
   have h2 := of_decide_eq_true h2
   apply Classical.byContradiction
   intro hn
   have m := K.mono _ _ p om (show X.lo ≤ (v.1 + v.2) / 2 by omega)
   have h := (K.has _ om om).2
   have l : fR (impl_LatitudeAt k e ((v.1 + v.2) / 2)).hi < fR Y.lo := by
    have a := fR_le.2 (show (impl_LatitudeAt k e ((v.1 + v.2) / 2)).hi + 1 ≤ Y.lo by omega)
    rw [fR_add] at a
    have b := fR_pos (n := 1) (by omega)
    grind
   rw [hY] at l
   have := eb.1
   grind
 obtain ⟨u, hu, hr⟩ := iterV_end (rnd := fun v : Int × Int => impl_inverseLatitude.rnd2 e.a e.num e.den Y.lo x_hi k v.1 v.2) I (fun v => (v.2 - v.1).toNat) st 4000000000000 (-6746518853, 6746518853) ⟨by simp only []; omega, by simp only []; omega⟩ (by simp only []; omega)
 have fin : impl_inverseLatitude.fin2 e.a e.num e.den Y.lo x_hi k (-6746518853, 6746518853) = u := by
  unfold impl_inverseLatitude.fin2
  generalize iterV (fun v : Int × Int => impl_inverseLatitude.rnd2 e.a e.num e.den Y.lo x_hi k v.1 v.2) 4000000000000 (-6746518853, 6746518853) = w at *
  unfold impl_inverseLatitude.rnd2 at hr
  cases h1 : decide (w64 (u.2 - u.1) > 1)
  ·rw [h1] at hr
   simp only [cond_false, Sum.inr.injEq] at hr
   exact hr.symm
  ·rw [h1, cond_true] at hr
   cases h2 : impl_isBelow (impl_LatitudeAt k ⟨e.a, e.num, e.den⟩ ((w64 (u.1 + u.2)).fdiv 2)) Y.lo <;> rw [h2] at hr <;> simp at hr
 rw [fin]
 exact ⟨hu.1.1, hu.2⟩
theorem inv_hi {x_lo o_lo : Int} {Y : Iv} {X : Iv} (hY : Y = impl_LatitudeI k e X) (o : spec_l04Ok (impl_LatitudeI k e X) = true) :
  (impl_inverseLatitude.fin9 e.a e.num e.den x_lo Y.hi o_lo k (-6746518853, 6746518853)).2 ≤ 6746518853 ∧ X.hi ≤ (impl_inverseLatitude.fin9 e.a e.num e.den x_lo Y.hi o_lo k (-6746518853, 6746518853)).2 := by
 obtain ⟨c, p, q, _, _⟩ := lat_I K o
 have eb := lat_ends K o
 have r := K.rng _ q
 unfold In6 at r
 let I : Int × Int → Prop := fun v => (-6746518853 ≤ v.1 ∧ v.1 ≤ v.2 ∧ v.2 ≤ 6746518853) ∧ X.hi ≤ v.2
 have st : ∀ v v', I v → impl_inverseLatitude.rnd9 e.a e.num e.den x_lo Y.hi o_lo k v.1 v.2 = Sum.inl v' → I v' ∧ (v'.2 - v'.1).toNat < (v.2 - v.1).toNat := by
  intro v v' hv hr
  obtain ⟨hv, hx⟩ := hv
  have d := dec_inv9 (v := v) (v' := v') (by omega) hr
  refine ⟨?_, d.2⟩
  simp only [impl_inverseLatitude.rnd9, mid_val (show -1099511627776 ≤ v.1 ∧ v.1 ≤ v.2 ∧ v.2 ≤ 1099511627776 by omega)] at hr
  rw [w64_id (n := v.2 - v.1) (by omega) (by omega)] at hr
  cases h1 : decide (v.2 - v.1 > 1)
  ·rw [h1] at hr; simp at hr
  have h1' := of_decide_eq_true h1
  rw [h1, cond_true] at hr
  cases h2 : impl_isAbove (impl_LatitudeAt k ⟨e.a, e.num, e.den⟩ ((v.1 + v.2) / 2)) Y.hi
  ·rw [h2] at hr
   simp only [cond_false] at hr
   cases hr
   exact ⟨by simp only []; omega, hx⟩
  ·rw [h2] at hr
   simp only [cond_true] at hr
   cases hr
   refine ⟨by simp only []; omega, ?_⟩
   simp only []
   unfold impl_isAbove at h2
   rw [valid_ok] at h2
   have h2 : (bif spec_l04Ok (impl_LatitudeAt k e ((v.1 + v.2) / 2)) then decide ((impl_LatitudeAt k e ((v.1 + v.2) / 2)).lo > Y.hi) else false) = true := h2
   cases om : spec_l04Ok (impl_LatitudeAt k e ((v.1 + v.2) / 2))
   ·rw [om] at h2; simp at h2
   rw [om, cond_true] at h2
   have h2 := of_decide_eq_true h2
   apply Classical.byContradiction
   intro hn
   have m := K.mono _ _ om q (show (v.1 + v.2) / 2 ≤ X.hi by omega)
   have h := (K.has _ om om).1
   have l : fR Y.hi < fR (impl_LatitudeAt k e ((v.1 + v.2) / 2)).lo := by
    have a := fR_le.2 (show Y.hi + 1 ≤ (impl_LatitudeAt k e ((v.1 + v.2) / 2)).lo by omega)
    rw [fR_add] at a
    have b := fR_pos (n := 1) (by omega)
    grind
   rw [hY] at l
   have := eb.2.2
   grind
 obtain ⟨u, hu, hr⟩ := iterV_end (rnd := fun v : Int × Int => impl_inverseLatitude.rnd9 e.a e.num e.den x_lo Y.hi o_lo k v.1 v.2) I (fun v => (v.2 - v.1).toNat) st 4000000000000 (-6746518853, 6746518853) ⟨by simp only []; omega, by simp only []; omega⟩ (by simp only []; omega)
 have fin : impl_inverseLatitude.fin9 e.a e.num e.den x_lo Y.hi o_lo k (-6746518853, 6746518853) = u := by
  unfold impl_inverseLatitude.fin9
  generalize iterV (fun v : Int × Int => impl_inverseLatitude.rnd9 e.a e.num e.den x_lo Y.hi o_lo k v.1 v.2) 4000000000000 (-6746518853, 6746518853) = w at *
  unfold impl_inverseLatitude.rnd9 at hr
  cases h1 : decide (w64 (u.2 - u.1) > 1)
  ·rw [h1] at hr
   simp only [cond_false, Sum.inr.injEq] at hr
   exact hr.symm
  ·rw [h1, cond_true] at hr
   cases h2 : impl_isAbove (impl_LatitudeAt k ⟨e.a, e.num, e.den⟩ ((w64 (u.1 + u.2)).fdiv 2)) Y.hi <;> rw [h2] at hr <;> simp at hr
 rw [fin]
 exact ⟨hu.1.2.2, hu.2⟩
end
theorem valid_pos {k : Int} {e : El} {X : Iv} (o : spec_l04Ok (impl_LatitudeI k e X) = true) : impl_isLatitude k = true ∧ impl_ValidEllipsoid e = true := by
 obtain ⟨F, K⟩ := kinds k e
 have := lat_at (lat_I K o).2.1
 exact ⟨this.1, this.2.1⟩
theorem inverse {k : Int} {e : El} {X : Iv} (o : spec_l04Ok (impl_LatitudeI k e X) = true) :
  impl_InverseLatitude k e (impl_LatitudeI k e X) = (impl_inverseLatitude k e (impl_LatitudeI k e X), 0) ∧ spec_l04Ok X = true ∧
   (impl_inverseLatitude k e (impl_LatitudeI k e X)).lo ≤ X.lo ∧ X.hi ≤ (impl_inverseLatitude k e (impl_LatitudeI k e X)).hi := by
 obtain ⟨F, K⟩ := kinds k e
 obtain ⟨c, p, q, _, _⟩ := lat_I K o
 have eb := lat_ends K o
 obtain ⟨v1, v2⟩ := valid_pos o
 have rp := K.rng _ p
 have rq := K.rng _ q
 unfold In6 at rp rq
 have one : (0 : R) < fR 1 := fR_pos (by omega)
 have nb : impl_isBelow (impl_LatitudeAt k e impl_quarter) (impl_LatitudeI k e X).lo = false := by
  unfold impl_isBelow
  rw [valid_ok, quart.2]
  cases om : spec_l04Ok (impl_LatitudeAt k e 6746518853)
  ·rfl
  ·refine decide_eq_false fun hlt => ?_
   have m := K.mono _ _ p om (by omega)
   have h := (K.has _ om om).2
   have a := fR_le.2 (show (impl_LatitudeAt k e 6746518853).hi + 1 ≤ (impl_LatitudeI k e X).lo by omega)
   rw [fR_add] at a
   have := eb.1
   grind
 have na : impl_isAbove (impl_LatitudeAt k e (w64 (0 - impl_quarter))) (impl_LatitudeI k e X).hi = false := by
  unfold impl_isAbove
  rw [valid_ok, quart.1]
  cases om : spec_l04Ok (impl_LatitudeAt k e (-6746518853))
  ·rfl
  ·refine decide_eq_false fun hlt => ?_
   have m := K.mono _ _ om q (by omega)
   have h := (K.has _ om om).1
   have a := fR_le.2 (show (impl_LatitudeI k e X).hi + 1 ≤ (impl_LatitudeAt k e (-6746518853)).lo by omega)
   rw [fR_add] at a
   have := eb.2.2
   grind
 refine ⟨?_, c, ?_, ?_⟩
 ·unfold impl_InverseLatitude impl_IsWhole
  rw [v1, v2, valid_ok, o, nb, na]
  rfl
 ·unfold impl_inverseLatitude
  rw [quart.1, quart.2]
  exact (inv_lo K rfl o).2
 ·unfold impl_inverseLatitude
  rw [quart.1, quart.2]
  exact (inv_hi K rfl o).2
theorem law {k m : Int} (hm : impl_isLatitude m = true) (e : El) (X : Iv) (o : spec_l04Ok (impl_LatitudeI k e X) = true) :
  (impl_InverseLatitude k e (impl_LatitudeI k e X)).2 = 0 ∧ spec_InsideI X (impl_InverseLatitude k e (impl_LatitudeI k e X)).1 = true ∧
   ((impl_ConvertLatitude k m e (impl_LatitudeI k e X)).2 = 9 ∨ ((impl_ConvertLatitude k m e (impl_LatitudeI k e X)).2 = 0 ∧ spec_OverlapI (impl_ConvertLatitude k m e (impl_LatitudeI k e X)).1 (impl_LatitudeI m e X) = true)) := by
 obtain ⟨e1, c, h1, h2⟩ := inverse o
 obtain ⟨v1, v2⟩ := valid_pos o
 have i := (ok_iff _).1 c
 rw [e1]
 refine ⟨rfl, ?_, ?_⟩
 ·unfold spec_InsideI
  rw [c, decide_eq_true h1, decide_eq_true h2]
  cases spec_l04Ok (impl_inverseLatitude k e (impl_LatitudeI k e X)) <;> rfl
 ·have ev : impl_ConvertLatitude k m e (impl_LatitudeI k e X) = bif (impl_IsWhole (impl_LatitudeI m e (impl_inverseLatitude k e (impl_LatitudeI k e X)))) then (⟨0, 0⟩, 9) else (impl_LatitudeI m e (impl_inverseLatitude k e (impl_LatitudeI k e X)), 0) := by
   unfold impl_ConvertLatitude
   rw [v1, v2, hm, e1]
   rfl
  rw [ev]
  unfold impl_IsWhole
  rw [valid_ok]
  generalize impl_inverseLatitude k e (impl_LatitudeI k e X) = B at *
  cases ok : spec_l04Ok (impl_LatitudeI m e B)
  ·exact .inl rfl
  refine .inr ⟨rfl, ?_⟩
  simp only [Bool.not_true, cond_false]
  cases ox : spec_l04Ok (impl_LatitudeI m e X)
  ·exact OverR (hr_lo _) (hr_bad ox _)
  obtain ⟨G, M⟩ := kinds m e
  have eb := lat_ends M ok
  have ex := lat_ends M ox
  obtain ⟨_, b1, b2, _, _⟩ := lat_I M ok
  obtain ⟨_, x1, x2, _, _⟩ := lat_I M ox
  have a := M.mono _ _ b1 x1 h1
  have b := M.mono _ _ x2 b2 h2
  refine OverR (x := G X.lo) (fun _ => ⟨?_, ?_⟩) (fun _ => ⟨ex.1, ?_⟩)
  ·exact Std.le_trans eb.1 a
  ·exact Std.le_trans ex.2.1 (Std.le_trans b eb.2.2)
  ·exact Std.le_trans ex.2.1 ex.2.2
end Go.G880.Re
