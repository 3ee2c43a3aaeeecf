/- Quarter turns, and the circle's series. -/
import Derived.Test.YtmdicdkceekodaaPA
set_option linter.unusedSimpArgs false
set_option linter.unusedVariables false
/- Products and quotients of intervals hold the products and quotients of their ends; so the circle's series meet the ring. -/
set_option linter.unusedSimpArgs false
set_option linter.unusedVariables false
/- The circle's series meet the ring. -/
set_option linter.unusedSimpArgs false
set_option linter.unusedVariables false
/- The sines of an interval: the turns that are kept in a list and taken up one after the other, and those that are taken up at once. -/
set_option linter.unusedSimpArgs false
set_option linter.unusedVariables false
/- Vectors that are turned. -/
set_option linter.unusedSimpArgs false
set_option linter.unusedVariables false
/- Roots of intervals; radii of curvature, and the meridian's arc. -/
set_option linter.unusedSimpArgs false
set_option linter.unusedVariables false
/- Polynomials: their signs at the ends of an interval. -/
set_option linter.unusedSimpArgs false
set_option linter.unusedVariables false
namespace Go.G880
open Go Go.RX
theorem dec_l09Ok {l : List Value} {v v' : Int} (hv : 0 ≤ v ∧ v ≤ (l.length : Int) ∧ (l.length : Int) ≤ 1048576) (hr : spec_l09Ok.rnd2 l v = Sum.inl v') :
  (0 ≤ v' ∧ v' ≤ (l.length : Int) ∧ (l.length : Int) ≤ 1048576) ∧ ((l.length : Int) - v').toNat < ((l.length : Int) - v).toNat := by
 simp only [spec_l09Ok.rnd2] at hr
 cases h1 : decide (v < (l.length : Int))
 ·rw [h1] at hr; simp at hr
 have h1' := of_decide_eq_true h1
 rw [h1, w64_id (n := v + 1) (by omega) (by omega)] at hr
 have key : v' = v + 1 := by
  cases h3 : (!(spec_l04Ok (atIv l false v)))
  ·rw [h3] at hr
   simp only [cond_true, cond_false, Sum.inl.injEq] at hr
   exact hr.symm
  ·rw [h3] at hr
   simp at hr
 omega
theorem dec_Index {l : List Value} {n v v' : Int} (hv : n = (l.length : Int) ∧ 0 ≤ v ∧ v ≤ (l.length : Int) ∧ (l.length : Int) ≤ 1048576) (hr : slices_IndexFunc.rnd2 l n v = Sum.inl v') :
  (n = (l.length : Int) ∧ 0 ≤ v' ∧ v' ≤ (l.length : Int) ∧ (l.length : Int) ≤ 1048576) ∧ ((l.length : Int) - v').toNat < ((l.length : Int) - v).toNat := by
 simp only [slices_IndexFunc.rnd2] at hr
 cases h1 : decide (v < n)
 ·rw [h1] at hr; simp at hr
 have h1' := of_decide_eq_true h1
 rw [h1, w64_id (n := v + 1) (by omega) (by omega)] at hr
 have key : v' = v + 1 := by
  cases h3 : (impl_IsWhole (atIv l false v))
  ·rw [h3] at hr
   simp only [cond_true, cond_false, Sum.inl.injEq] at hr
   exact hr.symm
  ·rw [h3] at hr
   simp at hr
 omega
theorem dec_l09At {l : List Value} {xl xh : Int} {v v' : Int × Int × Int} (hv : -1 ≤ v.1 ∧ v.1 < (l.length : Int) ∧ (l.length : Int) ≤ 1048576) (hr : spec_l09At.rnd3 l xl xh v.1 v.2.1 v.2.2 = Sum.inl v') :
  (-1 ≤ v'.1 ∧ v'.1 < (l.length : Int) ∧ (l.length : Int) ≤ 1048576) ∧ (v'.1 + 1).toNat < (v.1 + 1).toNat := by
 simp only [spec_l09At.rnd3] at hr
 cases h1 : decide (v.1 ≥ 0)
 ·rw [h1] at hr; simp at hr
 have h1' := of_decide_eq_true h1
 rw [h1, w64_id (n := v.1 - 1) (by omega) (by omega)] at hr
 simp only [cond_true, Sum.inl.injEq] at hr
 subst hr
 simp only []
 omega
theorem rnd_PolyAt : impl_PolyAt.rnd5 = spec_l09At.rnd3 := by
 funext l xl xh i pl ph
 simp only [impl_PolyAt.rnd5, spec_l09At.rnd3, AddI_eq, MulI_eq]
theorem dec_PolyAt {l : List Value} {xl xh : Int} {v v' : Int × Int × Int} (hv : -1 ≤ v.1 ∧ v.1 < (l.length : Int) ∧ (l.length : Int) ≤ 1048576) (hr : impl_PolyAt.rnd5 l xl xh v.1 v.2.1 v.2.2 = Sum.inl v') :
  (-1 ≤ v'.1 ∧ v'.1 < (l.length : Int) ∧ (l.length : Int) ≤ 1048576) ∧ (v'.1 + 1).toNat < (v.1 + 1).toNat := dec_l09At hv (by rw [← rnd_PolyAt]; exact hr)
def allOk (l : List Value) (i : Nat) : Nat → Bool
 | 0 => true
 | n + 1 => spec_l04Ok (atIv l false (i : Int)) && allOk l (i + 1) n
theorem l09_loop (l : List Value) (hl : (l.length : Int) ≤ 1048576) : ∀ (d f i : Nat), d < f → d + i = l.length →
  caseR (fun t1 => true) (fun t2 : Int × Bool => t2.2) (iterR (fun v => spec_l09Ok.rnd2 l v) f (i : Int)) = allOk l i d := by
 intro d
 induction d with
 | zero =>
  intro f i hf hi
  obtain ⟨f, rfl⟩ : ∃ m, f = m + 1 := ⟨f - 1, by omega⟩
  have h1 : decide ((i : Int) < (l.length : Int)) = false := decide_eq_false (by omega)
  rw [iterR]
  simp only [spec_l09Ok.rnd2, h1, cond_false]
  rfl
 | succ d ih =>
  intro f i hf hi
  obtain ⟨f, rfl⟩ : ∃ m, f = m + 1 := ⟨f - 1, by omega⟩
  have h1 : decide ((i : Int) < (l.length : Int)) = true := decide_eq_true (by omega)
  have h2 : w64 ((i : Int) + 1) = ((i + 1 : Nat) : Int) := by rw [w64_id (by omega) (by omega)]; rfl
  rw [iterR]
  simp only [allOk]
  cases h3 : spec_l04Ok (atIv l false (i : Int))
  ·have hs : spec_l09Ok.rnd2 l (i : Int) = Sum.inr (Sum.inr ((i : Int), false)) := by
    simp only [spec_l09Ok.rnd2, h1, h3, Bool.not_false, cond_true]
   rw [hs]; rfl
  ·have hs : spec_l09Ok.rnd2 l (i : Int) = Sum.inl (((i + 1 : Nat) : Int)) := by
    simp only [spec_l09Ok.rnd2, h1, h2, h3, Bool.not_true, cond_true, cond_false]
   rw [hs]
   simp only [Bool.true_and]
   exact ih f (i + 1) (by omega) (by omega)
theorem index_loop (l : List Value) (hl : (l.length : Int) ≤ 1048576) : ∀ (d f i : Nat), d < f → d + i = l.length →
  decide (caseR (fun t1 => (-1 : Int)) (fun t2 : Int × Int => t2.2) (iterR (fun v => slices_IndexFunc.rnd2 l (l.length : Int) v) f (i : Int)) ≥ 0) = !allOk l i d := by
 intro d
 induction d with
 | zero =>
  intro f i hf hi
  obtain ⟨f, rfl⟩ : ∃ m, f = m + 1 := ⟨f - 1, by omega⟩
  have h1 : decide ((i : Int) < (l.length : Int)) = false := decide_eq_false (by omega)
  rw [iterR]
  simp only [slices_IndexFunc.rnd2, h1, cond_false]
  rfl
 | succ d ih =>
  intro f i hf hi
  obtain ⟨f, rfl⟩ : ∃ m, f = m + 1 := ⟨f - 1, by omega⟩
  have h1 : decide ((i : Int) < (l.length : Int)) = true := decide_eq_true (by omega)
  have h2 : w64 ((i : Int) + 1) = ((i + 1 : Nat) : Int) := by rw [w64_id (by omega) (by omega)]; rfl
  rw [iterR]
  simp only [allOk]
  cases h3 : spec_l04Ok (atIv l false (i : Int))
  ·have hs : slices_IndexFunc.rnd2 l (l.length : Int) (i : Int) = Sum.inr (Sum.inr ((i : Int), (i : Int))) := by
    simp only [slices_IndexFunc.rnd2, h1, isWhole_eq, h3, Bool.not_false, cond_true]
   rw [hs]
   simp only [caseR, Bool.false_and, Bool.not_false]
   exact decide_eq_true (by omega)
  ·have hs : slices_IndexFunc.rnd2 l (l.length : Int) (i : Int) = Sum.inl (((i + 1 : Nat) : Int)) := by
    simp only [slices_IndexFunc.rnd2, h1, h2, isWhole_eq, h3, Bool.not_true, cond_true, cond_false]
   rw [hs]
   simp only [Bool.true_and]
   exact ih f (i + 1) (by omega) (by omega)
theorem caseR_ok' {V : Type} (b : Bool) (s : V ⊕ (Int × Bool)) (h : ∀ q, s = .inr q → q.2 = false) : caseR (fun _ => b) (fun t2 : Int × Bool => t2.2) s = (caseR (fun _ => true) (fun t2 : Int × Bool => t2.2) s && b) := by
 cases s with
 | inl v => simp [caseR]
 | inr q => simp [caseR, h q rfl]
theorem l09_false (l : List Value) : ∀ (f : Nat) (i : Int) (q : Int × Bool), iterR (fun v => spec_l09Ok.rnd2 l v) f i = .inr q → q.2 = false := by
 intro f
 induction f with
 | zero => intro i q h; simp [iterR] at h
 | succ f ih =>
  intro i q h
  rw [iterR] at h
  simp only [spec_l09Ok.rnd2] at h
  cases h1 : decide (i < (l.length : Int))
  ·rw [h1] at h; simp at h
  ·rw [h1] at h
   cases h2 : spec_l04Ok (atIv l false i)
   ·rw [h2] at h
    simp only [Bool.not_false, cond_true, Sum.inr.injEq] at h
    rw [← h]
   ·rw [h2] at h
    simp only [Bool.not_true, cond_true, cond_false] at h
    exact ih _ q h
theorem l09Ok_val (l : List Value) (hl : (l.length : Int) ≤ 1048576) : spec_l09Ok l = (allOk l 0 l.length && spec_l00In (l.length : Int) 1 17) := by
 simp only [spec_l09Ok, spec_l09Ok.fin2]
 rw [caseR_ok' _ _ (fun q hq => l09_false l _ _ q hq)]
 congr 1
 exact l09_loop l hl l.length 1048577 0 (by omega) (by omega)
theorem Valid_eq (l : List Value) (hl : (l.length : Int) ≤ 1048576) : impl_ValidPoly l = spec_l09Ok l := by
 rw [l09Ok_val l hl]
 have h0 : slices_ContainsFunc l () = !allOk l 0 l.length := index_loop l hl l.length 1048577 0 (by omega) (by omega)
 simp only [impl_ValidPoly, impl_length, within_eq, h0]
 cases allOk l 0 l.length <;> cases spec_l00In (l.length : Int) 1 17 <;> rfl
theorem l09_len {l : List Value} (hl : (l.length : Int) ≤ 1048576) (h : spec_l09Ok l = true) : 1 ≤ (l.length : Int) ∧ (l.length : Int) ≤ 17 := by
 rw [l09Ok_val l hl, Bool.and_eq_true] at h
 exact (l00In_iff _ _ _).1 h.2
theorem pd_valid {l : List Value} (hpre : decide ((l.length : Int) ≤ 1048576) = true) (h : (!(impl_ValidPoly l)) = false) : 1 ≤ (l.length : Int) ∧ (l.length : Int) ≤ 17 := by
 have hl := of_decide_eq_true hpre
 rw [Valid_eq l hl] at h
 exact l09_len hl (by simpa using h)
theorem PolyAt_eq {l : List Value} (hl : (l.length : Int) ≤ 1048576) (hv : spec_l09Ok l = true) {x : Iv} (hx : spec_l04Ok x = true) : impl_PolyAt l x = spec_l09At l x := by
 simp only [impl_PolyAt, spec_l09At, impl_PolyAt.fin5, spec_l09At.fin3, Valid_eq l hl, hv, isWhole_eq, hx, Bool.not_true, cond_false, rnd_PolyAt]
theorem PolyAt_no {l : List Value} (hl : (l.length : Int) ≤ 1048576) (x : Iv) (hv : spec_l09Ok l = false) : impl_PolyAt l x = spec_l04Whole := by
 simp only [impl_PolyAt, Valid_eq l hl, hv, Bool.not_false, cond_true, whole_eq]
theorem SignI_eq (x : Iv) : impl_SignI x = spec_l09Sign x := by
 simp only [impl_SignI, spec_l09Sign, isWhole_eq]
theorem sign_rng (x : Iv) : spec_l09Sign x = 0 ∨ spec_l09Sign x = 1 ∨ spec_l09Sign x = -1 := by
 simp only [spec_l09Sign, Bool.cond_eq_ite]
 (repeat' split) <;> simp
theorem signAt_eq {l : List Value} (hl : (l.length : Int) ≤ 1048576) (hv : spec_l09Ok l = true) {n : Int} (hn : -1152921504606846976 < n ∧ n < 1152921504606846976) : impl_signAt l n = spec_l09SignAt l n := by
 have e : impl_at n = spec_l08At n := by
  simp only [impl_at, spec_l08At]
  rw [make_ok (by omega)]
 have hok : spec_l04Ok (spec_l08At n) = true := by rw [← e]; exact (ok_iff _).2 (by simp only [impl_at]; omega)
 simp only [impl_signAt, spec_l09SignAt, SignI_eq, e, PolyAt_eq hl hv hok]
theorem SignChange_eq (l : List Value) (hl : (l.length : Int) ≤ 1048576) (x : Iv) : impl_SignChange l x = spec_SignChange l x := by
 simp only [impl_SignChange, spec_SignChange, isWhole_eq]
 cases hv : spec_l09Ok l
 ·cases hx : spec_l04Ok x
  ·rfl
  ·have h0 : ∀ n, impl_signAt l n = 0 := fun n => by simp only [impl_signAt, PolyAt_no hl _ hv]; rfl
   simp only [h0, Bool.not_true, Bool.not_false, cond_true, cond_false]
   rfl
 cases hx : spec_l04Ok x
 ·rfl
 have hh := (ok_iff x).1 hx
 simp only [Bool.not_true, cond_false, spec_l09Change, signAt_eq hl hv (n := x.lo) (by omega), signAt_eq hl hv (n := x.hi) (by omega)]
 have r1 := sign_rng (spec_l09At l (spec_l08At x.lo))
 have r2 := sign_rng (spec_l09At l (spec_l08At x.hi))
 simp only [spec_l09SignAt]
 rcases r1 with h1 | h1 | h1 <;> rcases r2 with h2 | h2 | h2 <;> rw [h1, h2] <;> rfl
theorem eqS_loop (a : List Value) (hl : (a.length : Int) ≤ 1048576) : ∀ (d f i : Nat), d < f → d + i = a.length →
  caseR (fun t1 => true) (fun t2 : Int × Bool => t2.2) (iterR (fun v => laws_eqIntervalS.rnd4 a a v) f (i : Int)) = true := by
 intro d
 induction d with
 | zero =>
  intro f i hf hi
  obtain ⟨f, rfl⟩ : ∃ m, f = m + 1 := ⟨f - 1, by omega⟩
  have h1 : decide ((i : Int) < (a.length : Int)) = false := decide_eq_false (by omega)
  rw [iterR]
  simp only [laws_eqIntervalS.rnd4, h1, cond_false]
  rfl
 | succ d ih =>
  intro f i hf hi
  obtain ⟨f, rfl⟩ : ∃ m, f = m + 1 := ⟨f - 1, by omega⟩
  have h1 : decide ((i : Int) < (a.length : Int)) = true := decide_eq_true (by omega)
  have h2 : w64 ((i : Int) + 1) = ((i + 1 : Nat) : Int) := by rw [w64_id (by omega) (by omega)]; rfl
  have hs : laws_eqIntervalS.rnd4 a a (i : Int) = Sum.inl (((i + 1 : Nat) : Int)) := by
   simp only [laws_eqIntervalS.rnd4, h1, h2, eqI_refl, Bool.not_true, cond_true, cond_false]
  rw [iterR, hs]
  exact ih f (i + 1) (by omega) (by omega)
end Go.G880
/- Polynomials: their derivatives, unique roots. -/
set_option linter.unusedSimpArgs false
set_option linter.unusedVariables false
namespace Go.G880
open Go Go.RX
theorem ider_step {l : List Value} {n : Int} {v v' : Int × List Value} (hr : impl_PolyDerivative.rnd7 l n v.1 v.2 = Sum.inl v') : v.1 < n ∧ v'.1 = w64 (v.1 + 1) ∧ v'.2.length = v.2.length + 1 := by
 simp only [impl_PolyDerivative.rnd7] at hr
 cases h1 : decide (v.1 < n)
 ·rw [h1] at hr; simp at hr
 rw [h1] at hr
 simp only [cond_true, Sum.inl.injEq] at hr
 subst hr
 exact ⟨of_decide_eq_true h1, rfl, rfl⟩
theorem dec_ider {l : List Value} {n : Int} {v v' : Int × List Value} (hv : n = ((l.length - 1 : Nat) : Int) ∧ 0 ≤ v.1 ∧ v.1 ≤ ((l.length - 1 : Nat) : Int) ∧ (v.2.length : Int) = v.1 ∧ (l.length : Int) ≤ 1048576) (hr : impl_PolyDerivative.rnd7 l n v.1 v.2 = Sum.inl v') :
  (n = ((l.length - 1 : Nat) : Int) ∧ 0 ≤ v'.1 ∧ v'.1 ≤ ((l.length - 1 : Nat) : Int) ∧ (v'.2.length : Int) = v'.1 ∧ (l.length : Int) ≤ 1048576) ∧ (((l.length - 1 : Nat) : Int) - v'.1).toNat < (((l.length - 1 : Nat) : Int) - v.1).toNat := by
 obtain ⟨h1, h2, h3⟩ := ider_step hr
 rw [w64_id (by omega) (by omega)] at h2
 omega
theorem sder_step {l : List Value} {v v' : Int × List Value} (hr : spec_PolyDerivative.rnd5 l v.1 v.2 = Sum.inl v') : v.1 < (l.length : Int) ∧ v'.1 = w64 (v.1 + 1) ∧ v'.2.length = v.2.length + 1 := by
 simp only [spec_PolyDerivative.rnd5] at hr
 cases h1 : decide (v.1 < (l.length : Int))
 ·rw [h1] at hr; simp at hr
 rw [h1] at hr
 simp only [cond_true, Sum.inl.injEq] at hr
 subst hr
 exact ⟨of_decide_eq_true h1, rfl, rfl⟩
theorem dec_sder {l : List Value} {v v' : Int × List Value} (hv : 1 ≤ v.1 ∧ (v.1 ≤ (l.length : Int) ∨ v.1 = 1) ∧ (v.2.length : Int) = v.1 - 1 ∧ (l.length : Int) ≤ 1048576) (hr : spec_PolyDerivative.rnd5 l v.1 v.2 = Sum.inl v') :
  (1 ≤ v'.1 ∧ (v'.1 ≤ (l.length : Int) ∨ v'.1 = 1) ∧ (v'.2.length : Int) = v'.1 - 1 ∧ (l.length : Int) ≤ 1048576) ∧ ((l.length : Int) - v'.1).toNat < ((l.length : Int) - v.1).toNat := by
 obtain ⟨h1, h2, h3⟩ := sder_step hr
 rw [w64_id (by omega) (by omega)] at h2
 omega
def oneD (l : List Value) (k : Nat) : Value := let t := spec_MulI (spec_Integer ((k + 1 : Nat) : Int)) (rowIv (nthR l false (k + 1))); .agg #[.int .i64 t.lo, .int .i64 t.hi]
def derD (l : List Value) (k : Nat) : Nat → List Value → List Value
 | 0, out => out
 | d + 1, out => derD l (k + 1) d (oneD l k :: out)
theorem derD_len (l : List Value) : ∀ (d k : Nat) (out : List Value), (derD l k d out).length = d + out.length := by
 intro d
 induction d with
 | zero => intro k out; simp [derD]
 | succ d ih => intro k out; rw [derD, ih]; simp; omega
theorem sder_loop (l : List Value) (hl : (l.length : Int) ≤ 1048576) : ∀ (d f k : Nat) (out : List Value), d < f → d + (k + 1) = l.length →
  iterV (fun v : Int × List Value => spec_PolyDerivative.rnd5 l v.1 v.2) f (((k + 1 : Nat) : Int), out) = ((l.length : Int), derD l k d out) := by
 intro d
 induction d with
 | zero =>
  intro f k out hf hi
  obtain ⟨f, rfl⟩ : ∃ m, f = m + 1 := ⟨f - 1, by omega⟩
  have h1 : decide (((k + 1 : Nat) : Int) < (l.length : Int)) = false := decide_eq_false (by omega)
  rw [iterV]
  dsimp only
  simp only [spec_PolyDerivative.rnd5, h1, cond_false, derD]
  rw [show ((k + 1 : Nat) : Int) = (l.length : Int) by omega]
 | succ d ih =>
  intro f k out hf hi
  obtain ⟨f, rfl⟩ : ∃ m, f = m + 1 := ⟨f - 1, by omega⟩
  have h1 : decide (((k + 1 : Nat) : Int) < (l.length : Int)) = true := decide_eq_true (by omega)
  have h2 : w64 (((k + 1 : Nat) : Int) + 1) = ((k + 1 + 1 : Nat) : Int) := by rw [w64_id (by omega) (by omega)]; rfl
  have e : atIv l false ((k + 1 : Nat) : Int) = rowIv (nthR l false (k + 1)) := rfl
  rw [iterV]
  dsimp only
  simp only [spec_PolyDerivative.rnd5, h1, cond_true, h2, e, derD]
  exact ih f (k + 1) _ (by omega) (by omega)
theorem ider_loop (l : List Value) (hl : (l.length : Int) ≤ 1048576) : ∀ (d f k : Nat) (out : List Value), d < f → d + (k + 1) = l.length →
  iterV (fun v : Int × List Value => impl_PolyDerivative.rnd7 l ((l.length - 1 : Nat) : Int) v.1 v.2) f ((k : Int), out) = (((l.length - 1 : Nat) : Int), derD l k d out) := by
 intro d
 induction d with
 | zero =>
  intro f k out hf hi
  obtain ⟨f, rfl⟩ : ∃ m, f = m + 1 := ⟨f - 1, by omega⟩
  have h1 : decide ((k : Int) < ((l.length - 1 : Nat) : Int)) = false := decide_eq_false (by omega)
  rw [iterV]
  dsimp only
  simp only [impl_PolyDerivative.rnd7, h1, cond_false, derD]
  rw [show (k : Int) = ((l.length - 1 : Nat) : Int) by omega]
 | succ d ih =>
  intro f k out hf hi
  obtain ⟨f, rfl⟩ : ∃ m, f = m + 1 := ⟨f - 1, by omega⟩
  have h1 : decide ((k : Int) < ((l.length - 1 : Nat) : Int)) = true := decide_eq_true (by omega)
  have h2 : w64 ((k : Int) + 1) = ((k + 1 : Nat) : Int) := by rw [w64_id (by omega) (by omega)]; rfl
  have e : atIvN l false (Int.toNat (k : Int) + 1) = rowIv (nthR l false (k + 1)) := by simp [atIvN]
  have hs : impl_PolyDerivative.rnd7 l ((l.length - 1 : Nat) : Int) (k : Int) out = Sum.inl (((k + 1 : Nat) : Int), oneD l k :: out) := by
   simp only [impl_PolyDerivative.rnd7, h1, cond_true, h2, e, MulI_eq, Integer_eq, oneD]
  rw [iterV]
  dsimp only
  rw [hs]
  exact ih f (k + 1) _ (by omega) (by omega)
theorem sder_fin (l : List Value) (hl : 1 ≤ (l.length : Int) ∧ (l.length : Int) ≤ 1048576) : spec_PolyDerivative.fin5 l (1, []) = ((l.length : Int), derD l 0 (l.length - 1) []) := by
 rw [spec_PolyDerivative.fin5]
 exact sder_loop l hl.2 (l.length - 1) 1048577 0 [] (by omega) (by omega)
theorem ider_fin (l : List Value) (hl : 1 ≤ (l.length : Int) ∧ (l.length : Int) ≤ 1048576) : impl_PolyDerivative.fin7 l ((l.length - 1 : Nat) : Int) (0, []) = (((l.length - 1 : Nat) : Int), derD l 0 (l.length - 1) []) := by
 rw [impl_PolyDerivative.fin7]
 exact ider_loop l hl.2 (l.length - 1) 1048577 0 [] (by omega) (by omega)
theorem contains_val (l : List Value) (hl : (l.length : Int) ≤ 1048576) : slices_ContainsFunc l () = !allOk l 0 l.length := index_loop l hl l.length 1048577 0 (by omega) (by omega)
theorem Der_eq (l : List Value) (hl : (l.length : Int) ≤ 1048576) : impl_PolyDerivative l = spec_PolyDerivative l := by
 simp only [impl_PolyDerivative, spec_PolyDerivative, Valid_eq l hl]
 cases hv : spec_l09Ok l
 ·rfl
 have hn := l09_len hl hv
 have hn' : 1 ≤ (l.length : Int) ∧ (l.length : Int) ≤ 1048576 := by omega
 simp only [Bool.not_true, cond_false, sder_fin l hn', ider_fin l hn', Integer_eq]
 by_cases h1 : l.length = 1
 ·have e1 : ((l.length : Int) == 1) = true := by rw [h1]; rfl
  rw [h1] at e1 ⊢
  rfl
 ·have e1 : ((l.length : Int) == 1) = false := by simp only [beq_eq_false_iff_ne, ne_eq]; omega
  have e2 : (((derD l 0 (l.length - 1) []).length : Int) == 0) = false := by rw [derD_len]; simp only [beq_eq_false_iff_ne, ne_eq, List.length_nil]; omega
  have e3 : decide (((derD l 0 (l.length - 1) []).length : Int) > 17) = false := by rw [derD_len]; exact decide_eq_false (by simp only [List.length_nil]; omega)
  have e4 : ((List.reverse (derD l 0 (l.length - 1) [])).length : Int) ≤ 1048576 := by rw [List.length_reverse, derD_len]; simp only [List.length_nil]; omega
  have e5 : spec_l00In ((List.reverse (derD l 0 (l.length - 1) [])).length : Int) 1 17 = true := by
   rw [l00In_iff, List.length_reverse, derD_len]; simp only [List.length_nil]; omega
  simp only [e1, e2, e3, cond_false, contains_val _ e4, l09Ok_val _ e4, e5, Bool.and_true]
theorem pd_sder1 {l : List Value} (hpre : decide ((l.length : Int) ≤ 1048576) = true) : decide (1 ≤ (1 : Int) ∧ ((1 : Int) ≤ (l.length : Int) ∨ (1 : Int) = 1) ∧ ((([] : List Value).length : Nat) : Int) = 1 - 1 ∧ (l.length : Int) ≤ 1048576) = true :=
 decide_eq_true ⟨by omega, Or.inr rfl, by simp, of_decide_eq_true hpre⟩
theorem pd_app {n : Nat} (h : ((n : Int) == 0) = true) : decide ((n + 1) * 16 ≤ 140737488355328) = true := by
 have := of_decide_eq_true (show decide ((n : Int) = 0) = true from by simpa using h)
 exact decide_eq_true (by omega)
theorem pd_17 {l : List Value} (h : decide ((l.length : Int) > 17) = false) : decide (((List.reverse l).length : Int) ≤ 1048576) = true := by
 have := of_decide_eq_false h
 exact decide_eq_true (by rw [List.length_reverse]; omega)
theorem pd_ider1 {l : List Value} (hpre : decide ((l.length : Int) ≤ 1048576) = true) (h : (!(impl_ValidPoly l)) = false) (h2 : ((l.length : Int) == 1) = false) : decide (0 ≤ (1 : Int) ∧ (1 : Int) < (l.length : Int)) = true := by
 have h3 := pd_valid hpre h
 have h4 : ¬ (l.length : Int) = 1 := by simpa using h2
 exact decide_eq_true (by omega)
theorem pd_ider2 {l : List Value} (hpre : decide ((l.length : Int) ≤ 1048576) = true) : decide (((l.length - 1 : Nat) : Int) = ((l.length - 1 : Nat) : Int) ∧ 0 ≤ (0 : Int) ∧ (0 : Int) ≤ ((l.length - 1 : Nat) : Int) ∧ ((([] : List Value).length : Nat) : Int) = 0 ∧ (l.length : Int) ≤ 1048576) = true :=
 decide_eq_true ⟨rfl, by omega, by omega, by simp, of_decide_eq_true hpre⟩
theorem pd_ider3 {l : List Value} (hpre : decide ((l.length : Int) ≤ 1048576) = true) (h : (!(impl_ValidPoly l)) = false) : decide (((List.reverse (impl_PolyDerivative.fin7 l ((l.length - 1 : Nat) : Int) (0, [])).2).length : Int) ≤ 1048576) = true := by
 have h3 := pd_valid hpre h
 rw [ider_fin l (by omega), List.length_reverse, derD_len]
 exact decide_eq_true (by simp only [List.length_nil]; omega)
theorem der_ok {l : List Value} (hl : (l.length : Int) ≤ 1048576) (h : ((spec_PolyDerivative l).2 == 0) = true) : spec_l09Ok l = true ∧ spec_l09Ok (List.reverse (spec_PolyDerivative l).1) = true ∧ ((List.reverse (spec_PolyDerivative l).1).length : Int) ≤ 1048576 := by
 cases hv : spec_l09Ok l
 ·simp only [spec_PolyDerivative, hv, Bool.not_false, cond_true] at h
  cases h
 have hn := l09_len hl hv
 have hn' : 1 ≤ (l.length : Int) ∧ (l.length : Int) ≤ 1048576 := by omega
 simp only [spec_PolyDerivative, hv, Bool.not_true, cond_false, sder_fin l hn'] at h ⊢
 refine ⟨trivial, ?_⟩
 by_cases h1 : l.length = 1
 ·rw [h1, show derD l 0 (1 - 1) [] = [] from rfl]
  exact ⟨by decide +kernel, by decide +kernel⟩
 ·have e2 : (((derD l 0 (l.length - 1) []).length : Int) == 0) = false := by rw [derD_len]; simp only [beq_eq_false_iff_ne, ne_eq, List.length_nil]; omega
  have e3 : decide (((derD l 0 (l.length - 1) []).length : Int) > 17) = false := by rw [derD_len]; exact decide_eq_false (by simp only [List.length_nil]; omega)
  have e4 : ((List.reverse (derD l 0 (l.length - 1) [])).length : Int) ≤ 1048576 := by rw [List.length_reverse, derD_len]; simp only [List.length_nil]; omega
  simp only [e2, e3, cond_false] at h ⊢
  cases h5 : spec_l09Ok (List.reverse (derD l 0 (l.length - 1) []))
  ·rw [h5] at h; cases h
  ·simp only [Bool.not_true, cond_false]
   exact ⟨h5, e4⟩
theorem pd_iuni {l : List Value} (hpre : decide ((l.length : Int) ≤ 1048576) = true) (h : ((impl_PolyDerivative l).2 == 0) = true) : decide (((List.reverse (impl_PolyDerivative l).1).length : Int) ≤ 1048576) = true := by
 have hl := of_decide_eq_true hpre
 rw [Der_eq l hl] at h ⊢
 exact decide_eq_true (der_ok hl h).2.2
theorem Unique_eq (l : List Value) (hl : (l.length : Int) ≤ 1048576) (x : Iv) : impl_UniqueRoot l x = spec_UniqueRoot l x := by
 simp only [impl_UniqueRoot, spec_UniqueRoot, Der_eq l hl, SignChange_eq l hl]
 cases h : ((spec_PolyDerivative l).2 == 0)
 ·rfl
 obtain ⟨h1, h2, h3⟩ := der_ok hl h
 simp only [cond_true, spec_SignChange, h1, Bool.not_true, cond_false, spec_l09Unique]
 cases hx : spec_l04Ok x
 ·rfl
 simp only [Bool.not_true, cond_false, cond_true, SignI_eq, PolyAt_eq h3 h2 hx]
end Go.G880
/- Polynomials: a root by bisection. -/
set_option linter.unusedSimpArgs false
set_option linter.unusedVariables false
/- Polynomials: Newton's method, what its walk asks for. -/
set_option linter.unusedSimpArgs false
set_option linter.unusedVariables false
