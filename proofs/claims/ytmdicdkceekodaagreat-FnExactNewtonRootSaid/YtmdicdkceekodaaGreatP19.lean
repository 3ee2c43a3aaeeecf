/- Polynomials: their signs at the ends of an interval. -/
import Derived.Test.YtmdicdkceekodaaGreatP18
set_option linter.unusedSimpArgs false
set_option linter.unusedVariables false
namespace Go.G880
open Go Go.RX

theorem eq_of_bne {x y : Int} (h : (x != y) = false) : x = y := by simpa using h
/-! ### The loops end -/
theorem dec_l09Ok {l : List Value} {v v' : Int} (hv : 0 ≤ v ∧ v ≤ (l.length : Int) ∧ (l.length : Int) ≤ 1048576) (hr : spec_l09Ok.rnd2 l v = Sum.inl v') :
    (0 ≤ v' ∧ v' ≤ (l.length : Int) ∧ (l.length : Int) ≤ 1048576) ∧ ((l.length : Int) - v').toNat < ((l.length : Int) - v).toNat := by
  simp only [spec_l09Ok.rnd2] at hr
  cases h1 : decide (v < (l.length : Int))
  · rw [h1] at hr; simp at hr
  have h1' := of_decide_eq_true h1
  rw [h1, w64_id (n := v + 1) (by omega) (by omega)] at hr
  have key : v' = v + 1 := by
    cases h3 : (!(spec_l04Ok (atIv l false v)))
    · rw [h3] at hr
      simp only [cond_true, cond_false, Sum.inl.injEq] at hr
      exact hr.symm
    · rw [h3] at hr
      simp at hr
  omega
theorem dec_Index {l : List Value} {n v v' : Int} (hv : n = (l.length : Int) ∧ 0 ≤ v ∧ v ≤ (l.length : Int) ∧ (l.length : Int) ≤ 1048576) (hr : slices_IndexFunc.rnd2 l n v = Sum.inl v') :
    (n = (l.length : Int) ∧ 0 ≤ v' ∧ v' ≤ (l.length : Int) ∧ (l.length : Int) ≤ 1048576) ∧ ((l.length : Int) - v').toNat < ((l.length : Int) - v).toNat := by
  simp only [slices_IndexFunc.rnd2] at hr
  cases h1 : decide (v < n)
  · rw [h1] at hr; simp at hr
  have h1' := of_decide_eq_true h1
  rw [h1, w64_id (n := v + 1) (by omega) (by omega)] at hr
  have key : v' = v + 1 := by
    cases h3 : (impl_IsWhole (atIv l false v))
    · rw [h3] at hr
      simp only [cond_true, cond_false, Sum.inl.injEq] at hr
      exact hr.symm
    · rw [h3] at hr
      simp at hr
  omega
theorem dec_eqS {a b : List Value} {v v' : Int} (hv : 0 ≤ v ∧ v ≤ (a.length : Int) ∧ (a.length : Int) = (b.length : Int) ∧ (a.length : Int) ≤ 1048576) (hr : laws_eqIntervalS.rnd4 a b v = Sum.inl v') :
    (0 ≤ v' ∧ v' ≤ (a.length : Int) ∧ (a.length : Int) = (b.length : Int) ∧ (a.length : Int) ≤ 1048576) ∧ ((a.length : Int) - v').toNat < ((a.length : Int) - v).toNat := by
  simp only [laws_eqIntervalS.rnd4] at hr
  cases h1 : decide (v < (a.length : Int))
  · rw [h1] at hr; simp at hr
  have h1' := of_decide_eq_true h1
  rw [h1, w64_id (n := v + 1) (by omega) (by omega)] at hr
  have key : v' = v + 1 := by
    cases h3 : (!(laws_eqInterval (atIv a false v) (atIv b false v)))
    · rw [h3] at hr
      simp only [cond_true, cond_false, Sum.inl.injEq] at hr
      exact hr.symm
    · rw [h3] at hr
      simp at hr
  omega
theorem dec_toS {a : List Value} {v v' : Int × List Value} (hv : 0 ≤ v.1 ∧ v.1 ≤ (a.length : Int) ∧ (v.2.length : Int) = (a.length : Int) ∧ (a.length : Int) ≤ 1048576) (hr : laws_toIntervalS.rnd3 a v.1 v.2 = Sum.inl v') :
    (0 ≤ v'.1 ∧ v'.1 ≤ (a.length : Int) ∧ (v'.2.length : Int) = (a.length : Int) ∧ (a.length : Int) ≤ 1048576) ∧ ((a.length : Int) - v'.1).toNat < ((a.length : Int) - v.1).toNat := by
  simp only [laws_toIntervalS.rnd3] at hr
  cases h1 : decide (v.1 < (a.length : Int))
  · rw [h1] at hr; simp at hr
  have h1' := of_decide_eq_true h1
  rw [h1, w64_id (n := v.1 + 1) (by omega) (by omega)] at hr
  simp only [cond_true, Sum.inl.injEq] at hr
  subst hr
  simp only [setR_len]
  omega
theorem dec_l09At {l : List Value} {xl xh : Int} {v v' : Int × Int × Int} (hv : -1 ≤ v.1 ∧ v.1 < (l.length : Int) ∧ (l.length : Int) ≤ 1048576) (hr : spec_l09At.rnd3 l xl xh v.1 v.2.1 v.2.2 = Sum.inl v') :
    (-1 ≤ v'.1 ∧ v'.1 < (l.length : Int) ∧ (l.length : Int) ≤ 1048576) ∧ (v'.1 + 1).toNat < (v.1 + 1).toNat := by
  simp only [spec_l09At.rnd3] at hr
  cases h1 : decide (v.1 ≥ 0)
  · rw [h1] at hr; simp at hr
  have h1' := of_decide_eq_true h1
  rw [h1, w64_id (n := v.1 - 1) (by omega) (by omega)] at hr
  simp only [cond_true, Sum.inl.injEq] at hr
  subst hr
  simp only []
  omega
theorem rnd_PolyAt : impl_PolyAt.rnd5 = spec_l09At.rnd3 := by
  funext l xl xh i pl ph
  simp only [impl_PolyAt.rnd5, spec_l09At.rnd3, AddI_eq, MulI_eq]
theorem dec_PolyAt {l : List Value} {xl xh : Int} {v v' : Int × Int × Int} (hv : -1 ≤ v.1 ∧ v.1 < (l.length : Int) ∧ (l.length : Int) ≤ 1048576) (hr : impl_PolyAt.rnd5 l xl xh v.1 v.2.1 v.2.2 = Sum.inl v') :
    (-1 ≤ v'.1 ∧ v'.1 < (l.length : Int) ∧ (l.length : Int) ≤ 1048576) ∧ (v'.1 + 1).toNat < (v.1 + 1).toNat := dec_l09At hv (by rw [← rnd_PolyAt]; exact hr)

/-! ### Polynomials -/
/-- The first element from i on that is not bounded, told by a loop. -/
def allOk (l : List Value) (i : Nat) : Nat → Bool
  | 0 => true
  | n + 1 => spec_l04Ok (atIv l false (i : Int)) && allOk l (i + 1) n

theorem l09_loop (l : List Value) (hl : (l.length : Int) ≤ 1048576) : ∀ (d f i : Nat), d < f → d + i = l.length →
    caseR (fun t1 => true) (fun t2 : Int × Bool => t2.2) (iterR (fun v => spec_l09Ok.rnd2 l v) f (i : Int)) = allOk l i d := by
  intro d
  induction d with
  | zero =>
    intro f i hf hi
    obtain ⟨f, rfl⟩ : ∃ m, f = m + 1 := ⟨f - 1, by omega⟩
    have h1 : decide ((i : Int) < (l.length : Int)) = false := decide_eq_false (by omega)
    rw [iterR]
    simp only [spec_l09Ok.rnd2, h1, cond_false]
    rfl
  | succ d ih =>
    intro f i hf hi
    obtain ⟨f, rfl⟩ : ∃ m, f = m + 1 := ⟨f - 1, by omega⟩
    have h1 : decide ((i : Int) < (l.length : Int)) = true := decide_eq_true (by omega)
    have h2 : w64 ((i : Int) + 1) = ((i + 1 : Nat) : Int) := by rw [w64_id (by omega) (by omega)]; rfl
    rw [iterR]
    simp only [allOk]
    cases h3 : spec_l04Ok (atIv l false (i : Int))
    · have hs : spec_l09Ok.rnd2 l (i : Int) = Sum.inr (Sum.inr ((i : Int), false)) := by
        simp only [spec_l09Ok.rnd2, h1, h3, Bool.not_false, cond_true]
      rw [hs]; rfl
    · have hs : spec_l09Ok.rnd2 l (i : Int) = Sum.inl (((i + 1 : Nat) : Int)) := by
        simp only [spec_l09Ok.rnd2, h1, h2, h3, Bool.not_true, cond_true, cond_false]
      rw [hs]
      simp only [Bool.true_and]
      exact ih f (i + 1) (by omega) (by omega)
theorem index_loop (l : List Value) (hl : (l.length : Int) ≤ 1048576) : ∀ (d f i : Nat), d < f → d + i = l.length →
    decide (caseR (fun t1 => (-1 : Int)) (fun t2 : Int × Int => t2.2) (iterR (fun v => slices_IndexFunc.rnd2 l (l.length : Int) v) f (i : Int)) ≥ 0) = !allOk l i d := by
  intro d
  induction d with
  | zero =>
    intro f i hf hi
    obtain ⟨f, rfl⟩ : ∃ m, f = m + 1 := ⟨f - 1, by omega⟩
    have h1 : decide ((i : Int) < (l.length : Int)) = false := decide_eq_false (by omega)
    rw [iterR]
    simp only [slices_IndexFunc.rnd2, h1, cond_false]
    rfl
  | succ d ih =>
    intro f i hf hi
    obtain ⟨f, rfl⟩ : ∃ m, f = m + 1 := ⟨f - 1, by omega⟩
    have h1 : decide ((i : Int) < (l.length : Int)) = true := decide_eq_true (by omega)
    have h2 : w64 ((i : Int) + 1) = ((i + 1 : Nat) : Int) := by rw [w64_id (by omega) (by omega)]; rfl
    rw [iterR]
    simp only [allOk]
    cases h3 : spec_l04Ok (atIv l false (i : Int))
    · have hs : slices_IndexFunc.rnd2 l (l.length : Int) (i : Int) = Sum.inr (Sum.inr ((i : Int), (i : Int))) := by
        simp only [slices_IndexFunc.rnd2, h1, isWhole_eq, h3, Bool.not_false, cond_true]
      rw [hs]
      simp only [caseR, Bool.false_and, Bool.not_false]
      exact decide_eq_true (by omega)
    · have hs : slices_IndexFunc.rnd2 l (l.length : Int) (i : Int) = Sum.inl (((i + 1 : Nat) : Int)) := by
        simp only [slices_IndexFunc.rnd2, h1, h2, isWhole_eq, h3, Bool.not_true, cond_true, cond_false]
      rw [hs]
      simp only [Bool.true_and]
      exact ih f (i + 1) (by omega) (by omega)

theorem caseR_ok' {V : Type} (b : Bool) (s : V ⊕ (Int × Bool)) (h : ∀ q, s = .inr q → q.2 = false) : caseR (fun _ => b) (fun t2 : Int × Bool => t2.2) s = (caseR (fun _ => true) (fun t2 : Int × Bool => t2.2) s && b) := by
  cases s with
  | inl v => simp [caseR]
  | inr q => simp [caseR, h q rfl]
theorem l09_false (l : List Value) : ∀ (f : Nat) (i : Int) (q : Int × Bool), iterR (fun v => spec_l09Ok.rnd2 l v) f i = .inr q → q.2 = false := by
  intro f
  induction f with
  | zero => intro i q h; simp [iterR] at h
  | succ f ih =>
    intro i q h
    rw [iterR] at h
    simp only [spec_l09Ok.rnd2] at h
    cases h1 : decide (i < (l.length : Int))
    · rw [h1] at h; simp at h
    · rw [h1] at h
      cases h2 : spec_l04Ok (atIv l false i)
      · rw [h2] at h
        simp only [Bool.not_false, cond_true, Sum.inr.injEq] at h
        rw [← h]
      · rw [h2] at h
        simp only [Bool.not_true, cond_true, cond_false] at h
        exact ih _ q h
theorem l09Ok_val (l : List Value) (hl : (l.length : Int) ≤ 1048576) : spec_l09Ok l = (allOk l 0 l.length && spec_l00In (l.length : Int) 1 17) := by
  simp only [spec_l09Ok, spec_l09Ok.fin2]
  rw [caseR_ok' _ _ (fun q hq => l09_false l _ _ q hq)]
  congr 1
  exact l09_loop l hl l.length 1048577 0 (by omega) (by omega)
theorem Valid_eq (l : List Value) (hl : (l.length : Int) ≤ 1048576) : impl_ValidPoly l = spec_l09Ok l := by
  rw [l09Ok_val l hl]
  have h0 : slices_ContainsFunc l () = !allOk l 0 l.length := index_loop l hl l.length 1048577 0 (by omega) (by omega)
  simp only [impl_ValidPoly, impl_length, within_eq, h0]
  cases allOk l 0 l.length <;> cases spec_l00In (l.length : Int) 1 17 <;> rfl
theorem l09_len {l : List Value} (hl : (l.length : Int) ≤ 1048576) (h : spec_l09Ok l = true) : 1 ≤ (l.length : Int) ∧ (l.length : Int) ≤ 17 := by
  rw [l09Ok_val l hl, Bool.and_eq_true] at h
  exact (l00In_iff _ _ _).1 h.2
theorem pd_valid {l : List Value} (hpre : decide ((l.length : Int) ≤ 1048576) = true) (h : (!(impl_ValidPoly l)) = false) : 1 ≤ (l.length : Int) ∧ (l.length : Int) ≤ 17 := by
  have hl := of_decide_eq_true hpre
  rw [Valid_eq l hl] at h
  exact l09_len hl (by simpa using h)
theorem pd_l09Ok {l : List Value} (hpre : decide ((l.length : Int) ≤ 1048576) = true) (h : (!(spec_l09Ok l)) = false) : decide (1 ≤ (l.length : Int) ∧ (l.length : Int) ≤ 1048576) = true := by
  have hl := of_decide_eq_true hpre
  have := l09_len hl (by simpa using h)
  exact decide_eq_true (by omega)
theorem PolyAt_eq {l : List Value} (hl : (l.length : Int) ≤ 1048576) (hv : spec_l09Ok l = true) {x : Iv} (hx : spec_l04Ok x = true) : impl_PolyAt l x = spec_l09At l x := by
  simp only [impl_PolyAt, spec_l09At, impl_PolyAt.fin5, spec_l09At.fin3, Valid_eq l hl, hv, isWhole_eq, hx, Bool.not_true, cond_false, rnd_PolyAt]
theorem PolyAt_no {l : List Value} (hl : (l.length : Int) ≤ 1048576) (x : Iv) (hv : spec_l09Ok l = false) : impl_PolyAt l x = spec_l04Whole := by
  simp only [impl_PolyAt, Valid_eq l hl, hv, Bool.not_false, cond_true, whole_eq]
theorem SignI_eq (x : Iv) : impl_SignI x = spec_l09Sign x := by
  simp only [impl_SignI, spec_l09Sign, isWhole_eq]
theorem sign_rng (x : Iv) : spec_l09Sign x = 0 ∨ spec_l09Sign x = 1 ∨ spec_l09Sign x = -1 := by
  simp only [spec_l09Sign, Bool.cond_eq_ite]
  (repeat' split) <;> simp
theorem signAt_eq {l : List Value} (hl : (l.length : Int) ≤ 1048576) (hv : spec_l09Ok l = true) {n : Int} (hn : -1152921504606846976 < n ∧ n < 1152921504606846976) : impl_signAt l n = spec_l09SignAt l n := by
  have e : impl_at n = spec_l08At n := by
    simp only [impl_at, spec_l08At]
    rw [make_ok (by omega)]
  have hok : spec_l04Ok (spec_l08At n) = true := by rw [← e]; exact (ok_iff _).2 (by simp only [impl_at]; omega)
  simp only [impl_signAt, spec_l09SignAt, SignI_eq, e, PolyAt_eq hl hv hok]
theorem SignChange_eq (l : List Value) (hl : (l.length : Int) ≤ 1048576) (x : Iv) : impl_SignChange l x = spec_SignChange l x := by
  simp only [impl_SignChange, spec_SignChange, isWhole_eq]
  cases hv : spec_l09Ok l
  · cases hx : spec_l04Ok x
    · rfl
    · have h0 : ∀ n, impl_signAt l n = 0 := fun n => by simp only [impl_signAt, PolyAt_no hl _ hv]; rfl
      simp only [h0, Bool.not_true, Bool.not_false, cond_true, cond_false]
      rfl
  cases hx : spec_l04Ok x
  · rfl
  have hh := (ok_iff x).1 hx
  simp only [Bool.not_true, cond_false, spec_l09Change, signAt_eq hl hv (n := x.lo) (by omega), signAt_eq hl hv (n := x.hi) (by omega)]
  have r1 := sign_rng (spec_l09At l (spec_l08At x.lo))
  have r2 := sign_rng (spec_l09At l (spec_l08At x.hi))
  simp only [spec_l09SignAt]
  rcases r1 with h1 | h1 | h1 <;> rcases r2 with h2 | h2 | h2 <;> rw [h1, h2] <;> rfl

/-! ### The law's own lists -/
theorem pd_sz {l : List Value} (hpre : decide ((l.length : Int) ≤ 9223372036854775807) = true) (h : decide (laws_szIntervalS l 1048576 < 0) = false) : decide ((l.length : Int) ≤ 1048576) = true := by
  have hl := of_decide_eq_true hpre
  have h' := of_decide_eq_false h
  simp only [laws_szIntervalS] at h'
  rw [w64_id (by omega) (by omega)] at h'
  cases hd : decide (1048576 - (l.length : Int) < 0)
  · exact decide_eq_true (by have := of_decide_eq_false hd; omega)
  · rw [hd] at h'; simp at h'
theorem pd_toS1 {a : List Value} (hpre : decide ((a.length : Int) ≤ 1048576) = true) : decide ((a.length : Int) = (a.length : Int) ∧ 0 ≤ (a.length : Int) ∧ (a.length : Int) * ((16 : Nat) : Int) ≤ 281474976710656) = true := by
  have := of_decide_eq_true hpre
  exact decide_eq_true ⟨rfl, by omega, by omega⟩
theorem pd_toS2 {a : List Value} {z : Value} (hpre : decide ((a.length : Int) ≤ 1048576) = true) : decide (0 ≤ (0 : Int) ∧ (0 : Int) ≤ (a.length : Int) ∧ ((List.replicate (Int.toNat (a.length : Int)) z).length : Int) = (a.length : Int) ∧ (a.length : Int) ≤ 1048576) = true := by
  have := of_decide_eq_true hpre
  exact decide_eq_true ⟨by omega, by omega, by simp, by omega⟩
theorem toS_fin (a : List Value) (hl : (a.length : Int) ≤ 1048576) : ∀ (f : Nat) (i : Int) (out : List Value), 0 ≤ i → i ≤ (a.length : Int) → out.length = a.length → (iterV (fun v : Int × List Value => laws_toIntervalS.rnd3 a v.1 v.2) f (i, out)).2.length = a.length := by
  intro f
  induction f with
  | zero => intro i out _ _ h; exact h
  | succ f ih =>
    intro i out h0 h1 h
    rw [iterV]
    dsimp only
    simp only [laws_toIntervalS.rnd3]
    cases hd : decide (i < (a.length : Int))
    · simp only [cond_false]; exact h
    · have := of_decide_eq_true hd
      simp only [cond_true]
      rw [w64_id (n := i + 1) (by omega) (by omega)]
      exact ih (i + 1) _ (by omega) (by omega) (by rw [setR_len]; exact h)
theorem toS_len {a : List Value} (hl : (a.length : Int) ≤ 1048576) : (laws_toIntervalS a).length = a.length := by
  simp only [laws_toIntervalS, laws_toIntervalS.fin3]
  exact toS_fin a hl _ _ _ (by omega) (by omega) (by simp)
theorem pd_rev {l : List Value} (hpre : decide ((l.length : Int) ≤ 9223372036854775807) = true) (h : decide (laws_szIntervalS l 1048576 < 0) = false) : decide (((List.reverse (laws_toIntervalS l)).length : Int) ≤ 1048576) = true := by
  have hl := of_decide_eq_true (pd_sz hpre h)
  rw [List.length_reverse, toS_len hl]
  exact decide_eq_true hl
theorem pd_rev2 {l : List Value} (hpre : decide ((l.length : Int) ≤ 9223372036854775807) = true) (h : decide (laws_szIntervalS l 1048576 < 0) = false) : decide (((List.reverse (laws_toIntervalS l)).length : Int) ≤ 1048576 ∧ ((List.reverse (laws_toIntervalS l)).length : Int) ≤ 1048576) = true := by
  have hl := of_decide_eq_true (pd_sz hpre h)
  rw [List.length_reverse, toS_len hl]
  exact decide_eq_true ⟨hl, hl⟩
theorem eqS_loop (a : List Value) (hl : (a.length : Int) ≤ 1048576) : ∀ (d f i : Nat), d < f → d + i = a.length →
    caseR (fun t1 => true) (fun t2 : Int × Bool => t2.2) (iterR (fun v => laws_eqIntervalS.rnd4 a a v) f (i : Int)) = true := by
  intro d
  induction d with
  | zero =>
    intro f i hf hi
    obtain ⟨f, rfl⟩ : ∃ m, f = m + 1 := ⟨f - 1, by omega⟩
    have h1 : decide ((i : Int) < (a.length : Int)) = false := decide_eq_false (by omega)
    rw [iterR]
    simp only [laws_eqIntervalS.rnd4, h1, cond_false]
    rfl
  | succ d ih =>
    intro f i hf hi
    obtain ⟨f, rfl⟩ : ∃ m, f = m + 1 := ⟨f - 1, by omega⟩
    have h1 : decide ((i : Int) < (a.length : Int)) = true := decide_eq_true (by omega)
    have h2 : w64 ((i : Int) + 1) = ((i + 1 : Nat) : Int) := by rw [w64_id (by omega) (by omega)]; rfl
    have hs : laws_eqIntervalS.rnd4 a a (i : Int) = Sum.inl (((i + 1 : Nat) : Int)) := by
      simp only [laws_eqIntervalS.rnd4, h1, h2, eqI_refl, Bool.not_true, cond_true, cond_false]
    rw [iterR, hs]
    exact ih f (i + 1) (by omega) (by omega)
theorem eqS_refl {a : List Value} (hl : (a.length : Int) ≤ 1048576) : laws_eqIntervalS a a = true := by
  have : ((a.length : Int) != (a.length : Int)) = false := by simp
  simp only [laws_eqIntervalS, laws_eqIntervalS.fin4, this, cond_false]
  exact eqS_loop a hl a.length 1048577 0 (by omega) (by omega)
theorem law_ne0 {x y : Int} (h : x = y) : (x != y) = false := by subst h; simp
theorem laws_FnExactSignChange.holds (a0 : List Value) (a1 : Iv) (w0 : (a0.length : Int) ≤ 9223372036854775807) (w1 : a1.In) : laws_FnExactSignChange a0 a1 = true := by
  simp only [laws_FnExactSignChange]
  cases h : decide (laws_szIntervalS a0 1048576 < 0)
  · have hl := of_decide_eq_true (pd_sz (decide_eq_true w0) h)
    have hr : ((List.reverse (laws_toIntervalS a0)).length : Int) ≤ 1048576 := by rw [List.length_reverse, toS_len hl]; exact hl
    simp only [cond_false, law_ne0 (SignChange_eq _ hr _), eqS_refl hr, Bool.not_true]
  · rfl

end Go.G880
