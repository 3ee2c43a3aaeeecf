/- Polynomials: a root by bisection. -/
import Derived.Test.YtmdicdkceekodaaGreatP20
set_option linter.unusedSimpArgs false
set_option linter.unusedVariables false
namespace Go.G880
open Go Go.RX

theorem dec_sbis {l : List Value} {low : Int} {v v' : Int × Int × Int} (hv : 0 ≤ v.1 ∧ v.1 ≤ 60 ∧ 1 ≤ (l.length : Int) ∧ (l.length : Int) ≤ 1048576) (hr : spec_BisectRoot.rnd5 l low v.1 v.2.1 v.2.2 = Sum.inl v') :
    (0 ≤ v'.1 ∧ v'.1 ≤ 60 ∧ 1 ≤ (l.length : Int) ∧ (l.length : Int) ≤ 1048576) ∧ v'.1.toNat < v.1.toNat := by
  simp only [spec_BisectRoot.rnd5] at hr
  cases h1 : decide (v.1 > 0)
  · rw [h1] at hr; simp at hr
  have h1' := of_decide_eq_true h1
  rw [h1, w64_id (n := v.1 - 1) (by omega) (by omega)] at hr
  simp only [cond_true, Bool.cond_eq_ite] at hr
  have key : v'.1 = v.1 - 1 := by
    (repeat' split at hr) <;> first | (simp at hr; done) | (simp only [Sum.inl.injEq] at hr; rw [← hr])
  omega
theorem dec_ibis {l : List Value} {n : Int} {v v' : Int × Int × Int} (hv : 0 ≤ v.1 ∧ v.1 ≤ n ∧ n ≤ 60 ∧ (l.length : Int) ≤ 1048576) (hr : impl_BisectRoot.rnd5 l n v.1 v.2.1 v.2.2 = Sum.inl v') :
    (0 ≤ v'.1 ∧ v'.1 ≤ n ∧ n ≤ 60 ∧ (l.length : Int) ≤ 1048576) ∧ (n - v'.1).toNat < (n - v.1).toNat := by
  simp only [impl_BisectRoot.rnd5] at hr
  cases h1 : decide (v.1 < n)
  · rw [h1] at hr; simp at hr
  have h1' := of_decide_eq_true h1
  rw [h1, w64_id (n := v.1 + 1) (by omega) (by omega)] at hr
  simp only [cond_true, Bool.cond_eq_ite] at hr
  have key : v'.1 = v.1 + 1 := by
    (repeat' split at hr) <;> first | (simp at hr; done) | (simp only [Sum.inl.injEq] at hr; rw [← hr])
  omega

theorem Ask_eq (l : List Value) (hl : (l.length : Int) ≤ 1048576) (x : Iv) (n : Int) : impl_uniqueCode l x n = spec_l09Ask l x n := by
  simp only [impl_uniqueCode, impl_rootCode, spec_l09Ask, Valid_eq l hl, isWhole_eq, within_eq, Unique_eq l hl]
  cases spec_l09Ok l
  · rfl
  cases spec_l04Ok x
  · rfl
  cases spec_l00In n 0 60
  · rfl
  cases spec_UniqueRoot l x <;> rfl
theorem ask_ok {l : List Value} (hl : (l.length : Int) ≤ 1048576) {x : Iv} {n : Int} (h : ((spec_l09Ask l x n) != 0) = false) : spec_l09Ok l = true ∧ spec_l04Ok x = true ∧ 0 ≤ n ∧ n ≤ 60 ∧ spec_UniqueRoot l x = true := by
  simp only [spec_l09Ask] at h
  cases h1 : spec_l09Ok l
  · rw [h1] at h; cases h
  cases h2 : spec_l04Ok x
  · rw [h1, h2] at h; cases h
  cases h3 : spec_l00In n 0 60
  · rw [h1, h2, h3] at h; cases h
  cases h4 : spec_UniqueRoot l x
  · rw [h1, h2, h3, h4] at h; cases h
  have := (l00In_iff _ _ _).1 h3
  exact ⟨rfl, rfl, this.1, this.2, rfl⟩
theorem pd_sb1 {l : List Value} {x : Iv} {n : Int} (hpre : decide ((l.length : Int) ≤ 1048576) = true) (h : ((spec_l09Ask l x n) != 0) = false) : decide (1 ≤ (l.length : Int) ∧ (l.length : Int) ≤ 1048576) = true := by
  have hl := of_decide_eq_true hpre
  have := l09_len hl (ask_ok hl h).1
  exact decide_eq_true (by omega)
theorem pd_sb2 {l : List Value} {x : Iv} {n : Int} (hpre : decide ((l.length : Int) ≤ 1048576) = true) (h : ((spec_l09Ask l x n) != 0) = false) : decide (0 ≤ n ∧ n ≤ 60 ∧ 1 ≤ (l.length : Int) ∧ (l.length : Int) ≤ 1048576) = true := by
  have hl := of_decide_eq_true hpre
  obtain ⟨h1, h2, h3, h4, _⟩ := ask_ok hl h
  have := l09_len hl h1
  exact decide_eq_true (by omega)
theorem pd_ib {l : List Value} {x : Iv} {n : Int} (hpre : decide ((l.length : Int) ≤ 1048576) = true) (h : ((impl_uniqueCode l x n) != 0) = false) : decide (0 ≤ (0 : Int) ∧ (0 : Int) ≤ n ∧ n ≤ 60 ∧ (l.length : Int) ≤ 1048576) = true := by
  have hl := of_decide_eq_true hpre
  rw [Ask_eq l hl] at h
  obtain ⟨h1, h2, h3, h4, _⟩ := ask_ok hl h
  exact decide_eq_true (by omega)

theorem bis_loop (l : List Value) (hl : (l.length : Int) ≤ 1048576) (hv : spec_l09Ok l = true) (low n : Int) (hn : n ≤ 60) : ∀ (f : Nat) (k lo hi : Int), 0 ≤ k → k ≤ n → spec_l04Ok ⟨lo, hi⟩ = true → spec_l09SignAt l lo = low →
    (iterV (fun v : Int × Int × Int => impl_BisectRoot.rnd5 l n v.1 v.2.1 v.2.2) f (n - k, lo, hi)).2 = (iterV (fun v : Int × Int × Int => spec_BisectRoot.rnd5 l low v.1 v.2.1 v.2.2) f (k, lo, hi)).2 := by
  intro f
  induction f with
  | zero => intro k lo hi _ _ _ _; rfl
  | succ f ih =>
    intro k lo hi h0 hkn hok hlow
    have hh := (ok_iff _).1 hok
    simp only at hh
    have hw : w64 (lo + hi) = lo + hi := w64_id (by omega) (by omega)
    have hm : Int.fdiv (lo + hi) 2 = (lo + hi) / 2 := fdiv_pos _ (by omega)
    rw [iterV, iterV]
    dsimp only
    simp only [impl_BisectRoot.rnd5, spec_BisectRoot.rnd5, impl_MidI, isWhole_eq, hok, Bool.not_true, cond_false, hw, hm]
    by_cases hk : k = 0
    · subst hk
      have e1 : decide (n - 0 < n) = false := decide_eq_false (by omega)
      have e2 : decide ((0 : Int) > 0) = false := rfl
      simp only [e1, e2, cond_false]
    have e1 : decide (n - k < n) = true := decide_eq_true (by omega)
    have e2 : decide (k > 0) = true := decide_eq_true (by omega)
    have hb1 : lo ≤ (lo + hi) / 2 := by omega
    have hb2 : (lo + hi) / 2 ≤ hi := by omega
    have e3 : impl_signAt l ((lo + hi) / 2) = spec_l09SignAt l ((lo + hi) / 2) := signAt_eq hl hv (by omega)
    have e4 : impl_signAt l lo = low := by rw [signAt_eq hl hv (by omega), hlow]
    have e5 : w64 (n - k + 1) = n - (k - 1) := by rw [w64_id (by omega) (by omega)]; omega
    have e6 : w64 (k - 1) = k - 1 := w64_id (by omega) (by omega)
    simp only [e1, e2, cond_true, e3, e4, e5, e6]
    cases c1 : ((lo + hi) / 2 == lo)
    case true => rfl
    cases c2 : ((lo + hi) / 2 == hi)
    case true => rfl
    cases c3 : (spec_l09SignAt l ((lo + hi) / 2) == 0)
    case true => rfl
    simp only [cond_false]
    cases c4 : (spec_l09SignAt l ((lo + hi) / 2) == low)
    · simp only [cond_false]
      exact ih (k - 1) lo ((lo + hi) / 2) (by omega) (by omega) ((ok_iff _).2 (by simp only; omega)) hlow
    · simp only [cond_true]
      exact ih (k - 1) ((lo + hi) / 2) hi (by omega) (by omega) ((ok_iff _).2 (by simp only; omega)) (by simpa using c4)
theorem Bisect_eq (l : List Value) (hl : (l.length : Int) ≤ 1048576) (x : Iv) (n : Int) : impl_BisectRoot l x n = spec_BisectRoot l x n := by
  simp only [impl_BisectRoot, spec_BisectRoot, Ask_eq l hl]
  cases h : ((spec_l09Ask l x n) != 0)
  case true => rfl
  obtain ⟨h1, h2, h3, h4, _⟩ := ask_ok hl h
  have := bis_loop l hl h1 (spec_l09SignAt l x.lo) n h4 62 n x.lo x.hi h3 (by omega) h2 rfl
  rw [Int.sub_self] at this
  simp only [cond_false, impl_BisectRoot.fin5, spec_BisectRoot.fin5, this]
theorem laws_FnExactBisectRoot.holds (a0 : List Value) (a1 : Iv) (a2 : Int) (w0 : (a0.length : Int) ≤ 9223372036854775807) (w1 : a1.In) (w2 : In64 a2) : laws_FnExactBisectRoot a0 a1 a2 = true := by
  simp only [laws_FnExactBisectRoot]
  cases h : decide (laws_szIntervalS a0 1048576 < 0)
  · have hl := of_decide_eq_true (pd_sz (decide_eq_true w0) h)
    have hr : ((List.reverse (laws_toIntervalS a0)).length : Int) ≤ 1048576 := by rw [List.length_reverse, toS_len hl]; exact hl
    simp only [cond_false, Bisect_eq _ hr, eqI_refl, eqS_refl hr, law_ne0 rfl, Bool.not_true]
  · rfl
end Go.G880
