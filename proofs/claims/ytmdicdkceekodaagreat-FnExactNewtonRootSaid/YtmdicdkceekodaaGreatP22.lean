/- Polynomials: Newton's method, what its walk asks for. -/
import Derived.Test.YtmdicdkceekodaaGreatP21
set_option linter.unusedSimpArgs false
set_option linter.unusedVariables false
namespace Go.G880
open Go Go.RX

theorem dec_snew {l s : List Value} {v v' : Int × Int × Int} (hv : 0 ≤ v.1 ∧ v.1 ≤ 60 ∧ 1 ≤ (l.length : Int) ∧ (l.length : Int) ≤ 1048576 ∧ 1 ≤ (s.length : Int) ∧ (s.length : Int) ≤ 1048576) (hr : spec_NewtonRoot.rnd5 l s v.1 v.2.1 v.2.2 = Sum.inl v') :
    (0 ≤ v'.1 ∧ v'.1 ≤ 60 ∧ 1 ≤ (l.length : Int) ∧ (l.length : Int) ≤ 1048576 ∧ 1 ≤ (s.length : Int) ∧ (s.length : Int) ≤ 1048576) ∧ v'.1.toNat < v.1.toNat := by
  simp only [spec_NewtonRoot.rnd5] at hr
  cases h1 : decide (v.1 > 0)
  · rw [h1] at hr; simp at hr
  have h1' := of_decide_eq_true h1
  rw [h1, w64_id (n := v.1 - 1) (by omega) (by omega)] at hr
  simp only [cond_true, Bool.cond_eq_ite] at hr
  have key : v'.1 = v.1 - 1 := by
    (repeat' split at hr) <;> first | (simp at hr; done) | (simp only [Sum.inl.injEq] at hr; rw [← hr])
  omega
theorem dec_inew {l s : List Value} {n : Int} {v v' : Int × Int × Int} (hv : 0 ≤ v.1 ∧ v.1 ≤ n ∧ n ≤ 60 ∧ (l.length : Int) ≤ 1048576 ∧ (s.length : Int) ≤ 1048576) (hr : impl_NewtonRoot.rnd6 l s n v.1 v.2.1 v.2.2 = Sum.inl v') :
    (0 ≤ v'.1 ∧ v'.1 ≤ n ∧ n ≤ 60 ∧ (l.length : Int) ≤ 1048576 ∧ (s.length : Int) ≤ 1048576) ∧ (n - v'.1).toNat < (n - v.1).toNat := by
  simp only [impl_NewtonRoot.rnd6] at hr
  cases h1 : decide (v.1 < n)
  · rw [h1] at hr; simp at hr
  have h1' := of_decide_eq_true h1
  rw [h1, w64_id (n := v.1 + 1) (by omega) (by omega)] at hr
  simp only [cond_true, Bool.cond_eq_ite] at hr
  have key : v'.1 = v.1 + 1 := by
    (repeat' split at hr) <;> first | (simp at hr; done) | (simp only [Sum.inl.injEq] at hr; rw [← hr])
  omega
theorem ask_der {l : List Value} {x : Iv} {n : Int} (hl : (l.length : Int) ≤ 1048576) (h : ((spec_l09Ask l x n) != 0) = false) : ((spec_PolyDerivative l).2 == 0) = true := by
  obtain ⟨_, _, _, _, hu⟩ := ask_ok hl h
  simp only [spec_UniqueRoot] at hu
  cases hc : ((spec_PolyDerivative l).2 == 0)
  · rw [hc] at hu; cases hu
  · rfl
theorem pd_sn {l : List Value} {x : Iv} {n : Int} (hpre : decide ((l.length : Int) ≤ 1048576) = true) (h : ((spec_l09Ask l x n) != 0) = false) :
    decide (0 ≤ n ∧ n ≤ 60 ∧ 1 ≤ (l.length : Int) ∧ (l.length : Int) ≤ 1048576 ∧ 1 ≤ ((spec_PolyDerivative l).1.length : Int) ∧ ((spec_PolyDerivative l).1.length : Int) ≤ 1048576) = true := by
  have hl := of_decide_eq_true hpre
  obtain ⟨h1, h2, h3, h4, _⟩ := ask_ok hl h
  obtain ⟨_, g2, g3⟩ := der_ok hl (ask_der hl h)
  have n1 := l09_len hl h1
  have n2 := l09_len g3 g2
  simp only [List.length_reverse] at n2 g3
  exact decide_eq_true (by omega)
theorem pd_in {l : List Value} {x : Iv} {n : Int} (hpre : decide ((l.length : Int) ≤ 1048576) = true) (h : ((impl_uniqueCode l x n) != 0) = false) :
    decide (0 ≤ (0 : Int) ∧ (0 : Int) ≤ n ∧ n ≤ 60 ∧ (l.length : Int) ≤ 1048576 ∧ ((impl_PolyDerivative l).1.length : Int) ≤ 1048576) = true := by
  have hl := of_decide_eq_true hpre
  rw [Ask_eq l hl] at h
  obtain ⟨h1, h2, h3, h4, _⟩ := ask_ok hl h
  obtain ⟨_, g2, g3⟩ := der_ok hl (ask_der hl h)
  rw [Der_eq l hl]
  simp only [List.length_reverse] at g3
  exact decide_eq_true (by omega)
end Go.G880
