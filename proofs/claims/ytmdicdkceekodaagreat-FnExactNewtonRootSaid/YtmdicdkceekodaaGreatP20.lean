/- Polynomials: their derivatives, unique roots. -/
import Derived.Test.YtmdicdkceekodaaGreatP19
set_option linter.unusedSimpArgs false
set_option linter.unusedVariables false
namespace Go.G880
open Go Go.RX

theorem ider_step {l : List Value} {n : Int} {v v' : Int × List Value} (hr : impl_PolyDerivative.rnd7 l n v.1 v.2 = Sum.inl v') : v.1 < n ∧ v'.1 = w64 (v.1 + 1) ∧ v'.2.length = v.2.length + 1 := by
  simp only [impl_PolyDerivative.rnd7] at hr
  cases h1 : decide (v.1 < n)
  · rw [h1] at hr; simp at hr
  rw [h1] at hr
  simp only [cond_true, Sum.inl.injEq] at hr
  subst hr
  exact ⟨of_decide_eq_true h1, rfl, rfl⟩
theorem dec_ider {l : List Value} {n : Int} {v v' : Int × List Value} (hv : n = ((l.length - 1 : Nat) : Int) ∧ 0 ≤ v.1 ∧ v.1 ≤ ((l.length - 1 : Nat) : Int) ∧ (v.2.length : Int) = v.1 ∧ (l.length : Int) ≤ 1048576) (hr : impl_PolyDerivative.rnd7 l n v.1 v.2 = Sum.inl v') :
    (n = ((l.length - 1 : Nat) : Int) ∧ 0 ≤ v'.1 ∧ v'.1 ≤ ((l.length - 1 : Nat) : Int) ∧ (v'.2.length : Int) = v'.1 ∧ (l.length : Int) ≤ 1048576) ∧ (((l.length - 1 : Nat) : Int) - v'.1).toNat < (((l.length - 1 : Nat) : Int) - v.1).toNat := by
  obtain ⟨h1, h2, h3⟩ := ider_step hr
  rw [w64_id (by omega) (by omega)] at h2
  omega
theorem sder_step {l : List Value} {v v' : Int × List Value} (hr : spec_PolyDerivative.rnd5 l v.1 v.2 = Sum.inl v') : v.1 < (l.length : Int) ∧ v'.1 = w64 (v.1 + 1) ∧ v'.2.length = v.2.length + 1 := by
  simp only [spec_PolyDerivative.rnd5] at hr
  cases h1 : decide (v.1 < (l.length : Int))
  · rw [h1] at hr; simp at hr
  rw [h1] at hr
  simp only [cond_true, Sum.inl.injEq] at hr
  subst hr
  exact ⟨of_decide_eq_true h1, rfl, rfl⟩
theorem dec_sder {l : List Value} {v v' : Int × List Value} (hv : 1 ≤ v.1 ∧ (v.1 ≤ (l.length : Int) ∨ v.1 = 1) ∧ (v.2.length : Int) = v.1 - 1 ∧ (l.length : Int) ≤ 1048576) (hr : spec_PolyDerivative.rnd5 l v.1 v.2 = Sum.inl v') :
    (1 ≤ v'.1 ∧ (v'.1 ≤ (l.length : Int) ∨ v'.1 = 1) ∧ (v'.2.length : Int) = v'.1 - 1 ∧ (l.length : Int) ≤ 1048576) ∧ ((l.length : Int) - v'.1).toNat < ((l.length : Int) - v.1).toNat := by
  obtain ⟨h1, h2, h3⟩ := sder_step hr
  rw [w64_id (by omega) (by omega)] at h2
  omega

/-! ### The coefficients -/
def oneD (l : List Value) (k : Nat) : Value := let t := spec_MulI (spec_Integer ((k + 1 : Nat) : Int)) (rowIv (nthR l false (k + 1))); .agg #[.int .i64 t.lo, .int .i64 t.hi]
/-- d coefficients from the k-th on, before those that are there. -/
def derD (l : List Value) (k : Nat) : Nat → List Value → List Value
  | 0, out => out
  | d + 1, out => derD l (k + 1) d (oneD l k :: out)
theorem derD_len (l : List Value) : ∀ (d k : Nat) (out : List Value), (derD l k d out).length = d + out.length := by
  intro d
  induction d with
  | zero => intro k out; simp [derD]
  | succ d ih => intro k out; rw [derD, ih]; simp; omega
theorem sder_loop (l : List Value) (hl : (l.length : Int) ≤ 1048576) : ∀ (d f k : Nat) (out : List Value), d < f → d + (k + 1) = l.length →
    iterV (fun v : Int × List Value => spec_PolyDerivative.rnd5 l v.1 v.2) f (((k + 1 : Nat) : Int), out) = ((l.length : Int), derD l k d out) := by
  intro d
  induction d with
  | zero =>
    intro f k out hf hi
    obtain ⟨f, rfl⟩ : ∃ m, f = m + 1 := ⟨f - 1, by omega⟩
    have h1 : decide (((k + 1 : Nat) : Int) < (l.length : Int)) = false := decide_eq_false (by omega)
    rw [iterV]
    dsimp only
    simp only [spec_PolyDerivative.rnd5, h1, cond_false, derD]
    rw [show ((k + 1 : Nat) : Int) = (l.length : Int) by omega]
  | succ d ih =>
    intro f k out hf hi
    obtain ⟨f, rfl⟩ : ∃ m, f = m + 1 := ⟨f - 1, by omega⟩
    have h1 : decide (((k + 1 : Nat) : Int) < (l.length : Int)) = true := decide_eq_true (by omega)
    have h2 : w64 (((k + 1 : Nat) : Int) + 1) = ((k + 1 + 1 : Nat) : Int) := by rw [w64_id (by omega) (by omega)]; rfl
    have e : atIv l false ((k + 1 : Nat) : Int) = rowIv (nthR l false (k + 1)) := rfl
    rw [iterV]
    dsimp only
    simp only [spec_PolyDerivative.rnd5, h1, cond_true, h2, e, derD]
    exact ih f (k + 1) _ (by omega) (by omega)
theorem ider_loop (l : List Value) (hl : (l.length : Int) ≤ 1048576) : ∀ (d f k : Nat) (out : List Value), d < f → d + (k + 1) = l.length →
    iterV (fun v : Int × List Value => impl_PolyDerivative.rnd7 l ((l.length - 1 : Nat) : Int) v.1 v.2) f ((k : Int), out) = (((l.length - 1 : Nat) : Int), derD l k d out) := by
  intro d
  induction d with
  | zero =>
    intro f k out hf hi
    obtain ⟨f, rfl⟩ : ∃ m, f = m + 1 := ⟨f - 1, by omega⟩
    have h1 : decide ((k : Int) < ((l.length - 1 : Nat) : Int)) = false := decide_eq_false (by omega)
    rw [iterV]
    dsimp only
    simp only [impl_PolyDerivative.rnd7, h1, cond_false, derD]
    rw [show (k : Int) = ((l.length - 1 : Nat) : Int) by omega]
  | succ d ih =>
    intro f k out hf hi
    obtain ⟨f, rfl⟩ : ∃ m, f = m + 1 := ⟨f - 1, by omega⟩
    have h1 : decide ((k : Int) < ((l.length - 1 : Nat) : Int)) = true := decide_eq_true (by omega)
    have h2 : w64 ((k : Int) + 1) = ((k + 1 : Nat) : Int) := by rw [w64_id (by omega) (by omega)]; rfl
    have e : atIvN l false (Int.toNat (k : Int) + 1) = rowIv (nthR l false (k + 1)) := by simp [atIvN]
    have hs : impl_PolyDerivative.rnd7 l ((l.length - 1 : Nat) : Int) (k : Int) out = Sum.inl (((k + 1 : Nat) : Int), oneD l k :: out) := by
      simp only [impl_PolyDerivative.rnd7, h1, cond_true, h2, e, MulI_eq, Integer_eq, oneD]
    rw [iterV]
    dsimp only
    rw [hs]
    exact ih f (k + 1) _ (by omega) (by omega)
theorem sder_fin (l : List Value) (hl : 1 ≤ (l.length : Int) ∧ (l.length : Int) ≤ 1048576) : spec_PolyDerivative.fin5 l (1, []) = ((l.length : Int), derD l 0 (l.length - 1) []) := by
  rw [spec_PolyDerivative.fin5]
  exact sder_loop l hl.2 (l.length - 1) 1048577 0 [] (by omega) (by omega)
theorem ider_fin (l : List Value) (hl : 1 ≤ (l.length : Int) ∧ (l.length : Int) ≤ 1048576) : impl_PolyDerivative.fin7 l ((l.length - 1 : Nat) : Int) (0, []) = (((l.length - 1 : Nat) : Int), derD l 0 (l.length - 1) []) := by
  rw [impl_PolyDerivative.fin7]
  exact ider_loop l hl.2 (l.length - 1) 1048577 0 [] (by omega) (by omega)
theorem contains_val (l : List Value) (hl : (l.length : Int) ≤ 1048576) : slices_ContainsFunc l () = !allOk l 0 l.length := index_loop l hl l.length 1048577 0 (by omega) (by omega)
theorem Der_eq (l : List Value) (hl : (l.length : Int) ≤ 1048576) : impl_PolyDerivative l = spec_PolyDerivative l := by
  simp only [impl_PolyDerivative, spec_PolyDerivative, Valid_eq l hl]
  cases hv : spec_l09Ok l
  · rfl
  have hn := l09_len hl hv
  have hn' : 1 ≤ (l.length : Int) ∧ (l.length : Int) ≤ 1048576 := by omega
  simp only [Bool.not_true, cond_false, sder_fin l hn', ider_fin l hn', Integer_eq]
  by_cases h1 : l.length = 1
  · have e1 : ((l.length : Int) == 1) = true := by rw [h1]; rfl
    rw [h1] at e1 ⊢
    rfl
  · have e1 : ((l.length : Int) == 1) = false := by simp only [beq_eq_false_iff_ne, ne_eq]; omega
    have e2 : (((derD l 0 (l.length - 1) []).length : Int) == 0) = false := by rw [derD_len]; simp only [beq_eq_false_iff_ne, ne_eq, List.length_nil]; omega
    have e3 : decide (((derD l 0 (l.length - 1) []).length : Int) > 17) = false := by rw [derD_len]; exact decide_eq_false (by simp only [List.length_nil]; omega)
    have e4 : ((List.reverse (derD l 0 (l.length - 1) [])).length : Int) ≤ 1048576 := by rw [List.length_reverse, derD_len]; simp only [List.length_nil]; omega
    have e5 : spec_l00In ((List.reverse (derD l 0 (l.length - 1) [])).length : Int) 1 17 = true := by
      rw [l00In_iff, List.length_reverse, derD_len]; simp only [List.length_nil]; omega
    simp only [e1, e2, e3, cond_false, contains_val _ e4, l09Ok_val _ e4, e5, Bool.and_true]

/-! ### The conditions -/
theorem pd_sder1 {l : List Value} (hpre : decide ((l.length : Int) ≤ 1048576) = true) : decide (1 ≤ (1 : Int) ∧ ((1 : Int) ≤ (l.length : Int) ∨ (1 : Int) = 1) ∧ ((([] : List Value).length : Nat) : Int) = 1 - 1 ∧ (l.length : Int) ≤ 1048576) = true :=
  decide_eq_true ⟨by omega, Or.inr rfl, by simp, of_decide_eq_true hpre⟩
theorem pd_app {n : Nat} (h : ((n : Int) == 0) = true) : decide ((n + 1) * 16 ≤ 140737488355328) = true := by
  have := of_decide_eq_true (show decide ((n : Int) = 0) = true from by simpa using h)
  exact decide_eq_true (by omega)
theorem pd_17 {l : List Value} (h : decide ((l.length : Int) > 17) = false) : decide (((List.reverse l).length : Int) ≤ 1048576) = true := by
  have := of_decide_eq_false h
  exact decide_eq_true (by rw [List.length_reverse]; omega)
theorem pd_ider1 {l : List Value} (hpre : decide ((l.length : Int) ≤ 1048576) = true) (h : (!(impl_ValidPoly l)) = false) (h2 : ((l.length : Int) == 1) = false) : decide (0 ≤ (1 : Int) ∧ (1 : Int) < (l.length : Int)) = true := by
  have h3 := pd_valid hpre h
  have h4 : ¬ (l.length : Int) = 1 := by simpa using h2
  exact decide_eq_true (by omega)
theorem pd_ider2 {l : List Value} (hpre : decide ((l.length : Int) ≤ 1048576) = true) : decide (((l.length - 1 : Nat) : Int) = ((l.length - 1 : Nat) : Int) ∧ 0 ≤ (0 : Int) ∧ (0 : Int) ≤ ((l.length - 1 : Nat) : Int) ∧ ((([] : List Value).length : Nat) : Int) = 0 ∧ (l.length : Int) ≤ 1048576) = true :=
  decide_eq_true ⟨rfl, by omega, by omega, by simp, of_decide_eq_true hpre⟩
theorem pd_ider3 {l : List Value} (hpre : decide ((l.length : Int) ≤ 1048576) = true) (h : (!(impl_ValidPoly l)) = false) : decide (((List.reverse (impl_PolyDerivative.fin7 l ((l.length - 1 : Nat) : Int) (0, [])).2).length : Int) ≤ 1048576) = true := by
  have h3 := pd_valid hpre h
  rw [ider_fin l (by omega), List.length_reverse, derD_len]
  exact decide_eq_true (by simp only [List.length_nil]; omega)
/-- A derivative that is there. -/
theorem der_ok {l : List Value} (hl : (l.length : Int) ≤ 1048576) (h : ((spec_PolyDerivative l).2 == 0) = true) : spec_l09Ok l = true ∧ spec_l09Ok (List.reverse (spec_PolyDerivative l).1) = true ∧ ((List.reverse (spec_PolyDerivative l).1).length : Int) ≤ 1048576 := by
  cases hv : spec_l09Ok l
  · simp only [spec_PolyDerivative, hv, Bool.not_false, cond_true] at h
    cases h
  have hn := l09_len hl hv
  have hn' : 1 ≤ (l.length : Int) ∧ (l.length : Int) ≤ 1048576 := by omega
  simp only [spec_PolyDerivative, hv, Bool.not_true, cond_false, sder_fin l hn'] at h ⊢
  refine ⟨trivial, ?_⟩
  by_cases h1 : l.length = 1
  · rw [h1, show derD l 0 (1 - 1) [] = [] from rfl]
    exact ⟨by decide +kernel, by decide +kernel⟩
  · have e2 : (((derD l 0 (l.length - 1) []).length : Int) == 0) = false := by rw [derD_len]; simp only [beq_eq_false_iff_ne, ne_eq, List.length_nil]; omega
    have e3 : decide (((derD l 0 (l.length - 1) []).length : Int) > 17) = false := by rw [derD_len]; exact decide_eq_false (by simp only [List.length_nil]; omega)
    have e4 : ((List.reverse (derD l 0 (l.length - 1) [])).length : Int) ≤ 1048576 := by rw [List.length_reverse, derD_len]; simp only [List.length_nil]; omega
    simp only [e2, e3, cond_false] at h ⊢
    cases h5 : spec_l09Ok (List.reverse (derD l 0 (l.length - 1) []))
    · rw [h5] at h; cases h
    · simp only [Bool.not_true, cond_false]
      exact ⟨h5, e4⟩
theorem pd_suni {l : List Value} (hpre : decide ((l.length : Int) ≤ 1048576) = true) (h : ((spec_PolyDerivative l).2 == 0) = true) :
    decide ((1 ≤ (l.length : Int) ∧ (l.length : Int) ≤ 1048576) ∧ (1 ≤ ((List.reverse (spec_PolyDerivative l).1).length : Int) ∧ ((List.reverse (spec_PolyDerivative l).1).length : Int) ≤ 1048576)) = true := by
  have hl := of_decide_eq_true hpre
  obtain ⟨h1, h2, h3⟩ := der_ok hl h
  have n1 := l09_len hl h1
  have n2 := l09_len h3 h2
  exact decide_eq_true ⟨by omega, by omega⟩
theorem pd_iuni {l : List Value} (hpre : decide ((l.length : Int) ≤ 1048576) = true) (h : ((impl_PolyDerivative l).2 == 0) = true) : decide (((List.reverse (impl_PolyDerivative l).1).length : Int) ≤ 1048576) = true := by
  have hl := of_decide_eq_true hpre
  rw [Der_eq l hl] at h ⊢
  exact decide_eq_true (der_ok hl h).2.2
theorem Unique_eq (l : List Value) (hl : (l.length : Int) ≤ 1048576) (x : Iv) : impl_UniqueRoot l x = spec_UniqueRoot l x := by
  simp only [impl_UniqueRoot, spec_UniqueRoot, Der_eq l hl, SignChange_eq l hl]
  cases h : ((spec_PolyDerivative l).2 == 0)
  · rfl
  obtain ⟨h1, h2, h3⟩ := der_ok hl h
  simp only [cond_true, spec_SignChange, h1, Bool.not_true, cond_false, spec_l09Unique]
  cases hx : spec_l04Ok x
  · rfl
  simp only [Bool.not_true, cond_false, cond_true, SignI_eq, PolyAt_eq h3 h2 hx]
theorem law_beq0 {x y : Bool} (h : x = y) : (!(x == y)) = false := by subst h; simp
theorem laws_FnExactUniqueRoot.holds (a0 : List Value) (a1 : Iv) (w0 : (a0.length : Int) ≤ 9223372036854775807) (w1 : a1.In) : laws_FnExactUniqueRoot a0 a1 = true := by
  simp only [laws_FnExactUniqueRoot]
  cases h : decide (laws_szIntervalS a0 1048576 < 0)
  · have hl := of_decide_eq_true (pd_sz (decide_eq_true w0) h)
    have hr : ((List.reverse (laws_toIntervalS a0)).length : Int) ≤ 1048576 := by rw [List.length_reverse, toS_len hl]; exact hl
    simp only [cond_false, law_beq0 (Unique_eq _ hr _), eqS_refl hr, Bool.not_true]
  · rfl
end Go.G880
