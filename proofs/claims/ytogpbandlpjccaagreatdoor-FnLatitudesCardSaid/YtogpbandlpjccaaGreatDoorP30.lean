/- Loops of the latitudes: that they end, and what is asked of them. -/
import Derived.Test.YtogpbandlpjccaaGreatDoorD2
set_option linter.unusedVariables false
set_option linter.unusedSimpArgs false
namespace Go.G880
open Go Go.RX
theorem iterV_end {V : Type} {rnd : V → V ⊕ V} (I : V → Prop) (mu : V → Nat) (h : ∀ v v', I v → rnd v = Sum.inl v' → I v' ∧ mu v' < mu v) : ∀ (n : Nat) (v : V), I v → mu v < n → ∃ u, I u ∧ rnd u = Sum.inr (iterV rnd n v) := by
 intro n
 induction n with
 | zero => intro v _ hm; omega
 | succ n ih =>
  intro v hv hm
  simp only [iterV]
  cases hr : rnd v with
  | inl v' =>
   obtain ⟨h1, h2⟩ := h v v' hv hr
   exact ih v' h1 (by omega)
  | inr u => exact ⟨v, hv, hr⟩
theorem dec_scaled {v v' : Int × Int × Int} (hv : -200 ≤ v.1 ∧ v.1 ≤ 200) (hr : impl_scaled.rnd1 v.1 v.2.1 v.2.2 = Sum.inl v') : (-200 ≤ v'.1 ∧ v'.1 ≤ 200) ∧ v'.1.toNat < v.1.toNat := by
 simp only [impl_scaled.rnd1] at hr
 cases h1 : decide (v.1 > 0)
 ·rw [h1] at hr; simp at hr
 have h1' := of_decide_eq_true h1
 rw [h1, w64_id (n := v.1 - 1) (by omega) (by omega)] at hr
 simp only [cond_true] at hr
 cases hr
 simp only []
 omega
theorem scaled_fin {k lo hi : Int} (h : -200 ≤ k ∧ k ≤ 200) : -200 ≤ (impl_scaled.fin1 (k, lo, hi)).1 ∧ (impl_scaled.fin1 (k, lo, hi)).1 ≤ 0 := by
 obtain ⟨u, hu, hr⟩ := iterV_end (rnd := fun v : Int × Int × Int => impl_scaled.rnd1 v.1 v.2.1 v.2.2) (fun v => -200 ≤ v.1 ∧ v.1 ≤ 200) (fun v => v.1.toNat) (fun v v' hv hr => dec_scaled hv hr) 202 (k, lo, hi) h (by simp only []; omega)
 simp only [impl_scaled.rnd1] at hr
 cases h1 : decide (u.1 > 0)
 ·rw [h1] at hr
  simp only [cond_false, Sum.inr.injEq] at hr
  have h1' := of_decide_eq_false h1
  simp only [impl_scaled.fin1]
  simp only [impl_scaled.rnd1]
  rw [← hr]
  simp only []
  omega
 ·rw [h1] at hr
  simp at hr
theorem pd_scaled {k lo hi : Int} (h : decide (-200 ≤ k ∧ k ≤ 200) = true) : decide (w64 (0 - (impl_scaled.fin1 (k, lo, hi)).1) < 0) = false := by
 have := scaled_fin (lo := lo) (hi := hi) (of_decide_eq_true h)
 rw [w64_id (by omega) (by omega)]
 exact decide_eq_false (by omega)
theorem dec_twos2 {n_ v v' : Int} (hv : 0 < n_ ∧ n_ ≤ 1152921504606846976 ∧ 0 ≤ v ∧ v ≤ 40) (hr : impl_twosOf.rnd2 n_ v = Sum.inl v') : (0 < n_ ∧ n_ ≤ 1152921504606846976 ∧ 0 ≤ v' ∧ v' ≤ 40) ∧ (40 - v').toNat < (40 - v).toNat := by
 simp only [impl_twosOf.rnd2] at hr
 cases h1 : decide (Int.fdiv n_ (2 ^ (min (Int.toNat v) 64)) ≥ 6442450944)
 ·rw [h1] at hr; simp at hr
 have h1' := of_decide_eq_true h1
 rw [h1, w64_id (n := v + 1) (by omega) (by omega)] at hr
 simp only [cond_true] at hr
 cases hr
 have : v ≠ 40 := by
  rintro rfl
  rw [show (2 : Int) ^ min (Int.toNat 40) 64 = 1099511627776 by decide, fdiv_pos n_ (by omega)] at h1'
  omega
 omega
theorem pd_tw2 {n_ q : Int} (h : 0 < n_ ∧ n_ ≤ 1152921504606846976 ∧ 0 ≤ q ∧ q ≤ 40) : decide (q < 0) = false := decide_eq_false (by omega)
theorem pd_twos1 {n : Int} (h : decide (0 < n ∧ n ≤ 1152921504606846976) = true) : decide (0 < n ∧ n ≤ 1152921504606846976 ∧ 0 ≤ (0 : Int) ∧ (0 : Int) ≤ 40) = true := by
 have := of_decide_eq_true h
 exact decide_eq_true (by omega)
theorem twos2_fin {n : Int} (h : 0 < n ∧ n ≤ 1152921504606846976) : 0 ≤ impl_twosOf.fin2 n 0 ∧ impl_twosOf.fin2 n 0 ≤ 40 ∧ n < 6442450944 * 2 ^ (Int.toNat (impl_twosOf.fin2 n 0)) ∧ (impl_twosOf.fin2 n 0 = 0 ∨ 6442450944 * 2 ^ (Int.toNat (impl_twosOf.fin2 n 0) - 1) ≤ n) := by
 obtain ⟨u, hu, hr⟩ := iterV_end (rnd := fun v : Int => impl_twosOf.rnd2 n v) (fun v => (0 < n ∧ n ≤ 1152921504606846976 ∧ 0 ≤ v ∧ v ≤ 40) ∧ (v = 0 ∨ 6442450944 * 2 ^ (Int.toNat v - 1) ≤ n)) (fun v => (40 - v).toNat) (fun v v' hv hr => by
  obtain ⟨d1, d2⟩ := dec_twos2 hv.1 hr
  refine ⟨⟨d1, ?_⟩, d2⟩
  right
  simp only [impl_twosOf.rnd2] at hr
  cases h1 : decide (Int.fdiv n (2 ^ (min (Int.toNat v) 64)) ≥ 6442450944)
  ·rw [h1] at hr; simp at hr
  have h1' := of_decide_eq_true h1
  rw [h1, w64_id (n := v + 1) (by omega) (by omega)] at hr
  simp only [cond_true] at hr
  cases hr
  have e : min (Int.toNat v) 64 = Int.toNat v := by omega
  have e2 : Int.toNat (v + 1) - 1 = Int.toNat v := by omega
  rw [e] at h1'
  rw [e2]
  have hp : (0 : Int) < 2 ^ Int.toNat v := Int.pow_pos (by omega)
  rw [fdiv_pos n hp] at h1'
  have := Int.ediv_mul_le n (b := 2 ^ Int.toNat v) (by omega)
  exact Int.le_trans (Int.mul_le_mul_of_nonneg_right h1' (by omega)) this) 42 0 ⟨⟨h.1, h.2, by omega, by omega⟩, .inl rfl⟩ (by omega)
 simp only [impl_twosOf.rnd2] at hr
 cases h1 : decide (Int.fdiv n (2 ^ (min (Int.toNat u) 64)) ≥ 6442450944)
 ·rw [h1] at hr
  simp only [cond_false, Sum.inr.injEq] at hr
  have h1' := of_decide_eq_false h1
  have ef : impl_twosOf.fin2 n 0 = u := by
   simp only [impl_twosOf.fin2]
   simp only [impl_twosOf.rnd2]
   exact hr.symm
  rw [ef]
  refine ⟨hu.1.2.2.1, hu.1.2.2.2, ?_, hu.2⟩
  have e : min (Int.toNat u) 64 = Int.toNat u := by omega
  rw [e] at h1'
  have hp : (0 : Int) < 2 ^ Int.toNat u := Int.pow_pos (by omega)
  rw [fdiv_pos n hp] at h1'
  exact Int.lt_mul_of_ediv_lt hp (by omega)
 ·rw [h1] at hr
  simp at hr
theorem pd_twos2 {n : Int} (h : decide (0 < n ∧ n ≤ 1152921504606846976) = true) : decide (0 < n ∧ n ≤ 1152921504606846976 ∧ -33 ≤ impl_twosOf.fin2 n 0 ∧ impl_twosOf.fin2 n 0 ≤ 40 ∧ (0 < impl_twosOf.fin2 n 0 ∨ n * 2 ^ (Int.toNat (0 - impl_twosOf.fin2 n 0)) < 6442450944)) = true := by
 have h := of_decide_eq_true h
 obtain ⟨h1, h2, h3, _⟩ := twos2_fin h
 refine decide_eq_true ⟨h.1, h.2, by omega, h2, ?_⟩
 by_cases h0 : 0 < impl_twosOf.fin2 n 0
 ·exact .inl h0
 ·right
  have : impl_twosOf.fin2 n 0 = 0 := by omega
  rw [this] at h3 ⊢
  simpa using h3
theorem pd_tw4 {n_ q : Int} (h : 0 < n_ ∧ n_ ≤ 1152921504606846976 ∧ -33 ≤ q ∧ q ≤ 40 ∧ (0 < q ∨ n_ * 2 ^ (Int.toNat (0 - q)) < 6442450944)) (h0 : decide (q ≤ 0) = true) : decide (w64 (0 - q) < 0) = false := by
 have := of_decide_eq_true h0
 rw [w64_id (by omega) (by omega)]
 exact decide_eq_false (by omega)
theorem dec_twos4 {n_ v v' : Int} (hv : 0 < n_ ∧ n_ ≤ 1152921504606846976 ∧ -33 ≤ v ∧ v ≤ 40 ∧ (0 < v ∨ n_ * 2 ^ (Int.toNat (0 - v)) < 6442450944)) (hr : impl_twosOf.rnd4 n_ v = Sum.inl v') :
  (0 < n_ ∧ n_ ≤ 1152921504606846976 ∧ -33 ≤ v' ∧ v' ≤ 40 ∧ (0 < v' ∨ n_ * 2 ^ (Int.toNat (0 - v')) < 6442450944)) ∧ (v' + 40).toNat < (v + 40).toNat := by
 obtain ⟨a1, a2, a3, a4, a5⟩ := hv
 simp only [impl_twosOf.rnd4] at hr
 cases h0 : decide (v ≤ 0)
 ·rw [h0] at hr; simp at hr
 have h0' := of_decide_eq_true h0
 rw [h0, cond_true, w64_id (n := 0 - v) (by omega) (by omega)] at hr
 have e : min (Int.toNat (0 - v)) 64 = Int.toNat (0 - v) := by omega
 rw [e] at hr
 have a5 : n_ * 2 ^ (Int.toNat (0 - v)) < 6442450944 := by rcases a5 with h | h <;> omega
 have hp : (0 : Int) < 2 ^ (Int.toNat (0 - v)) := Int.pow_pos (by omega)
 have hnn : 0 ≤ n_ * 2 ^ (Int.toNat (0 - v)) := Int.mul_nonneg (by omega) (by omega)
 rw [w64_id (n := n_ * 2 ^ (Int.toNat (0 - v))) (by omega) (by omega)] at hr
 cases h1 : decide (n_ * 2 ^ (Int.toNat (0 - v)) < 3221225472)
 ·rw [h1] at hr; simp at hr
 have h1' := of_decide_eq_true h1
 rw [h1, w64_id (n := v - 1) (by omega) (by omega)] at hr
 simp only [cond_true] at hr
 cases hr
 have e2 : Int.toNat (0 - (v - 1)) = Int.toNat (0 - v) + 1 := by omega
 have h33 : v ≠ -33 := by
  rintro rfl
  have : (2 : Int) ^ (Int.toNat (0 - -33)) = 8589934592 := by decide
  rw [this] at h1'
  omega
 rw [e2, Int.pow_succ, ← Int.mul_assoc]
 refine ⟨⟨a1, a2, by omega, by omega, .inr (by omega)⟩, by omega⟩
theorem twos4_fin {n t : Int} (h : 0 < n ∧ n ≤ 1152921504606846976 ∧ -33 ≤ t ∧ t ≤ 40 ∧ (0 < t ∨ n * 2 ^ (Int.toNat (0 - t)) < 6442450944)) :
  (0 < t ∧ impl_twosOf.fin4 n t = t) ∨ (t ≤ 0 ∧ -33 ≤ impl_twosOf.fin4 n t ∧ impl_twosOf.fin4 n t ≤ 0 ∧ n * 2 ^ (Int.toNat (0 - impl_twosOf.fin4 n t)) < 6442450944 ∧ 3221225472 ≤ n * 2 ^ (Int.toNat (0 - impl_twosOf.fin4 n t))) := by
 by_cases h0 : 0 < t
 ·left
  refine ⟨h0, ?_⟩
  have : decide (t ≤ 0) = false := decide_eq_false (by omega)
  simp only [impl_twosOf.fin4, iterV, impl_twosOf.rnd4, this, cond_false]
 right
 refine ⟨by omega, ?_⟩
 obtain ⟨u, hu, hr⟩ := iterV_end (rnd := fun v : Int => impl_twosOf.rnd4 n v) (fun v => (0 < n ∧ n ≤ 1152921504606846976 ∧ -33 ≤ v ∧ v ≤ 40 ∧ (0 < v ∨ n * 2 ^ (Int.toNat (0 - v)) < 6442450944)) ∧ v ≤ 0) (fun v => (v + 40).toNat) (fun v v' hv hr => by
  obtain ⟨d1, d2⟩ := dec_twos4 hv.1 hr
  exact ⟨⟨d1, by omega⟩, d2⟩) 82 t ⟨h, by omega⟩ (by omega)
 obtain ⟨⟨a1, a2, a3, a4, a5⟩, a6⟩ := hu
 have a5 : n * 2 ^ (Int.toNat (0 - u)) < 6442450944 := by rcases a5 with h | h <;> omega
 simp only [impl_twosOf.rnd4] at hr
 have h0 : decide (u ≤ 0) = true := decide_eq_true a6
 rw [h0, cond_true, w64_id (n := 0 - u) (by omega) (by omega)] at hr
 have e : min (Int.toNat (0 - u)) 64 = Int.toNat (0 - u) := by omega
 rw [e] at hr
 have hp : (0 : Int) < 2 ^ (Int.toNat (0 - u)) := Int.pow_pos (by omega)
 have hnn : 0 ≤ n * 2 ^ (Int.toNat (0 - u)) := Int.mul_nonneg (by omega) (by omega)
 rw [w64_id (n := n * 2 ^ (Int.toNat (0 - u))) (by omega) (by omega)] at hr
 cases h1 : decide (n * 2 ^ (Int.toNat (0 - u)) < 3221225472)
 ·rw [h1] at hr
  simp only [cond_false, Sum.inr.injEq] at hr
  have ef : impl_twosOf.fin4 n t = u := by
   simp only [impl_twosOf.fin4]
   simp only [impl_twosOf.rnd4]
   exact hr.symm
  rw [ef]
  have := of_decide_eq_false h1
  exact ⟨a3, a6, a5, by omega⟩
 ·rw [h1] at hr
  simp at hr
theorem twos_val {n : Int} (h : 0 < n ∧ n ≤ 1152921504606846976) :
  (0 < impl_twosOf n ∧ impl_twosOf n ≤ 40 ∧ n < 6442450944 * 2 ^ (Int.toNat (impl_twosOf n)) ∧ 3221225472 * 2 ^ (Int.toNat (impl_twosOf n)) ≤ n) ∨
  (-33 ≤ impl_twosOf n ∧ impl_twosOf n ≤ 0 ∧ n * 2 ^ (Int.toNat (0 - impl_twosOf n)) < 6442450944 ∧ 3221225472 ≤ n * 2 ^ (Int.toNat (0 - impl_twosOf n))) := by
 obtain ⟨h1, h2, h3, h4⟩ := twos2_fin h
 have hd := of_decide_eq_true (pd_twos2 (n := n) (decide_eq_true h))
 have e : impl_twosOf n = impl_twosOf.fin4 n (impl_twosOf.fin2 n 0) := rfl
 rcases twos4_fin hd with ⟨g1, g2⟩ | ⟨g1, g2⟩
 ·left
  rw [e, g2]
  refine ⟨g1, h2, h3, ?_⟩
  have h4 : 6442450944 * 2 ^ (Int.toNat (impl_twosOf.fin2 n 0) - 1) ≤ n := by rcases h4 with h | h <;> omega
  have e2 : Int.toNat (impl_twosOf.fin2 n 0) = Int.toNat (impl_twosOf.fin2 n 0) - 1 + 1 := by omega
  rw [e2, Int.pow_succ]
  omega
 ·right
  rw [e]
  exact g2
theorem log_dom {d : Int} (h0 : (!(impl_ValidFix d)) = false) (h1 : decide (d ≤ 0) = false) : 0 < d ∧ d ≤ 1152921504606846976 := by
 have a := of_decide_eq_false h1
 have b : impl_ValidFix d = true := by cases h : impl_ValidFix d <;> simp_all
 rw [fixOk] at b
 have := (l03Ok_iff _).1 b
 omega
theorem pd_log0 {d : Int} (h0 : (!(impl_ValidFix d)) = false) (h1 : decide (d ≤ 0) = false) : decide (0 < d ∧ d ≤ 1152921504606846976) = true := decide_eq_true (log_dom h0 h1)
theorem pd_log1 {t : Int} (h : decide (t > 0) = true) : decide (t < 0) = false := decide_eq_false (by have := of_decide_eq_true h; omega)
theorem pd_log2 {d : Int} (h0 : (!(impl_ValidFix d)) = false) (h1 : decide (d ≤ 0) = false) : decide (impl_twosOf d < 0) = false ∨ True := .inr trivial
theorem pd_log3 {d : Int} (h0 : (!(impl_ValidFix d)) = false) (h1 : decide (d ≤ 0) = false) (h3 : decide (impl_twosOf d > 0) = false) : decide (w64 (0 - impl_twosOf d) < 0) = false := by
 have a := of_decide_eq_false h3
 have b := twos_val (log_dom h0 h1)
 rw [w64_id (by omega) (by omega)]
 exact decide_eq_false (by omega)
theorem exp_k {n : Int} (h0 : (!(impl_ValidFix n)) = false) (h1 : decide (n > 85899345920) = false) (h2 : decide (n < (-98784247808)) = false) :
  w64 (2 * n) = 2 * n ∧ w64 (w64 (2 * n) + 2977044472) = 2 * n + 2977044472 ∧ -40 ≤ Int.tdiv (2 * n + 2977044472) 5954088944 ∧ Int.tdiv (2 * n + 2977044472) 5954088944 ≤ 40 := by
 have a := of_decide_eq_false h1
 have b := of_decide_eq_false h2
 have e1 : w64 (2 * n) = 2 * n := w64_id (by omega) (by omega)
 rw [e1]
 refine ⟨rfl, w64_id (by omega) (by omega), ?_, ?_⟩
 ·by_cases h : 0 ≤ 2 * n + 2977044472
  ·rw [tdiv_nn _ h]; omega
  ·have e : 2 * n + 2977044472 = -(-(2 * n + 2977044472)) := by omega
   rw [e, Int.neg_tdiv, tdiv_nn _ (by omega)]
   omega
 ·by_cases h : 0 ≤ 2 * n + 2977044472
  ·rw [tdiv_nn _ h]; omega
  ·have e : 2 * n + 2977044472 = -(-(2 * n + 2977044472)) := by omega
   rw [e, Int.neg_tdiv, tdiv_nn _ (by omega)]
   omega
theorem pd_exp1 {n : Int} {b : Bool} (h0 : (!(impl_ValidFix n)) = false) (h1 : decide (n > 85899345920) = false) (h2 : decide (n < (-98784247808)) = false) (h3 : b = true) :
  decide (-200 ≤ w64 (w64 (Int.tdiv (w64 (w64 (2 * n) + 2977044472)) 5954088944) - 1) ∧ w64 (w64 (Int.tdiv (w64 (w64 (2 * n) + 2977044472)) 5954088944) - 1) ≤ 200) = true := by
 obtain ⟨e1, e2, e3, e4⟩ := exp_k h0 h1 h2
 rw [e2, w64_id (n := Int.tdiv (2 * n + 2977044472) 5954088944) (by omega) (by omega), w64_id (by omega) (by omega)]
 exact decide_eq_true (by omega)
theorem pd_exp2 {n : Int} {b : Bool} (h0 : (!(impl_ValidFix n)) = false) (h1 : decide (n > 85899345920) = false) (h2 : decide (n < (-98784247808)) = false) (h3 : b = false) :
  decide (-200 ≤ w64 (Int.tdiv (w64 (w64 (2 * n) + 2977044472)) 5954088944) ∧ w64 (Int.tdiv (w64 (w64 (2 * n) + 2977044472)) 5954088944) ≤ 200) = true := by
 obtain ⟨e1, e2, e3, e4⟩ := exp_k h0 h1 h2
 rw [e2, w64_id (n := Int.tdiv (2 * n + 2977044472) 5954088944) (by omega) (by omega)]
 exact decide_eq_true (by omega)
theorem dec_tan {rs : List Value} {x_lo x_hi n : Int} {v v' : Int × Int × Int} (hv : n = (rs.length : Int) ∧ 0 ≤ v.1 ∧ v.1 ≤ n ∧ n ≤ 1000) (hr : impl_TanI.rnd4 rs x_lo x_hi n v.1 v.2.1 v.2.2 = Sum.inl v') :
  (n = (rs.length : Int) ∧ 0 ≤ v'.1 ∧ v'.1 ≤ n ∧ n ≤ 1000) ∧ (n - v'.1).toNat < (n - v.1).toNat := by
 simp only [impl_TanI.rnd4] at hr
 cases h1 : decide (v.1 < n)
 ·rw [h1] at hr; simp at hr
 have h1' := of_decide_eq_true h1
 rw [h1, w64_id (n := v.1 + 1) (by omega) (by omega)] at hr
 have key : v'.1 = v.1 + 1 := by
  rw [cond_true] at hr
  cases h2 : (andI .i64 (atI rs true v.1) 1 == 1) <;> rw [h2] at hr <;> simp only [cond_true, cond_false] at hr <;> cases hr
  rfl
 omega
theorem quarter_val : impl_quarter = 6746518853 := by decide +kernel
theorem pd_inv : decide (-1099511627776 ≤ w64 (0 - impl_quarter) ∧ w64 (0 - impl_quarter) ≤ impl_quarter ∧ impl_quarter ≤ 1099511627776) = true := by
 rw [quarter_val]; decide
theorem mid_val {a b : Int} (h : -1099511627776 ≤ a ∧ a ≤ b ∧ b ≤ 1099511627776) : Int.fdiv (w64 (a + b)) 2 = (a + b) / 2 := by
 rw [w64_id (by omega) (by omega), fdiv_pos _ (by omega)]
theorem dec_inv2 {e_a e_num e_den x_lo x_hi kind_ : Int} {v v' : Int × Int} (hv : -1099511627776 ≤ v.1 ∧ v.1 ≤ v.2 ∧ v.2 ≤ 1099511627776) (hr : impl_inverseLatitude.rnd2 e_a e_num e_den x_lo x_hi kind_ v.1 v.2 = Sum.inl v') :
  (-1099511627776 ≤ v'.1 ∧ v'.1 ≤ v'.2 ∧ v'.2 ≤ 1099511627776) ∧ (v'.2 - v'.1).toNat < (v.2 - v.1).toNat := by
 simp only [impl_inverseLatitude.rnd2, mid_val hv] at hr
 rw [w64_id (n := v.2 - v.1) (by omega) (by omega)] at hr
 cases h1 : decide (v.2 - v.1 > 1)
 ·rw [h1] at hr; simp at hr
 have h1' := of_decide_eq_true h1
 rw [h1, cond_true] at hr
 cases h2 : impl_isBelow (impl_LatitudeAt kind_ ⟨e_a, e_num, e_den⟩ ((v.1 + v.2) / 2)) x_lo <;> rw [h2] at hr <;> simp only [cond_true, cond_false] at hr <;> cases hr <;> simp only [] <;> omega
theorem dec_inv9 {e_a e_num e_den x_lo x_hi o_lo kind_ : Int} {v v' : Int × Int} (hv : -1099511627776 ≤ v.1 ∧ v.1 ≤ v.2 ∧ v.2 ≤ 1099511627776) (hr : impl_inverseLatitude.rnd9 e_a e_num e_den x_lo x_hi o_lo kind_ v.1 v.2 = Sum.inl v') :
  (-1099511627776 ≤ v'.1 ∧ v'.1 ≤ v'.2 ∧ v'.2 ≤ 1099511627776) ∧ (v'.2 - v'.1).toNat < (v.2 - v.1).toNat := by
 simp only [impl_inverseLatitude.rnd9, mid_val hv] at hr
 rw [w64_id (n := v.2 - v.1) (by omega) (by omega)] at hr
 cases h1 : decide (v.2 - v.1 > 1)
 ·rw [h1] at hr; simp at hr
 have h1' := of_decide_eq_true h1
 rw [h1, cond_true] at hr
 cases h2 : impl_isAbove (impl_LatitudeAt kind_ ⟨e_a, e_num, e_den⟩ ((v.1 + v.2) / 2)) x_hi <;> rw [h2] at hr <;> simp only [cond_true, cond_false] at hr <;> cases hr <;> simp only [] <;> omega
theorem pd_atan {n : Int} (h0 : (!(impl_isOpen n)) = false) (h1 : decide (n < 0) = true) : decide (0 ≤ w64 (0 - n)) = true := by
 simp only [Bool.not_eq_eq_eq_not, Bool.not_false, impl_isOpen, decide_eq_true_eq] at h0 h1
 cases h : decide ((-1152921504606846976) < n) with
 | false => rw [h] at h0; simp at h0
 | true =>
  have := of_decide_eq_true h
  rw [w64_id (by omega) (by omega)]
  simp only [decide_eq_true_eq]
  omega
end Go.G880
