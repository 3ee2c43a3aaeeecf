/- Plain lemmas: wide quotients and wide roots, whole. -/
import Derived.Test.YtogpbandlpjccaaGreatP5
set_option linter.unusedVariables false
set_option linter.unusedSimpArgs false
namespace Go.G880
open Go Go.RX

/-! ### Quotients without a sign -/
theorem two_digit (hi lo : Int) {d : Int} (hd : 0 < d) : (hi * 18446744073709551616 + lo) / d = hi / d * 18446744073709551616 + (hi % d * 18446744073709551616 + lo) / d ∧ (hi * 18446744073709551616 + lo) % d = (hi % d * 18446744073709551616 + lo) % d := by
  have e : hi * 18446744073709551616 + lo = (hi % d * 18446744073709551616 + lo) + hi / d * 18446744073709551616 * d := by
    have := Int.emod_add_mul_ediv hi d
    have e1 : hi / d * 18446744073709551616 * d = d * (hi / d) * 18446744073709551616 := by rw [Int.mul_right_comm, Int.mul_comm d]
    rw [e1]
    omega
  rw [e]
  constructor
  · rw [Int.add_mul_ediv_right _ _ (by omega)]
    omega
  · rw [Int.add_mul_emod_self_right]
theorem divided_eq {hi lo d : Int} (h0 : 0 ≤ hi) (h1 : hi < 18446744073709551616) (h2 : 0 ≤ lo) (h3 : lo < 18446744073709551616) (h4 : 0 < d) (h5 : d < 18446744073709551616) :
    impl_divided hi lo d = (hi / d, (hi % d * 18446744073709551616 + lo) / d, (hi % d * 18446744073709551616 + lo) % d) := by
  have hq : 0 ≤ hi / d := Int.ediv_nonneg h0 (by omega)
  have hq2 : hi / d ≤ hi := Int.ediv_le_self _ h0
  have m1 := Int.emod_nonneg hi (show d ≠ 0 by omega)
  have m2 := Int.emod_lt_of_pos hi h4
  simp only [impl_divided, tdiv_nn d h0, tmod_nn d h0, u64_id hq (show hi / d ≤ 18446744073709551615 by omega), Div64_eq m1 m2 h5 h2 h3]

theorem half_step (T : Int) (n : Nat) : T / 2 ^ n = 2 * (T / 2 ^ (n + 1)) + T / 2 ^ n % 2 := by
  have : T / 2 ^ (n + 1) = T / 2 ^ n / 2 := by
    have hp := pow_pos2 n
    rw [Int.pow_succ, Int.ediv_ediv, if_neg (by omega)]
    omega
  rw [this]
  omega
theorem low_bit (hi lo : Int) (n : Nat) (hn : n < 64) : (hi * 18446744073709551616 + lo) / 2 ^ n % 2 = lo / 2 ^ n % 2 := by
  obtain ⟨k, hk⟩ : ∃ k, 64 = n + (k + 1) := ⟨63 - n, by omega⟩
  have e : (18446744073709551616 : Int) = 2 * 2 ^ k * 2 ^ n := by
    have : (18446744073709551616 : Int) = 2 ^ (n + (k + 1)) := by rw [← hk]; rfl
    rw [this, Int.pow_add, Int.pow_succ, Int.mul_comm, Int.mul_comm (2 ^ k)]
  rw [e, ← Int.mul_assoc, Int.add_comm, Int.add_mul_ediv_right _ _ (by have := pow_pos2 n; omega)]
  have : hi * (2 * 2 ^ k) = 2 * (hi * 2 ^ k) := by rw [Int.mul_left_comm]
  rw [this]
  omega

/-- The reference's long division. -/
theorem Divide_go {lo d h : Int} (h0 : 0 ≤ h) (hd : h < d) (hd2 : d < 18446744073709551616) (h2 : 0 ≤ lo) (h3 : lo < 18446744073709551616) (qhi : Int) :
    ∀ (n : Nat) (rest q : Int), n ≤ 64 → 0 ≤ rest → rest < d → 0 ≤ q → (h * 18446744073709551616 + lo) / 2 ^ n = q * d + rest →
      iterV (fun v => spec_l02Divide.rnd5 lo d v.1 v.2.1 v.2.2.1 v.2.2.2) (n + 1) (qhi, rest, q, (n : Int) - 1) = (qhi, (h * 18446744073709551616 + lo) % d, (h * 18446744073709551616 + lo) / d, -1) := by
  intro n
  induction n with
  | zero =>
    intro rest q _ r0 r1 q0 hT
    have hr : spec_l02Divide.rnd5 lo d qhi rest q (((0 : Nat) : Int) - 1) = Sum.inr (qhi, rest, q, -1) := rfl
    rw [iterV]
    simp only [hr]
    simp only [Int.pow_zero, Int.ediv_one] at hT
    rw [hT]
    have e1 : (q * d + rest) % d = rest := by rw [Int.add_comm, Int.add_mul_emod_self_right, Int.emod_eq_of_lt r0 r1]
    have e2 : (q * d + rest) / d = q := by rw [Int.add_comm, Int.add_mul_ediv_right _ _ (by omega), Int.ediv_eq_zero_of_lt r0 r1, Int.zero_add]
    rw [e1, e2]
  | succ n ih =>
    intro rest q hn r0 r1 q0 hT
    have hq63 : q < 9223372036854775808 := by
      have hT0 : 0 ≤ h * 18446744073709551616 + lo := by omega
      have e1 : q * d ≤ (h * 18446744073709551616 + lo) / 2 ^ (n + 1) := by omega
      have e2 : (h * 18446744073709551616 + lo) / 2 ^ (n + 1) ≤ (h * 18446744073709551616 + lo) / 2 := by
        have hp := pow_pos2 n
        rw [show (2 : Int) ^ (n + 1) = 2 * 2 ^ n by rw [Int.pow_succ, Int.mul_comm]]
        have := Int.ediv_ediv (x := h * 18446744073709551616 + lo) (y := 2) (z := 2 ^ n)
        rw [if_neg (by omega)] at this
        have hle := Int.ediv_le_self ((2 : Int) ^ n) (show 0 ≤ (h * 18446744073709551616 + lo) / 2 by omega)
        omega
      have e3 : q * d < 9223372036854775808 * d := by omega
      exact Int.lt_of_mul_lt_mul_right e3 (by omega)
    have hbit : andI .u64 (Int.fdiv lo (2 ^ (min (Int.toNat (u64 ((n : Int)))) 64))) 1 = lo / 2 ^ n % 2 := by
      have hp := pow_pos2 n
      have hm : min (Int.toNat (u64 ((n : Int)))) 64 = n := by rw [u64_id (by omega) (by omega)]; omega
      have l0 : 0 ≤ lo / 2 ^ n := Int.ediv_nonneg h2 (by omega)
      have l1 : lo / 2 ^ n ≤ lo := Int.ediv_le_self _ h2
      rw [hm, fdiv_pos _ hp, and1 l0 (by omega)]
    have hT' : (h * 18446744073709551616 + lo) / 2 ^ n = 2 * (q * d + rest) + lo / 2 ^ n % 2 := by
      rw [half_step, hT, low_bit h lo n (by omega)]
    have hi : ((n + 1 : Nat) : Int) - 1 = (n : Int) := by omega
    have hw : w64 ((n : Int) - 1) = (n : Int) - 1 := w64_id (by omega) (by omega)
    have hor : orI .u64 (u64 (rest * 2)) (lo / 2 ^ n % 2) = u64 (rest * 2) + lo / 2 ^ n % 2 := by
      have := u64_rng (rest * 2)
      refine orI_add 1 this.1 this.2 ?_ (by omega) (by simp; omega) (by omega)
      rw [u64_def]
      simp only [Int.pow_one]
      omega
    have hq2 : u64 (q * 2) = q * 2 := u64_id (by omega) (by omega)
    have hor1 : orI .u64 (u64 (q * 2)) 1 = q * 2 + 1 := by
      rw [hq2, orI_add 1 (by omega) (by omega) (by simp) (by omega) (by simp) (by omega)]
    have fd : Int.fdiv rest 9223372036854775808 = rest / 9223372036854775808 := fdiv_pos _ (by omega)
    have r2 : rest < 18446744073709551616 := by omega
    have hr : spec_l02Divide.rnd5 lo d qhi rest q (((n + 1 : Nat) : Int) - 1) =
        if rest * 2 + lo / 2 ^ n % 2 ≥ d then Sum.inl (qhi, rest * 2 + lo / 2 ^ n % 2 - d, q * 2 + 1, (n : Int) - 1) else Sum.inl (qhi, rest * 2 + lo / 2 ^ n % 2, q * 2, (n : Int) - 1) := by
      rw [hi]
      simp only [spec_l02Divide.rnd5, hbit, hor, hor1, hw, fd, Bool.cond_eq_ite, decide_eq_true_eq, beq_iff_eq]
      rw [if_pos (by omega : (n : Int) ≥ 0)]
      have hb : 0 ≤ lo / 2 ^ n % 2 ∧ lo / 2 ^ n % 2 ≤ 1 := by omega
      generalize lo / 2 ^ n % 2 = b at *
      by_cases ht : rest / 9223372036854775808 = 1
      · rw [if_pos ht, if_pos (by omega)]
        have : u64 (u64 (rest * 2) + b - d) = rest * 2 + b - d := by
          simp only [u64_def]
          omega
        rw [this]
      · rw [if_neg ht]
        have e1 : u64 (rest * 2) = rest * 2 := u64_id (by omega) (by omega)
        rw [e1, hq2]
        by_cases hge : rest * 2 + b ≥ d
        · rw [if_pos hge, if_pos hge, u64_id (by omega) (by omega)]
        · rw [if_neg hge, if_neg hge]
    rw [iterV]
    simp only [hr]
    have hb : 0 ≤ lo / 2 ^ n % 2 ∧ lo / 2 ^ n % 2 ≤ 1 := by omega
    by_cases hge : rest * 2 + lo / 2 ^ n % 2 ≥ d
    · rw [if_pos hge]
      refine ih _ _ (by omega) (by omega) (by omega) (by omega) ?_
      rw [hT', Int.add_mul, Int.mul_right_comm]
      omega
    · rw [if_neg hge]
      refine ih _ _ (by omega) (by omega) (by omega) (by omega) ?_
      rw [hT', Int.mul_right_comm]
      omega
theorem Divide_eq {hi lo d : Int} (h0 : 0 ≤ hi) (h1 : hi < 18446744073709551616) (h2 : 0 ≤ lo) (h3 : lo < 18446744073709551616) (h4 : 0 < d) (h5 : d < 18446744073709551616) :
    spec_l02Divide hi lo d = (hi / d, (hi % d * 18446744073709551616 + lo) / d, (hi % d * 18446744073709551616 + lo) % d) := by
  have hq : 0 ≤ hi / d := Int.ediv_nonneg h0 (by omega)
  have hq2 : hi / d ≤ hi := Int.ediv_le_self _ h0
  have m1 := Int.emod_nonneg hi (show d ≠ 0 by omega)
  have m2 := Int.emod_lt_of_pos hi h4
  have := Divide_go m1 m2 h5 h2 h3 (hi / d) 64 (hi % d) 0 (by omega) m1 m2 (by omega) (by
    have e : ((2 : Int) ^ 64) = 18446744073709551616 := by rfl
    rw [e, Int.zero_mul, Int.zero_add]
    omega)
  have e : (((64 : Nat) : Int) - 1) = 63 := by rfl
  rw [e] at this
  simp only [spec_l02Divide, spec_l02Divide.fin5, tdiv_nn d h0, tmod_nn d h0, u64_id hq (show hi / d ≤ 18446744073709551615 by omega), this]

/-! ### Wide numbers -/
theorem mk_W {hi lo : Int} (h0 : 0 ≤ lo) (h1 : lo < 18446744073709551616) : Wd.mk (w64 hi) lo = W (hi * 18446744073709551616 + lo) := by
  simp only [W, Wd.mk.injEq]
  constructor
  · congr 1
    omega
  · rw [u64_def]
    omega
theorem plus_W (a b : Int) : spec_l02Plus (W a) (W b) = W (a + b) := by
  show (bif decide (u64 (u64 a + u64 b) < u64 a) then Wd.mk (w64 (w64 (w64 (a / 18446744073709551616) + w64 (b / 18446744073709551616)) + 1)) (u64 (u64 a + u64 b)) else Wd.mk (w64 (w64 (a / 18446744073709551616) + w64 (b / 18446744073709551616))) (u64 (u64 a + u64 b))) = W (a + b)
  have hlo : u64 (u64 a + u64 b) = u64 (a + b) := by simp only [u64_def]; omega
  have hr := u64_rng a
  by_cases hc : u64 (u64 a + u64 b) < u64 a
  · rw [decide_eq_true hc, cond_true]
    simp only [W, Wd.mk.injEq, hlo, and_true]
    rw [u64_def, u64_def, u64_def] at hc
    have : (a + b) / 18446744073709551616 = a / 18446744073709551616 + b / 18446744073709551616 + 1 := by omega
    rw [this]
    simp only [w64_def]
    omega
  · rw [decide_eq_false hc, cond_false]
    simp only [W, Wd.mk.injEq, hlo, and_true]
    rw [u64_def, u64_def, u64_def] at hc
    have : (a + b) / 18446744073709551616 = a / 18446744073709551616 + b / 18446744073709551616 := by omega
    rw [this]
    simp only [w64_def]
    omega
theorem neg_W (z : Int) : impl_Wide_negative (W z) = W (-z) := by
  have h := u64_rng z
  have h' := u64_rng (w64 (z / 18446744073709551616))
  have e1 : bits_Sub64 0 (u64 z) 0 = (u64 (-z), if 0 < u64 z then 1 else 0) := by
    simp only [bits_Sub64, Prod.mk.injEq]
    refine ⟨?_, ?_⟩
    · simp only [u64_def] at *
      omega
    · split <;> split <;> simp at * <;> omega
  have e2 : ∀ c : Int, c = 0 ∨ c = 1 → (bits_Sub64 0 (u64 (w64 (z / 18446744073709551616))) c).1 = (18446744073709551616 - u64 (w64 (z / 18446744073709551616)) - c) % 18446744073709551616 := by
    intro c hc
    simp only [bits_Sub64]
    rcases hc with rfl | rfl <;> omega
  simp only [impl_Wide_negative, W, e1]
  rw [e2 _ (by split <;> omega)]
  simp only [Wd.mk.injEq, and_true]
  simp only [w64_def, u64_def]
  split <;> omega
end Go.G880
