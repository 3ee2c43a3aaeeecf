/- Plain lemmas: quotients of wide numbers. -/
import Derived.Test.YtogpbandlpjccaaGreatP3
set_option linter.unusedVariables false
set_option linter.unusedSimpArgs false
namespace Go.G880
open Go Go.RX

/-! ### bits.LeadingZeros64 -/
theorem bitLenAux_bounds : ∀ (f x : Nat), 0 < x → x < 2 ^ f → 2 ^ (Lib.bitLenAux f x - 1) ≤ x ∧ x < 2 ^ Lib.bitLenAux f x ∧ 1 ≤ Lib.bitLenAux f x
  | 0, x, h0, h => by simp at h; omega
  | f + 1, x, h0, h => by
    rw [Lib.bitLenAux, if_neg (by omega)]
    by_cases h2 : x / 2 = 0
    · have : x = 1 := by omega
      subst this
      have : Lib.bitLenAux f (1 / 2) = 0 := by
        cases f
        · rfl
        · rfl
      rw [this]
      decide
    · obtain ⟨a, b, c⟩ := bitLenAux_bounds f (x / 2) (by omega) (by rw [Nat.pow_succ] at h; omega)
      obtain ⟨k, hk⟩ : ∃ k, Lib.bitLenAux f (x / 2) = k + 1 := ⟨_, (Nat.sub_add_cancel c).symm⟩
      rw [hk] at a b ⊢
      have e1 : 1 + (k + 1) - 1 = k + 1 := by omega
      have e2 : 1 + (k + 1) = (k + 1) + 1 := by omega
      rw [e1, e2]
      simp only [Nat.add_sub_cancel] at a
      rw [Nat.pow_succ] at b ⊢
      refine ⟨by omega, ?_, by omega⟩
      rw [Nat.pow_succ 2 (k + 1), Nat.pow_succ]
      omega

/-- How far a number is moved up. -/
theorem lz_eq {y : Int} (h0 : 0 < y) (h1 : y < 18446744073709551616) : ∃ k : Nat, k ≤ 63 ∧ u64 (bits_LeadingZeros64 y) = k ∧ 9223372036854775808 ≤ y * 2 ^ k ∧ y * 2 ^ k < 18446744073709551616 := by
  obtain ⟨a, b, c⟩ := bitLenAux_bounds 64 y.toNat (by omega) (by omega)
  have hle : Lib.bitLenAux 64 y.toNat ≤ 64 := Lib.bitLenAux_le 64 y.toNat 64 (by omega)
  refine ⟨64 - Lib.bitLenAux 64 y.toNat, by omega, ?_, ?_⟩
  · simp only [bits_LeadingZeros64, bits_Len64, Lib.bitLen, w64_def, u64_def]
    omega
  · generalize Lib.bitLenAux 64 y.toNat = n at *
    have ey : y = (y.toNat : Int) := by omega
    have p1 : 2 ^ (n - 1) * 2 ^ (64 - n) = 2 ^ 63 := by rw [← Nat.pow_add]; congr 1; omega
    have p2 : 2 ^ n * 2 ^ (64 - n) = 2 ^ 64 := by rw [← Nat.pow_add]; congr 1; omega
    have m1 : 2 ^ (n - 1) * 2 ^ (64 - n) ≤ y.toNat * 2 ^ (64 - n) := Nat.mul_le_mul_right _ a
    have m2 : y.toNat * 2 ^ (64 - n) < 2 ^ n * 2 ^ (64 - n) := Nat.mul_lt_mul_of_pos_right b (Nat.two_pow_pos _)
    have e : y * 2 ^ (64 - n) = ((y.toNat * 2 ^ (64 - n) : Nat) : Int) := by
      rw [Int.natCast_mul, ← ey]
      simp
    rw [e]
    rw [p1] at m1
    rw [p2] at m2
    omega

/-! ### bits.Div64 -/
/-- When a digit is too great. -/
theorem digit_test {yn1 yn0 u1 U qh : Int} (hy : 0 < yn1 * 4294967296 + yn0) :
    (U * 4294967296 + u1) / (yn1 * 4294967296 + yn0) < qh ↔ (U - qh * yn1) * 4294967296 + u1 < qh * yn0 := by
  rw [Int.ediv_lt_iff_lt_mul hy]
  have : qh * (yn1 * 4294967296 + yn0) = qh * yn1 * 4294967296 + qh * yn0 := by rw [Int.mul_add, Int.mul_assoc]
  rw [this, Int.sub_mul]
  omega
/-- A round's rule: a digit that is too great is made less. -/
structure Dig (yn1 yn0 u1 U qh rh : Int) : Prop where
  a1 : 2147483648 ≤ yn1
  a2 : yn1 < 4294967296
  b1 : 0 ≤ yn0
  b2 : yn0 < 4294967296
  c1 : 0 ≤ u1
  c2 : u1 < 4294967296
  d1 : 0 ≤ U
  d2 : U < yn1 * 4294967296 + yn0
  r : rh = U - qh * yn1
  r1 : 0 ≤ rh
  r2 : rh < 4294967296
  q1 : (U * 4294967296 + u1) / (yn1 * 4294967296 + yn0) ≤ qh
  q2 : qh ≤ 4294967297
theorem Dig.lt {yn1 yn0 u1 U qh rh : Int} (h : Dig yn1 yn0 u1 U qh rh) : 0 ≤ (U * 4294967296 + u1) / (yn1 * 4294967296 + yn0) ∧ (U * 4294967296 + u1) / (yn1 * 4294967296 + yn0) < 4294967296 := by
  obtain ⟨a1, a2, b1, b2, c1, c2, d1, d2, r, r1, r2, q1, q2⟩ := h
  refine ⟨Int.ediv_nonneg (by omega) (by omega), (Int.ediv_lt_iff_lt_mul (by omega)).2 ?_⟩
  have : (U + 1) * 4294967296 ≤ (yn1 * 4294967296 + yn0) * 4294967296 := Int.mul_le_mul_of_nonneg_right (by omega) (by omega)
  omega
theorem Dig.test {yn1 yn0 u1 U qh rh : Int} (h : Dig yn1 yn0 u1 U qh rh) : (qh ≥ 4294967296 ∨ u64 (qh * yn0) > u64 (u64 (4294967296 * rh) + u1)) ↔ (U * 4294967296 + u1) / (yn1 * 4294967296 + yn0) < qh := by
  have hl := h.lt
  obtain ⟨a1, a2, b1, b2, c1, c2, d1, d2, r, r1, r2, q1, q2⟩ := h
  by_cases hq : qh ≥ 4294967296
  · exact ⟨fun _ => by omega, fun _ => Or.inl hq⟩
  · rw [digit_test (by omega), ← r]
    have m1 : 0 ≤ qh * yn0 := Int.mul_nonneg (by omega) b1
    have m2 : qh * yn0 ≤ 4294967295 * yn0 := Int.mul_le_mul_of_nonneg_right (by omega) b1
    rw [u64_id m1 (by omega), u64_id (n := 4294967296 * rh) (by omega) (by omega), u64_id (by omega) (by omega)]
    constructor
    · rintro (h1 | h1)
      · exact absurd h1 hq
      · omega
    · intro h1
      exact Or.inr (by omega)
theorem Dig.next {yn1 yn0 u1 U qh rh : Int} (h : Dig yn1 yn0 u1 U qh rh) (ht : (U * 4294967296 + u1) / (yn1 * 4294967296 + yn0) < qh) :
    u64 (qh - 1) = qh - 1 ∧ u64 (rh + yn1) = rh + yn1 ∧ (¬ rh + yn1 ≥ 4294967296 → Dig yn1 yn0 u1 U (qh - 1) (rh + yn1)) ∧ (rh + yn1 ≥ 4294967296 → (U * 4294967296 + u1) / (yn1 * 4294967296 + yn0) = qh - 1) := by
  have hl := h.lt
  obtain ⟨a1, a2, b1, b2, c1, c2, d1, d2, r, r1, r2, q1, q2⟩ := h
  have er : rh + yn1 = U - (qh - 1) * yn1 := by rw [Int.sub_mul]; omega
  refine ⟨u64_id (by omega) (by omega), u64_id (by omega) (by omega), fun hb => ⟨a1, a2, b1, b2, c1, c2, d1, d2, er, by omega, by omega, by omega, by omega⟩, fun hb => ?_⟩
  have : ¬ (U * 4294967296 + u1) / (yn1 * 4294967296 + yn0) < qh - 1 := by
    rw [digit_test (by omega), ← er]
    have m2 : (qh - 1) * yn0 ≤ 4294967296 * yn0 := Int.mul_le_mul_of_nonneg_right (by omega) b1
    omega
  omega
/-- The first digit's loop. -/
theorem Dig.fin17 {y_ s_ yn1 yn0 un32 un1 un0 : Int} : ∀ (n : Nat) (qh rh : Int), Dig yn1 yn0 un1 un32 qh rh → (if rh < 2147483648 then 1 else 0) < n →
    (iterV (fun v => bits_Div64.rnd17 y_ s_ yn1 yn0 un32 un1 un0 v.1 v.2) n (qh, rh)).1 = (un32 * 4294967296 + un1) / (yn1 * 4294967296 + yn0) := by
  intro n
  induction n with
  | zero => intro qh rh _ h; omega
  | succ n ih =>
    intro qh rh h hn
    have ht := h.test
    have hl := h.r1
    have ha := h.a1
    rw [iterV]
    by_cases h1 : (un32 * 4294967296 + un1) / (yn1 * 4294967296 + yn0) < qh
    · obtain ⟨e1, e2, h3, h4⟩ := h.next h1
      have h5 := ht.2 h1
      have step : bits_Div64.rnd17 y_ s_ yn1 yn0 un32 un1 un0 qh rh = if rh + yn1 ≥ 4294967296 then Sum.inr (qh - 1, rh + yn1) else Sum.inl (qh - 1, rh + yn1) := by
        simp only [bits_Div64.rnd17, Bool.cond_eq_ite, decide_eq_true_eq, e1, e2]
        by_cases h6 : qh ≥ 4294967296
        · rw [if_pos h6]
        · rw [if_neg h6, if_pos (h5.resolve_left h6)]
      simp only [step]
      by_cases h7 : rh + yn1 ≥ 4294967296
      · rw [if_pos h7]
        exact (h4 h7).symm
      · rw [if_neg h7]
        exact ih _ _ (h3 h7) (by split at hn <;> split <;> omega)
    · have h5 := fun h => h1 (ht.1 h)
      have step : bits_Div64.rnd17 y_ s_ yn1 yn0 un32 un1 un0 qh rh = Sum.inr (qh, rh) := by
        simp only [bits_Div64.rnd17, Bool.cond_eq_ite, decide_eq_true_eq]
        rw [if_neg (fun h => h5 (Or.inl h)), if_neg (fun h => h5 (Or.inr h))]
      simp only [step]
      have := h.q1
      omega
theorem Dig.fin24 {y_ s_ yn1 yn0 un32 un1 un0 q1 un21 : Int} : ∀ (n : Nat) (qh rh : Int), Dig yn1 yn0 un0 un21 qh rh → (if rh < 2147483648 then 1 else 0) < n →
    (iterV (fun v => bits_Div64.rnd24 y_ s_ yn1 yn0 un32 un1 un0 q1 un21 v.1 v.2) n (rh, qh)).2 = (un21 * 4294967296 + un0) / (yn1 * 4294967296 + yn0) := by
  intro n
  induction n with
  | zero => intro qh rh _ h; omega
  | succ n ih =>
    intro qh rh h hn
    have ht := h.test
    have hl := h.r1
    have ha := h.a1
    rw [iterV]
    by_cases h1 : (un21 * 4294967296 + un0) / (yn1 * 4294967296 + yn0) < qh
    · obtain ⟨e1, e2, h3, h4⟩ := h.next h1
      have h5 := ht.2 h1
      have step : bits_Div64.rnd24 y_ s_ yn1 yn0 un32 un1 un0 q1 un21 rh qh = if rh + yn1 ≥ 4294967296 then Sum.inr (rh + yn1, qh - 1) else Sum.inl (rh + yn1, qh - 1) := by
        simp only [bits_Div64.rnd24, Bool.cond_eq_ite, decide_eq_true_eq, e1, e2]
        by_cases h6 : qh ≥ 4294967296
        · rw [if_pos h6]
        · rw [if_neg h6, if_pos (h5.resolve_left h6)]
      simp only [step]
      by_cases h7 : rh + yn1 ≥ 4294967296
      · rw [if_pos h7]
        exact (h4 h7).symm
      · rw [if_neg h7]
        exact ih _ _ (h3 h7) (by split at hn <;> split <;> omega)
    · have h5 := fun h => h1 (ht.1 h)
      have step : bits_Div64.rnd24 y_ s_ yn1 yn0 un32 un1 un0 q1 un21 rh qh = Sum.inr (rh, qh) := by
        simp only [bits_Div64.rnd24, Bool.cond_eq_ite, decide_eq_true_eq]
        rw [if_neg (fun h => h5 (Or.inl h)), if_neg (fun h => h5 (Or.inr h))]
      simp only [step]
      have := h.q1
      omega
/-- How a digit starts. -/
theorem dig_start {yn1 yn0 u1 U : Int} (a1 : 2147483648 ≤ yn1) (a2 : yn1 < 4294967296) (b1 : 0 ≤ yn0) (b2 : yn0 < 4294967296) (c1 : 0 ≤ u1) (c2 : u1 < 4294967296) (d1 : 0 ≤ U) (d2 : U < yn1 * 4294967296 + yn0) :
    u64 (Int.tdiv U yn1) = U / yn1 ∧ u64 (U - u64 (U / yn1 * yn1)) = U % yn1 ∧ Dig yn1 yn0 u1 U (U / yn1) (U % yn1) := by
  have hq2 : U / yn1 < 4294967298 := by
    rw [Int.ediv_lt_iff_lt_mul (by omega)]
    omega
  have hq1 : 0 ≤ U / yn1 := Int.ediv_nonneg d1 (by omega)
  have e1 : u64 (Int.tdiv U yn1) = U / yn1 := by rw [tdiv_nn yn1 d1, u64_id hq1 (by omega)]
  have hm := Int.emod_add_mul_ediv U yn1
  have hc : U / yn1 * yn1 = yn1 * (U / yn1) := Int.mul_comm _ _
  have m1 := Int.emod_nonneg U (show yn1 ≠ 0 by omega)
  have m2 := Int.emod_lt_of_pos U (show 0 < yn1 by omega)
  have hp : 0 ≤ U / yn1 * yn1 := Int.mul_nonneg hq1 (by omega)
  have e2 : u64 (U / yn1 * yn1) = U / yn1 * yn1 := u64_id hp (by omega)
  refine ⟨e1, ?_, a1, a2, b1, b2, c1, c2, d1, d2, by omega, m1, by omega, ?_, by omega⟩
  · rw [e2, u64_id (by omega) (by omega)]
    omega
  · apply Int.le_of_not_gt
    rw [gt_iff_lt, Int.lt_iff_add_one_le]
    intro hh
    have hh' : U / yn1 < (U * 4294967296 + u1) / (yn1 * 4294967296 + yn0) := hh
    have : (U * 4294967296 + u1) / (yn1 * 4294967296 + yn0) < U / yn1 + 1 := by
      rw [digit_test (by omega)]
      have e3 : (U / yn1 + 1) * yn1 = U / yn1 * yn1 + yn1 := by rw [Int.add_mul]; omega
      have m3 : 0 ≤ (U / yn1 + 1) * yn0 := Int.mul_nonneg (by omega) b1
      rw [e3]
      omega
    omega
end Go.G880
