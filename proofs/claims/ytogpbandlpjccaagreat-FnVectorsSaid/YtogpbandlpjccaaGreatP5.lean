/- Plain lemmas: bits.Div64, quotients of wide numbers, their roots. -/
import Derived.Test.YtogpbandlpjccaaGreatP4
set_option linter.unusedVariables false
set_option linter.unusedSimpArgs false
namespace Go.G880
open Go Go.RX

theorem orI_rng (a b : Int) : 0 ≤ orI .u64 a b ∧ orI .u64 a b < 18446744073709551616 := ⟨u64_nn _, u64_lt _⟩
theorem u64_rng (a : Int) : 0 ≤ u64 a ∧ u64 a < 18446744073709551616 := ⟨u64_nn _, u64_lt _⟩
theorem pow_pos2 (k : Nat) : (0 : Int) < 2 ^ k := by
  have : (2 : Int) ^ k = ((2 ^ k : Nat) : Int) := by simp
  have h := Nat.two_pow_pos k
  omega

/-! ### What the walk asks for -/
theorem d64_shift {y : Int} {k : Nat} (h : u64 (bits_LeadingZeros64 y) = k) (hk : k ≤ 63) : min (Int.toNat (u64 (bits_LeadingZeros64 y))) 64 = k ∧ min (Int.toNat (u64 (64 - u64 (bits_LeadingZeros64 y)))) 64 = 64 - k := by
  rw [h]
  constructor
  · omega
  · rw [u64_id (by omega) (by omega)]
    omega
theorem d64_x2 {hi lo y : Int} (hpre : decide (0 ≤ hi ∧ hi < y ∧ y < 18446744073709551616 ∧ 0 ≤ lo ∧ lo < 18446744073709551616) = true) :
    2147483648 ≤ Int.fdiv (u64 (y * (2 ^ (min (Int.toNat (u64 (bits_LeadingZeros64 y))) 64)))) 4294967296 ∧ Int.fdiv (u64 (y * (2 ^ (min (Int.toNat (u64 (bits_LeadingZeros64 y))) 64)))) 4294967296 < 4294967296 := by
  simp only [decide_eq_true_eq] at hpre
  obtain ⟨k, hk, ek, m1, m2⟩ := lz_eq (y := y) (by omega) (by omega)
  rw [(d64_shift ek hk).1, u64_id (by omega) (by omega), fdiv_pos _ (by omega)]
  omega
theorem d64_x2_ne {hi lo y : Int} (hpre : decide (0 ≤ hi ∧ hi < y ∧ y < 18446744073709551616 ∧ 0 ≤ lo ∧ lo < 18446744073709551616) = true) :
    decide (Int.fdiv (u64 (y * (2 ^ (min (Int.toNat (u64 (bits_LeadingZeros64 y))) 64)))) 4294967296 = 0) = false := by
  have := d64_x2 hpre
  simp only [decide_eq_false_iff_not]
  omega
theorem d64_c {x u : Int} (hx : 2147483648 ≤ x ∧ x < 4294967296) (hu : 0 ≤ u ∧ u < 18446744073709551616) :
    decide (2147483648 ≤ x ∧ x < 4294967296 ∧ 0 ≤ u64 (u - u64 (u64 (Int.tdiv u x) * x)) ∧ u64 (u - u64 (u64 (Int.tdiv u x) * x)) < 4294967296) = true := by
  have hq : 0 ≤ u / x := Int.ediv_nonneg hu.1 (by omega)
  have hq2 : u / x ≤ u := Int.ediv_le_self _ hu.1
  have hm := Int.emod_add_mul_ediv u x
  have hc : u / x * x = x * (u / x) := Int.mul_comm _ _
  have m1 := Int.emod_nonneg u (show x ≠ 0 by omega)
  have m2 := Int.emod_lt_of_pos u (show 0 < x by omega)
  have hp : 0 ≤ u / x * x := Int.mul_nonneg hq (by omega)
  simp only [decide_eq_true_eq]
  rw [tdiv_nn x hu.1, u64_id hq (by omega), u64_id hp (by omega), u64_id (by omega) (by omega)]
  omega
theorem sub64_borrow (x y c : Int) : decide (0 ≤ (bits_Sub64 x y c).2 ∧ (bits_Sub64 x y c).2 ≤ 1) = true := by
  have h : (if x.toNat < y.toNat + c.toNat then 1 else 0 : Nat) ≤ 1 := by split <;> omega
  exact decide_eq_true (p := (0 : Int) ≤ ((if x.toNat < y.toNat + c.toNat then 1 else 0 : Nat) : Int) ∧ ((if x.toNat < y.toNat + c.toNat then 1 else 0 : Nat) : Int) ≤ 1) (by omega)

/-! ### bits.Div64 -/
theorem Div64_eq {hi lo y : Int} (h0 : 0 ≤ hi) (h1 : hi < y) (h2 : y < 18446744073709551616) (h3 : 0 ≤ lo) (h4 : lo < 18446744073709551616) :
    bits_Div64 hi lo y = ((hi * 18446744073709551616 + lo) / y, (hi * 18446744073709551616 + lo) % y) := by
  by_cases hz : hi = 0
  · subst hz
    have hq : 0 ≤ lo / y := Int.ediv_nonneg h3 (by omega)
    have hq2 : lo / y ≤ lo := Int.ediv_le_self _ h3
    simp only [bits_Div64, beq_self_eq_true, cond_true, Int.zero_mul, Int.zero_add]
    rw [tdiv_nn y h3, tmod_nn y h3, u64_id hq (by omega)]
  obtain ⟨k, hk, ek, m1, m2⟩ := lz_eq (y := y) (by omega) h2
  obtain ⟨p1, p2⟩ := d64_shift ek hk
  rw [ek] at p1 p2
  have hb : (hi == 0) = false := by simp [hz]
  have pk := pow_pos2 k
  have pk' := pow_pos2 (64 - k)
  have pp : (2 : Int) ^ k * 2 ^ (64 - k) = 18446744073709551616 := by
    rw [← Int.pow_add, show k + (64 - k) = 64 by omega]
    rfl
  -- the digits
  have hY : u64 (y * 2 ^ k) = y * 2 ^ k := u64_id (by omega) (by omega)
  have hhi : hi * 2 ^ k + 2 ^ k ≤ y * 2 ^ k := by
    have := Int.mul_le_mul_of_nonneg_right (show hi + 1 ≤ y by omega) (Int.le_of_lt pk)
    rw [Int.add_mul] at this
    omega
  have hhi0 : 0 ≤ hi * 2 ^ k := Int.mul_nonneg h0 (Int.le_of_lt pk)
  have hl0 : 0 ≤ lo / 2 ^ (64 - k) := Int.ediv_nonneg h3 (Int.le_of_lt pk')
  have hl1 : lo / 2 ^ (64 - k) < 2 ^ k := by
    rw [Int.ediv_lt_iff_lt_mul pk', pp]
    exact h4
  have hU : orI .u64 (u64 (hi * 2 ^ k)) (Int.fdiv lo (2 ^ (64 - k))) = hi * 2 ^ k + lo / 2 ^ (64 - k) := by
    rw [fdiv_pos _ pk', u64_id hhi0 (by omega), orI_add k hhi0 (by omega) (by simp) hl0 hl1 (by omega)]
  have hV : lo * 2 ^ k / 18446744073709551616 = lo / 2 ^ (64 - k) := by
    rw [← pp, Int.mul_comm ((2 : Int) ^ k), Int.mul_ediv_mul_of_pos_left _ _ pk]
  have hz' : (hi * 18446744073709551616 + lo) * 2 ^ k = (hi * 2 ^ k + lo / 2 ^ (64 - k)) * 18446744073709551616 + u64 (lo * 2 ^ k) := by
    rw [u64_def, ← hV, Int.add_mul, Int.mul_right_comm]
    omega
  simp only [bits_Div64, hb, cond_false, p1, p2, ek, hY, hU]
  generalize hYd : y * 2 ^ k = Y at *
  generalize hUd : hi * 2 ^ k + lo / 2 ^ (64 - k) = U at *
  have hVr := u64_rng (lo * 2 ^ k)
  generalize u64 (lo * 2 ^ k) = V at *
  have hUY : U < Y := by
    have e1 : (hi * 18446744073709551616 + lo + 1) * 2 ^ k ≤ y * 18446744073709551616 * 2 ^ k := Int.mul_le_mul_of_nonneg_right (by omega) (Int.le_of_lt pk)
    rw [Int.mul_right_comm y, hYd, Int.add_mul (_ + _) 1, hz'] at e1
    omega
  have hU0 : 0 ≤ U := by omega
  have fd : ∀ z : Int, Int.fdiv z 4294967296 = z / 4294967296 := fun z => fdiv_pos z (by omega)
  have eYa : andI .u64 Y 4294967295 = Y % 4294967296 := and32 (by omega) (by omega)
  have eVa : andI .u64 V 4294967295 = V % 4294967296 := and32 (by omega) (by omega)
  simp only [fd, eYa, eVa]
  have eY : Y / 4294967296 * 4294967296 + Y % 4294967296 = Y := by omega
  obtain ⟨s1, s2, D1⟩ := dig_start (yn1 := Y / 4294967296) (yn0 := Y % 4294967296) (u1 := V / 4294967296) (U := U) (by omega) (by omega) (by omega) (by omega) (by omega) (by omega) hU0 (by omega)
  have f17 := Dig.fin17 (y_ := Y) (s_ := (k : Int)) (un0 := V % 4294967296) 2 _ _ D1 (by split <;> omega)
  have b1 := D1.lt
  simp only [s1, s2, bits_Div64.fin17, f17]
  rw [eY] at b1 ⊢
  generalize hQ1 : (U * 4294967296 + V / 4294967296) / Y = Q1 at *
  have em1 := Int.emod_add_mul_ediv (U * 4294967296 + V / 4294967296) Y
  rw [hQ1, Int.mul_comm Y] at em1
  have r1a := Int.emod_nonneg (U * 4294967296 + V / 4294967296) (show Y ≠ 0 by omega)
  have r1b := Int.emod_lt_of_pos (U * 4294967296 + V / 4294967296) (show 0 < Y by omega)
  generalize hR1 : (U * 4294967296 + V / 4294967296) % Y = R1 at *
  have e21 : u64 (u64 (u64 (U * 4294967296) + V / 4294967296) - u64 (Q1 * Y)) = R1 := by
    simp only [u64_def]
    omega
  simp only [e21]
  obtain ⟨t1, t2, D0⟩ := dig_start (yn1 := Y / 4294967296) (yn0 := Y % 4294967296) (u1 := V % 4294967296) (U := R1) (by omega) (by omega) (by omega) (by omega) (by omega) (by omega) r1a (by omega)
  have f24 := Dig.fin24 (y_ := Y) (s_ := (k : Int)) (un32 := U) (un1 := V / 4294967296) (q1 := Q1) 2 _ _ D0 (by split <;> omega)
  have b0 := D0.lt
  simp only [t1, t2, bits_Div64.fin24, f24]
  rw [eY] at b0 ⊢
  generalize hQ0 : (R1 * 4294967296 + V % 4294967296) / Y = Q0 at *
  have em0 := Int.emod_add_mul_ediv (R1 * 4294967296 + V % 4294967296) Y
  rw [hQ0, Int.mul_comm Y] at em0
  have r0a := Int.emod_nonneg (R1 * 4294967296 + V % 4294967296) (show Y ≠ 0 by omega)
  have r0b := Int.emod_lt_of_pos (R1 * 4294967296 + V % 4294967296) (show 0 < Y by omega)
  generalize hR0 : (R1 * 4294967296 + V % 4294967296) % Y = R0 at *
  have e0 : u64 (u64 (u64 (R1 * 4294967296) + V % 4294967296) - u64 (Q0 * Y)) = R0 := by
    simp only [u64_def]
    omega
  have eq : u64 (u64 (Q1 * 4294967296) + Q0) = Q1 * 4294967296 + Q0 := by
    rw [u64_id (n := Q1 * 4294967296) (by omega) (by omega), u64_id (by omega) (by omega)]
  rw [e0, eq, fdiv_pos _ pk]
  -- the whole
  have tot : (hi * 18446744073709551616 + lo) * 2 ^ k = R0 + (Q1 * 4294967296 + Q0) * Y := by
    have e1 : (Q1 * 4294967296 + Q0) * Y = Q1 * Y * 4294967296 + Q0 * Y := by rw [Int.add_mul, Int.mul_right_comm]
    rw [hz', e1]
    omega
  have d1 : (hi * 18446744073709551616 + lo) * 2 ^ k / Y = Q1 * 4294967296 + Q0 := by
    rw [tot, Int.add_mul_ediv_right _ _ (by omega), Int.ediv_eq_zero_of_lt r0a r0b]
    omega
  have d2 : (hi * 18446744073709551616 + lo) * 2 ^ k % Y = R0 := by
    rw [tot, Int.add_mul_emod_self_right, Int.emod_eq_of_lt r0a r0b]
  rw [← hYd] at d1 d2
  rw [Int.mul_ediv_mul_of_pos_left _ _ pk] at d1
  rw [Int.mul_comm _ ((2 : Int) ^ k), Int.mul_comm y, Int.mul_emod_mul_of_pos _ _ pk] at d2
  rw [← d1, ← d2, Int.mul_ediv_cancel_left _ (by omega)]

end Go.G880
