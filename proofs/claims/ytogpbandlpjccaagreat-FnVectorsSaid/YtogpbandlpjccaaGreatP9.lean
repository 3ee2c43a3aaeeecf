/- Plain lemmas: roots; what the walk of quotients asks for. -/
import Derived.Test.YtogpbandlpjccaaGreatP8
set_option linter.unusedVariables false
set_option linter.unusedSimpArgs false
namespace Go.G880
open Go Go.RX

/-! ### What the walk asks for -/
theorem pd_divided {hi lo d : Int} (hpre : decide (0 ≤ hi ∧ hi < 18446744073709551616 ∧ 0 ≤ lo ∧ lo < 18446744073709551616 ∧ 0 < d ∧ d < 18446744073709551616) = true) :
    decide (0 ≤ Int.tmod hi d ∧ Int.tmod hi d < d ∧ d < 18446744073709551616 ∧ 0 ≤ lo ∧ lo < 18446744073709551616) = true := by
  simp only [decide_eq_true_eq] at *
  have m1 := Int.emod_nonneg hi (show d ≠ 0 by omega)
  have m2 := Int.emod_lt_of_pos hi (show 0 < d by omega)
  rw [tmod_nn d hpre.1]
  omega
theorem pd_wd1 {w : Wd} {d : Int} (hpre : decide (0 ≤ w.lo ∧ w.lo < 18446744073709551616 ∧ d ≤ 9223372036854775807) = true) (h0 : decide (d ≤ 0) = false) :
    decide (0 ≤ u64 w.hi ∧ u64 w.hi < 18446744073709551616 ∧ 0 ≤ w.lo ∧ w.lo < 18446744073709551616 ∧ 0 < u64 d ∧ u64 d < 18446744073709551616) = true := by
  simp only [decide_eq_true_eq, decide_eq_false_iff_not] at *
  have := u64_rng w.hi
  rw [u64_id (n := d) (by omega) (by omega)]
  omega
theorem neg_lo (w : Wd) : 0 ≤ (impl_Wide_negative w).lo ∧ (impl_Wide_negative w).lo < 18446744073709551616 := by
  simp only [impl_Wide_negative, bits_Sub64]
  omega
theorem pd_wd2 {w : Wd} {d : Int} (hpre : decide (0 ≤ w.lo ∧ w.lo < 18446744073709551616 ∧ d ≤ 9223372036854775807) = true) (h0 : decide (d ≤ 0) = false) :
    decide (0 ≤ u64 (impl_Wide_negative w).hi ∧ u64 (impl_Wide_negative w).hi < 18446744073709551616 ∧ 0 ≤ (impl_Wide_negative w).lo ∧ (impl_Wide_negative w).lo < 18446744073709551616 ∧ 0 < u64 d ∧ u64 d < 18446744073709551616) = true := by
  simp only [decide_eq_true_eq, decide_eq_false_iff_not] at *
  have := u64_rng (impl_Wide_negative w).hi
  have := neg_lo w
  rw [u64_id (n := d) (by omega) (by omega)]
  omega
theorem WideMul_lo (a b : Int) : 0 ≤ (impl_WideMul a b).lo ∧ (impl_WideMul a b).lo < 18446744073709551616 := by
  simp only [impl_WideMul]
  cases decide (a < 0) <;> cases decide (b < 0) <;> exact u64_rng _
theorem pd_mul {a b d : Int} (hpre : decide (d ≤ 9223372036854775807) = true) : decide (0 ≤ (impl_WideMul a b).lo ∧ (impl_WideMul a b).lo < 18446744073709551616 ∧ d ≤ 9223372036854775807) = true := by
  simp only [decide_eq_true_eq] at *
  exact ⟨(WideMul_lo a b).1, (WideMul_lo a b).2, hpre⟩
theorem pd_fix {b : Int} (h : (!(impl_ValidFix b)) = false) : decide (b ≤ 9223372036854775807) = true := by
  have := (l03Ok_iff b).1 (by rw [← fixOk]; simpa using h)
  exact decide_eq_true (by omega)
theorem pd_fix' {b : Int} (h : (!(spec_l03Ok b)) = false) : decide (b ≤ 9223372036854775807) = true := pd_fix (by rw [fixOk]; exact h)
theorem pd_ne {d : Int} (h : (d != 0) = true) : decide (d = 0) = false := by simpa using h
theorem pd_u {d : Int} (hpre : decide (d ≤ 9223372036854775807) = true) (h0 : decide (d ≤ 0) = false) : (u64 d != 0) = true := by
  simp only [decide_eq_true_eq, decide_eq_false_iff_not] at *
  rw [u64_id (by omega) (by omega)]
  simp
  omega

theorem pd_add {a b : Wd} (hpre : decide (0 ≤ a.lo ∧ a.lo < 18446744073709551616 ∧ 0 ≤ b.lo ∧ b.lo < 18446744073709551616) = true) : decide (0 ≤ (bits_Add64 a.lo b.lo 0).2 ∧ (bits_Add64 a.lo b.lo 0).2 ≤ 1) = true := by
  simp only [decide_eq_true_eq] at *
  simp only [bits_Add64]
  omega
theorem add_lo (a b : Wd) : 0 ≤ (impl_WideAdd a b).1.lo ∧ (impl_WideAdd a b).1.lo < 18446744073709551616 := by
  simp only [impl_WideAdd]
  generalize (bits_Add64 (u64 a.hi) (u64 b.hi) (bits_Add64 a.lo b.lo 0).2) = t
  cases decide (andI .i64 (xorI .i64 a.hi (w64 t.1)) (xorI .i64 b.hi (w64 t.1)) < 0)
  · simp only [cond_false, bits_Add64]
    omega
  · simp only [cond_true]
    omega
theorem pd_addM {a b c d : Int} : decide (0 ≤ (impl_WideMul a b).lo ∧ (impl_WideMul a b).lo < 18446744073709551616 ∧ 0 ≤ (impl_WideMul c d).lo ∧ (impl_WideMul c d).lo < 18446744073709551616) = true := by
  have h1 := WideMul_lo a b
  have h2 := WideMul_lo c d
  exact decide_eq_true ⟨h1.1, h1.2, h2.1, h2.2⟩
theorem pd_addA {a b : Wd} {c d : Int} : decide (0 ≤ (impl_WideAdd a b).1.lo ∧ (impl_WideAdd a b).1.lo < 18446744073709551616 ∧ 0 ≤ (impl_WideMul c d).lo ∧ (impl_WideMul c d).lo < 18446744073709551616) = true := by
  have h1 := add_lo a b
  have h2 := WideMul_lo c d
  exact decide_eq_true ⟨h1.1, h1.2, h2.1, h2.2⟩

/-! ### Roots -/
/-- A root's bits, from the highest. -/
theorem root_go {rnd : Int → Int → Sum (Int × Int) (Int × Int)} {z : Int}
    (hend : ∀ out, rnd out (-1) = Sum.inr (out, -1))
    (hrnd : ∀ (out : Int) (n : Nat), n < 64 → 0 ≤ out → out % 2 ^ (n + 1) = 0 → out + 2 ^ (n + 1) ≤ 18446744073709551616 → rnd out n = if (out + 2 ^ n) * (out + 2 ^ n) ≤ z then Sum.inl (out + 2 ^ n, (n : Int) - 1) else Sum.inl (out, (n : Int) - 1)) :
    ∀ (n : Nat) (out : Int), n ≤ 64 → 0 ≤ out → out % 2 ^ n = 0 → out + 2 ^ n ≤ 18446744073709551616 → out * out ≤ z → z < (out + 2 ^ n) * (out + 2 ^ n) →
      ∃ r, iterV (fun v => rnd v.1 v.2) (n + 1) (out, (n : Int) - 1) = (r, -1) ∧ 0 ≤ r ∧ r < 18446744073709551616 ∧ r * r ≤ z ∧ z < (r + 1) * (r + 1) := by
  intro n
  induction n with
  | zero =>
    intro out _ h0 h1 h2 h3 h4
    simp only [Int.pow_zero] at h2 h4
    refine ⟨out, ?_, h0, by omega, h3, h4⟩
    rw [iterV]
    have : (((0 : Nat) : Int) - 1) = -1 := rfl
    simp only [this, hend]
  | succ n ih =>
    intro out hn h0 h1 h2 h3 h4
    have hi : ((n + 1 : Nat) : Int) - 1 = (n : Int) := by omega
    have hp := pow_pos2 n
    have e2 : (2 : Int) ^ (n + 1) = 2 ^ n + 2 ^ n := by rw [Int.pow_succ]; omega
    have hdv : ∃ m, out = m * 2 ^ (n + 1) := ⟨out / 2 ^ (n + 1), by have := Int.emod_add_mul_ediv out (2 ^ (n + 1)); rw [h1, Int.mul_comm] at this; omega⟩
    obtain ⟨m, hm⟩ := hdv
    have hd1 : out % 2 ^ n = 0 := by
      rw [hm, Int.pow_succ, Int.mul_comm ((2 : Int) ^ n), ← Int.mul_assoc]
      exact Int.mul_emod_left _ _
    have hd2 : (out + 2 ^ n) % 2 ^ n = 0 := by
      rw [Int.add_emod_right]
      exact hd1
    rw [iterV, hi]
    simp only [hrnd out n (by omega) h0 h1 h2]
    by_cases hc : (out + 2 ^ n) * (out + 2 ^ n) ≤ z
    · rw [if_pos hc]
      refine ih _ (by omega) (by omega) hd2 (by omega) hc ?_
      have : out + 2 ^ n + 2 ^ n = out + 2 ^ (n + 1) := by omega
      rw [this]
      exact h4
    · rw [if_neg hc]
      exact ih _ (by omega) h0 hd1 (by omega) h3 (by omega)
theorem root_bit {out : Int} {n : Nat} (hn : n < 64) (h0 : 0 ≤ out) (h1 : out % 2 ^ (n + 1) = 0) (h2 : out + 2 ^ (n + 1) ≤ 18446744073709551616) :
    orI .u64 out (u64 (1 * 2 ^ n)) = out + 2 ^ n ∧ 0 ≤ out + 2 ^ n ∧ out + 2 ^ n < 18446744073709551616 := by
  have hp := pow_pos2 n
  have e2 : (2 : Int) ^ (n + 1) = 2 ^ n + 2 ^ n := by rw [Int.pow_succ]; omega
  have e1 : u64 (1 * 2 ^ n) = 2 ^ n := by rw [Int.one_mul]; exact u64_id (by omega) (by omega)
  refine ⟨?_, by omega, by omega⟩
  rw [e1]
  exact orI_add (n + 1) h0 (by omega) h1 (by omega) (by omega) (by omega)
/-- Halves compared. -/
theorem halves_le {x hi lo : Int} (h2 : 0 ≤ lo) (h3 : lo < 18446744073709551616) {α : Type} (a b : α) :
    (bif decide (x / 18446744073709551616 < hi) then a else bif x / 18446744073709551616 == hi then bif decide (x % 18446744073709551616 ≤ lo) then a else b else b) = if x ≤ hi * 18446744073709551616 + lo then a else b := by
  by_cases h : x / 18446744073709551616 < hi
  · rw [decide_eq_true h, cond_true, if_pos (by omega)]
  · rw [decide_eq_false h, cond_false]
    by_cases h' : x / 18446744073709551616 = hi
    · have e : (x / 18446744073709551616 == hi) = true := by simp [h']
      rw [e, cond_true]
      by_cases h'' : x % 18446744073709551616 ≤ lo
      · rw [decide_eq_true h'', cond_true, if_pos (by omega)]
      · rw [decide_eq_false h'', cond_false, if_neg (by omega)]
    · have e : (x / 18446744073709551616 == hi) = false := by simp [h']
      rw [e, cond_false, if_neg (by omega)]
theorem l02Root_ex {hi lo : Int} (h2 : 0 ≤ lo) (h3 : lo < 18446744073709551616) : ∃ r, (spec_l02Root.fin3 hi lo (0, 63)).1 = r ∧ (impl_WideSqrt.fin5 hi lo (0, 63)).1 = r ∧ 0 ≤ r ∧ r < 18446744073709551616 ∧ r * r ≤ u64 hi * 18446744073709551616 + lo ∧ u64 hi * 18446744073709551616 + lo < (r + 1) * (r + 1) := by
  have hh := u64_rng hi
  have p64 : ((2 : Int) ^ 64) = 18446744073709551616 := rfl
  have start : ∀ rnd : Int → Int → Sum (Int × Int) (Int × Int), (∀ out, rnd out (-1) = Sum.inr (out, -1)) →
      (∀ (out : Int) (n : Nat), n < 64 → 0 ≤ out → out % 2 ^ (n + 1) = 0 → out + 2 ^ (n + 1) ≤ 18446744073709551616 → rnd out n = if (out + 2 ^ n) * (out + 2 ^ n) ≤ u64 hi * 18446744073709551616 + lo then Sum.inl (out + 2 ^ n, (n : Int) - 1) else Sum.inl (out, (n : Int) - 1)) →
      ∃ r, iterV (fun v => rnd v.1 v.2) 65 (0, 63) = (r, -1) ∧ 0 ≤ r ∧ r < 18446744073709551616 ∧ r * r ≤ u64 hi * 18446744073709551616 + lo ∧ u64 hi * 18446744073709551616 + lo < (r + 1) * (r + 1) := by
    intro rnd h1 h2
    have := root_go h1 h2 64 0 (by omega) (by omega) (by rw [p64]; rfl) (by rw [p64]; omega) (by omega) (by rw [p64]; omega)
    exact this
  have norm : ∀ (out : Int) (n : Nat), n < 64 → 0 ≤ out → out % 2 ^ (n + 1) = 0 → out + 2 ^ (n + 1) ≤ 18446744073709551616 → min (Int.toNat (n : Int)) 64 = n ∧ u64 (n : Int) = n ∧ w64 ((n : Int) - 1) = (n : Int) - 1 ∧ decide ((n : Int) ≥ 0) = true := by
    intro out n hn _ _ _
    exact ⟨by omega, u64_id (by omega) (by omega), w64_id (by omega) (by omega), decide_eq_true (by omega)⟩
  obtain ⟨r, e1, r1, r2, r3, r4⟩ := start (spec_l02Root.rnd3 hi lo) (fun out => rfl) (by
    intro out n hn h0 h1 h2'
    obtain ⟨n1, n2, n3, n4⟩ := norm out n hn h0 h1 h2'
    obtain ⟨b1, b2, b3⟩ := root_bit hn h0 h1 h2'
    have hm := (mul64_eq b2 b3 b2 b3).2
    simp only [spec_l02Root.rnd3, n4, cond_true, n2, n1, b1, hm, n3]
    exact halves_le h2 h3 _ _)
  obtain ⟨r', e1', r1', r2', r3', r4'⟩ := start (impl_WideSqrt.rnd5 hi lo) (fun out => rfl) (by
    intro out n hn h0 h1 h2'
    obtain ⟨n1, n2, n3, n4⟩ := norm out n hn h0 h1 h2'
    obtain ⟨b1, b2, b3⟩ := root_bit hn h0 h1 h2'
    have hm := (mul64_eq b2 b3 b2 b3).1
    simp only [impl_WideSqrt.rnd5, n4, cond_true, n1, b1, hm, n3]
    exact halves_le h2 h3 _ _)
  have hrr : r' = r := by
    rcases Int.lt_trichotomy r' r with h | h | h
    · have : (r' + 1) * (r' + 1) ≤ r * r := Int.mul_le_mul (by omega) (by omega) (by omega) (by omega)
      omega
    · exact h
    · have : (r + 1) * (r + 1) ≤ r' * r' := Int.mul_le_mul (by omega) (by omega) (by omega) (by omega)
      omega
  subst hrr
  exact ⟨r', by simp only [spec_l02Root.fin3, e1], by simp only [impl_WideSqrt.fin5, e1'], r1, r2, r3, r4⟩
theorem root_unique {z r s : Int} (h0 : 0 ≤ r) (h1 : r * r ≤ z) (h2 : z < (r + 1) * (r + 1)) (g0 : 0 ≤ s) (g1 : s * s ≤ z) (g2 : z < (s + 1) * (s + 1)) : r = s := by
  rcases Int.lt_trichotomy r s with h | h | h
  · have : (r + 1) * (r + 1) ≤ s * s := Int.mul_le_mul (by omega) (by omega) (by omega) (by omega)
    omega
  · exact h
  · have : (s + 1) * (s + 1) ≤ r * r := Int.mul_le_mul (by omega) (by omega) (by omega) (by omega)
    omega
theorem Root_W {z : Int} (h0 : 0 ≤ z) (h1 : z < 170141183460469231731687303715884105728) : impl_WideSqrt (W z) = (spec_l02Root (W z), true) ∧ 0 ≤ spec_l02Root (W z) ∧ spec_l02Root (W z) < 18446744073709551616 ∧ spec_l02Root (W z) * spec_l02Root (W z) ≤ z ∧ z < (spec_l02Root (W z) + 1) * (spec_l02Root (W z) + 1) := by
  have hh := W_hi (z := z) (by simp only [In128]; omega)
  obtain ⟨e1, e2⟩ := W_halves h0 (by omega)
  have hl := u64_rng z
  obtain ⟨r, f1, f2, r1, r2, r3, r4⟩ := l02Root_ex (hi := (W z).hi) (lo := (W z).lo) (by rw [e2]; omega) (by rw [e2]; omega)
  rw [e1, e2, halves] at r3 r4
  have hc : decide ((W z).hi < 0) = false := decide_eq_false (by rw [hh]; omega)
  simp only [impl_WideSqrt, spec_l02Root, hc, cond_false, f1, f2]
  exact ⟨trivial, r1, r2, r3, r4⟩
end Go.G880
