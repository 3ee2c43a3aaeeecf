/- Logarithms and exponentials: what the program's intervals enclose. -/
import Derived.Test.YtogpbandlpjccaaGreatDoorRL
set_option linter.unusedVariables false
set_option linter.unusedSimpArgs false
namespace Go.G880.Re
open Go Go.RX Go.G880 Go.Rl
noncomputable def l2 : R := log 2
theorem exp_l2 : exp l2 = 2 := exp_log (by grind)
def L0 : Rat := 1598288580650331957 / 2305843009213693952
def L1 : Rat := 1598288580650331958 / 2305843009213693952
theorem l2_lo : R.of L0 ≤ l2 := by
 have h := exp_of (x := L0) (by decide +kernel) (n := 24) (by omega)
 have k : qsum (fun _ => 1) L0 24 + 2 * (qfi 24 * 1 ^ 24) ≤ 2 := by decide +kernel
 have k2 := R.of_le.2 k
 rw [R.of_add] at k2
 have e2 : R.of 2 = 2 := rfl
 rw [e2] at k2
 unfold Bd at h
 rw [← exp_le_iff, exp_l2]
 grind
theorem l2_hi : l2 ≤ R.of L1 := by
 have h := exp_of (x := L1) (by decide +kernel) (n := 24) (by omega)
 have k : 2 ≤ qsum (fun _ => 1) L1 24 - 2 * (qfi 24 * 1 ^ 24) := by decide +kernel
 have k2 := R.of_le.2 k
 rw [show qsum (fun _ => 1) L1 24 - 2 * (qfi 24 * 1 ^ 24) = qsum (fun _ => 1) L1 24 + -(2 * (qfi 24 * 1 ^ 24)) from Rat.sub_eq_add_neg _ _, R.of_add, R.of_neg] at k2
 have e2 : R.of 2 = 2 := rfl
 rw [e2] at k2
 unfold Bd at h
 rw [← exp_le_iff, exp_l2]
 grind
theorem L0_val : R.of L0 = 1598288580650331957 / 2305843009213693952 := by unfold L0; rw [R.of_div]; rfl
theorem L1_val : R.of L1 = 1598288580650331958 / 2305843009213693952 := by unfold L1; rw [R.of_div]; rfl
def lnOk : Bool := (List.range 65).all fun k => decide ((impl_LogTwoI.A (k : Int)).lo * 536870912 ≤ (k : Int) * 1598288580650331957 ∧ (k : Int) * 1598288580650331958 ≤ (impl_LogTwoI.A (k : Int)).hi * 536870912)
theorem ln_ok : lnOk = true := by decide +kernel
theorem LogTwoAJ {k : Int} (h0 : 0 ≤ k) (h1 : k ≤ 64) : HR (impl_LogTwoI.A k) ((k : R) * l2) := by
 have h := ln_ok
 unfold lnOk at h
 rw [List.all_eq_true] at h
 have := of_decide_eq_true (h k.toNat (by rw [List.mem_range]; omega))
 rw [show ((k.toNat : Nat) : Int) = k by omega] at this
 obtain ⟨a, b⟩ := this
 have a2 := cast_le.2 a
 have b2 := cast_le.2 b
 rw [cast_mul, cast_mul] at a2 b2
 have kn : (0 : R) ≤ (k : R) := by have := cast_le.2 h0; exact this
 have q0 := l2_lo
 have q1 := l2_hi
 rw [L0_val] at q0
 rw [L1_val] at q1
 have p0 := R.mul_nn kn (b := l2 - 1598288580650331957 / 2305843009213693952) (by grind)
 have p1 := R.mul_nn kn (b := 1598288580650331958 / 2305843009213693952 - l2) (by grind)
 have e1 : ((536870912 : Int) : R) = 536870912 := rfl
 have e2 : ((1598288580650331957 : Int) : R) = 1598288580650331957 := rfl
 have e3 : ((1598288580650331958 : Int) : R) = 1598288580650331958 := rfl
 rw [e1, e2] at a2
 rw [e1, e3] at b2
 intro _
 exact ⟨by rw [fR_val]; grind, by rw [fR_val]; grind⟩
theorem LogTwoJ (k : Int) : HR (impl_LogTwoI k) ((k : R) * l2) := by
 unfold impl_LogTwoI
 cases hw : impl_within k (-64) 64
 ·exact hr_whole _
 have := (l00In_iff _ _ _).1 hw
 simp only [Bool.not_true, cond_false]
 by_cases h : k < 0
 ·rw [decide_eq_true h, cond_true, w64_id (by omega) (by omega), show (0 - k : Int) = -k by omega]
  exact (NegJ (LogTwoAJ (k := -k) (by omega) (by omega))).eq (by rw [cast_neg]; grind)
 ·rw [decide_eq_false h, cond_false]
  have := LogTwoAJ (k := k) (by omega) (by omega)
  unfold impl_LogTwoI.A at this
  rw [hw] at this
  exact this
noncomputable def E (k : Int) : R := exp ((k : R) * l2)
theorem E_pos (k : Int) : 0 < E k := exp_pos _
theorem E_add (a b : Int) : E (a + b) = E a * E b := by unfold E; rw [cast_add, ← exp_add]; congr 1; grind
theorem E_zero : E 0 = 1 := by unfold E; rw [show ((0 : Int) : R) = 0 from rfl, show (0 : R) * l2 = 0 by grind, exp_zero]
theorem E_one : E 1 = 2 := by unfold E; rw [one_cast, show (1 : R) * l2 = l2 by grind, exp_l2]
theorem E_pow (m : Nat) : E (m : Int) = (((2 : Int) ^ m : Int) : R) := by
 induction m with
 | zero => exact E_zero
 | succ m ih =>
  rw [show ((m + 1 : Nat) : Int) = (m : Int) + 1 by omega, E_add, ih, E_one, Int.pow_succ, cast_mul]
  rfl
theorem E_neg (m : Int) : E (-m) * E m = 1 := by rw [← E_add, show -m + m = 0 by omega, E_zero]
theorem fR_pow (n : Int) (m : Nat) : fR (n * 2 ^ m) = fR n * E (m : Int) := by rw [E_pow, fR_val, fR_val, cast_mul]; grind
theorem shift_in {lo hi : Int} {x : R} (m : Nat) (h : fR lo ≤ x ∧ x ≤ fR hi) : fR (Int.fdiv lo (2 ^ m)) ≤ x * E (-(m : Int)) ∧ x * E (-(m : Int)) ≤ fR (-(Int.fdiv (-hi) (2 ^ m))) := by
 have hp : (0 : Int) < 2 ^ m := Int.pow_pos (by omega)
 have e := E_neg (m : Int)
 have p := E_pos (-(m : Int))
 rw [fdiv_pos _ hp, fdiv_pos _ hp]
 have a := fR_le.2 (Int.ediv_mul_le lo (b := 2 ^ m) (by omega))
 have b := fR_le.2 (Int.ediv_mul_le (-hi) (b := 2 ^ m) (by omega))
 rw [fR_pow] at a b
 rw [fR_neg] at b
 rw [fR_neg]
 generalize fR (lo / 2 ^ m) = A at *
 generalize fR (-hi / 2 ^ m) = B at *
 generalize E (m : Int) = M at *
 generalize E (-(m : Int)) = N at *
 have c := R.mul_nn (a := N) (b := x - A * M) (by grind) (by grind)
 have d := R.mul_nn (a := N) (b := -(B * M) - x) (by grind) (by grind)
 have c2 : N * (x - A * M) = x * N - A := by grind
 have d2 : N * (-(B * M) - x) = -B - x * N := by grind
 constructor <;> grind
theorem scaled_inv {x : R} {k : Int} {X : Iv} (hX : HR X x) (h : -64 ≤ k ∧ k ≤ 200) :
  ∃ y : R, -64 ≤ (impl_scaled.fin1 (k, X.lo, X.hi)).1 ∧ (impl_scaled.fin1 (k, X.lo, X.hi)).1 ≤ 0 ∧ HR ⟨(impl_scaled.fin1 (k, X.lo, X.hi)).2.1, (impl_scaled.fin1 (k, X.lo, X.hi)).2.2⟩ y ∧ y * E (impl_scaled.fin1 (k, X.lo, X.hi)).1 = x * E k := by
 obtain ⟨u, hu, hr⟩ := iterV_end (rnd := fun v : Int × Int × Int => impl_scaled.rnd1 v.1 v.2.1 v.2.2) (fun v => (-64 ≤ v.1 ∧ v.1 ≤ 200) ∧ ∃ y, HR ⟨v.2.1, v.2.2⟩ y ∧ y * E v.1 = x * E k) (fun v => v.1.toNat) (fun v v' hv hr => by
  obtain ⟨hv, y, hy, ey⟩ := hv
  simp only [impl_scaled.rnd1] at hr
  cases h1 : decide (v.1 > 0)
  ·rw [h1] at hr; simp at hr
  have h1' := of_decide_eq_true h1
  rw [h1, w64_id (n := v.1 - 1) (by omega) (by omega)] at hr
  simp only [cond_true] at hr
  cases hr
  simp only []
  refine ⟨⟨by omega, 2 * y, DoubleJ hy, ?_⟩, by omega⟩
  rw [← ey, show v.1 = (v.1 - 1) + 1 by omega, E_add, E_one]
  rw [show v.1 - 1 + 1 - 1 = v.1 - 1 by omega]
  grind) 202 (k, X.lo, X.hi) ⟨h, x, hX, rfl⟩ (by simp only []; omega)
 obtain ⟨⟨u1, u2⟩, y, hy, ey⟩ := hu
 simp only [impl_scaled.rnd1] at hr
 cases h1 : decide (u.1 > 0)
 ·rw [h1] at hr
  simp only [cond_false, Sum.inr.injEq] at hr
  have h1' := of_decide_eq_false h1
  have ef : impl_scaled.fin1 (k, X.lo, X.hi) = u := by
   simp only [impl_scaled.fin1]
   simp only [impl_scaled.rnd1]
   exact hr.symm
  rw [ef]
  exact ⟨y, u1, by omega, hy, ey⟩
 ·rw [h1] at hr
  simp at hr
theorem scaledJ {x : R} {k : Int} {X : Iv} (hX : HR X x) (h : -64 ≤ k ∧ k ≤ 200) : HR (impl_scaled X k) (x * E k) := by
 obtain ⟨y, f1, f2, hy, ey⟩ := scaled_inv hX h
 unfold impl_scaled
 generalize impl_scaled.fin1 (k, X.lo, X.hi) = t at *
 simp only [impl_IsWhole]
 cases ok : impl_ValidInterval ⟨t.2.1, t.2.2⟩
 ·exact hr_whole _
 simp only [Bool.not_true, cond_false]
 have i := hy ok
 have io := (ok_iff _).1 ok
 simp only [] at io
 unfold In at i
 rw [w64_id (n := 0 - t.1) (by omega) (by omega)]
 obtain ⟨m, hm⟩ : ∃ m : Nat, (m : Int) = 0 - t.1 := ⟨(0 - t.1).toNat, by omega⟩
 rw [show min (Int.toNat (0 - t.1)) 64 = m by omega]
 have s := shift_in m i
 have hp : (0 : Int) < 2 ^ m := Int.pow_pos (by omega)
 rw [show -(m : Int) = t.1 by omega, ey] at s
 rw [w64_id (n := 0 - t.2.2) (by omega) (by omega), show (0 - t.2.2 : Int) = -t.2.2 by omega]
 have rng : -1152921504606846976 ≤ Int.fdiv (-t.2.2) (2 ^ m) ∧ Int.fdiv (-t.2.2) (2 ^ m) ≤ 1152921504606846976 := by
  rw [fdiv_pos _ hp]
  have a := Int.ediv_mul_le (-t.2.2) (b := 2 ^ m) (by omega)
  have b := Int.lt_ediv_add_one_mul_self (-t.2.2) hp
  constructor
  ·apply Int.le_of_not_gt
   intro hc
   have : (-t.2.2 / 2 ^ m + 1) * 2 ^ m ≤ -1152921504606846976 * 1 := by
    have := Int.mul_le_mul_of_nonneg_left (show (1 : Int) ≤ 2 ^ m by omega) (show 0 ≤ -(-t.2.2 / 2 ^ m + 1) by omega)
    rw [Int.neg_mul, Int.neg_mul] at this
    omega
   omega
  ·apply Int.le_of_not_gt
   intro hc
   have := Int.mul_le_mul_of_nonneg_left (show (1 : Int) ≤ 2 ^ m by omega) (show 0 ≤ -t.2.2 / 2 ^ m by omega)
   omega
 rw [w64_id (by omega) (by omega), show (0 - Int.fdiv (-t.2.2) (2 ^ m) : Int) = -(Int.fdiv (-t.2.2) (2 ^ m)) by omega]
 intro _
 exact s
end Go.G880.Re
