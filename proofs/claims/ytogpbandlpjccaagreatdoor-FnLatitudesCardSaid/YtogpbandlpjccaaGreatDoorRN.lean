/- The exponential and the logarithm, their kin: what the program's intervals enclose. -/
import Derived.Test.YtogpbandlpjccaaGreatDoorRM
set_option linter.unusedVariables false
set_option linter.unusedSimpArgs false
namespace Go.G880.Re
open Go Go.RX Go.G880 Go.Rl
theorem ex_st {T P : Iv} {r p b : R} {c : Int} (ht : HR T r) (hp : HR P p) (e : (c : R) = b) : HR (impl_AddI (impl_Integer 1) (impl_DivI (impl_MulI T P) (impl_Integer c))) (1 + r * p / b) :=
  (AddJ (IntJ 1) (DivJ (MulJ ht hp) (IntJ c))).eq (by rw [e]; rfl)
theorem exp_poly {T : Iv} {r : R} (ht : HR T r) (hb : Bd r (2 / 5)) : HR (impl_widened (impl_AddI (impl_Integer 1) (impl_DivI (impl_MulI T (impl_AddI (impl_Integer 1) (impl_DivI (impl_MulI T (impl_AddI (impl_Integer 1) (impl_DivI (impl_MulI T (impl_AddI (impl_Integer 1) (impl_DivI (impl_MulI T (impl_AddI (impl_Integer 1) (impl_DivI (impl_MulI T (impl_AddI (impl_Integer 1) (impl_DivI (impl_MulI T (impl_AddI (impl_Integer 1) (impl_DivI (impl_MulI T (impl_AddI (impl_Integer 1) (impl_DivI (impl_MulI T (impl_AddI (impl_Integer 1) (impl_DivI (impl_MulI T (impl_Integer 1)) (impl_Integer 9)))) (impl_Integer 8)))) (impl_Integer 7)))) (impl_Integer 6)))) (impl_Integer 5)))) (impl_Integer 4)))) (impl_Integer 3)))) (impl_Integer 2)))) (impl_Integer 1))) 1) (exp r) := by
  have s0 := ex_st (c := 9) (b := 9) ht (IntJ 1) rfl
  have s1 := ex_st (c := 8) (b := 8) ht s0 rfl
  have s2 := ex_st (c := 7) (b := 7) ht s1 rfl
  have s3 := ex_st (c := 6) (b := 6) ht s2 rfl
  have s4 := ex_st (c := 5) (b := 5) ht s3 rfl
  have s5 := ex_st (c := 4) (b := 4) ht s4 rfl
  have s6 := ex_st (c := 3) (b := 3) ht s5 rfl
  have s7 := ex_st (c := 2) (b := 2) ht s6 rfl
  have s8 := ex_st (c := 1) (b := 1) ht s7 rfl
  exact widen_in s8 (exp_near hb)
theorem l2_fix : Bd (l2 - fR 2977044472) (fR 1) := by
  have a := l2_lo
  have b := l2_hi
  rw [L0_val] at a
  rw [L1_val] at b
  have e : fR 2977044472 = 2977044472 * (1 / 4294967296) := fR_val _
  have e1 : fR 1 = 1 * (1 / 4294967296) := fR_val _
  rw [e, e1]
  unfold Bd
  grind
theorem exp_rng {n k : Int} (h1 : -40 ≤ k) (h2 : k ≤ 40) (h3 : k * 2977044472 * 2 ≤ 2 * n + 2977044472) (h4 : 2 * n + 2977044472 ≤ k * 2977044472 * 2 + 5954088944) : Bd (fR n - (k : R) * l2) (2 / 5) := by
  have q := l2_fix
  have a := cast_le.2 h1
  have b := cast_le.2 h2
  have c := cast_le.2 h3
  have d := cast_le.2 h4
  simp only [cast_mul, cast_add] at c d
  have e0 : ((-40 : Int) : R) = -40 := by rw [cast_neg]; rfl
  have e1 : ((40 : Int) : R) = 40 := rfl
  have e2 : ((2 : Int) : R) = 2 := rfl
  have e3 : ((2977044472 : Int) : R) = 2977044472 := rfl
  have e4 : ((5954088944 : Int) : R) = 5954088944 := rfl
  rw [e0] at a
  rw [e1] at b
  rw [e2, e3] at c d
  rw [e4] at d
  have ek : fR 2977044472 = 2977044472 * (1 / 4294967296) := fR_val _
  have eu : fR 1 = 1 * (1 / 4294967296) := fR_val _
  rw [ek, eu] at q
  have hb : Bd ((k : R)) 40 := ⟨a, b⟩
  have m := hb.mul q
  rw [fR_val]
  generalize (k : R) = K at *
  generalize (n : R) = N at *
  generalize l2 = l at *
  unfold Bd at *
  constructor <;> grind
theorem exp_small {x : R} (h : x ≤ -23) : exp x ≤ fR 1 := by
  have e1 := exp_of (x := 1) (by decide +kernel) (n := 12) (by omega)
  have k : (27 / 10 : Rat) ≤ qsum (fun _ => 1) 1 12 - 2 * (qfi 12 * 1 ^ 12) := by decide +kernel
  have k2 := R.of_le.2 k
  rw [show qsum (fun _ => 1) (1 : Rat) 12 - 2 * (qfi 12 * 1 ^ 12) = qsum (fun _ => 1) 1 12 + -(2 * (qfi 12 * 1 ^ 12)) from Rat.sub_eq_add_neg _ _, R.of_add, R.of_neg] at k2
  unfold Bd at e1
  have o : R.of 1 = 1 := rfl
  rw [o] at e1
  have g : R.of (27 / 10) ≤ exp 1 := by grind
  have pw : ∀ n : Nat, exp ((n : R)) = exp 1 ^ n := by
    intro n
    induction n with
    | zero => rw [show ((0 : Nat) : R) = 0 from rfl, exp_zero]; grind
    | succ n ih => rw [cast_succ, exp_add, ih, pow_s]
  have b := pow_le (z := R.of (27 / 10)) (Z := exp 1) (by have : (0 : Rat) ≤ 27 / 10 := by decide +kernel
                                                          exact R.of_le.2 this) g 23
  rw [← pw 23, ← R.of_pow] at b
  have c : (1 : Rat) ≤ Nw.fx 1 * (27 / 10) ^ 23 := by decide +kernel
  have c2 := R.of_le.2 c
  rw [R.of_mul, o] at c2
  have e23 : ((23 : Nat) : R) = 23 := rfl
  rw [e23] at b
  have d := exp_le (x := 23) (y := -x) (by grind)
  have en := exp_neg x
  have p := exp_pos x
  have f1 : fR 1 = R.of (Nw.fx 1) := rfl
  rw [f1]
  have fp : 0 < R.of (Nw.fx 1) := by rw [← f1]; exact fR_pos (by omega)
  generalize R.of (Nw.fx 1) = F at *
  generalize R.of ((27 / 10) ^ 23) = B at *
  generalize exp (-x) = Y at *
  generalize exp x = X at *
  have q1 := R.mul_nn (a := F) (b := Y - B) (by grind) (by grind)
  have q2 := R.mul_nn (a := X) (b := F * Y - 1) (by grind) (by grind)
  have q3 : X * (F * Y - 1) = F - X := by grind
  grind
theorem ExpAtJ (n : Int) : HR (impl_ExpAt n) (exp (fR n)) := by
  unfold impl_ExpAt
  cases h0 : (!(impl_ValidFix n))
  case true => exact hr_whole _
  simp only [cond_false]
  cases h1 : decide (n > 85899345920)
  case true => exact hr_whole _
  simp only [cond_false]
  cases h2 : decide (n < (-98784247808))
  case true =>
    have := of_decide_eq_true h2
    have f := fR_le.2 (show n ≤ -98784247808 by omega)
    have e : fR (-98784247808) = -23 := by rw [fR_neg, fR_val]; show -((98784247808 : R) * (1 / 4294967296)) = -23; grind
    rw [e] at f
    intro _
    have p := exp_pos (fR n)
    exact ⟨by show fR 0 ≤ _; rw [fR_zero]; grind, exp_small f⟩
  simp only [cond_false]
  obtain ⟨e1, e2, e3, e4⟩ := exp_k h0 h1 h2
  have a1 := of_decide_eq_false h1
  have a2 := of_decide_eq_false h2
  rw [e2, w64_id (n := Int.tdiv (2 * n + 2977044472) 5954088944) (by omega) (by omega)]
  have td : (0 ≤ 2 * n + 2977044472 ∧ Int.tdiv (2 * n + 2977044472) 5954088944 = (2 * n + 2977044472) / 5954088944) ∨ (2 * n + 2977044472 < 0 ∧ Int.tdiv (2 * n + 2977044472) 5954088944 = -((-(2 * n + 2977044472)) / 5954088944)) := by
    by_cases h : 0 ≤ 2 * n + 2977044472
    · left; exact ⟨h, tdiv_nn _ h⟩
    · right
      refine ⟨by omega, ?_⟩
      have e : 2 * n + 2977044472 = -(-(2 * n + 2977044472)) := by omega
      rw [e, Int.neg_tdiv, tdiv_nn _ (by omega), show -(-(2 * n + 2977044472)) = 2 * n + 2977044472 by omega]
  generalize Int.tdiv (2 * n + 2977044472) 5954088944 = t at *
  rw [w64_id (n := t * 2) (by omega) (by omega), w64_id (n := t * 2 * 2977044472) (by omega) (by omega)]
  have fin : ∀ k : Int, -40 ≤ k → k ≤ 40 → k * 2977044472 * 2 ≤ 2 * n + 2977044472 → 2 * n + 2977044472 ≤ k * 2977044472 * 2 + 5954088944 → HR (impl_scaled (impl_widened (impl_AddI (impl_Integer 1) (impl_DivI (impl_MulI (impl_SubI (impl_at n) (impl_LogTwoI k)) (impl_AddI (impl_Integer 1) (impl_DivI (impl_MulI (impl_SubI (impl_at n) (impl_LogTwoI k)) (impl_AddI (impl_Integer 1) (impl_DivI (impl_MulI (impl_SubI (impl_at n) (impl_LogTwoI k)) (impl_AddI (impl_Integer 1) (impl_DivI (impl_MulI (impl_SubI (impl_at n) (impl_LogTwoI k)) (impl_AddI (impl_Integer 1) (impl_DivI (impl_MulI (impl_SubI (impl_at n) (impl_LogTwoI k)) (impl_AddI (impl_Integer 1) (impl_DivI (impl_MulI (impl_SubI (impl_at n) (impl_LogTwoI k)) (impl_AddI (impl_Integer 1) (impl_DivI (impl_MulI (impl_SubI (impl_at n) (impl_LogTwoI k)) (impl_AddI (impl_Integer 1) (impl_DivI (impl_MulI (impl_SubI (impl_at n) (impl_LogTwoI k)) (impl_AddI (impl_Integer 1) (impl_DivI (impl_MulI (impl_SubI (impl_at n) (impl_LogTwoI k)) (impl_Integer 1)) (impl_Integer 9)))) (impl_Integer 8)))) (impl_Integer 7)))) (impl_Integer 6)))) (impl_Integer 5)))) (impl_Integer 4)))) (impl_Integer 3)))) (impl_Integer 2)))) (impl_Integer 1))) 1) k) (exp (fR n)) := by
    intro k k1 k2 k3 k4
    have ht := SubJ (atJ n) (LogTwoJ k)
    have b := exp_rng (n := n) (k := k) k1 k2 k3 k4
    refine (scaledJ (exp_poly ht b) ⟨by omega, by omega⟩).eq ?_
    unfold E
    rw [← exp_add]
    congr 1
    grind
  cases h3 : decide (t * 2 * 2977044472 > 2 * n + 2977044472)
  · have := of_decide_eq_false h3
    simp only [cond_false]
    exact fin t (by omega) (by omega) (by omega) (by omega)
  · have := of_decide_eq_true h3
    simp only [cond_true]
    rw [w64_id (n := t - 1) (by omega) (by omega)]
    exact fin (t - 1) (by omega) (by omega) (by omega) (by omega)
theorem lg_st {Y P : Iv} {y p b : R} {c : Int} (h : 0 < c) (hc : c ≤ 21) (hy : HR Y y) (hp : HR P p) (e : 1 / (c : R) = b) : HR (impl_AddI (impl_Quotient 1 c) (impl_MulI Y P)) (b + y * p) :=
  (AddJ (QuotJ (a := 1) (d := c) ⟨by omega, by omega⟩ h (by omega)) (MulJ hy hp)).eq (by rw [one_cast, e])
theorem log_poly {M : Iv} {m : R} (hm : HR M m) (h1 : 3 / 4 ≤ m) (h2 : m ≤ 3 / 2) (Z : Iv) (hZ : Z = impl_DivI (impl_SubI M (impl_Integer 1)) (impl_AddI M (impl_Integer 1))) :
    HR (impl_widened (impl_MulI (impl_MulI (impl_Integer 2) Z) (impl_AddI (impl_Quotient 1 1) (impl_MulI (impl_SqrI Z) (impl_AddI (impl_Quotient 1 3) (impl_MulI (impl_SqrI Z) (impl_AddI (impl_Quotient 1 5) (impl_MulI (impl_SqrI Z) (impl_AddI (impl_Quotient 1 7) (impl_MulI (impl_SqrI Z) (impl_AddI (impl_Quotient 1 9) (impl_MulI (impl_SqrI Z) (impl_Quotient 1 11)))))))))))) 1) (log m) := by
  have hz : HR Z ((m - 1) / (m + 1)) := by
    rw [hZ]
    exact DivJ ((SubJ hm (IntJ 1)).eq rfl) ((AddJ hm (IntJ 1)).eq rfl)
  have hb : Bd ((m - 1) / (m + 1)) (1 / 5) := by
    have p : 0 < m + 1 := by grind
    refine ⟨?_, ?_⟩
    · rw [R.le_div p]; grind
    · rw [R.div_le p]; grind
  have near := log_near hb
  rw [← log_of (by grind)] at near
  generalize (m - 1) / (m + 1) = z at *
  have hy := SqrJ hz
  have s0 : HR (impl_Quotient 1 11) (1 / 11) := (QuotJ (a := 1) (d := 11) ⟨by omega, by omega⟩ (by omega) (by omega)).eq rfl
  have s1 := lg_st (c := 9) (b := 1 / 9) (by omega) (by omega) hy s0 rfl
  have s2 := lg_st (c := 7) (b := 1 / 7) (by omega) (by omega) hy s1 rfl
  have s3 := lg_st (c := 5) (b := 1 / 5) (by omega) (by omega) hy s2 rfl
  have s4 := lg_st (c := 3) (b := 1 / 3) (by omega) (by omega) hy s3 rfl
  have s5 := lg_st (c := 1) (b := 1) (by omega) (by omega) hy s4 (by rw [one_cast]; grind)
  exact widen_in (MulJ ((MulJ (IntJ 2) hz).eq (y := 2 * z) rfl) s5) near
theorem LogAtJ (d : Int) : HR (impl_LogAt d) (log (fR d)) := by
  unfold impl_LogAt
  cases h0 : (!(impl_ValidFix d))
  case true => exact hr_whole _
  simp only [cond_false]
  cases h1 : decide (d ≤ 0)
  case true => exact hr_whole _
  simp only [cond_false]
  have dom := log_dom h0 h1
  have tv := twos_val dom
  generalize impl_twosOf d = t at *
  have fp := fR_pos dom.1
  have q34 : fR 3221225472 = 3 / 4 := by rw [fR_val]; show (3221225472 : R) * (1 / 4294967296) = 3 / 4; grind
  have q32 : fR 6442450944 = 3 / 2 := by rw [fR_val]; show (6442450944 : R) * (1 / 4294967296) = 3 / 2; grind
  have lg : ∀ k : Int, log (fR d) = (k : R) * l2 + log (fR d * E (-k)) := fun k => by
    rw [log_mul fp (E_pos _)]
    unfold E
    rw [log_exp, cast_neg]
    grind
  rcases tv with ⟨t1, t2, t3, t4⟩ | ⟨t1, t2, t3, t4⟩
  · rw [decide_eq_true (show t > 0 by omega), cond_true]
    obtain ⟨m, hm⟩ : ∃ m : Nat, (m : Int) = t := ⟨t.toNat, by omega⟩
    rw [show min (Int.toNat t) 64 = m by omega]
    rw [show Int.toNat t = m by omega] at t3 t4
    have s := shift_in m (x := fR d) (lo := d) (hi := d) ⟨Std.le_refl _, Std.le_refl _⟩
    have a := fR_le.2 (Int.le_of_lt t3)
    have b := fR_le.2 t4
    rw [fR_pow] at a b
    rw [q32] at a
    rw [q34] at b
    have en := E_neg (m : Int)
    have p := E_pos (-(m : Int))
    have hp : (0 : Int) < 2 ^ m := Int.pow_pos (by omega)
    rw [w64_id (n := 0 - d) (by omega) (by omega), show (0 - d : Int) = -d by omega]
    have rng : -1152921504606846976 ≤ Int.fdiv (-d) (2 ^ m) ∧ Int.fdiv (-d) (2 ^ m) ≤ 0 := by
      rw [fdiv_pos _ hp]
      have h1 := Int.lt_ediv_add_one_mul_self (-d) hp
      constructor
      · apply Int.le_of_not_gt
        intro hc
        have := Int.mul_le_mul_of_nonneg_left (show (1 : Int) ≤ 2 ^ m by omega) (show 0 ≤ -(-d / 2 ^ m + 1) by omega)
        rw [Int.neg_mul, Int.neg_mul] at this
        omega
      · have := Int.ediv_le_ediv hp (show -d ≤ 0 by omega)
        rwa [Int.zero_ediv] at this
    rw [w64_id (n := 0 - Int.fdiv (-d) (2 ^ m)) (by omega) (by omega), show (0 - Int.fdiv (-d) (2 ^ m) : Int) = -(Int.fdiv (-d) (2 ^ m)) by omega]
    have hm' : HR ⟨Int.fdiv d (2 ^ m), -(Int.fdiv (-d) (2 ^ m))⟩ (fR d * E (-(m : Int))) := fun _ => s
    have r1 : 3 / 4 ≤ fR d * E (-(m : Int)) := by
      have := R.mul_nn (a := E (-(m : Int))) (b := fR d - 3 / 4 * E (m : Int)) (by grind) (by grind)
      have e : E (-(m : Int)) * (fR d - 3 / 4 * E (m : Int)) = fR d * E (-(m : Int)) - 3 / 4 := by grind
      grind
    have r2 : fR d * E (-(m : Int)) ≤ 3 / 2 := by
      have := R.mul_nn (a := E (-(m : Int))) (b := 3 / 2 * E (m : Int) - fR d) (by grind) (by grind)
      have e : E (-(m : Int)) * (3 / 2 * E (m : Int) - fR d) = 3 / 2 - fR d * E (-(m : Int)) := by grind
      grind
    rw [lg t, ← hm]
    exact AddJ (LogTwoJ (m : Int)) (log_poly hm' r1 r2 _ rfl)
  · rw [decide_eq_false (show ¬ t > 0 by omega), cond_false]
    obtain ⟨m, hm⟩ : ∃ m : Nat, (m : Int) = 0 - t := ⟨(0 - t).toNat, by omega⟩
    rw [w64_id (n := 0 - t) (by omega) (by omega), show min (Int.toNat (0 - t)) 64 = m by omega]
    rw [show Int.toNat (0 - t) = m by omega] at t3 t4
    have a := fR_le.2 (Int.le_of_lt t3)
    have b := fR_le.2 t4
    rw [fR_pow, q32] at a
    rw [fR_pow, q34] at b
    have nn : 0 ≤ d * 2 ^ m := by omega
    rw [w64_id (n := d * 2 ^ m) (by omega) (by omega)]
    have hm' : HR (impl_at (d * 2 ^ m)) (fR d * E (m : Int)) := (atJ _).eq (fR_pow d m).symm
    rw [lg t, show -t = (m : Int) by omega]
    exact AddJ (LogTwoJ t) (log_poly hm' b a _ rfl)
end Go.G880.Re
