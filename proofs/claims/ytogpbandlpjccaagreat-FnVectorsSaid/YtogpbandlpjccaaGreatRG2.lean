/- Sines and cosines: what the program's intervals enclose. -/
import Derived.Test.YtogpbandlpjccaaGreatRF
set_option linter.unusedVariables false
set_option linter.unusedSimpArgs false
namespace Go.G880.Re
open Go Go.RX Go.G880 Go.Rl

/-! ### The series -/
theorem fi_num {k : Nat} {n : Nat} (h : qfi k = 1 / (n : Rat)) : fi k = 1 / (n : R) := by rw [fi_of, h, R.of_div]; rfl
/-- One step of a series. -/
theorem step_in {Y S : Iv} {y s : R} {n c : Int} (hn : n = c) (hy : HR Y y) (hs : HR S s) : HR (spec_SubI (spec_Integer 1) (spec_MulI (spec_DivI Y (spec_Integer n)) S)) (1 - y / (c : R) * s) := by
  subst hn
  exact (SubR (IntR 1) (MulR (DivR hy (IntR n)) hs)).eq (by show (1 : R) - _ = _ ; rfl)
noncomputable def sinP (y : R) : R := 1 - y / 6 * (1 - y / 20 * (1 - y / 42 * (1 - y / 72 * (1 - y / 110 * (1 - y / 156 * (1 - y / 210 * (1 - y / 272 * 1)))))))
noncomputable def cosP (y : R) : R := 1 - y / 2 * (1 - y / 12 * (1 - y / 30 * (1 - y / 56 * (1 - y / 90 * (1 - y / 132 * (1 - y / 182 * (1 - y / 240 * 1)))))))
theorem series_sinR {Y : Iv} {y : R} (hy : HR Y y) : HR (spec_l06Series Y 0) (sinP y) :=
  step_in (c := 6) (by decide) hy (step_in (c := 20) (by decide) hy (step_in (c := 42) (by decide) hy (step_in (c := 72) (by decide) hy (step_in (c := 110) (by decide) hy (step_in (c := 156) (by decide) hy (step_in (c := 210) (by decide) hy (step_in (c := 272) (by decide) hy (IntR 1))))))))
theorem series_cosR {Y : Iv} {y : R} (hy : HR Y y) : HR (spec_l06Series Y (-1)) (cosP y) :=
  step_in (c := 2) (by decide) hy (step_in (c := 12) (by decide) hy (step_in (c := 30) (by decide) hy (step_in (c := 56) (by decide) hy (step_in (c := 90) (by decide) hy (step_in (c := 132) (by decide) hy (step_in (c := 182) (by decide) hy (step_in (c := 240) (by decide) hy (IntR 1))))))))
theorem psum_s (a : Nat → R) (x : R) (n : Nat) : psum a x (n + 1) = psum a x n + a n * (fi n * x ^ n) := rfl
theorem sin_sum (x : R) : psum sc x 18 = x * sinP (x * x) := by
  have f1 : fi 1 = 1 / ((1 : Nat) : R) := fi_num (by decide +kernel)
  have f3 : fi 3 = 1 / ((6 : Nat) : R) := fi_num (by decide +kernel)
  have f5 : fi 5 = 1 / ((120 : Nat) : R) := fi_num (by decide +kernel)
  have f7 : fi 7 = 1 / ((5040 : Nat) : R) := fi_num (by decide +kernel)
  have f9 : fi 9 = 1 / ((362880 : Nat) : R) := fi_num (by decide +kernel)
  have f11 : fi 11 = 1 / ((39916800 : Nat) : R) := fi_num (by decide +kernel)
  have f13 : fi 13 = 1 / ((6227020800 : Nat) : R) := fi_num (by decide +kernel)
  have f15 : fi 15 = 1 / ((1307674368000 : Nat) : R) := fi_num (by decide +kernel)
  have f17 : fi 17 = 1 / ((355687428096000 : Nat) : R) := fi_num (by decide +kernel)
  have e : psum sc x 18 = fi 1 * x ^ 1 - fi 3 * x ^ 3 + fi 5 * x ^ 5 - fi 7 * x ^ 7 + fi 9 * x ^ 9 - fi 11 * x ^ 11 + fi 13 * x ^ 13 - fi 15 * x ^ 15 + fi 17 * x ^ 17 := by
    simp only [psum_s, show ∀ k, sc k = match k % 4 with | 0 => 0 | 1 => 1 | 2 => 0 | _ => -1 from fun _ => rfl]
    show (psum sc x 0 : R) + _ + _ + _ + _ + _ + _ + _ + _ + _ + _ + _ + _ + _ + _ + _ + _ + _ + _ = _
    have z : psum sc x 0 = 0 := rfl
    rw [z]
    grind
  rw [e, f1, f3, f5, f7, f9, f11, f13, f15, f17]
  have c : ∀ n : Nat, ((OfNat.ofNat n : Nat) : R) = (OfNat.ofNat n : R) := fun _ => rfl
  simp only [c]
  unfold sinP
  grind
theorem cos_sum (x : R) : psum cc x 18 = cosP (x * x) := by
  have f2 : fi 2 = 1 / ((2 : Nat) : R) := fi_num (by decide +kernel)
  have f4 : fi 4 = 1 / ((24 : Nat) : R) := fi_num (by decide +kernel)
  have f6 : fi 6 = 1 / ((720 : Nat) : R) := fi_num (by decide +kernel)
  have f8 : fi 8 = 1 / ((40320 : Nat) : R) := fi_num (by decide +kernel)
  have f10 : fi 10 = 1 / ((3628800 : Nat) : R) := fi_num (by decide +kernel)
  have f12 : fi 12 = 1 / ((479001600 : Nat) : R) := fi_num (by decide +kernel)
  have f14 : fi 14 = 1 / ((87178291200 : Nat) : R) := fi_num (by decide +kernel)
  have f16 : fi 16 = 1 / ((20922789888000 : Nat) : R) := fi_num (by decide +kernel)
  have e : psum cc x 18 = fi 0 * x ^ 0 - fi 2 * x ^ 2 + fi 4 * x ^ 4 - fi 6 * x ^ 6 + fi 8 * x ^ 8 - fi 10 * x ^ 10 + fi 12 * x ^ 12 - fi 14 * x ^ 14 + fi 16 * x ^ 16 := by
    simp only [psum_s, show ∀ k, cc k = match k % 4 with | 0 => 1 | 1 => 0 | 2 => -1 | _ => 0 from fun _ => rfl]
    show (psum cc x 0 : R) + _ + _ + _ + _ + _ + _ + _ + _ + _ + _ + _ + _ + _ + _ + _ + _ + _ + _ = _
    have z : psum cc x 0 = 0 := rfl
    rw [z]
    grind
  have f0 : fi 0 = 1 := rfl
  rw [e, f0, f2, f4, f6, f8, f10, f12, f14, f16]
  have c : ∀ n : Nat, ((OfNat.ofNat n : Nat) : R) = (OfNat.ofNat n : R) := fun _ => rfl
  simp only [c]
  unfold cosP
  grind
theorem tail18 : 2 * tm 1 18 ≤ fR 1 := by
  have e : (1 : R) = R.of 1 := rfl
  have h : 2 * (qfi 18 * 1 ^ 18) ≤ Nw.fx 1 := by decide +kernel
  have h2 := R.of_le.2 h
  rw [R.of_mul, ← tm_of] at h2
  exact h2
theorem sin_near {x : R} (h : Bd x 1) : Bd (sin x - x * sinP (x * x)) (fR 1) := by
  have := ser_tail sc_bd h (M := 1) (n := 18) (by show (1 : R) ≤ 1; grind) (by omega)
  rw [sin_sum] at this
  exact this.mono tail18
theorem cos_near {x : R} (h : Bd x 1) : Bd (cos x - cosP (x * x)) (fR 1) := by
  have := ser_tail cc_bd h (M := 1) (n := 18) (by show (1 : R) ≤ 1; grind) (by omega)
  rw [cos_sum] at this
  exact this.mono tail18
theorem ring_bd {X : Iv} {x : R} (hi : spec_InsideI X spec_l06Ring = true) (hx : HR X x) : Bd x 1 := by
  obtain ⟨h1, h2, h3⟩ := inside_ring hi
  have a := hx h1
  have b1 := fR_le.2 h2
  have b2 := fR_le.2 h3
  have e1 : fR 4294967296 = 1 := fR_unit 1
  have e2 : fR (-4294967296) = -1 := by rw [fR_neg, e1]
  rw [e2] at b1
  rw [e1] at b2
  unfold In at a
  unfold Bd
  grind
theorem tinyR {x : R} (h : Bd x (fR 1)) : HR spec_l06Tiny x := by
  intro _
  show fR (-1) ≤ x ∧ x ≤ fR 1
  rw [fR_neg]
  exact h
theorem SinSeriesR {X : Iv} {x : R} (hx : HR X x) : HR (spec_SinSeries X) (sin x) := by
  simp only [spec_SinSeries]
  cases hi : spec_InsideI X spec_l06Ring
  · exact hr_whole _
  simp only [Bool.not_true, cond_false]
  have b := ring_bd hi hx
  exact (AddR (MulR hx (series_sinR (SqrR hx))) (tinyR (sin_near b))).eq (by grind)
theorem CosSeriesR {X : Iv} {x : R} (hx : HR X x) : HR (spec_CosSeries X) (cos x) := by
  simp only [spec_CosSeries]
  cases hi : spec_InsideI X spec_l06Ring
  · exact hr_whole _
  simp only [Bool.not_true, cond_false]
  have b := ring_bd hi hx
  exact (AddR (series_cosR (SqrR hx)) (tinyR (cos_near b))).eq (by grind)

/-! ### Quarter turns -/
def turnsOk : Bool := (List.range 4097).all fun k => decide ((k : Int) * 7244019458077122843 ≤ ((k : Int) * 7244019458077122842 / 1073741824 + 1) * 1073741824)
theorem turns_ok : turnsOk = true := by decide +kernel
theorem turn_le {k : Int} (h0 : 0 ≤ k) (h1 : k ≤ 4096) : k * 7244019458077122843 ≤ (k * 7244019458077122842 / 1073741824 + 1) * 1073741824 := by
  have h := turns_ok
  simp only [turnsOk, List.all_eq_true, decide_eq_true_eq, List.mem_range] at h
  obtain ⟨m, rfl⟩ := Int.eq_ofNat_of_zero_le h0
  exact h m (by omega)
theorem P0_val : R.of P0 * 4611686018427387904 = 7244019458077122842 := by
  have e : P0 * 4611686018427387904 = 7244019458077122842 := by decide +kernel
  have := congrArg R.of e
  rw [R.of_mul] at this
  exact this
theorem P1_val : R.of P1 * 4611686018427387904 = 7244019458077122843 := by
  have e : P1 * 4611686018427387904 = 7244019458077122843 := by decide +kernel
  have := congrArg R.of e
  rw [R.of_mul] at this
  exact this
theorem turn_pos {k : Int} (h0 : 0 < k) (h1 : k ≤ 4096) : fR (k * 7244019458077122842 / 1073741824) ≤ (k : R) * qt ∧ (k : R) * qt ≤ fR (k * 7244019458077122842 / 1073741824 + 1) := by
  have d := Int.ediv_mul_le (k * 7244019458077122842) (b := 1073741824) (by omega)
  have u := turn_le (k := k) (by omega) h1
  generalize k * 7244019458077122842 / 1073741824 = q at *
  have d2 := cast_le.2 d
  have u2 := cast_le.2 u
  simp only [cast_mul, cast_add] at d2 u2
  have c : ∀ n : Nat, (((OfNat.ofNat n : Nat) : Int) : R) = (OfNat.ofNat n : R) := fun _ => rfl
  have c0 : ((1073741824 : Int) : R) = 1073741824 := rfl
  have c1 : ((7244019458077122842 : Int) : R) = 7244019458077122842 := rfl
  have c2 : ((7244019458077122843 : Int) : R) = 7244019458077122843 := rfl
  have c3 : ((1 : Int) : R) = 1 := rfl
  rw [c0, c1] at d2
  rw [c0, c2, c3] at u2
  have k0 : 0 ≤ (k : R) := by
    have := cast_le.2 (show (0 : Int) ≤ k by omega)
    exact this
  have l := R.mul_le_l qt_lo k0
  have m := R.mul_le_l qt_hi k0
  have e0 := P0_val
  have e1 := P1_val
  rw [fR_val, fR_val, cast_add, c3]
  clear c c0 c1 c2 c3
  generalize (k : R) = K at *
  generalize (q : R) = Q at *
  generalize R.of P0 = p0 at *
  generalize R.of P1 = p1 at *
  have f0 : (K * p0) * 4611686018427387904 = K * 7244019458077122842 := by rw [← e0]; grind
  have f1 : (K * p1) * 4611686018427387904 = K * 7244019458077122843 := by rw [← e1]; grind
  generalize K * p0 = a0 at *
  generalize K * p1 = a1 at *
  generalize K * qt = b at *
  constructor <;> grind
theorem TurnR (k : Int) : HR (spec_TurnI k) ((k : R) * qt) := by
  simp only [spec_TurnI]
  cases h : spec_l00In k (-4096) 4096
  · exact hr_whole _
  have hh := (l00In_iff _ _ _).1 h
  simp only [Bool.not_true, cond_false, spec_l05Turn]
  by_cases h0 : k = 0
  · subst h0
    intro _
    show fR 0 ≤ ((0 : Int) : R) * qt ∧ ((0 : Int) : R) * qt ≤ fR 0
    rw [fR_zero]
    have : ((0 : Int) : R) = 0 := rfl
    rw [this]
    constructor <;> grind
  have e0 : (k == 0) = false := by simp [h0]
  rw [e0]
  simp only [cond_false]
  by_cases hn : k < 0
  · have e1 : decide (k < 0) = true := decide_eq_true hn
    have e2 : w64 (0 - k) = -k := by rw [w64_id (by omega) (by omega)]; omega
    have e3 : ((-k : Int) == 0) = false := by simp; omega
    have hv := MulFloor30 (a := -k) (by omega)
    have hr : 0 ≤ -k * 7244019458077122842 / 1073741824 ∧ -k * 7244019458077122842 / 1073741824 ≤ 27634151458500 := by omega
    simp only [e1, e2, cond_true, spec_l05Turn.A, e3, cond_false, hv.2]
    rw [w64_id (n := -k * 7244019458077122842 / 1073741824 + 1) (by omega) (by omega), w64_id (by omega) (by omega), w64_id (by omega) (by omega)]
    have t := turn_pos (k := -k) (by omega) (by omega)
    intro _
    unfold In
    simp only [Int.zero_sub, fR_neg]
    rw [cast_neg] at t
    constructor <;> grind
  · have e1 : decide (k < 0) = false := decide_eq_false hn
    have hv := MulFloor30 (a := k) (by omega)
    simp only [e1, cond_false, hv.2]
    have hr : 0 ≤ k * 7244019458077122842 / 1073741824 ∧ k * 7244019458077122842 / 1073741824 ≤ 27634151458500 := by omega
    rw [w64_id (by omega) (by omega)]
    exact fun _ => turn_pos (by omega) (by omega)
theorem and3u {x : Int} (h0 : 0 ≤ x) (h1 : x < 18446744073709551616) : andI .u64 x 3 = x % 4 := by
  show IntKind.u64.wrap ((BitVec.ofInt 64 x &&& BitVec.ofInt 64 3).toNat : Int) = _
  have e : (BitVec.ofInt 64 x &&& BitVec.ofInt 64 3).toNat = x.toNat % 4 := by
    rw [BitVec.toNat_and]
    have e1 : (BitVec.ofInt 64 x).toNat = x.toNat := by rw [BitVec.toNat_ofInt]; omega
    have e2 : (BitVec.ofInt 64 3).toNat = 2 ^ 2 - 1 := rfl
    rw [e1, e2, Nat.and_two_pow_sub_one_eq_mod]
  rw [e]
  show (((x.toNat % 4 : Nat) : Int)) % 18446744073709551616 = _
  omega
theorem and3 (z : Int) : andI .i64 (w64 z) 3 = z % 4 := by
  have hb : BitVec.ofInt 64 (w64 z) = BitVec.ofInt 64 (u64 z) := by
    apply BitVec.eq_of_toNat_eq
    simp only [BitVec.toNat_ofInt]
    congr 1
    simp only [w64_def, u64_def]
    omega
  have h0 := u64_nn z
  have h1 := u64_lt z
  show w64 (((BitVec.ofInt 64 (w64 z) &&& BitVec.ofInt 64 3).toNat : Nat) : Int) = _
  rw [hb]
  have h2 : andI .u64 (u64 z) 3 = u64 z % 4 := and3u h0 h1
  have h3 : andI .u64 (u64 z) 3 = u64 (((BitVec.ofInt 64 (u64 z) &&& BitVec.ofInt 64 3).toNat : Nat) : Int) := rfl
  have h4 : (((BitVec.ofInt 64 (u64 z) &&& BitVec.ofInt 64 3).toNat : Nat) : Int) < 18446744073709551616 := by
    have := (BitVec.ofInt 64 (u64 z) &&& BitVec.ofInt 64 3).isLt
    omega
  rw [h3, u64_id (by omega) (by omega)] at h2
  rw [h2, w64_id (by omega) (by omega)]
  simp only [u64_def]
  omega
theorem ringR {x : R} (h : Bd x 1) : HR spec_l06Ring x := by
  intro _
  have e1 : fR 4294967296 = 1 := fR_unit 1
  show fR (-4294967296) ≤ x ∧ x ≤ fR 4294967296
  rw [fR_neg, e1]
  exact h
theorem MeetR {A B : Iv} {x : R} (ha : HR A x) (hb : HR B x) : HR (spec_MeetI A B).1 x := by
  simp only [spec_MeetI]
  cases kA : spec_l04Ok A
  · cases kB : spec_l04Ok B
    · simp only [Bool.not_false, cond_true]; first | exact hr_whole _ | exact hb | exact hr_bad kB _ | exact hr_bad kA _
    · simp only [Bool.not_false, cond_true]; exact hb
  cases kB : spec_l04Ok B
  · simp only [Bool.not_true, cond_false, Bool.not_false, cond_true]; exact ha
  have a := ha kA
  have b := hb kB
  have h1 : A.lo ≤ B.hi := fR_le.1 (Std.le_trans a.1 b.2)
  have h2 : B.lo ≤ A.hi := fR_le.1 (Std.le_trans b.1 a.2)
  have iA := (ok_iff _).1 kA
  have iB := (ok_iff _).1 kB
  have hd : decide (spec_l00Max A.lo B.lo > spec_l00Min A.hi B.hi) = false := by
    refine decide_eq_false ?_
    simp only [spec_l00Max, spec_l00Min, Bool.cond_eq_ite, decide_eq_true_eq]
    split <;> split <;> omega
  simp only [Bool.not_true, cond_false, hd]
  intro _
  unfold In at *
  simp only [spec_l00Max, spec_l00Min, Bool.cond_eq_ite, decide_eq_true_eq]
  constructor
  · split
    · first | exact a.1 | exact b.1
    · first | exact a.1 | exact b.1
  · split
    · first | exact a.2 | exact b.2
    · first | exact a.2 | exact b.2
theorem l06MeetR {A : Iv} {x : R} (ha : HR A x) (h : Bd x 1) : HR (spec_l06Meet A) x := by
  simp only [spec_l06Meet]
  cases (spec_MeetI A spec_l06Ring).2
  · exact ringR h
  · exact MeetR ha (ringR h)
/-- The sine of an angle and so many quarter turns more. -/
theorem AtR (n turns : Int) : HR (spec_l06At n turns) (sin (fR n + (turns : R) * qt)) := by
  simp only [spec_l06At]
  cases h : spec_l06Angle n
  · exact ringR (sin_bd _)
  simp only [Bool.not_true, cond_false, and3]
  have hr := SubR (at_in n) (TurnR (spec_QuarterOf n))
  generalize hq : spec_QuarterOf n = k at *
  have e : sin (fR n + (turns : R) * qt) = turned (k + turns) (fR n - (k : R) * qt) := by
    rw [← sin_turned, cast_add]
    congr 1
    grind
  rw [e]
  generalize fR n - (k : R) * qt = r at *
  have s1 := SinSeriesR hr
  have c1 := CosSeriesR hr
  have bs := sin_bd r
  have bc := cos_bd r
  unfold turned
  rcases emod4 (k + turns) with h | h | h | h <;> rw [h]
  · exact l06MeetR s1 bs
  · exact l06MeetR c1 bc
  · exact l06MeetR (NegR s1) bs.neg
  · exact l06MeetR (NegR c1) bc.neg
end Go.G880.Re
