/- Longitudes between points, antipodes, points out of their own latitude and longitude: plain numbers. -/
import Derived.Test.YtogpbandlpjccaaGreatDoorPB
set_option linter.unusedVariables false
set_option linter.unusedSimpArgs false
set_option linter.unusedSectionVars false
namespace Go.G880.Hp
open Go Go.RX Go.G880
def OkP (p : Pt) : Prop := (-900000000 ≤ p.lat ∧ p.lat ≤ 900000000) ∧ -1799999999 ≤ p.lon ∧ p.lon ≤ 1800000000
theorem okP {p : Pt} (h : spec_l11Ok p = true) : OkP p := (l11Ok_iff p).1 h
theorem valid_of {p : Pt} (h : OkP p) : impl_ValidPoint p = true := by rw [ValidPoint_eq]; exact (l11Ok_iff p).2 h
theorem tm (n : Int) : Int.tmod n 3600000000 = if 0 ≤ n then n % 3600000000 else -(-n % 3600000000) := by
  by_cases h : 0 ≤ n
  · rw [if_pos h, Int.tmod_eq_emod_of_nonneg h]
  · rw [if_neg h]
    have : Int.tmod n 3600000000 = -(Int.tmod (-n) 3600000000) := by rw [Int.neg_tmod, Int.neg_neg]
    rw [this, Int.tmod_eq_emod_of_nonneg (by omega)]
/-- The longitude that differs by full turns. -/
def wrp (n : Int) : Int := if Int.tmod n 3600000000 > 1800000000 then Int.tmod n 3600000000 - 3600000000 else if Int.tmod n 3600000000 ≤ -1800000000 then Int.tmod n 3600000000 + 3600000000 else Int.tmod n 3600000000
theorem wrap_val (n : Int) : impl_WrapLon n = wrp n := by
  have h := tm n
  have hb : -3600000000 < Int.tmod n 3600000000 ∧ Int.tmod n 3600000000 < 3600000000 := by
    rw [h]; split <;> omega
  simp only [impl_WrapLon, wrp, Bool.cond_eq_ite, decide_eq_true_eq]
  rw [w64_id (n := Int.tmod n 3600000000 - 3600000000) (by omega) (by omega), w64_id (n := Int.tmod n 3600000000 + 3600000000) (by omega) (by omega)]
theorem wrp_spec (n : Int) : -1800000000 < wrp n ∧ wrp n ≤ 1800000000 ∧ ∃ k : Int, wrp n = n + 3600000000 * k := by
  have h := tm n
  unfold wrp
  rw [h]
  by_cases h0 : 0 ≤ n
  · rw [if_pos h0]
    have hd := Int.emod_add_mul_ediv n 3600000000
    repeat' split
    · exact ⟨by omega, by omega, -(n / 3600000000) - 1, by omega⟩
    · omega
    · exact ⟨by omega, by omega, -(n / 3600000000), by omega⟩
  · rw [if_neg h0]
    have hd := Int.emod_add_mul_ediv (-n) 3600000000
    repeat' split
    · omega
    · exact ⟨by omega, by omega, -n / 3600000000 + 1, by omega⟩
    · exact ⟨by omega, by omega, -n / 3600000000, by omega⟩
theorem wrp_of {n m k : Int} (h : -1800000000 < m ∧ m ≤ 1800000000) (e : m = n + 3600000000 * k) : wrp n = m := by
  obtain ⟨h1, h2, j, hj⟩ := wrp_spec n
  omega
section
variable {p q : Pt} (hp : OkP p) (hq : OkP q)
include hp hq
theorem between : impl_LonBetween p q = (wrp (q.lon - p.lon), 0) := by
  have hp' := hp
  have hq' := hq
  obtain ⟨_, p1, p2⟩ := hp'
  obtain ⟨_, q1, q2⟩ := hq'
  simp only [impl_LonBetween, impl_areValid, valid_of hp, valid_of hq, cond_true, Bool.not_true, cond_false]
  rw [wrap_val, w64_id (by omega) (by omega)]
theorem between_signs : wrp (q.lon - p.lon) = -(wrp (p.lon - q.lon)) ∨ wrp (q.lon - p.lon) + wrp (p.lon - q.lon) = 3600000000 := by
  obtain ⟨a1, a2, j, a3⟩ := wrp_spec (q.lon - p.lon)
  obtain ⟨b1, b2, k, b3⟩ := wrp_spec (p.lon - q.lon)
  omega
theorem between_back : impl_WrapLon (w64 (p.lon + wrp (q.lon - p.lon))) = q.lon := by
  obtain ⟨a1, a2, j, a3⟩ := wrp_spec (q.lon - p.lon)
  obtain ⟨_, p1, p2⟩ := hp
  obtain ⟨_, q1, q2⟩ := hq
  rw [w64_id (by omega) (by omega), wrap_val]
  exact wrp_of (k := -j) ⟨by omega, by omega⟩ (by omega)
end
theorem anti {p : Pt} (hp : OkP p) : impl_Antipode p = (⟨-p.lat, wrp (p.lon + 1800000000)⟩, 0) ∧ OkP ⟨-p.lat, wrp (p.lon + 1800000000)⟩ := by
  obtain ⟨⟨p3, p4⟩, p1, p2⟩ := hp
  obtain ⟨a1, a2, _⟩ := wrp_spec (p.lon + 1800000000)
  refine ⟨?_, ⟨by simp only; omega, by simp only; omega⟩, by simp only; omega, by simp only; omega⟩
  simp only [impl_Antipode, valid_of ⟨⟨p3, p4⟩, p1, p2⟩, Bool.not_true, cond_false]
  rw [wrap_val, w64_id (by omega) (by omega), w64_id (by omega) (by omega), Int.zero_sub]
theorem anti_twice {p : Pt} (hp : OkP p) : impl_Antipode ⟨-p.lat, wrp (p.lon + 1800000000)⟩ = (p, 0) := by
  obtain ⟨_, h⟩ := anti hp
  rw [(anti h).1]
  obtain ⟨⟨p3, p4⟩, p1, p2⟩ := hp
  obtain ⟨a1, a2, j, a3⟩ := wrp_spec (p.lon + 1800000000)
  have : wrp (wrp (p.lon + 1800000000) + 1800000000) = p.lon := wrp_of (k := -1 - j) ⟨by omega, by omega⟩ (by omega)
  simp only [this, Int.neg_neg]
theorem same_self {p : Pt} (hp : OkP p) : impl_SamePlace p p = (true, 0) := by
  simp only [impl_SamePlace, impl_areValid, valid_of hp, cond_true, Bool.not_true, cond_false, impl_samePlace, beq_self_eq_true, Bool.and_self]
end Go.G880.Hp
/- The middle of a point's own latitude and longitude is the point; it is at the point. -/
set_option linter.unusedVariables false
set_option linter.unusedSimpArgs false
namespace Go.G880.Hp
open Go Go.RX Go.G880
theorem mdf {a b d : Int} (ha : -4611686018427387904 ≤ a ∧ a ≤ 4611686018427387904) (hb : 0 ≤ b ∧ b ≤ 9223372036854775807) (hd : 0 < d ∧ d ≤ 9223372036854775807) (h : -9223372036854775808 ≤ a * b / d ∧ a * b / d ≤ 9223372036854775807) : spec_MulDivFloor a b d = (a * b / d, true) := by
  rw [spec_MulDivFloor_val (by simp only [In64]; omega) (by simp only [In64]; omega) hd.1 hd.2, if_pos h]
/-- The interval of an angle. -/
def rad (n : Int) : Iv := if n = 0 then ⟨0, 0⟩ else if n < 0 then ⟨-(-n * 7244019458077122843 / 966367641600000000 + 1), -(-n * 7244019458077122842 / 966367641600000000)⟩ else ⟨n * 7244019458077122842 / 966367641600000000, n * 7244019458077122843 / 966367641600000000 + 1⟩
theorem rad_ok {n : Int} (h : -1800000000 ≤ n ∧ n ≤ 1800000000) : spec_l04Ok (rad n) = true := by
  rw [ok_iff]
  unfold rad
  repeat' split
  all_goals (simp only; omega)
theorem rad_val {n : Int} (h : -1800000000 ≤ n ∧ n ≤ 1800000000) : spec_RadiansOf n = rad n := by
  have hr : spec_l00In n (-36000000000) 36000000000 = true := (l00In_iff _ _ _).2 (by omega)
  simp only [spec_RadiansOf, hr, Bool.not_true, cond_false, rad]
  by_cases h0 : n = 0
  · subst h0; rfl
  rw [if_neg h0, show (n == 0) = false by simpa using h0, cond_false]
  by_cases h1 : n < 0
  · rw [if_pos h1, decide_eq_true h1, cond_true]
    have e : w64 (0 - n) = -n := by rw [w64_id (by omega) (by omega)]; omega
    have hr2 : spec_l00In (-n) (-36000000000) 36000000000 = true := (l00In_iff _ _ _).2 (by omega)
    simp only [spec_RadiansOf.A, e, hr2, Bool.not_true, cond_false, show ((-n) == 0) = false by simpa using h0]
    rw [mdf (by omega) (by omega) (by omega) (by omega), mdf (by omega) (by omega) (by omega) (by omega)]
    simp only
    rw [w64_id (by omega) (by omega)]
    have hk : spec_l04Ok ⟨-n * 7244019458077122842 / 966367641600000000, -n * 7244019458077122843 / 966367641600000000 + 1⟩ = true := (ok_iff _).2 (by simp only; omega)
    simp only [spec_NegI, hk, Bool.not_true, cond_false]
    rw [w64_id (by omega) (by omega), w64_id (by omega) (by omega), make_ok (by omega), Int.zero_sub, Int.zero_sub]
  · rw [if_neg h1, decide_eq_false h1, cond_false]
    rw [mdf (by omega) (by omega) (by omega) (by omega), mdf (by omega) (by omega) (by omega) (by omega)]
    simp only
    rw [w64_id (by omega) (by omega)]
/-- Its bounds in units again: the angle and its neighbours. -/
theorem units_val {n : Int} (h : -1800000000 ≤ n ∧ n ≤ 1800000000) : spec_UnitsOf (rad n) = if n = 0 then (0, 0, true) else (n - 1, n + 1, true) := by
  have hw : spec_IsWhole (rad n) = false := by
    have := rad_ok h
    simp only [spec_IsWhole, this, Bool.not_true]
  by_cases h0 : n = 0
  · subst h0; decide +kernel
  have key : spec_l05Units (rad n).lo = n - 1 ∧ spec_l05Units (w64 (0 - (rad n).hi)) = -(n + 1) := by
    unfold rad
    rw [if_neg h0]
    by_cases h1 : n < 0
    · rw [if_pos h1]
      simp only [spec_l05Units]
      rw [w64_id (by omega) (by omega)]
      generalize hA : -n * 7244019458077122843 / 966367641600000000 + 1 = A
      generalize hB : -n * 7244019458077122842 / 966367641600000000 = B
      rw [decide_eq_false (show ¬ -A > 0 by omega), cond_false, decide_eq_true (show 0 - -B > 0 by omega), cond_true, mdf (by omega) (by omega) (by omega) (by omega), mdf (by omega) (by omega) (by omega) (by omega)]
      simp only
      omega
    · rw [if_neg h1]
      simp only [spec_l05Units]
      rw [w64_id (by omega) (by omega)]
      generalize hA : n * 7244019458077122843 / 966367641600000000 + 1 = A
      generalize hB : n * 7244019458077122842 / 966367641600000000 = B
      rw [decide_eq_true (show B > 0 by omega), cond_true, decide_eq_false (show ¬ 0 - A > 0 by omega), cond_false, mdf (by omega) (by omega) (by omega) (by omega), mdf (by omega) (by omega) (by omega) (by omega)]
      simp only
      omega
  rw [if_neg h0]
  simp only [spec_UnitsOf, hw, cond_false, key.1, key.2]
  rw [decide_eq_false (by omega), cond_false, w64_id (by omega) (by omega), decide_eq_false (by omega), cond_false]
  congr 2
  omega
end Go.G880.Hp
/- The middle of a point's own latitude and longitude is the point; the point is at them. -/
set_option linter.unusedVariables false
set_option linter.unusedSimpArgs false
namespace Go.G880.Hp
open Go Go.RX Go.G880
theorem half (n : Int) (h : -1800000000 ≤ n ∧ n ≤ 1800000000) : spec_l06Floor (2 * n) 2 = n := by
  have e : Int.tmod (2 * n) 2 = 0 := Int.mul_tmod_right 2 n
  have e2 : Int.tdiv (2 * n) 2 = n := Int.mul_tdiv_cancel_left n (by omega)
  simp only [spec_l06Floor, e, e2]
  rw [decide_eq_false (by omega), cond_false, w64_id (by omega) (by omega)]
theorem wrp_self {n : Int} (h : -1799999999 ≤ n ∧ n ≤ 1800000000) : spec_l11Wrap n = n := by
  have ht : Int.tmod n 3600000000 = n := by rw [tm]; split <;> omega
  simp only [spec_l11Wrap, ht]
  rw [decide_eq_false (by omega), cond_false, decide_eq_false (by omega), cond_false]
/-- The bounds in units. -/
def lows (n : Int) : Int := if n = 0 then 0 else n - 1
def highs (n : Int) : Int := if n = 0 then 0 else n + 1
theorem units_at {n : Int} (h : -1800000000 ≤ n ∧ n ≤ 1800000000) : spec_UnitsOf (rad n) = (lows n, highs n, true) := by
  rw [units_val h, lows, highs]
  split <;> rfl
theorem mid_at {p : Pt} (hp : OkP p) : ∃ d, impl_MiddlePoint (impl_LatOf p) (impl_LonOf p) = (p, d, 0) ∧ 0 ≤ d ∧ d ≤ 2 := by
  have hp' := hp
  obtain ⟨⟨p3, p4⟩, p1, p2⟩ := hp'
  have hv : spec_l11Ok p = true := (l11Ok_iff p).2 hp
  rw [MiddlePoint_eq, LatOf_eq, LonOf_eq]
  simp only [spec_LatOf, spec_LonOf, hv, Bool.not_true, cond_false]
  rw [rad_val (by omega), rad_val (by omega)]
  simp only [spec_MiddlePoint, units_at (n := p.lat) (by omega), units_at (n := p.lon) (by omega), Bool.not_true, cond_false]
  have e1 : w64 (lows p.lat + highs p.lat) = 2 * p.lat := by
    rw [w64_id (by unfold lows highs; split <;> omega) (by unfold lows highs; split <;> omega)]
    unfold lows highs; split <;> omega
  have e2 : w64 (lows p.lon + highs p.lon) = 2 * p.lon := by
    rw [w64_id (by unfold lows highs; split <;> omega) (by unfold lows highs; split <;> omega)]
    unfold lows highs; split <;> omega
  rw [e1, e2, half _ (by omega), half _ (by omega), wrp_self (by omega)]
  have hv2 : spec_l11Ok ⟨p.lat, p.lon⟩ = true := hv
  simp only [hv2, Bool.not_true, cond_false]
  have d1 : w64 (highs p.lat - lows p.lat) = if p.lat = 0 then 0 else 2 := by
    rw [w64_id (by unfold lows highs; split <;> omega) (by unfold lows highs; split <;> omega)]
    unfold lows highs; split <;> omega
  have d2 : w64 (highs p.lon - lows p.lon) = if p.lon = 0 then 0 else 2 := by
    rw [w64_id (by unfold lows highs; split <;> omega) (by unfold lows highs; split <;> omega)]
    unfold lows highs; split <;> omega
  rw [d1, d2]
  refine ⟨_, rfl, ?_, ?_⟩
  · simp only [spec_l00Max, Bool.cond_eq_ite, decide_eq_true_eq]
    repeat' split
    all_goals omega
  · simp only [spec_l00Max, Bool.cond_eq_ite, decide_eq_true_eq]
    repeat' split
    all_goals omega
theorem over_self {x : Iv} (h : spec_l04Ok x = true) : spec_OverlapI x x = true := by
  have hi := (ok_iff x).1 h
  have e1 : spec_l00Max x.lo x.lo = x.lo := by simp only [spec_l00Max, Bool.cond_eq_ite]; split <;> rfl
  have e2 : spec_l00Min x.hi x.hi = x.hi := by simp only [spec_l00Min, Bool.cond_eq_ite]; split <;> rfl
  simp only [spec_OverlapI, spec_MeetI, h, Bool.not_true, cond_false, e1, e2]
  rw [decide_eq_false (by omega), cond_false]
theorem at_self {p : Pt} (hp : OkP p) : impl_AtPoint (impl_LatOf p) (impl_LonOf p) p = true := by
  have hp' := hp
  obtain ⟨⟨p3, p4⟩, p1, p2⟩ := hp'
  have hv : spec_l11Ok p = true := (l11Ok_iff p).2 hp
  rw [AtPoint_eq, LatOf_eq, LonOf_eq]
  simp only [spec_LatOf, spec_LonOf, hv, Bool.not_true, cond_false, spec_AtPoint]
  have h0 : w64 (p.lon + 0) = p.lon := by rw [Int.add_zero, w64_id (by omega) (by omega)]
  rw [h0, rad_val (n := p.lat) (by omega), rad_val (n := p.lon) (by omega), over_self (rad_ok (by omega)), over_self (rad_ok (by omega))]
  simp only [Bool.not_true, cond_false, cond_true, Bool.cond_self, Bool.cond_true_left, Bool.or_true]
end Go.G880.Hp
