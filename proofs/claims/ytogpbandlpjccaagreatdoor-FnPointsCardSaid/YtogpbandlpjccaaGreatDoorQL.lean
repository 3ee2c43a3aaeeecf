/- The law of points answers yes, for all bytes. -/
import Derived.Test.YtogpbandlpjccaaGreatDoorXP5a
import Derived.Test.YtogpbandlpjccaaGreatDoorQD
import Derived.Test.YtogpbandlpjccaaGreatDoorQR
set_option linter.unusedVariables false
set_option linter.unusedSimpArgs false
namespace Go.Proofs.YtogpbandlpjccaaGreatDoor.TX
open Go.RowKit Go.Proofs.YtogpbandlpjccaaGreatDoorW.PrintWords Go.Proofs.YtogpbandlpjccaaGreatDoorW.PrintLast Go.Proofs.YtogpbandlpjccaaGreatDoorW.PrintMore Go.G880.Hp
open Go.TX Go.Lib
theorem okP_of {a b : Int} (h : OkP ⟨a, b⟩) : okP a b = true := by
  obtain ⟨⟨h1, h2⟩, h3, h4⟩ := h
  simp only at h1 h2 h3 h4
  simp only [okP, decide_eq_true_eq]
  omega
theorem w0 : (0 : Int) = IntKind.i64.wrap 0 := rfl
theorem size0 (x : Int) (h : -9223372036854775807 ≤ x ∧ x ≤ 9223372036854775807) : laws_d8Size.f x = some (x.natAbs : Int) := by
  unfold laws_d8Size.f
  by_cases c : x < 0
  · rw [if_pos c, wrap_small (by omega) (by omega)]; congr 1; omega
  · rw [if_neg c]; congr 1; omega
theorem d8_long {l0 l1 : List Int} : (l0.length : Int) ≤ 1048576 ∧ (l1.length : Int) ≤ 1048576 ∨ laws_d8Long.f l0 l1 = some true := by
  unfold laws_d8Long.f
  by_cases c0 : (l0.length : Int) > 1048576
  · exact .inr (by rw [if_pos c0])
  by_cases c1 : (l1.length : Int) > 1048576
  · exact .inr (by rw [if_neg c0, decide_eq_true c1])
  exact .inl ⟨by omega, by omega⟩
theorem j1_true {a b : Int} (h : OkP ⟨a, b⟩) (k : Nat) : laws_FnPoints.j1 (k + 1) false a b = some true := by
  have hr : -900000000 ≤ a ∧ a ≤ 900000000 := h.1
  obtain ⟨d, em, d0, d1⟩ := mid_at h
  have s0 : laws_d8Size.f 0 = some 0 := size0 0 (by omega)
  have wl : Go.G880.impl_WrapLon 0 = 0 := by decide +kernel
  have e0 : wrap64 0 = 0 := wrap_small (by omega) (by omega)
  simp only [laws_FnPoints.j1]
  rw [if_neg (by simp)]
  simp only [impl_Antipode.f, impl_SamePlace.f, impl_LatOf.f, impl_LonOf.f, impl_MiddlePoint.f, impl_WrapLon.f, impl_AtPoint.f, Option.bind_some, (anti h).1, anti_twice h, same_self h, em, if_true, Int.sub_self, e0, s0, wl, d0, d1, ge_iff_le, at_self h]
theorem j0_true {a b c d : Int} (h : OkP ⟨a, b⟩) (h' : OkP ⟨c, d⟩) (k : Nat) : laws_FnPoints.j0 (k + 2) false a b c d = some true := by
  have hj := j1_true h k
  have hb := between_back h h'
  have hs := between_signs h h'
  obtain ⟨a1, a2, _⟩ := wrp_spec (d - b)
  obtain ⟨b1, b2, _⟩ := wrp_spec (b - d)
  simp only at hb hs
  simp only [laws_FnPoints.j0]
  rw [if_neg (by simp)]
  simp only [impl_LonBetween.f, impl_WrapLon.f, Option.bind_some, between h h', between h' h, if_true]
  rw [wrap_small (x := -(wrp (b - d))) (by omega) (by omega), wrap_small (x := wrp (d - b) + wrp (b - d)) (by omega) (by omega)]
  have hb2 : -1799999999 ≤ b ∧ b ≤ 1800000000 := h.2
  have e : Go.G880.impl_WrapLon (wrap64 (b + wrp (d - b))) = d := by
    rw [wrap_small (by omega) (by omega)]
    rw [Go.G880.w64_id (by omega) (by omega)] at hb
    exact hb
  have f : (d != d) = false := by simp
  rw [e, f]
  by_cases c1 : wrp (d - b) = -(wrp (b - d))
  · rw [if_pos c1]; exact hj
  · rw [if_neg c1, if_pos (hs.resolve_left c1)]; exact hj
theorem lawPoints {l0 l1 : List Int} (h0 : Bytes l0) (h1 : Bytes l1) : ∃ k, laws_FnPoints.f k l0 l1 = some true := by
  rcases d8_long (l0 := l0) (l1 := l1) with ⟨n0, n1⟩ | hl
  · obtain ⟨a, b, ⟨k1, q1⟩, hp⟩ := point_ev h0 (by omega)
    obtain ⟨c, d, ⟨k2, q2⟩, hq⟩ := point_ev h1 (by omega)
    have hb : b.natAbs ≤ 1800000000 := (okP_deg (okP_of hp)).2
    have ha : a.natAbs ≤ 1800000000 := (okP_deg (okP_of hp)).1
    obtain ⟨k3, q3⟩ := implPText_ev a b
    obtain ⟨k4, q4⟩ := angleText_ev b hb
    have la : (atext b).length ≤ 1048576 := by
      rw [atext_eq]
      have u1 := sgn_len b
      have u2 := dec_length_le (b.natAbs / 10000000) 3 (by omega) (by show _ < 1000; omega)
      have u3 := az_len b.natAbs
      have u4 := digs_length 2 (b.natAbs % 10000000 * 36 / 6000000)
      simp only [arest, List.length_append, List.length_cons, u3, u4]
      omega
    obtain ⟨k5, q5⟩ := implA_ev (atext b) la
    refine ⟨k1 + k2 + k3 + k4 + k5 + 2, ?_⟩
    have hL : laws_d8Long.f l0 l1 = some false := by
      unfold laws_d8Long.f
      rw [if_neg (by omega), decide_eq_false (by omega)]
    generalize hK : k1 + k2 + k3 + k4 + k5 = K
    have r1 := q1 (K + 2) (by omega)
    have r2 := q2 (K + 2) (by omega)
    have r3 := q3 (K + 2) (by omega)
    have r4 := q4 (K + 2) (by omega)
    have r5 := q5 (K + 2) (by omega)
    simp only at r1 r2 r3 r4 r5
    rw [implA_ok b hb] at r5
    have ePT : PText a b = ptext a b := by unfold PText; rw [if_pos (okP_of hp)]
    rw [ePT] at r3
    have lp : (ptext a b).length < 4294967281 := by
      have u1 := dt_len a (by omega)
      have u2 := dt_len b (by omega)
      simp only [ptext, List.length_append, List.length_cons, List.length_nil]
      omega
    have r6 := implRP_f (ptext a b) lp
    have eRP : implRP (ptext a b) = (a, b, true) := by
      unfold implRP ptext
      rw [List.append_assoc, show [32] ++ dt 7 b = (32 : UInt8) :: dt 7 b from rfl, cut1_append _ (dt_bytes a)]
      simp only [implDeg_dt a ha, implDeg_dt b hb, combP, okP_of hp, if_true]
    rw [eRP] at r6
    have r7 : impl_AngleText.f (K + 2) b = some (bs (atext b), 0) := by
      unfold impl_AngleText.f impl_within.f
      rw [if_pos (by omega), decide_eq_true (by omega), Option.bind_some, if_pos rfl, r4, Option.bind_some]
    have f : (b != b) = false := by simp
    unfold laws_FnPoints.f
    rw [hL, Option.bind_some, if_neg (by simp), r1, Option.bind_some, r2, Option.bind_some]
    simp only
    rw [r3, Option.bind_some, r6, Option.bind_some, r7, Option.bind_some]
    simp only
    rw [r5, Option.bind_some]
    simp only [if_true]
    rw [if_neg (by simp), f]
    exact j0_true hp hq K
  · refine ⟨0, ?_⟩
    unfold laws_FnPoints.f
    rw [hl, Option.bind_some, if_pos rfl]
end Go.Proofs.YtogpbandlpjccaaGreatDoor.TX
