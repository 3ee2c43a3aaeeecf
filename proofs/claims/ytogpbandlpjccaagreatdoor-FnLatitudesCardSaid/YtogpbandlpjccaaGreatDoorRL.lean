/- Arc tangents and arc sines: what the program's intervals enclose. -/
import Derived.Test.YtogpbandlpjccaaGreatDoorRK
import Derived.Test.YtogpbandlpjccaaGreatDoorP30
set_option linter.unusedVariables false
set_option linter.unusedSimpArgs false
namespace Go.G880.Re
open Go Go.RX Go.G880 Go.Rl
theorem fR_U : fR 4294967296 = 1 := by rw [fR_val]; show (4294967296 : R) * (1 / 4294967296) = 1; grind
theorem fR_mU : fR (-4294967296) = -1 := by rw [fR_neg, fR_U]
theorem fR_q : fR 1073741824 = 1 / 4 := by rw [fR_val]; show (1073741824 : R) * (1 / 4294967296) = 1 / 4; grind
theorem one_cast : ((1 : Int) : R) = 1 := rfl
theorem at_st {Y S : Iv} {y s b : R} {c : Int} (h : 0 < c) (hc : c ≤ 21) (hy : HR Y y) (hs : HR S s) (e : 1 / (c : R) = b) : HR (impl_SubI (impl_Quotient 1 c) (impl_MulI Y S)) (b - y * s) :=
 (SubJ (QuotJ (a := 1) (d := c) ⟨by omega, by omega⟩ h (by omega)) (MulJ hy hs)).eq (by rw [one_cast, e])
theorem ArcSeriesJ {X : Iv} {x : R} (hx : HR X x) : HR (impl_ArcSeries X) (atan x) := by
 unfold impl_ArcSeries
 cases hi : impl_InsideI X (Iv.mk (-1073741824) 1073741824)
 ·exact hr_whole _
 simp only [Bool.not_true, cond_false]
 have b := inside_bd (by decide) hi hx
 rw [fR_neg, fR_q] at b
 have hb : Bd x (1 / 4) := b
 have hy := SqrJ hx
 have s0 : HR (impl_Quotient 1 21) (1 / 21) := (QuotJ (a := 1) (d := 21) ⟨by omega, by omega⟩ (by omega) (by omega)).eq rfl
 have s1 := at_st (c := 19) (b := 1 / 19) (by omega) (by omega) hy s0 rfl
 have s2 := at_st (c := 17) (b := 1 / 17) (by omega) (by omega) hy s1 rfl
 have s3 := at_st (c := 15) (b := 1 / 15) (by omega) (by omega) hy s2 rfl
 have s4 := at_st (c := 13) (b := 1 / 13) (by omega) (by omega) hy s3 rfl
 have s5 := at_st (c := 11) (b := 1 / 11) (by omega) (by omega) hy s4 rfl
 have s6 := at_st (c := 9) (b := 1 / 9) (by omega) (by omega) hy s5 rfl
 have s7 := at_st (c := 7) (b := 1 / 7) (by omega) (by omega) hy s6 rfl
 have s8 := at_st (c := 5) (b := 1 / 5) (by omega) (by omega) hy s7 rfl
 have s9 := at_st (c := 3) (b := 1 / 3) (by omega) (by omega) hy s8 rfl
 have s10 := at_st (c := 1) (b := 1 / 1) (by omega) (by omega) hy s9 rfl
 exact (AddJ (MulJ hx s10) (tinyJ (atan_near hb))).eq (by unfold atP; grind)
theorem halvedJ {X : Iv} {x : R} (hx : HR X x) : HR (impl_halved X) (x / (1 + sqrt (1 + x * x))) :=
 DivJ hx ((AddJ (IntJ 1) (SqrtJ ((AddJ (IntJ 1) (SqrJ hx)).eq (y := 1 + x * x) rfl))).eq rfl)
theorem fourfoldJ {X : Iv} {x : R} (hx : HR X x) : HR (impl_fourfold X) (atan x) := by
 refine (DoubleJ (DoubleJ (ArcSeriesJ (halvedJ (halvedJ hx))))).eq ?_
 rw [← atan_half, ← atan_half]
theorem turn1 : (impl_TurnI 1).hi = 6746518853 := quarter_val
theorem qt_top : qt ≤ fR 6746518853 := by
 have h := TurnJ 1 (by decide +kernel)
 have := h.2
 rw [turn1, one_cast] at this
 grind
theorem halfJ {t : R} (h : Bd t qt) : HR impl_halfCircle t := by
 have q := qt_top
 intro _
 unfold impl_halfCircle
 rw [turn1]
 have e : w64 (0 - 6746518853) = -6746518853 := by decide
 rw [e]
 unfold Bd at h
 exact ⟨by show fR (-6746518853) ≤ t; rw [fR_neg]; grind, by show t ≤ fR 6746518853; grind⟩
theorem atan_bd (x : R) : Bd (atan x) qt := by
 have := atan_lo x
 have := atan_hi x
 unfold Bd
 grind
theorem fR_pos {n : Int} (h : 0 < n) : 0 < fR n := by
 have a := fR_le.2 (show 1 ≤ n by omega)
 have b : (0 : R) < fR 1 := by rw [fR_val]; show (0 : R) < 1 * (1 / 4294967296); grind
 grind
theorem AtanAJ {n : Int} (h0 : 0 ≤ n) : HR (impl_AtanAt.A n) (atan (fR n)) := by
 unfold impl_AtanAt.A
 cases hc : impl_isOpen n
 ·exact halfJ (atan_bd _)
 simp only [Bool.not_true, cond_false]
 by_cases h1 : n > 4294967296
 ·rw [decide_eq_true h1, cond_true]
  have p := fR_pos (n := n) (by omega)
  refine (SubJ (TurnJ 1) (fourfoldJ (DivJ (IntJ 1) (atJ n)))).eq ?_
  rw [atan_inv p, one_cast, show 1 / fR n = (fR n)⁻¹ by grind]
  grind
 ·rw [decide_eq_false h1, cond_false]
  exact fourfoldJ (atJ n)
theorem AtanAtJ (n : Int) : HR (impl_AtanAt n) (atan (fR n)) := by
 unfold impl_AtanAt
 cases hc : impl_isOpen n
 ·exact halfJ (atan_bd _)
 simp only [Bool.not_true, cond_false]
 by_cases hn : n < 0
 ·rw [decide_eq_true hn, cond_true]
  have hb : -9223372036854775808 < n := by
   unfold impl_isOpen at hc
   cases k : decide ((-1152921504606846976) < n)
   ·rw [k] at hc; simp at hc
   ·have := of_decide_eq_true k; omega
  rw [w64_id (by omega) (by omega), show (0 - n : Int) = -n by omega]
  refine (NegJ (AtanAJ (n := -n) (by omega))).eq ?_
  rw [fR_neg, atan_neg]
  grind
 ·rw [decide_eq_false hn, cond_false]
  have := AtanAJ (n := n) (by omega)
  unfold impl_AtanAt.A at this
  rw [hc] at this
  exact this
theorem AtanJ {X : Iv} {x : R} (hx : HR X x) : HR (impl_AtanI X) (atan x) := by
 unfold impl_AtanI impl_IsWhole
 cases k : impl_ValidInterval X
 ·exact halfJ (atan_bd _)
 simp only [Bool.not_true, cond_false]
 have := hx k
 unfold In at this
 exact HullJ (AtanAtJ X.lo) (AtanAtJ X.hi) (.inl ⟨atan_le_iff.2 this.1, atan_le_iff.2 this.2⟩)
theorem circle_root {n : Int} (h : -4294967296 ≤ n ∧ n ≤ 4294967296) : ∃ r, 0 ≤ r ∧ r ≤ 4294967296 ∧ r * r ≤ (4294967296 - n) * (4294967296 + n) ∧ (4294967296 - n) * (4294967296 + n) < (r + 1) * (r + 1) ∧
  impl_SqrtFloor (4294967296 - n) (4294967296 + n) = (r, true) := by
 have hp : 0 ≤ (4294967296 - n) * (4294967296 + n) := Int.mul_nonneg (by omega) (by omega)
 have hs : (4294967296 - n) * (4294967296 + n) ≤ 18446744073709551616 := by
  have : 0 ≤ n * n := by
   by_cases h0 : 0 ≤ n
   ·exact Int.mul_nonneg h0 h0
   ·have := Int.mul_nonneg (show 0 ≤ -n by omega) (show 0 ≤ -n by omega)
    rwa [Int.neg_mul_neg] at this
  have e : (4294967296 - n) * (4294967296 + n) = 18446744073709551616 - n * n := by
   rw [Int.sub_mul, Int.mul_add, Int.mul_add]; omega
  omega
 obtain ⟨r0, r1, r2, r3, r4⟩ := Root_W hp (by omega)
 generalize hr : spec_l02Root (W ((4294967296 - n) * (4294967296 + n))) = r at *
 have r5 : r ≤ 4294967296 := by
  apply Int.le_of_not_gt
  intro hge
  have : 4294967297 * 4294967297 ≤ r * r := Int.mul_le_mul (by omega) (by omega) (by omega) (by omega)
  omega
 refine ⟨r, r1, r5, r3, r4, ?_⟩
 have d0 : decide (4294967296 - n < 0) = false := decide_eq_false (by omega)
 have d1 : decide (4294967296 + n < 0) = false := decide_eq_false (by omega)
 simp only [impl_SqrtFloor, d0, d1, cond_false, WideMul_eq (a := 4294967296 - n) (b := 4294967296 + n) ⟨by omega, by omega⟩ ⟨by omega, by omega⟩, r0]
 rw [w64_id (by omega) (by omega)]
theorem fR_mul (a b : Int) : fR a * fR b = (((a * b : Int) : R)) * (1 / 18446744073709551616) := by rw [fR_val, fR_val, cast_mul]; grind
theorem CircleJ {n : Int} (h : -4294967296 ≤ n ∧ n ≤ 4294967296) : HR (impl_CircleAt n) (sqrt (1 - fR n * fR n)) := by
 have hw : impl_within n (-4294967296) 4294967296 = true := (l00In_iff _ _ _).2 h
 unfold impl_CircleAt
 rw [hw]
 simp only [Bool.not_true, cond_false]
 obtain ⟨r, r1, r2, r3, r4, e⟩ := circle_root h
 rw [w64_id (n := 4294967296 - n) (by omega) (by omega), w64_id (n := 4294967296 + n) (by omega) (by omega), e]
 simp only
 rw [WideMul_eq (a := r) (b := r) ⟨by omega, by omega⟩ ⟨by omega, by omega⟩, WideMul_eq (a := 4294967296 - n) (b := 4294967296 + n) ⟨by omega, by omega⟩ ⟨by omega, by omega⟩]
 have hrr : 0 ≤ r * r := Int.mul_nonneg r1 r1
 have hz : (4294967296 - n) * (4294967296 + n) ≤ 18446744082299486209 := by
  have : (r + 1) * (r + 1) ≤ 4294967297 * 4294967297 := Int.mul_le_mul (by omega) (by omega) (by omega) (by omega)
  omega
 -- as numbers
 have ez : 1 - fR n * fR n = (((4294967296 - n) * (4294967296 + n) : Int) : R) * (1 / 18446744073709551616) := by
  rw [← fR_mul, fR_sub, fR_add, fR_U]; grind
 have nn : 0 ≤ 1 - fR n * fR n := by
  rw [ez]
  have := cast_le.2 (show (0 : Int) ≤ (4294967296 - n) * (4294967296 + n) by omega)
  have z : ((0 : Int) : R) = 0 := rfl
  rw [z] at this
  have := R.mul_nn this (b := 1 / 18446744073709551616) (by grind)
  exact this
 have sq := sqrt_sq nn
 have sn := sqrt_nn (1 - fR n * fR n)
 have pos : ∀ {n : Int}, 0 ≤ n → 0 ≤ fR n := fun {n} hn => by have := fR_le.2 hn; rwa [fR_zero] at this
 have le : ∀ {a b : Int}, a ≤ b → (a : R) * (1 / 18446744073709551616) ≤ (b : R) * (1 / 18446744073709551616) := fun {a b} hab => by
  have := cast_le.2 hab
  have := R.mul_nn (a := (b : R) - (a : R)) (b := 1 / 18446744073709551616) (by grind) (by grind)
  grind
 have lo : fR r ≤ sqrt (1 - fR n * fR n) := sq_le sn (by rw [sq, ez, fR_mul]; exact le r3)
 cases c : ((W (r * r)).hi == (W ((4294967296 - n) * (4294967296 + n))).hi && (W (r * r)).lo == (W ((4294967296 - n) * (4294967296 + n))).lo)
 ·simp only [cond_false]
  rw [w64_id (n := r + 1) (by omega) (by omega)]
  intro _
  exact ⟨lo, sq_le (pos (show 0 ≤ r + 1 by omega)) (by rw [sq, ez]; show _ ≤ fR (r + 1) * fR (r + 1); rw [fR_mul]; exact le (by omega))⟩
 ·simp only [cond_true]
  have hh : r * r = (4294967296 - n) * (4294967296 + n) := by
   have := W_same (z := r * r) (y := (4294967296 - n) * (4294967296 + n)) (by omega) (by omega)
   rw [this] at c
   exact of_decide_eq_true c
  have : sqrt (1 - fR n * fR n) = fR r := sqrt_of (pos r1) (by rw [fR_mul, hh, ez])
  rw [this]
  exact atJ r
theorem bd_of_fix {n : Int} (h : -4294967296 ≤ n ∧ n ≤ 4294967296) : Bd (fR n) 1 := by
 have a := fR_le.2 h.1
 have b := fR_le.2 h.2
 rw [fR_mU] at a
 rw [fR_U] at b
 exact ⟨a, b⟩
theorem AsinAtJ {n : Int} (h : -4294967296 ≤ n ∧ n ≤ 4294967296) : HR (impl_AsinAt n) (asin (fR n)) := by
 have hw : impl_within n (-4294967296) 4294967296 = true := (l00In_iff _ _ _).2 h
 have b := bd_of_fix h
 unfold impl_AsinAt
 rw [hw]
 simp only [Bool.not_true, cond_false]
 refine MeetJ ?_ (halfJ ⟨asin_lo b, asin_hi b⟩)
 rw [asin_half b]
 exact DoubleJ (AtanJ (DivJ (atJ n) ((AddJ (IntJ 1) (CircleJ h)).eq rfl)))
theorem ringJ {x : R} (h : Bd x 1) : HR impl_ring x := ringR h
theorem meet_ring {X : Iv} (k : (impl_MeetI X impl_ring).2 = true) : spec_l04Ok (impl_MeetI X impl_ring).1 = true ∧ -4294967296 ≤ (impl_MeetI X impl_ring).1.lo ∧ (impl_MeetI X impl_ring).1.hi ≤ 4294967296 := by
 rw [MeetI_eq] at k ⊢
 have ro : spec_l04Ok impl_ring = true := by decide
 unfold spec_MeetI at k ⊢
 cases oX : spec_l04Ok X
 ·simp only [oX, ro, Bool.not_true, Bool.not_false, cond_true, cond_false]
  exact ⟨trivial, by decide, by decide⟩
 ·simp only [oX, ro, Bool.not_true, cond_false] at k ⊢
  have iX := (ok_iff _).1 oX
  have e1 : impl_ring.lo = -4294967296 := rfl
  have e2 : impl_ring.hi = 4294967296 := rfl
  rw [e1, e2] at k ⊢
  have a1 := Nw.le_max X.lo (-4294967296)
  have a2 := Nw.min_le X.hi 4294967296
  cases c : decide (spec_l00Max X.lo (-4294967296) > spec_l00Min X.hi 4294967296)
  ·simp only [cond_false]
   have c := of_decide_eq_false c
   exact ⟨(ok_iff _).2 (by simp only []; omega), a1.2, a2.2⟩
  ·rw [c] at k; simp at k
theorem AsinJ {X : Iv} {x : R} (hx : HR X x) (b : Bd x 1) : HR (impl_AsinI X) (asin x) := by
 unfold impl_AsinI
 have hm := MeetJ hx (ringJ b)
 have hr := meet_ring (X := X)
 generalize impl_MeetI X impl_ring = m at *
 simp only []
 cases k : m.2
 ·exact hr_whole _
 simp only [Bool.not_true, cond_false]
 obtain ⟨ok, h1, h2⟩ := hr k
 have im := (ok_iff _).1 ok
 have i := hm ok
 unfold In at i
 have h1 : -4294967296 ≤ m.1.lo ∧ m.1.lo ≤ 4294967296 := by omega
 have h2 : -4294967296 ≤ m.1.hi ∧ m.1.hi ≤ 4294967296 := by omega
 exact HullJ (AsinAtJ h1) (AsinAtJ h2) (.inl ⟨asin_le (bd_of_fix h1) b i.1, asin_le b (bd_of_fix h2) i.2⟩)
end Go.G880.Re
