/- The circle's series meet the ring. -/
import Derived.Test.YtogpbandlpjccaaGreatP14
set_option linter.unusedSimpArgs false
set_option linter.unusedVariables false
namespace Go.G880
open Go Go.RX

def Meets (x : Iv) : Prop := x = spec_l04Whole ∨ (spec_l04Ok x = true ∧ x.lo ≤ 4294967296 ∧ -4294967296 ≤ x.hi)
theorem inRing_eq {x : Iv} (h : Meets x) : impl_inRing x = spec_l06Meet x := by
  have er : impl_ring = spec_l06Ring := rfl
  simp only [impl_inRing, spec_l06Meet, er, MeetI_eq]
  rcases h with rfl | ⟨h1, h2, h3⟩
  · rfl
  · have hh := (ok_iff x).1 h1
    have : (spec_MeetI x spec_l06Ring).2 = true := by
      simp only [spec_MeetI, h1, ring_ok, Bool.not_true, cond_false]
      have : ¬ (spec_l00Max x.lo spec_l06Ring.lo > spec_l00Min x.hi spec_l06Ring.hi) := by
        simp only [spec_l00Max, spec_l00Min, spec_l06Ring, Bool.cond_eq_ite, decide_eq_true_eq]
        split <;> split <;> omega
      simp only [decide_eq_false this, cond_false]
    rw [this]
    rfl

def PS (s : Iv) : Prop := s = spec_l04Whole ∨ (spec_l04Ok s = true ∧ s.lo ≤ 4294967296 ∧ 0 ≤ s.hi)
def QS (q : Iv) : Prop := q = spec_l04Whole ∨ (spec_l04Ok q = true ∧ 0 ≤ q.lo ∧ q.lo ≤ 4294967296)

theorem min_ge {x y z : Int} (h1 : z ≤ x) (h2 : z ≤ y) : z ≤ spec_l00Min x y := by
  simp only [spec_l00Min, Bool.cond_eq_ite, decide_eq_true_eq]; split <;> omega
theorem MulDivFloor_val {a d : Int} (ha : spec_l03Ok a = true) (h : 0 < d) (hd : d ≤ 9223372036854775807) (hk : (spec_MulDivFloor a 4294967296 d).2 = true) : (spec_MulDivFloor a 4294967296 d).1 = a * 4294967296 / d := by
  have hv := spec_MulDivFloor_val (in64_fix ha) in64_unit h hd
  rw [hv] at hk ⊢
  split at hk
  · rename_i hr; rw [if_pos hr]
  · simp at hk
/-- A quotient by a positive number, rounded down. -/
theorem DivDown_val {a b : Int} (hb : 0 < b) (h : (spec_l03DivDown a b).2 = true) : (spec_l03DivDown a b).1 = a * 4294967296 / b := by
  simp only [spec_l03DivDown] at h ⊢
  cases ha : spec_l03Ok a
  · rw [ha] at h; simp at h
  cases hk : spec_l03Ok b
  · rw [ha, hk] at h; simp at h
  have e0 : (b == 0) = false := by simp; omega
  have e1 : decide (b < 0) = false := decide_eq_false (by omega)
  simp only [ha, hk, e0, e1, Bool.not_true, cond_false] at h ⊢
  have hbr := (l03Ok_iff b).1 hk
  cases hm : (spec_MulDivFloor a 4294967296 b).2
  · rw [hm] at h; simp [spec_l03End] at h
  have hv := MulDivFloor_val ha hb (by omega) hm
  rw [hm] at h
  simp only [spec_l03End, Bool.not_true, cond_false] at h ⊢
  cases hk2 : spec_l03Ok (spec_MulDivFloor a 4294967296 b).1
  · rw [hk2] at h; simp at h
  · simp only [Bool.not_true, cond_false]; exact hv

theorem DivI_QS {y : Iv} {c : Int} (hy : QS y) (hc : 0 < c ∧ c ≤ 268435455) : QS (spec_DivI y (spec_Integer c)) := by
  rcases hy with rfl | ⟨h1, h2, h3⟩
  · left; rfl
  have hI : spec_Integer c = ⟨c * 4294967296, c * 4294967296⟩ := by
    have e1 : spec_l00In c (-268435455) 268435455 = true := (l00In_iff _ _ _).2 (by omega)
    simp only [spec_Integer, e1, Bool.not_true, cond_false]
    rw [w64_id (by omega) (by omega), make_ok (by omega)]
  have hyo := (ok_iff y).1 h1
  have hbp : 0 < c * 4294967296 := by omega
  have hdiv : ∀ a : Int, a * 4294967296 / (c * 4294967296) = a / c := fun a => by
    rw [Int.mul_ediv_mul_of_pos_left _ _ (by omega)]
  rw [hI]
  simp only [spec_DivI]
  rw [h1]
  cases hb : spec_l04Ok ⟨c * 4294967296, c * 4294967296⟩
  · left; rfl
  simp only [Bool.not_true, cond_false]
  cases spec_l04Has ⟨c * 4294967296, c * 4294967296⟩ 0
  case true => left; rfl
  simp only [cond_false]
  cases d1 : (spec_l03DivDown y.lo (c * 4294967296)).2
  · left; rfl
  cases (spec_l03DivUp y.lo (c * 4294967296)).2
  · left; rfl
  cases d3 : (spec_l03DivDown y.hi (c * 4294967296)).2
  · left; rfl
  cases (spec_l03DivUp y.hi (c * 4294967296)).2
  · left; rfl
  simp only [Bool.not_true, cond_false]
  have v1 := DivDown_val hbp d1
  have v3 := DivDown_val hbp d3
  rw [hdiv] at v1 v3
  have g1 : 0 ≤ y.lo / c := Int.ediv_nonneg h2 (by omega)
  have g3 : 0 ≤ y.hi / c := Int.ediv_nonneg (by omega) (by omega)
  have g2 : y.lo / c ≤ y.lo := Int.ediv_le_self _ h2
  rcases make_cases (spec_l00Min (spec_l00Min (spec_l00Min (spec_l00Min 1152921504606846976 (spec_l03DivDown y.lo (c * 4294967296)).1) (spec_l03DivDown y.lo (c * 4294967296)).1) (spec_l03DivDown y.hi (c * 4294967296)).1) (spec_l03DivDown y.hi (c * 4294967296)).1) (spec_l00Max (spec_l00Max (spec_l00Max (spec_l00Max (-1152921504606846976) (spec_l03DivUp y.lo (c * 4294967296)).1) (spec_l03DivUp y.lo (c * 4294967296)).1) (spec_l03DivUp y.hi (c * 4294967296)).1) (spec_l03DivUp y.hi (c * 4294967296)).1) with h | ⟨h, hk⟩
  · left; exact h
  · right
    rw [h]
    rw [v1, v3] at hk ⊢
    refine ⟨hk, ?_, ?_⟩
    · exact min_ge (min_ge (min_ge (min_ge (by omega) g1) g1) g3) g3
    · have m4 := min_le (spec_l00Min (spec_l00Min (spec_l00Min 1152921504606846976 (y.lo / c)) (y.lo / c)) (y.hi / c)) (y.hi / c)
      have m3 := min_le (spec_l00Min (spec_l00Min 1152921504606846976 (y.lo / c)) (y.lo / c)) (y.hi / c)
      have m2 := min_le (spec_l00Min 1152921504606846976 (y.lo / c)) (y.lo / c)
      show spec_l00Min _ _ ≤ _
      omega

theorem prod_le {x y : Int} (h0 : 0 ≤ x) (h1 : x ≤ 4294967296) (h2 : y ≤ 4294967296) : x * y ≤ 4294967296 * 4294967296 := by
  by_cases hy : 0 ≤ y
  · exact Int.mul_le_mul h1 h2 hy (by omega)
  · have := Int.mul_nonneg h0 (show 0 ≤ -y by omega)
    rw [Int.mul_neg] at this
    omega

theorem Sub_cases (a b : Iv) : spec_SubI a b = spec_l04Whole ∨ (spec_SubI a b = ⟨a.lo - b.hi, a.hi - b.lo⟩ ∧ spec_l04Ok (spec_SubI a b) = true ∧ spec_l04Ok a = true ∧ spec_l04Ok b = true) := by
  simp only [spec_SubI]
  cases ha : spec_l04Ok a
  · exact .inl rfl
  cases hb : spec_l04Ok b
  · exact .inl rfl
  simp only [Bool.not_true, cond_false]
  have h1 := (ok_iff a).1 ha
  have h2 := (ok_iff b).1 hb
  rw [w64_id (by omega) (by omega), w64_id (by omega) (by omega)]
  rcases make_cases (a.lo - b.hi) (a.hi - b.lo) with h | ⟨h, hk⟩
  · exact .inl h
  · exact .inr ⟨h, by rw [h]; exact hk, trivial, trivial⟩
theorem Add_cases (a b : Iv) : spec_AddI a b = spec_l04Whole ∨ (spec_AddI a b = ⟨a.lo + b.lo, a.hi + b.hi⟩ ∧ spec_l04Ok (spec_AddI a b) = true ∧ spec_l04Ok a = true ∧ spec_l04Ok b = true) := by
  simp only [spec_AddI]
  cases ha : spec_l04Ok a
  · exact .inl rfl
  cases hb : spec_l04Ok b
  · exact .inl rfl
  simp only [Bool.not_true, cond_false]
  have h1 := (ok_iff a).1 ha
  have h2 := (ok_iff b).1 hb
  rw [w64_id (by omega) (by omega), w64_id (by omega) (by omega)]
  rcases make_cases (a.lo + b.lo) (a.hi + b.hi) with h | ⟨h, hk⟩
  · exact .inl h
  · exact .inr ⟨h, by rw [h]; exact hk, trivial, trivial⟩

theorem series_step {y s : Iv} {c : Int} (hy : QS y) (hs : PS s) (hc : 0 < c ∧ c ≤ 268435455) : PS (spec_SubI (spec_Integer 1) (spec_MulI (spec_DivI y (spec_Integer c)) s)) := by
  have hq := DivI_QS hy hc
  rcases Sub_cases (spec_Integer 1) (spec_MulI (spec_DivI y (spec_Integer c)) s) with h | ⟨h, hk, _, hm⟩
  · exact .inl h
  right
  refine ⟨hk, ?_⟩
  rw [h]
  have e1 : spec_Integer 1 = ⟨4294967296, 4294967296⟩ := rfl
  rw [e1]
  rcases MulI_cases (spec_DivI y (spec_Integer c)) s with h2 | h2
  · rw [h2] at hm; exact absurd hm (by decide)
  have hs' : spec_l04Ok s = true ∧ s.lo ≤ 4294967296 ∧ 0 ≤ s.hi := by
    rcases hs with rfl | hs
    · exact absurd h2.okb (by decide)
    · exact hs
  have hq' : 0 ≤ (spec_DivI y (spec_Integer c)).lo ∧ (spec_DivI y (spec_Integer c)).lo ≤ 4294967296 := by
    rcases hq with hq | hq
    · have := h2.oka; rw [hq] at this; exact absurd this (by decide)
    · exact hq.2
  have a1 := h2.lh.2
  have a2 := h2.ll.1
  have b1 := Int.mul_nonneg hq'.1 hs'.2.2
  have b2 := prod_le hq'.1 hq'.2 hs'.2.1
  rw [Int.neg_mul] at a1
  simp only []
  constructor <;> omega

theorem series_PS {y : Iv} (hy : QS y) : PS (spec_l06Series y 0) ∧ PS (spec_l06Series y (-1)) := by
  have h1 : PS (spec_Integer 1) := .inr (by decide)
  constructor
  · simp only [spec_l06Series]
    refine series_step hy (series_step hy (series_step hy (series_step hy (series_step hy (series_step hy (series_step hy (series_step hy h1 ?_) ?_) ?_) ?_) ?_) ?_) ?_) ?_ <;> decide
  · simp only [spec_l06Series]
    refine series_step hy (series_step hy (series_step hy (series_step hy (series_step hy (series_step hy (series_step hy (series_step hy h1 ?_) ?_) ?_) ?_) ?_) ?_) ?_) ?_ <;> decide

theorem inside_ring {x : Iv} (h : spec_InsideI x spec_l06Ring = true) : spec_l04Ok x = true ∧ -4294967296 ≤ x.lo ∧ x.hi ≤ 4294967296 := by
  simp only [spec_InsideI, ring_ok, Bool.not_true, cond_false] at h
  cases hx : spec_l04Ok x
  · rw [hx] at h; simp at h
  · rw [hx] at h
    simp only [cond_true] at h
    cases h2 : decide (spec_l06Ring.lo ≤ x.lo)
    · rw [h2] at h; simp at h
    · rw [h2] at h
      have h3 : spec_l06Ring.lo ≤ x.lo := of_decide_eq_true h2
      have h4 : x.hi ≤ spec_l06Ring.hi := of_decide_eq_true h
      exact ⟨rfl, h3, h4⟩

theorem SqrI_QS {x : Iv} (h : spec_InsideI x spec_l06Ring = true) : QS (spec_SqrI x) := by
  obtain ⟨h1, h2, h3⟩ := inside_ring h
  have hx := (ok_iff x).1 h1
  have he : 0 ≤ (spec_l04Ends x).1 ∧ (spec_l04Ends x).1 ≤ 4294967296 := by
    have e1 : w64 (0 - x.lo) = -x.lo := by rw [w64_id (by omega) (by omega)]; omega
    have e2 : w64 (0 - x.hi) = -x.hi := by rw [w64_id (by omega) (by omega)]; omega
    simp only [spec_l04Ends, e1, e2]
    cases spec_l04Has x 0
    · simp only [cond_false, spec_l00Min, spec_l00Max, Bool.cond_eq_ite, decide_eq_true_eq]
      (repeat' split) <;> omega
    · simp only [cond_true]; omega
  simp only [spec_SqrI, h1, Bool.not_true, cond_false]
  cases hd : (spec_l03MulDown (spec_l04Ends x).1 (spec_l04Ends x).1).2
  · left; rfl
  cases (spec_l03MulUp (spec_l04Ends x).2 (spec_l04Ends x).2).2
  · left; rfl
  simp only [Bool.not_true, cond_false]
  rcases make_cases (spec_l03MulDown (spec_l04Ends x).1 (spec_l04Ends x).1).1 (spec_l03MulUp (spec_l04Ends x).2 (spec_l04Ends x).2).1 with h | ⟨h, hk⟩
  · left; exact h
  · right
    rw [h]
    refine ⟨hk, ?_⟩
    show 0 ≤ (spec_l03MulDown (spec_l04Ends x).1 (spec_l04Ends x).1).1 ∧ (spec_l03MulDown (spec_l04Ends x).1 (spec_l04Ends x).1).1 ≤ 4294967296
    rw [(MulDown_val hd).1]
    have g1 := Int.mul_nonneg he.1 he.1
    have g2 := prod_le he.1 he.2 he.2
    omega

theorem Sin_meets (x : Iv) : Meets (spec_SinSeries x) := by
  simp only [spec_SinSeries]
  cases hi : spec_InsideI x spec_l06Ring
  · left; rfl
  simp only [Bool.not_true, cond_false]
  obtain ⟨h1, h2, h3⟩ := inside_ring hi
  have hx := (ok_iff x).1 h1
  have hs := (series_PS (SqrI_QS hi)).1
  rcases Add_cases (spec_MulI x (spec_l06Series (spec_SqrI x) 0)) spec_l06Tiny with h | ⟨h, hk, hm, _⟩
  · exact .inl h
  right
  refine ⟨hk, ?_⟩
  rw [h]
  rcases MulI_cases x (spec_l06Series (spec_SqrI x) 0) with g | g
  · rw [g] at hm; exact absurd hm (by decide)
  have hs' : (spec_l06Series (spec_SqrI x) 0).lo ≤ 4294967296 ∧ 0 ≤ (spec_l06Series (spec_SqrI x) 0).hi := by
    rcases hs with hs | hs
    · have := g.okb; rw [hs] at this; exact absurd this (by decide)
    · exact hs.2
  generalize spec_l06Series (spec_SqrI x) 0 = s at *
  have a1 := g.ll
  have a2 := g.lh
  rw [Int.neg_mul] at a1 a2
  show (spec_MulI x s).lo + -1 ≤ _ ∧ -4294967296 ≤ (spec_MulI x s).hi + 1
  by_cases h0 : 0 ≤ s.lo
  · by_cases hx0 : 0 ≤ x.lo
    · have b1 := prod_le hx0 (by omega) hs'.1
      have b2 := Int.mul_nonneg hx0 h0
      constructor <;> omega
    · have b1 := prod_le (x := -x.lo) (by omega) (by omega) hs'.1
      have b2 := Int.mul_nonneg (show 0 ≤ -x.lo by omega) h0
      rw [Int.neg_mul] at b1 b2
      constructor <;> omega
  · by_cases hx0 : 0 ≤ x.lo
    · have b1 := Int.mul_nonneg hx0 (show 0 ≤ -s.lo by omega)
      have b2 := Int.mul_nonneg hx0 hs'.2
      rw [Int.mul_neg] at b1
      constructor <;> omega
    · have b1 := Int.mul_nonneg (show 0 ≤ -x.lo by omega) (show 0 ≤ -s.lo by omega)
      have b2 := Int.mul_nonneg (show 0 ≤ -x.lo by omega) hs'.2
      rw [Int.neg_mul, Int.mul_neg] at b1
      rw [Int.neg_mul] at b2
      constructor <;> omega
theorem Cos_meets (x : Iv) : Meets (spec_CosSeries x) := by
  simp only [spec_CosSeries]
  cases hi : spec_InsideI x spec_l06Ring
  · left; rfl
  simp only [Bool.not_true, cond_false]
  have hs := (series_PS (SqrI_QS hi)).2
  rcases Add_cases (spec_l06Series (spec_SqrI x) (-1)) spec_l06Tiny with h | ⟨h, hk, hm, _⟩
  · exact .inl h
  right
  refine ⟨hk, ?_⟩
  rw [h]
  have hs' : (spec_l06Series (spec_SqrI x) (-1)).lo ≤ 4294967296 ∧ 0 ≤ (spec_l06Series (spec_SqrI x) (-1)).hi := by
    rcases hs with hs | hs
    · rw [hs] at hm; exact absurd hm (by decide)
    · exact hs.2
  show (spec_l06Series (spec_SqrI x) (-1)).lo + -1 ≤ _ ∧ -4294967296 ≤ (spec_l06Series (spec_SqrI x) (-1)).hi + 1
  omega
theorem Neg_meets {x : Iv} (h : Meets x) : Meets (spec_NegI x) := by
  rcases h with rfl | ⟨h1, h2, h3⟩
  · left; rfl
  · have hx := (ok_iff x).1 h1
    right
    have : spec_NegI x = ⟨-x.hi, -x.lo⟩ := by rw [← NegI_eq]; exact NegI_ok h1
    rw [this]
    refine ⟨(ok_iff _).2 ?_, ?_⟩ <;> (simp only []; omega)

theorem circle_eq (n turns : Int) : impl_circleValue n turns = spec_l06At n turns := by
  have er : impl_ring = spec_l06Ring := rfl
  have ea : ∀ n, impl_at n = spec_l05At n := fun _ => rfl
  simp only [impl_circleValue, spec_l06At, er, ea, angle_eq, QuarterOf_eq, TurnI_eq, SubI_eq, SinSeries_eq, CosSeries_eq, NegI_eq, inRing_eq (Sin_meets _), inRing_eq (Cos_meets _), inRing_eq (Neg_meets (Sin_meets _)), inRing_eq (Neg_meets (Cos_meets _))]

end Go.G880
