/- The intervals' operations enclose numbers. -/
import Derived.Test.YtogpbandlpjccaaGreatRR
import Derived.Test.YtogpbandlpjccaaGreatPQ
import Derived.Test.YtogpbandlpjccaaGreatP18
set_option linter.unusedVariables false
set_option linter.unusedSimpArgs false
namespace Go.G880.Re
open Go Go.RX Go.G880 Go.Rl

/-- A fix, as a number. -/
noncomputable def fR (n : Int) : R := R.of (Nw.fx n)
theorem fR_le {a b : Int} : fR a ≤ fR b ↔ a ≤ b := by
  unfold fR
  rw [R.of_le]
  exact ⟨Nw.le_fx, Nw.fx_le⟩
theorem fx_val (n : Int) : Nw.fx n = (n : Rat) * (1 / 4294967296) := rfl
theorem fR_val (n : Int) : fR n = (n : R) * (1 / 4294967296) := by
  unfold fR
  rw [fx_val, R.of_mul, R.of_div]
  rfl
theorem cast_add (a b : Int) : ((a + b : Int) : R) = (a : R) + (b : R) := int_cast_add a b
theorem cast_neg (a : Int) : ((-a : Int) : R) = -(a : R) := by
  show R.of ((-a : Int) : Rat) = -R.of (a : Rat)
  rw [← R.of_neg, Rat.intCast_neg]
theorem cast_sub (a b : Int) : ((a - b : Int) : R) = (a : R) - (b : R) := by
  rw [Int.sub_eq_add_neg, cast_add, cast_neg]; grind
theorem cast_mul (a b : Int) : ((a * b : Int) : R) = (a : R) * (b : R) := by
  show R.of ((a * b : Int) : Rat) = R.of (a : Rat) * R.of (b : Rat)
  rw [← R.of_mul, Rat.intCast_mul]
theorem cast_le {a b : Int} : (a : R) ≤ (b : R) ↔ a ≤ b := by
  show R.of (a : Rat) ≤ R.of (b : Rat) ↔ a ≤ b
  rw [R.of_le]
  exact Rat.intCast_le_intCast
theorem cast_lt {a b : Int} : (a : R) < (b : R) ↔ a < b := by
  show R.of (a : Rat) < R.of (b : Rat) ↔ a < b
  rw [R.of_lt]
  exact Rat.intCast_lt_intCast
theorem fR_add (a b : Int) : fR (a + b) = fR a + fR b := by rw [fR_val, fR_val, fR_val, cast_add]; grind
theorem fR_neg (a : Int) : fR (-a) = -fR a := by rw [fR_val, fR_val, cast_neg]; grind
theorem fR_sub (a b : Int) : fR (a - b) = fR a - fR b := by rw [fR_val, fR_val, fR_val, cast_sub]; grind
theorem fR_zero : fR 0 = 0 := by
  rw [fR_val]
  show (0 : R) * _ = 0
  grind
theorem fR_unit (n : Int) : fR (n * 4294967296) = (n : R) := by
  rw [fR_val, cast_mul]
  show (n : R) * (4294967296 : R) * (1 / 4294967296) = n
  grind

/-- The number lies in the interval; and so, if that is bounded. -/
def In (X : Iv) (x : R) : Prop := fR X.lo ≤ x ∧ x ≤ fR X.hi
def HR (X : Iv) (x : R) : Prop := spec_l04Ok X = true → In X x
theorem HR.eq {X : Iv} {x y : R} (h : HR X x) (e : y = x) : HR X y := e ▸ h
theorem hr_whole (x : R) : HR spec_l04Whole x := fun h => absurd h (by decide)
theorem hr_bad {X : Iv} (h : spec_l04Ok X = false) (x : R) : HR X x := fun k => by rw [h] at k; cases k
theorem in_at (n : Int) : In ⟨n, n⟩ (fR n) := ⟨R.of_le.2 Rat.le_refl, R.of_le.2 Rat.le_refl⟩
theorem hr_lo (X : Iv) : HR X (fR X.lo) := fun h => ⟨R.of_le.2 Rat.le_refl, fR_le.2 ((ok_iff _).1 h).2.1⟩
theorem hr_hi (X : Iv) : HR X (fR X.hi) := fun h => ⟨fR_le.2 ((ok_iff _).1 h).2.1, R.of_le.2 Rat.le_refl⟩
theorem make_in {a b : Int} {x : R} (h1 : fR a ≤ x) (h2 : x ≤ fR b) : HR (spec_l04Make a b) x := by
  intro h
  rw [Nw.make_of h]
  exact ⟨h1, h2⟩
theorem at_in (n : Int) : HR (spec_l05At n) (fR n) := by
  intro _
  exact in_at n

theorem AddR {A B : Iv} {a b : R} (ha : HR A a) (hb : HR B b) : HR (spec_AddI A B) (a + b) := by
  intro h
  obtain ⟨oA, oB⟩ := Nw.AddI_ok h
  have a1 := ha oA
  have b1 := hb oB
  have iA := (ok_iff _).1 oA
  have iB := (ok_iff _).1 oB
  have e : spec_AddI A B = spec_l04Make (A.lo + B.lo) (A.hi + B.hi) := by
    simp only [spec_AddI, oA, oB, Bool.not_true, cond_false]
    rw [w64_id (by omega) (by omega), w64_id (by omega) (by omega)]
  rw [e] at h ⊢
  refine make_in ?_ ?_ h
  · rw [fR_add]; unfold In at a1 b1; grind
  · rw [fR_add]; unfold In at a1 b1; grind
theorem SubR {A B : Iv} {a b : R} (ha : HR A a) (hb : HR B b) : HR (spec_SubI A B) (a - b) := by
  intro h
  obtain ⟨oA, oB⟩ := Nw.SubI_ok2 h
  have a1 := ha oA
  have b1 := hb oB
  have iA := (ok_iff _).1 oA
  have iB := (ok_iff _).1 oB
  have e : spec_SubI A B = spec_l04Make (A.lo - B.hi) (A.hi - B.lo) := by
    simp only [spec_SubI, oA, oB, Bool.not_true, cond_false]
    rw [w64_id (by omega) (by omega), w64_id (by omega) (by omega)]
  rw [e] at h ⊢
  refine make_in ?_ ?_ h
  · rw [fR_sub]; unfold In at a1 b1; grind
  · rw [fR_sub]; unfold In at a1 b1; grind
theorem NegR {A : Iv} {a : R} (ha : HR A a) : HR (spec_NegI A) (-a) := by
  cases oA : spec_l04Ok A
  · simp only [spec_NegI, oA, Bool.not_false, cond_true]
    exact hr_whole _
  have a1 := ha oA
  have iA := (ok_iff _).1 oA
  have e : spec_NegI A = spec_l04Make (-A.hi) (-A.lo) := by
    simp only [spec_NegI, oA, Bool.not_true, cond_false]
    rw [w64_id (by omega) (by omega), w64_id (by omega) (by omega), Int.zero_sub, Int.zero_sub]
  rw [e]
  refine make_in ?_ ?_
  · rw [fR_neg]; unfold In at a1; grind
  · rw [fR_neg]; unfold In at a1; grind
theorem bil_lo {x1 x2 y1 y2 a b L : R} (h1 : x1 ≤ a) (h2 : a ≤ x2) (h3 : y1 ≤ b) (h4 : b ≤ y2) (p1 : L ≤ x1 * y1) (p2 : L ≤ x1 * y2) (p3 : L ≤ x2 * y1) (p4 : L ≤ x2 * y2) : L ≤ a * b := by
  have q : ∀ x : R, L ≤ x * y1 → L ≤ x * y2 → L ≤ x * b := by
    intro x g1 g2
    by_cases hx : 0 ≤ x
    · have := R.mul_nn hx (show 0 ≤ b - y1 by grind)
      grind
    · have := R.mul_nn (show 0 ≤ -x by grind) (show 0 ≤ y2 - b by grind)
      grind
  have q1 := q x1 p1 p2
  have q2 := q x2 p3 p4
  by_cases hb : 0 ≤ b
  · have := R.mul_nn (show 0 ≤ a - x1 by grind) hb
    grind
  · have := R.mul_nn (show 0 ≤ x2 - a by grind) (show 0 ≤ -b by grind)
    grind
theorem bil_hi {x1 x2 y1 y2 a b L : R} (h1 : x1 ≤ a) (h2 : a ≤ x2) (h3 : y1 ≤ b) (h4 : b ≤ y2) (p1 : x1 * y1 ≤ L) (p2 : x1 * y2 ≤ L) (p3 : x2 * y1 ≤ L) (p4 : x2 * y2 ≤ L) : a * b ≤ L := by
  have := bil_lo (x1 := -x2) (x2 := -x1) (y1 := y1) (y2 := y2) (a := -a) (b := b) (L := -L) (by grind) (by grind) h3 h4 (by grind) (by grind) (by grind) (by grind)
  grind
/-- From fractions to numbers. -/
theorem of_has {X : Iv} {q : Rat} (h : Nw.has X q) : In X (R.of q) := ⟨R.of_le.2 (Nw.has_fx h).1, R.of_le.2 (Nw.has_fx h).2⟩
theorem has_hi {X : Iv} (h : spec_l04Ok X = true) : Nw.has X (Nw.fx X.hi) := Nw.fx_has (Nw.fx_le ((ok_iff _).1 h).2.1) Rat.le_refl
theorem MulR {A B : Iv} {a b : R} (ha : HR A a) (hb : HR B b) : HR (spec_MulI A B) (a * b) := by
  intro h
  obtain ⟨oA, oB⟩ := Nw.MulI_ok2 h
  have a1 := ha oA
  have b1 := hb oB
  have p1 := of_has (Nw.MulI_has (Nw.has_lo oA) (Nw.has_lo oB) h)
  have p2 := of_has (Nw.MulI_has (Nw.has_lo oA) (has_hi oB) h)
  have p3 := of_has (Nw.MulI_has (has_hi oA) (Nw.has_lo oB) h)
  have p4 := of_has (Nw.MulI_has (has_hi oA) (has_hi oB) h)
  rw [R.of_mul] at p1 p2 p3 p4
  exact ⟨bil_lo a1.1 a1.2 b1.1 b1.2 p1.1 p2.1 p3.1 p4.1, bil_hi a1.1 a1.2 b1.1 b1.2 p1.2 p2.2 p3.2 p4.2⟩
theorem DivR {A B : Iv} {a b : R} (ha : HR A a) (hb : HR B b) : HR (spec_DivI A B) (a / b) := by
  intro h
  obtain ⟨oA, oB, o3⟩ := Nw.DivI_ok2 h
  have a1 := ha oA
  have b1 := hb oB
  have iB := (ok_iff _).1 oB
  have hz : ¬ (B.lo ≤ 0 ∧ 0 ≤ B.hi) := mt (l00In_iff 0 B.lo B.hi).2 (by rw [spec_l04Has] at o3; rw [o3]; simp)
  have ne : ∀ {n : Int}, n ≠ 0 → Nw.fx n ≠ 0 := fun {n} hn h0 => by
    have := Nw.fx_mul n
    rw [h0, Rat.zero_mul] at this
    have h2 : ((0 : Int) : Rat) = (n : Rat) := this
    exact hn (Rat.intCast_inj.1 h2).symm
  have n1 := ne (show B.lo ≠ 0 by omega)
  have n2 := ne (show B.hi ≠ 0 by omega)
  have corner : ∀ {p q : Rat}, Nw.has A p → Nw.has B q → q ≠ 0 → In (spec_DivI A B) (R.of (p / q)) := fun {p q} hp hq hne =>
    of_has (Nw.DivW (fun _ => hp) (fun _ => hq) (show q * (p / q) = p by rw [Rat.mul_comm]; exact Rat.div_mul_cancel hne) h)
  have c1 := corner (Nw.has_lo oA) (Nw.has_lo oB) n1
  have c2 := corner (Nw.has_lo oA) (has_hi oB) n2
  have c3 := corner (has_hi oA) (Nw.has_lo oB) n1
  have c4 := corner (has_hi oA) (has_hi oB) n2
  rw [R.of_div] at c1 c2 c3 c4
  have e : ∀ {n : Int}, Nw.fx n ≠ 0 → fR n ≠ 0 := fun {n} hn h0 => hn (R.of_inj (show R.of (Nw.fx n) = R.of 0 from h0))
  have m1 := e n1
  have m2 := e n2
  change In _ (fR A.lo / fR B.lo) at c1
  change In _ (fR A.lo / fR B.hi) at c2
  change In _ (fR A.hi / fR B.lo) at c3
  change In _ (fR A.hi / fR B.hi) at c4
  unfold In at a1 b1 c1 c2 c3 c4 ⊢
  generalize fR (spec_DivI A B).lo = L at *
  generalize fR (spec_DivI A B).hi = H at *
  by_cases hp : 0 < B.lo
  · have p1 : 0 < fR B.lo := by
      have := fR_le.2 (show 0 ≤ B.lo by omega)
      rw [fR_zero] at this
      grind
    have p2 : 0 < fR B.hi := by grind
    have pb : 0 < b := by grind
    rw [R.le_div p1, R.div_le p1] at c1 c3
    rw [R.le_div p2, R.div_le p2] at c2 c4
    rw [R.le_div pb, R.div_le pb]
    constructor
    · by_cases hL : 0 ≤ L
      · have := R.mul_nn hL (show 0 ≤ fR B.hi - b by grind); grind
      · have := R.mul_nn (show 0 ≤ -L by grind) (show 0 ≤ b - fR B.lo by grind); grind
    · by_cases hH : 0 ≤ H
      · have := R.mul_nn hH (show 0 ≤ b - fR B.lo by grind); grind
      · have := R.mul_nn (show 0 ≤ -H by grind) (show 0 ≤ fR B.hi - b by grind); grind
  · have p2 : 0 < -fR B.hi := by
      have := fR_le.2 (show B.hi ≤ 0 by omega)
      rw [fR_zero] at this
      grind
    have p1 : 0 < -fR B.lo := by grind
    have pb : 0 < -b := by grind
    have d : ∀ x y : R, x / y = (-x) / (-y) := fun x y => by
      by_cases hy : y = 0
      · subst hy; grind
      · have : -y ≠ 0 := by grind
        grind
    rw [d (fR A.lo), R.le_div p1, R.div_le p1] at c1
    rw [d (fR A.hi), R.le_div p1, R.div_le p1] at c3
    rw [d (fR A.lo), R.le_div p2, R.div_le p2] at c2
    rw [d (fR A.hi), R.le_div p2, R.div_le p2] at c4
    rw [d a, R.le_div pb, R.div_le pb]
    constructor
    · by_cases hL : 0 ≤ L
      · have := R.mul_nn hL (show 0 ≤ b - fR B.lo by grind); grind
      · have := R.mul_nn (show 0 ≤ -L by grind) (show 0 ≤ fR B.hi - b by grind); grind
    · by_cases hH : 0 ≤ H
      · have := R.mul_nn hH (show 0 ≤ fR B.hi - b by grind); grind
      · have := R.mul_nn (show 0 ≤ -H by grind) (show 0 ≤ b - fR B.lo by grind); grind
theorem IntR (n : Int) : HR (spec_Integer n) (n : R) := fun h => of_has (Nw.IntegerW n h)
theorem OverR {A B : Iv} {x : R} (ha : HR A x) (hb : HR B x) : spec_OverlapI A B = true := by
  simp only [spec_OverlapI, spec_MeetI]
  cases kA : spec_l04Ok A
  · cases kB : spec_l04Ok B <;> simp
  cases kB : spec_l04Ok B
  · simp
  have a := ha kA
  have b := hb kB
  have h1 : A.lo ≤ B.hi := fR_le.1 (Std.le_trans a.1 b.2)
  have h2 : B.lo ≤ A.hi := fR_le.1 (Std.le_trans b.1 a.2)
  have iA := (ok_iff _).1 kA
  have iB := (ok_iff _).1 kB
  have : decide (spec_l00Max A.lo B.lo > spec_l00Min A.hi B.hi) = false := by
    refine decide_eq_false ?_
    simp only [spec_l00Max, spec_l00Min, Bool.cond_eq_ite, decide_eq_true_eq]
    split <;> split <;> omega
  simp only [Bool.not_true, cond_false, this]
theorem HullR {A B : Iv} {x : R} (h : HR A x ∨ HR B x) : HR (spec_HullI A B) x := by
  cases kA : spec_l04Ok A
  · simp only [spec_HullI, kA, Bool.not_false, cond_true]; exact hr_whole _
  cases kB : spec_l04Ok B
  · simp only [spec_HullI, kA, kB, Bool.not_false, Bool.not_true, cond_false, cond_true]; exact hr_whole _
  simp only [spec_HullI, kA, kB, Bool.not_true, cond_false]
  have m1 := Nw.min_le A.lo B.lo
  have m2 := Nw.le_max A.hi B.hi
  rcases h with h | h
  · exact make_in (Std.le_trans (fR_le.2 m1.1) (h kA).1) (Std.le_trans (h kA).2 (fR_le.2 m2.1))
  · exact make_in (Std.le_trans (fR_le.2 m1.2) (h kB).1) (Std.le_trans (h kB).2 (fR_le.2 m2.2))
/-- Between a number of the one and a number of the other. -/
theorem HullR2 {A B : Iv} {x y z : R} (hx : HR A x) (hy : HR B y) (h1 : x ≤ z ∧ z ≤ y ∨ y ≤ z ∧ z ≤ x) : HR (spec_HullI A B) z := by
  intro h
  have a := HullR (A := A) (B := B) (.inl hx) h
  have b := HullR (A := A) (B := B) (.inr hy) h
  unfold In at *
  rcases h1 with h1 | h1 <;> constructor <;> grind
theorem HasR {X : Iv} {n : Int} (h : HR X (fR n)) : spec_HasI X n = true := by
  simp only [spec_HasI]
  cases k : spec_l04Ok X
  · rfl
  have := h k
  simp only [Bool.not_true, cond_false, spec_l04Has]
  exact (l00In_iff _ _ _).2 ⟨fR_le.1 this.1, fR_le.1 this.2⟩

/-! ### Sizes and squares -/
theorem ab_of {x : R} : ab x = x ∧ 0 ≤ x ∨ ab x = -x ∧ x < 0 := by unfold ab; split <;> grind
theorem AbsI_cases {A : Iv} (oA : spec_l04Ok A = true) : spec_AbsI A = ⟨(spec_l04Ends A).1, (spec_l04Ends A).2⟩ ∧
    ((0 ≤ A.lo ∧ spec_AbsI A = A) ∨ (A.hi ≤ 0 ∧ spec_AbsI A = ⟨-A.hi, -A.lo⟩) ∨ (A.lo ≤ 0 ∧ 0 ≤ A.hi ∧ (spec_AbsI A).lo = 0 ∧ -A.lo ≤ (spec_AbsI A).hi ∧ A.hi ≤ (spec_AbsI A).hi)) := by
  have iA := (ok_iff _).1 oA
  obtain ⟨v1, v2, v3, v4⟩ := AbsI_val oA
  constructor
  · have h5 : spec_AbsI A = spec_l04Make (spec_l04Ends A).1 (spec_l04Ends A).2 := by simp only [spec_AbsI, oA, Bool.not_true, cond_false]
    rw [h5]
    rcases make_cases (spec_l04Ends A).1 (spec_l04Ends A).2 with h | ⟨h, _⟩
    · rw [h5, h] at v2; exact absurd v2 (by decide)
    · exact h
  have key : (spec_AbsI A) = ⟨if A.lo ≤ 0 ∧ 0 ≤ A.hi then 0 else min A.lo.natAbs A.hi.natAbs, max A.lo.natAbs A.hi.natAbs⟩ := by
    have e1 := (abs_val (x := A.lo) (by omega)).1
    have e2 := (abs_val (x := A.hi) (by omega)).1
    rw [← v1]
    simp only [impl_AbsI, isWhole_eq, oA, Bool.not_true, cond_false, e1, e2, impl_HasI, impl_within, mx_eq, mn_eq, spec_l00Min, spec_l00Max, Bool.cond_eq_ite, decide_eq_true_eq, Bool.not_eq_true', ge_iff_le]
    by_cases hz : A.lo ≤ 0 ∧ 0 ≤ A.hi
    · simp [hz]
      omega
    · simp [hz]
      omega
  rw [key]
  by_cases hz : A.lo ≤ 0 ∧ 0 ≤ A.hi
  · right; right
    simp only [if_pos hz]
    refine ⟨hz.1, hz.2, trivial, ?_, ?_⟩ <;> omega
  · simp only [if_neg hz]
    by_cases h : 0 ≤ A.lo
    · left
      refine ⟨by omega, ?_⟩
      cases A with | mk lo hi =>
      simp only [Iv.mk.injEq] at *
      omega
    · right; left
      refine ⟨by omega, ?_⟩
      simp only [Iv.mk.injEq]
      omega
theorem AbsR {A : Iv} {a : R} (ha : HR A a) : HR (spec_AbsI A) (ab a) := by
  cases oA : spec_l04Ok A
  · simp only [spec_AbsI, oA, Bool.not_false, cond_true]
    exact hr_whole _
  have a1 := ha oA
  have iA := (ok_iff _).1 oA
  intro _
  obtain ⟨_, h | h | h⟩ := AbsI_cases oA
  · rw [h.2]
    have := fR_le.2 h.1
    rw [fR_zero] at this
    unfold In at *
    rcases ab_of (x := a) with e | e <;> rw [e.1] <;> grind
  · rw [h.2]
    have := fR_le.2 h.1
    rw [fR_zero] at this
    unfold In at *
    simp only [fR_neg]
    rcases ab_of (x := a) with e | e <;> rw [e.1] <;> grind
  · obtain ⟨h1, h2, h3, h4, h5⟩ := h
    have g4 := fR_le.2 h4
    have g5 := fR_le.2 h5
    rw [fR_neg] at g4
    unfold In at *
    rw [h3, fR_zero]
    rcases ab_of (x := a) with e | e <;> rw [e.1] <;> grind
theorem ab_sq (x : R) : ab x * ab x = x * x := by rcases ab_of (x := x) with e | e <;> rw [e.1] <;> grind
theorem fR_down {n a b : Int} (h : n * 4294967296 ≤ a * b) : fR n ≤ fR a * fR b := by
  have h2 := cast_le.2 h
  rw [cast_mul, cast_mul] at h2
  rw [fR_val, fR_val, fR_val]
  have e : ((4294967296 : Int) : R) = 4294967296 := rfl
  rw [e] at h2
  grind
theorem fR_up {n a b : Int} (h : a * b ≤ n * 4294967296) : fR a * fR b ≤ fR n := by
  have h2 := cast_le.2 h
  rw [cast_mul, cast_mul] at h2
  rw [fR_val, fR_val, fR_val]
  have e : ((4294967296 : Int) : R) = 4294967296 := rfl
  rw [e] at h2
  grind
theorem SqrR {A : Iv} {a : R} (ha : HR A a) : HR (spec_SqrI A) (a * a) := by
  cases oA : spec_l04Ok A
  · simp only [spec_SqrI, oA, Bool.not_false, cond_true]
    exact hr_whole _
  have k := AbsI_cases oA
  have v := AbsI_val oA
  have hb := AbsR ha ((ok_iff _).2 (by omega))
  rw [k.1] at hb v
  simp only [] at v
  simp only [spec_SqrI, oA, Bool.not_true, cond_false]
  cases k1 : (spec_l03MulDown (spec_l04Ends A).1 (spec_l04Ends A).1).2
  · simp only [Bool.not_false, cond_true]; exact hr_whole _
  cases k2 : (spec_l03MulUp (spec_l04Ends A).2 (spec_l04Ends A).2).2
  · simp only [Bool.not_true, cond_false, Bool.not_false, cond_true]; exact hr_whole _
  simp only [Bool.not_true, cond_false]
  have d := fR_down (Nw.MulDown_val k1)
  have u := fR_up (Nw.MulUp_val k2)
  have e := ab_sq a
  have n0 : 0 ≤ fR (spec_l04Ends A).1 := by rw [← fR_zero]; exact fR_le.2 v.2.1
  have n1 := ab_nn a
  unfold In at hb
  simp only [] at hb
  have m1 := R.mul_le hb.1 hb.1 n0 n1
  have m2 := R.mul_le hb.2 hb.2 n1 (by grind)
  refine make_in ?_ ?_ <;> grind
theorem SqrtR {A : Iv} {a : R} (ha : HR A a) : HR (spec_SqrtI A) (sqrt a) := by
  cases oA : spec_l04Ok A
  · simp only [spec_SqrtI, oA, Bool.not_false, cond_true]
    exact hr_whole _
  have a1 := ha oA
  have iA := (ok_iff _).1 oA
  simp only [spec_SqrtI, oA, Bool.not_true, cond_false]
  by_cases h0 : A.lo < 0
  · rw [decide_eq_true h0, cond_true]; exact hr_whole _
  rw [decide_eq_false h0, cond_false]
  obtain ⟨r, r1, r2, r3, _, q1, _⟩ := Sqrt_parts (x := A.lo) (by omega)
  obtain ⟨s, s1, s2, s3, _, p1, _, p2⟩ := Sqrt_parts (x := A.hi) (by omega)
  have s4 : A.hi * 4294967296 < (s + 1) * (s + 1) := by
    obtain ⟨_, t1, t2, t3, t4⟩ := Root_W (z := A.hi * 4294967296) (by omega) (by omega)
    have k3 : spec_l00In A.hi 0 1152921504606846976 = true := (l00In_iff _ _ _).2 (by omega)
    have d0 : decide (A.hi < 0) = false := decide_eq_false (by omega)
    have d1 : decide ((4294967296 : Int) < 0) = false := by decide
    have hx : In64 A.hi := by simp only [In64]; omega
    have e : (spec_l03SqrtDown A.hi).1 = w64 (spec_l02Root (W (A.hi * 4294967296))) := by
      simp only [spec_l03SqrtDown, k3, spec_SqrtFloor, d0, d1, l02Mul_eq hx in64_unit, Bool.not_true, cond_false]
    rw [p1] at e
    simp only [] at e
    have hlt : spec_l02Root (W (A.hi * 4294967296)) < 140737488355328 := by
      apply Int.lt_of_not_ge
      intro hge
      have : 140737488355328 * 140737488355328 ≤ spec_l02Root (W (A.hi * 4294967296)) * spec_l02Root (W (A.hi * 4294967296)) := Int.mul_le_mul hge hge (by omega) (by omega)
      omega
    rw [w64_id (by omega) (by omega)] at e
    rw [e]
    exact t4
  have ha0 : 0 ≤ a := by
    have := fR_le.2 (show 0 ≤ A.lo by omega)
    rw [fR_zero] at this
    unfold In at a1
    grind
  have sq := sqrt_sq ha0
  have sn := sqrt_nn a
  have lo : fR r ≤ sqrt a := sq_le sn (by
    have := fR_up r3
    unfold In at a1
    grind)
  rw [q1, p2]
  simp only []
  unfold In at a1
  have pos : ∀ {n : Int}, 0 ≤ n → 0 ≤ fR n := fun {n} hn => by have := fR_le.2 hn; rwa [fR_zero] at this
  by_cases he : s * s = A.hi * 4294967296
  · rw [if_pos he]
    have h1 := fR_down (n := A.hi) (a := s) (b := s) (by omega)
    exact make_in lo (sq_le (pos s1) (by grind))
  · rw [if_neg he]
    have h1 := fR_down (n := A.hi) (a := s + 1) (b := s + 1) (by omega)
    exact make_in lo (sq_le (pos (by omega)) (by grind))

/-! ### The length of a vector -/
noncomputable def norm (x y z : R) : R := sqrt (x * x + y * y + z * z)
theorem cast3 (a b c : Int) : ((a * a + b * b + c * c : Int) : R) = (a : R) * (a : R) + (b : R) * (b : R) + (c : R) * (c : R) := by
  rw [cast_add, cast_add, cast_mul, cast_mul, cast_mul]
theorem fR_le3 {r x y z : Int} (h : r * r ≤ x * x + y * y + z * z) : fR r * fR r ≤ fR x * fR x + fR y * fR y + fR z * fR z := by
  have h2 := cast_le.2 h
  rw [cast3, cast_mul] at h2
  rw [fR_val, fR_val, fR_val, fR_val]
  grind
theorem fR_ge3 {r x y z : Int} (h : x * x + y * y + z * z ≤ r * r) : fR x * fR x + fR y * fR y + fR z * fR z ≤ fR r * fR r := by
  have h2 := cast_le.2 h
  rw [cast3, cast_mul] at h2
  rw [fR_val, fR_val, fR_val, fR_val]
  grind
theorem NormR {A : V3} {x y z : R} (hx : HR A.x x) (hy : HR A.y y) (hz : HR A.z z) : HR (spec_NormV A) (norm x y z) := by
  rw [← NormV_eq]
  simp only [impl_NormV, areBounded_eq, isWhole_eq, whole_eq, bounded_true]
  cases ox : spec_l04Ok A.x
  · exact hr_whole _
  cases oy : spec_l04Ok A.y
  · exact hr_whole _
  cases oz : spec_l04Ok A.z
  · exact hr_whole _
  obtain ⟨x0, x1, x2, x3⟩ := AbsI_val ox
  obtain ⟨y0, y1, y2, y3⟩ := AbsI_val oy
  obtain ⟨z0, z1, z2, z3⟩ := AbsI_val oz
  have bx := AbsR hx ((ok_iff _).2 (by omega))
  have by' := AbsR hy ((ok_iff _).2 (by omega))
  have bz := AbsR hz ((ok_iff _).2 (by omega))
  obtain ⟨r, _, _, p3, p4, p5, _, p7, _⟩ := rootOfSquares_eq (x := (spec_AbsI A.x).lo) (y := (spec_AbsI A.y).lo) (z := (spec_AbsI A.z).lo) (by omega) (by omega) (by omega)
  obtain ⟨s, _, _, q3, q4, q5, _, q7, _⟩ := rootOfSquares_eq (x := (spec_AbsI A.x).hi) (y := (spec_AbsI A.y).hi) (z := (spec_AbsI A.z).hi) (by omega) (by omega) (by omega)
  simp only [Bool.and_self, Bool.not_true, cond_false, x0, y0, z0, p7, q7]
  have pos : ∀ {n : Int}, 0 ≤ n → 0 ≤ fR n := fun {n} hn => by have := fR_le.2 hn; rwa [fR_zero] at this
  have nx := ab_nn x; have ny := ab_nn y; have nz := ab_nn z
  have ex := ab_sq x; have ey := ab_sq y; have ez := ab_sq z
  unfold In at bx by' bz
  have lx := R.mul_le bx.1 bx.1 (pos x1) nx
  have ly := R.mul_le by'.1 by'.1 (pos y1) ny
  have lz := R.mul_le bz.1 bz.1 (pos z1) nz
  have ux := R.mul_le bx.2 bx.2 nx (by grind)
  have uy := R.mul_le by'.2 by'.2 ny (by grind)
  have uz := R.mul_le bz.2 bz.2 nz (by grind)
  have sx := R.sq_nn x; have sy := R.sq_nn y; have sz := R.sq_nn z
  have sn := sqrt_nn (x * x + y * y + z * z)
  have sq := sqrt_sq (y := x * x + y * y + z * z) (by grind)
  have g1 := fR_le3 p4
  unfold norm
  refine make_in (sq_le sn (by grind)) (sq_le ?_ ?_)
  · split
    · exact pos q3
    · exact pos (by omega)
  · split
    · rename_i he
      have := fR_ge3 (Int.le_of_eq he.symm)
      grind
    · have := fR_ge3 (Int.le_of_lt q5)
      grind
end Go.G880.Re
