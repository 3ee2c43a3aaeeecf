/- The intervals' operations enclose numbers. -/
import Derived.Test.YtogpbandlpjccaaGreatDoorRR
import Derived.Test.YtogpbandlpjccaaGreatDoorPQ
import Derived.Test.YtogpbandlpjccaaGreatDoorPC
set_option linter.unusedVariables false
set_option linter.unusedSimpArgs false
namespace Go.G880.Re
open Go Go.RX Go.G880 Go.Rl
noncomputable def fR (n : Int) : R := R.of (Nw.fx n)
theorem fR_le {a b : Int} : fR a ≤ fR b ↔ a ≤ b := by
 unfold fR
 rw [R.of_le]
 exact ⟨Nw.le_fx, Nw.fx_le⟩
theorem fx_val (n : Int) : Nw.fx n = (n : Rat) * (1 / 4294967296) := rfl
theorem fR_val (n : Int) : fR n = (n : R) * (1 / 4294967296) := by
 unfold fR
 rw [fx_val, R.of_mul, R.of_div]
 rfl
theorem cast_add (a b : Int) : ((a + b : Int) : R) = (a : R) + (b : R) := int_cast_add a b
theorem cast_neg (a : Int) : ((-a : Int) : R) = -(a : R) := by
 show R.of ((-a : Int) : Rat) = -R.of (a : Rat)
 rw [← R.of_neg, Rat.intCast_neg]
theorem cast_sub (a b : Int) : ((a - b : Int) : R) = (a : R) - (b : R) := by
 rw [Int.sub_eq_add_neg, cast_add, cast_neg]; grind
theorem cast_mul (a b : Int) : ((a * b : Int) : R) = (a : R) * (b : R) := by
 show R.of ((a * b : Int) : Rat) = R.of (a : Rat) * R.of (b : Rat)
 rw [← R.of_mul, Rat.intCast_mul]
theorem cast_le {a b : Int} : (a : R) ≤ (b : R) ↔ a ≤ b := by
 show R.of (a : Rat) ≤ R.of (b : Rat) ↔ a ≤ b
 rw [R.of_le]
 exact Rat.intCast_le_intCast
theorem cast_lt {a b : Int} : (a : R) < (b : R) ↔ a < b := by
 show R.of (a : Rat) < R.of (b : Rat) ↔ a < b
 rw [R.of_lt]
 exact Rat.intCast_lt_intCast
theorem fR_add (a b : Int) : fR (a + b) = fR a + fR b := by rw [fR_val, fR_val, fR_val, cast_add]; grind
theorem fR_neg (a : Int) : fR (-a) = -fR a := by rw [fR_val, fR_val, cast_neg]; grind
theorem fR_sub (a b : Int) : fR (a - b) = fR a - fR b := by rw [fR_val, fR_val, fR_val, cast_sub]; grind
theorem fR_zero : fR 0 = 0 := by
 rw [fR_val]
 show (0 : R) * _ = 0
 grind
theorem fR_unit (n : Int) : fR (n * 4294967296) = (n : R) := by
 rw [fR_val, cast_mul]
 show (n : R) * (4294967296 : R) * (1 / 4294967296) = n
 grind
def In (X : Iv) (x : R) : Prop := fR X.lo ≤ x ∧ x ≤ fR X.hi
def HR (X : Iv) (x : R) : Prop := spec_l04Ok X = true → In X x
theorem HR.eq {X : Iv} {x y : R} (h : HR X x) (e : y = x) : HR X y := e ▸ h
theorem hr_whole (x : R) : HR spec_l04Whole x := fun h => absurd h (by decide)
theorem hr_bad {X : Iv} (h : spec_l04Ok X = false) (x : R) : HR X x := fun k => by rw [h] at k; cases k
theorem in_at (n : Int) : In ⟨n, n⟩ (fR n) := ⟨R.of_le.2 Rat.le_refl, R.of_le.2 Rat.le_refl⟩
theorem hr_lo (X : Iv) : HR X (fR X.lo) := fun h => ⟨R.of_le.2 Rat.le_refl, fR_le.2 ((ok_iff _).1 h).2.1⟩
theorem make_in {a b : Int} {x : R} (h1 : fR a ≤ x) (h2 : x ≤ fR b) : HR (spec_l04Make a b) x := by
 intro h
 rw [Nw.make_of h]
 exact ⟨h1, h2⟩
theorem at_in (n : Int) : HR (spec_l05At n) (fR n) := by
 intro _
 exact in_at n
theorem AddR {A B : Iv} {a b : R} (ha : HR A a) (hb : HR B b) : HR (spec_AddI A B) (a + b) := by
 intro h
 obtain ⟨oA, oB⟩ := Nw.AddI_ok h
 have a1 := ha oA
 have b1 := hb oB
 have iA := (ok_iff _).1 oA
 have iB := (ok_iff _).1 oB
 have e : spec_AddI A B = spec_l04Make (A.lo + B.lo) (A.hi + B.hi) := by
  simp only [spec_AddI, oA, oB, Bool.not_true, cond_false]
  rw [w64_id (by omega) (by omega), w64_id (by omega) (by omega)]
 rw [e] at h ⊢
 refine make_in ?_ ?_ h
 ·rw [fR_add]; unfold In at a1 b1; grind
 ·rw [fR_add]; unfold In at a1 b1; grind
theorem SubR {A B : Iv} {a b : R} (ha : HR A a) (hb : HR B b) : HR (spec_SubI A B) (a - b) := by
 intro h
 obtain ⟨oA, oB⟩ := Nw.SubI_ok2 h
 have a1 := ha oA
 have b1 := hb oB
 have iA := (ok_iff _).1 oA
 have iB := (ok_iff _).1 oB
 have e : spec_SubI A B = spec_l04Make (A.lo - B.hi) (A.hi - B.lo) := by
  simp only [spec_SubI, oA, oB, Bool.not_true, cond_false]
  rw [w64_id (by omega) (by omega), w64_id (by omega) (by omega)]
 rw [e] at h ⊢
 refine make_in ?_ ?_ h
 ·rw [fR_sub]; unfold In at a1 b1; grind
 ·rw [fR_sub]; unfold In at a1 b1; grind
theorem NegR {A : Iv} {a : R} (ha : HR A a) : HR (spec_NegI A) (-a) := by
 cases oA : spec_l04Ok A
 ·simp only [spec_NegI, oA, Bool.not_false, cond_true]
  exact hr_whole _
 have a1 := ha oA
 have iA := (ok_iff _).1 oA
 have e : spec_NegI A = spec_l04Make (-A.hi) (-A.lo) := by
  simp only [spec_NegI, oA, Bool.not_true, cond_false]
  rw [w64_id (by omega) (by omega), w64_id (by omega) (by omega), Int.zero_sub, Int.zero_sub]
 rw [e]
 refine make_in ?_ ?_
 ·rw [fR_neg]; unfold In at a1; grind
 ·rw [fR_neg]; unfold In at a1; grind
theorem bil_lo {x1 x2 y1 y2 a b L : R} (h1 : x1 ≤ a) (h2 : a ≤ x2) (h3 : y1 ≤ b) (h4 : b ≤ y2) (p1 : L ≤ x1 * y1) (p2 : L ≤ x1 * y2) (p3 : L ≤ x2 * y1) (p4 : L ≤ x2 * y2) : L ≤ a * b := by
 have q : ∀ x : R, L ≤ x * y1 → L ≤ x * y2 → L ≤ x * b := by
  intro x g1 g2
  by_cases hx : 0 ≤ x
  ·have := R.mul_nn hx (show 0 ≤ b - y1 by grind)
   grind
  ·have := R.mul_nn (show 0 ≤ -x by grind) (show 0 ≤ y2 - b by grind)
   grind
 have q1 := q x1 p1 p2
 have q2 := q x2 p3 p4
 by_cases hb : 0 ≤ b
 ·have := R.mul_nn (show 0 ≤ a - x1 by grind) hb
  grind
 ·have := R.mul_nn (show 0 ≤ x2 - a by grind) (show 0 ≤ -b by grind)
  grind
theorem bil_hi {x1 x2 y1 y2 a b L : R} (h1 : x1 ≤ a) (h2 : a ≤ x2) (h3 : y1 ≤ b) (h4 : b ≤ y2) (p1 : x1 * y1 ≤ L) (p2 : x1 * y2 ≤ L) (p3 : x2 * y1 ≤ L) (p4 : x2 * y2 ≤ L) : a * b ≤ L := by
 have := bil_lo (x1 := -x2) (x2 := -x1) (y1 := y1) (y2 := y2) (a := -a) (b := b) (L := -L) (by grind) (by grind) h3 h4 (by grind) (by grind) (by grind) (by grind)
 grind
theorem of_has {X : Iv} {q : Rat} (h : Nw.has X q) : In X (R.of q) := ⟨R.of_le.2 (Nw.has_fx h).1, R.of_le.2 (Nw.has_fx h).2⟩
theorem has_hi {X : Iv} (h : spec_l04Ok X = true) : Nw.has X (Nw.fx X.hi) := Nw.fx_has (Nw.fx_le ((ok_iff _).1 h).2.1) Rat.le_refl
theorem MulR {A B : Iv} {a b : R} (ha : HR A a) (hb : HR B b) : HR (spec_MulI A B) (a * b) := by
 intro h
 obtain ⟨oA, oB⟩ := Nw.MulI_ok2 h
 have a1 := ha oA
 have b1 := hb oB
 have p1 := of_has (Nw.MulI_has (Nw.has_lo oA) (Nw.has_lo oB) h)
 have p2 := of_has (Nw.MulI_has (Nw.has_lo oA) (has_hi oB) h)
 have p3 := of_has (Nw.MulI_has (has_hi oA) (Nw.has_lo oB) h)
 have p4 := of_has (Nw.MulI_has (has_hi oA) (has_hi oB) h)
 rw [R.of_mul] at p1 p2 p3 p4
 exact ⟨bil_lo a1.1 a1.2 b1.1 b1.2 p1.1 p2.1 p3.1 p4.1, bil_hi a1.1 a1.2 b1.1 b1.2 p1.2 p2.2 p3.2 p4.2⟩
theorem DivR {A B : Iv} {a b : R} (ha : HR A a) (hb : HR B b) : HR (spec_DivI A B) (a / b) := by
 intro h
 obtain ⟨oA, oB, o3⟩ := Nw.DivI_ok2 h
 have a1 := ha oA
 have b1 := hb oB
 have iB := (ok_iff _).1 oB
 have hz : ¬ (B.lo ≤ 0 ∧ 0 ≤ B.hi) := mt (l00In_iff 0 B.lo B.hi).2 (by rw [spec_l04Has] at o3; rw [o3]; simp)
 have ne : ∀ {n : Int}, n ≠ 0 → Nw.fx n ≠ 0 := fun {n} hn h0 => by
  have := Nw.fx_mul n
  rw [h0, Rat.zero_mul] at this
  have h2 : ((0 : Int) : Rat) = (n : Rat) := this
  exact hn (Rat.intCast_inj.1 h2).symm
 have n1 := ne (show B.lo ≠ 0 by omega)
 have n2 := ne (show B.hi ≠ 0 by omega)
 have corner : ∀ {p q : Rat}, Nw.has A p → Nw.has B q → q ≠ 0 → In (spec_DivI A B) (R.of (p / q)) := fun {p q} hp hq hne =>
  of_has (Nw.DivW (fun _ => hp) (fun _ => hq) (show q * (p / q) = p by rw [Rat.mul_comm]; exact Rat.div_mul_cancel hne) h)
 have c1 := corner (Nw.has_lo oA) (Nw.has_lo oB) n1
 have c2 := corner (Nw.has_lo oA) (has_hi oB) n2
 have c3 := corner (has_hi oA) (Nw.has_lo oB) n1
 have c4 := corner (has_hi oA) (has_hi oB) n2
 rw [R.of_div] at c1 c2 c3 c4
 have e : ∀ {n : Int}, Nw.fx n ≠ 0 → fR n ≠ 0 := fun {n} hn h0 => hn (R.of_inj (show R.of (Nw.fx n) = R.of 0 from h0))
 have m1 := e n1
 have m2 := e n2
 change In _ (fR A.lo / fR B.lo) at c1
 change In _ (fR A.lo / fR B.hi) at c2
 change In _ (fR A.hi / fR B.lo) at c3
 change In _ (fR A.hi / fR B.hi) at c4
 unfold In at a1 b1 c1 c2 c3 c4 ⊢
 generalize fR (spec_DivI A B).lo = L at *
 generalize fR (spec_DivI A B).hi = H at *
 by_cases hp : 0 < B.lo
 ·have p1 : 0 < fR B.lo := by
   have := fR_le.2 (show 0 ≤ B.lo by omega)
   rw [fR_zero] at this
   grind
  have p2 : 0 < fR B.hi := by grind
  have pb : 0 < b := by grind
  rw [R.le_div p1, R.div_le p1] at c1 c3
  rw [R.le_div p2, R.div_le p2] at c2 c4
  rw [R.le_div pb, R.div_le pb]
  constructor
  ·by_cases hL : 0 ≤ L
   ·have := R.mul_nn hL (show 0 ≤ fR B.hi - b by grind); grind
   ·have := R.mul_nn (show 0 ≤ -L by grind) (show 0 ≤ b - fR B.lo by grind); grind
  ·by_cases hH : 0 ≤ H
   ·have := R.mul_nn hH (show 0 ≤ b - fR B.lo by grind); grind
   ·have := R.mul_nn (show 0 ≤ -H by grind) (show 0 ≤ fR B.hi - b by grind); grind
 ·have p2 : 0 < -fR B.hi := by
   have := fR_le.2 (show B.hi ≤ 0 by omega)
   rw [fR_zero] at this
   grind
  have p1 : 0 < -fR B.lo := by grind
  have pb : 0 < -b := by grind
  have d : ∀ x y : R, x / y = (-x) / (-y) := fun x y => by
   by_cases hy : y = 0
   ·subst hy; grind
   ·have : -y ≠ 0 := by grind
    grind
  rw [d (fR A.lo), R.le_div p1, R.div_le p1] at c1
  rw [d (fR A.hi), R.le_div p1, R.div_le p1] at c3
  rw [d (fR A.lo), R.le_div p2, R.div_le p2] at c2
  rw [d (fR A.hi), R.le_div p2, R.div_le p2] at c4
  rw [d a, R.le_div pb, R.div_le pb]
  constructor
  ·by_cases hL : 0 ≤ L
   ·have := R.mul_nn hL (show 0 ≤ b - fR B.lo by grind); grind
   ·have := R.mul_nn (show 0 ≤ -L by grind) (show 0 ≤ fR B.hi - b by grind); grind
  ·by_cases hH : 0 ≤ H
   ·have := R.mul_nn hH (show 0 ≤ fR B.hi - b by grind); grind
   ·have := R.mul_nn (show 0 ≤ -H by grind) (show 0 ≤ b - fR B.lo by grind); grind
theorem IntR (n : Int) : HR (spec_Integer n) (n : R) := fun h => of_has (Nw.IntegerW n h)
theorem OverR {A B : Iv} {x : R} (ha : HR A x) (hb : HR B x) : spec_OverlapI A B = true := by
 simp only [spec_OverlapI, spec_MeetI]
 cases kA : spec_l04Ok A
 ·cases kB : spec_l04Ok B <;> simp
 cases kB : spec_l04Ok B
 ·simp
 have a := ha kA
 have b := hb kB
 have h1 : A.lo ≤ B.hi := fR_le.1 (Std.le_trans a.1 b.2)
 have h2 : B.lo ≤ A.hi := fR_le.1 (Std.le_trans b.1 a.2)
 have iA := (ok_iff _).1 kA
 have iB := (ok_iff _).1 kB
 have : decide (spec_l00Max A.lo B.lo > spec_l00Min A.hi B.hi) = false := by
  refine decide_eq_false ?_
  simp only [spec_l00Max, spec_l00Min, Bool.cond_eq_ite, decide_eq_true_eq]
  split <;> split <;> omega
 simp only [Bool.not_true, cond_false, this]
theorem HullR {A B : Iv} {x : R} (h : HR A x ∨ HR B x) : HR (spec_HullI A B) x := by
 cases kA : spec_l04Ok A
 ·simp only [spec_HullI, kA, Bool.not_false, cond_true]; exact hr_whole _
 cases kB : spec_l04Ok B
 ·simp only [spec_HullI, kA, kB, Bool.not_false, Bool.not_true, cond_false, cond_true]; exact hr_whole _
 simp only [spec_HullI, kA, kB, Bool.not_true, cond_false]
 have m1 := Nw.min_le A.lo B.lo
 have m2 := Nw.le_max A.hi B.hi
 rcases h with h | h
 ·exact make_in (Std.le_trans (fR_le.2 m1.1) (h kA).1) (Std.le_trans (h kA).2 (fR_le.2 m2.1))
 ·exact make_in (Std.le_trans (fR_le.2 m1.2) (h kB).1) (Std.le_trans (h kB).2 (fR_le.2 m2.2))
theorem HullR2 {A B : Iv} {x y z : R} (hx : HR A x) (hy : HR B y) (h1 : x ≤ z ∧ z ≤ y ∨ y ≤ z ∧ z ≤ x) : HR (spec_HullI A B) z := by
 intro h
 have a := HullR (A := A) (B := B) (.inl hx) h
 have b := HullR (A := A) (B := B) (.inr hy) h
 unfold In at *
 rcases h1 with h1 | h1 <;> constructor <;> grind
theorem ab_of {x : R} : ab x = x ∧ 0 ≤ x ∨ ab x = -x ∧ x < 0 := by unfold ab; split <;> grind
theorem AbsI_cases {A : Iv} (oA : spec_l04Ok A = true) : spec_AbsI A = ⟨(spec_l04Ends A).1, (spec_l04Ends A).2⟩ ∧
  ((0 ≤ A.lo ∧ spec_AbsI A = A) ∨ (A.hi ≤ 0 ∧ spec_AbsI A = ⟨-A.hi, -A.lo⟩) ∨ (A.lo ≤ 0 ∧ 0 ≤ A.hi ∧ (spec_AbsI A).lo = 0 ∧ -A.lo ≤ (spec_AbsI A).hi ∧ A.hi ≤ (spec_AbsI A).hi)) := by
 have iA := (ok_iff _).1 oA
 obtain ⟨v1, v2, v3, v4⟩ := AbsI_val oA
 constructor
 ·have h5 : spec_AbsI A = spec_l04Make (spec_l04Ends A).1 (spec_l04Ends A).2 := by simp only [spec_AbsI, oA, Bool.not_true, cond_false]
  rw [h5]
  rcases make_cases (spec_l04Ends A).1 (spec_l04Ends A).2 with h | ⟨h, _⟩
  ·rw [h5, h] at v2; exact absurd v2 (by decide)
  ·exact h
 have key : (spec_AbsI A) = ⟨if A.lo ≤ 0 ∧ 0 ≤ A.hi then 0 else min A.lo.natAbs A.hi.natAbs, max A.lo.natAbs A.hi.natAbs⟩ := by
  have e1 := (abs_val (x := A.lo) (by omega)).1
  have e2 := (abs_val (x := A.hi) (by omega)).1
  rw [← v1]
  simp only [impl_AbsI, isWhole_eq, oA, Bool.not_true, cond_false, e1, e2, impl_HasI, impl_within, mx_eq, mn_eq, spec_l00Min, spec_l00Max, Bool.cond_eq_ite, decide_eq_true_eq, Bool.not_eq_true', ge_iff_le]
  by_cases hz : A.lo ≤ 0 ∧ 0 ≤ A.hi
  ·simp [hz]
   omega
  ·simp [hz]
   omega
 rw [key]
 by_cases hz : A.lo ≤ 0 ∧ 0 ≤ A.hi
 ·right; right
  simp only [if_pos hz]
  refine ⟨hz.1, hz.2, trivial, ?_, ?_⟩ <;> omega
 ·simp only [if_neg hz]
  by_cases h : 0 ≤ A.lo
  ·left
   refine ⟨by omega, ?_⟩
   cases A with | mk lo hi =>
   simp only [Iv.mk.injEq] at *
   omega
  ·right; left
   refine ⟨by omega, ?_⟩
   simp only [Iv.mk.injEq]
   omega
theorem AbsR {A : Iv} {a : R} (ha : HR A a) : HR (spec_AbsI A) (ab a) := by
 cases oA : spec_l04Ok A
 ·simp only [spec_AbsI, oA, Bool.not_false, cond_true]
  exact hr_whole _
 have a1 := ha oA
 have iA := (ok_iff _).1 oA
 intro _
 obtain ⟨_, h | h | h⟩ := AbsI_cases oA
 ·rw [h.2]
  have := fR_le.2 h.1
  rw [fR_zero] at this
  unfold In at *
  rcases ab_of (x := a) with e | e <;> rw [e.1] <;> grind
 ·rw [h.2]
  have := fR_le.2 h.1
  rw [fR_zero] at this
  unfold In at *
  simp only [fR_neg]
  rcases ab_of (x := a) with e | e <;> rw [e.1] <;> grind
 ·obtain ⟨h1, h2, h3, h4, h5⟩ := h
  have g4 := fR_le.2 h4
  have g5 := fR_le.2 h5
  rw [fR_neg] at g4
  unfold In at *
  rw [h3, fR_zero]
  rcases ab_of (x := a) with e | e <;> rw [e.1] <;> grind
theorem ab_sq (x : R) : ab x * ab x = x * x := by rcases ab_of (x := x) with e | e <;> rw [e.1] <;> grind
theorem fR_down {n a b : Int} (h : n * 4294967296 ≤ a * b) : fR n ≤ fR a * fR b := by
 have h2 := cast_le.2 h
 rw [cast_mul, cast_mul] at h2
 rw [fR_val, fR_val, fR_val]
 have e : ((4294967296 : Int) : R) = 4294967296 := rfl
 rw [e] at h2
 grind
theorem fR_up {n a b : Int} (h : a * b ≤ n * 4294967296) : fR a * fR b ≤ fR n := by
 have h2 := cast_le.2 h
 rw [cast_mul, cast_mul] at h2
 rw [fR_val, fR_val, fR_val]
 have e : ((4294967296 : Int) : R) = 4294967296 := rfl
 rw [e] at h2
 grind
theorem SqrR {A : Iv} {a : R} (ha : HR A a) : HR (spec_SqrI A) (a * a) := by
 cases oA : spec_l04Ok A
 ·simp only [spec_SqrI, oA, Bool.not_false, cond_true]
  exact hr_whole _
 have k := AbsI_cases oA
 have v := AbsI_val oA
 have hb := AbsR ha ((ok_iff _).2 (by omega))
 rw [k.1] at hb v
 simp only [] at v
 simp only [spec_SqrI, oA, Bool.not_true, cond_false]
 cases k1 : (spec_l03MulDown (spec_l04Ends A).1 (spec_l04Ends A).1).2
 ·simp only [Bool.not_false, cond_true]; exact hr_whole _
 cases k2 : (spec_l03MulUp (spec_l04Ends A).2 (spec_l04Ends A).2).2
 ·simp only [Bool.not_true, cond_false, Bool.not_false, cond_true]; exact hr_whole _
 simp only [Bool.not_true, cond_false]
 have d := fR_down (Nw.MulDown_val k1)
 have u := fR_up (Nw.MulUp_val k2)
 have e := ab_sq a
 have n0 : 0 ≤ fR (spec_l04Ends A).1 := by rw [← fR_zero]; exact fR_le.2 v.2.1
 have n1 := ab_nn a
 unfold In at hb
 simp only [] at hb
 have m1 := R.mul_le hb.1 hb.1 n0 n1
 have m2 := R.mul_le hb.2 hb.2 n1 (by grind)
 refine make_in ?_ ?_ <;> grind
theorem SqrtR {A : Iv} {a : R} (ha : HR A a) : HR (spec_SqrtI A) (sqrt a) := by
 cases oA : spec_l04Ok A
 ·simp only [spec_SqrtI, oA, Bool.not_false, cond_true]
  exact hr_whole _
 have a1 := ha oA
 have iA := (ok_iff _).1 oA
 simp only [spec_SqrtI, oA, Bool.not_true, cond_false]
 by_cases h0 : A.lo < 0
 ·rw [decide_eq_true h0, cond_true]; exact hr_whole _
 rw [decide_eq_false h0, cond_false]
 obtain ⟨r, r1, r2, r3, _, q1, _⟩ := Sqrt_parts (x := A.lo) (by omega)
 obtain ⟨s, s1, s2, s3, _, p1, _, p2⟩ := Sqrt_parts (x := A.hi) (by omega)
 have s4 : A.hi * 4294967296 < (s + 1) * (s + 1) := by
  obtain ⟨_, t1, t2, t3, t4⟩ := Root_W (z := A.hi * 4294967296) (by omega) (by omega)
  have k3 : spec_l00In A.hi 0 1152921504606846976 = true := (l00In_iff _ _ _).2 (by omega)
  have d0 : decide (A.hi < 0) = false := decide_eq_false (by omega)
  have d1 : decide ((4294967296 : Int) < 0) = false := by decide
  have hx : In64 A.hi := by simp only [In64]; omega
  have e : (spec_l03SqrtDown A.hi).1 = w64 (spec_l02Root (W (A.hi * 4294967296))) := by
   simp only [spec_l03SqrtDown, k3, spec_SqrtFloor, d0, d1, l02Mul_eq hx in64_unit, Bool.not_true, cond_false]
  rw [p1] at e
  simp only [] at e
  have hlt : spec_l02Root (W (A.hi * 4294967296)) < 140737488355328 := by
   apply Int.lt_of_not_ge
   intro hge
   have : 140737488355328 * 140737488355328 ≤ spec_l02Root (W (A.hi * 4294967296)) * spec_l02Root (W (A.hi * 4294967296)) := Int.mul_le_mul hge hge (by omega) (by omega)
   omega
  rw [w64_id (by omega) (by omega)] at e
  rw [e]
  exact t4
 have ha0 : 0 ≤ a := by
  have := fR_le.2 (show 0 ≤ A.lo by omega)
  rw [fR_zero] at this
  unfold In at a1
  grind
 have sq := sqrt_sq ha0
 have sn := sqrt_nn a
 have lo : fR r ≤ sqrt a := sq_le sn (by
  have := fR_up r3
  unfold In at a1
  grind)
 rw [q1, p2]
 simp only []
 unfold In at a1
 have pos : ∀ {n : Int}, 0 ≤ n → 0 ≤ fR n := fun {n} hn => by have := fR_le.2 hn; rwa [fR_zero] at this
 by_cases he : s * s = A.hi * 4294967296
 ·rw [if_pos he]
  have h1 := fR_down (n := A.hi) (a := s) (b := s) (by omega)
  exact make_in lo (sq_le (pos s1) (by grind))
 ·rw [if_neg he]
  have h1 := fR_down (n := A.hi) (a := s + 1) (b := s + 1) (by omega)
  exact make_in lo (sq_le (pos (by omega)) (by grind))
noncomputable def norm (x y z : R) : R := sqrt (x * x + y * y + z * z)
end Go.G880.Re
/- Sines and cosines: what the program's intervals enclose. -/
set_option linter.unusedVariables false
set_option linter.unusedSimpArgs false
namespace Go.G880.Re
open Go Go.RX Go.G880 Go.Rl
theorem fi_num {k : Nat} {n : Nat} (h : qfi k = 1 / (n : Rat)) : fi k = 1 / (n : R) := by rw [fi_of, h, R.of_div]; rfl
theorem step_in {Y S : Iv} {y s : R} {n c : Int} (hn : n = c) (hy : HR Y y) (hs : HR S s) : HR (spec_SubI (spec_Integer 1) (spec_MulI (spec_DivI Y (spec_Integer n)) S)) (1 - y / (c : R) * s) := by
 subst hn
 exact (SubR (IntR 1) (MulR (DivR hy (IntR n)) hs)).eq (by show (1 : R) - _ = _ ; rfl)
noncomputable def sinP (y : R) : R := 1 - y / 6 * (1 - y / 20 * (1 - y / 42 * (1 - y / 72 * (1 - y / 110 * (1 - y / 156 * (1 - y / 210 * (1 - y / 272 * 1)))))))
noncomputable def cosP (y : R) : R := 1 - y / 2 * (1 - y / 12 * (1 - y / 30 * (1 - y / 56 * (1 - y / 90 * (1 - y / 132 * (1 - y / 182 * (1 - y / 240 * 1)))))))
theorem series_sinR {Y : Iv} {y : R} (hy : HR Y y) : HR (spec_l06Series Y 0) (sinP y) :=
 step_in (c := 6) (by decide) hy (step_in (c := 20) (by decide) hy (step_in (c := 42) (by decide) hy (step_in (c := 72) (by decide) hy (step_in (c := 110) (by decide) hy (step_in (c := 156) (by decide) hy (step_in (c := 210) (by decide) hy (step_in (c := 272) (by decide) hy (IntR 1))))))))
theorem series_cosR {Y : Iv} {y : R} (hy : HR Y y) : HR (spec_l06Series Y (-1)) (cosP y) :=
 step_in (c := 2) (by decide) hy (step_in (c := 12) (by decide) hy (step_in (c := 30) (by decide) hy (step_in (c := 56) (by decide) hy (step_in (c := 90) (by decide) hy (step_in (c := 132) (by decide) hy (step_in (c := 182) (by decide) hy (step_in (c := 240) (by decide) hy (IntR 1))))))))
theorem psum_s (a : Nat → R) (x : R) (n : Nat) : psum a x (n + 1) = psum a x n + a n * (fi n * x ^ n) := rfl
theorem sin_sum (x : R) : psum sc x 18 = x * sinP (x * x) := by
 have f1 : fi 1 = 1 / ((1 : Nat) : R) := fi_num (by decide +kernel)
 have f3 : fi 3 = 1 / ((6 : Nat) : R) := fi_num (by decide +kernel)
 have f5 : fi 5 = 1 / ((120 : Nat) : R) := fi_num (by decide +kernel)
 have f7 : fi 7 = 1 / ((5040 : Nat) : R) := fi_num (by decide +kernel)
 have f9 : fi 9 = 1 / ((362880 : Nat) : R) := fi_num (by decide +kernel)
 have f11 : fi 11 = 1 / ((39916800 : Nat) : R) := fi_num (by decide +kernel)
 have f13 : fi 13 = 1 / ((6227020800 : Nat) : R) := fi_num (by decide +kernel)
 have f15 : fi 15 = 1 / ((1307674368000 : Nat) : R) := fi_num (by decide +kernel)
 have f17 : fi 17 = 1 / ((355687428096000 : Nat) : R) := fi_num (by decide +kernel)
 have e : psum sc x 18 = fi 1 * x ^ 1 - fi 3 * x ^ 3 + fi 5 * x ^ 5 - fi 7 * x ^ 7 + fi 9 * x ^ 9 - fi 11 * x ^ 11 + fi 13 * x ^ 13 - fi 15 * x ^ 15 + fi 17 * x ^ 17 := by
  simp only [psum_s, show ∀ k, sc k = match k % 4 with | 0 => 0 | 1 => 1 | 2 => 0 | _ => -1 from fun _ => rfl]
  show (psum sc x 0 : R) + _ + _ + _ + _ + _ + _ + _ + _ + _ + _ + _ + _ + _ + _ + _ + _ + _ + _ = _
  have z : psum sc x 0 = 0 := rfl
  rw [z]
  grind
 rw [e, f1, f3, f5, f7, f9, f11, f13, f15, f17]
 have c : ∀ n : Nat, ((OfNat.ofNat n : Nat) : R) = (OfNat.ofNat n : R) := fun _ => rfl
 simp only [c]
 unfold sinP
 grind
theorem cos_sum (x : R) : psum cc x 18 = cosP (x * x) := by
 have f2 : fi 2 = 1 / ((2 : Nat) : R) := fi_num (by decide +kernel)
 have f4 : fi 4 = 1 / ((24 : Nat) : R) := fi_num (by decide +kernel)
 have f6 : fi 6 = 1 / ((720 : Nat) : R) := fi_num (by decide +kernel)
 have f8 : fi 8 = 1 / ((40320 : Nat) : R) := fi_num (by decide +kernel)
 have f10 : fi 10 = 1 / ((3628800 : Nat) : R) := fi_num (by decide +kernel)
 have f12 : fi 12 = 1 / ((479001600 : Nat) : R) := fi_num (by decide +kernel)
 have f14 : fi 14 = 1 / ((87178291200 : Nat) : R) := fi_num (by decide +kernel)
 have f16 : fi 16 = 1 / ((20922789888000 : Nat) : R) := fi_num (by decide +kernel)
 have e : psum cc x 18 = fi 0 * x ^ 0 - fi 2 * x ^ 2 + fi 4 * x ^ 4 - fi 6 * x ^ 6 + fi 8 * x ^ 8 - fi 10 * x ^ 10 + fi 12 * x ^ 12 - fi 14 * x ^ 14 + fi 16 * x ^ 16 := by
  simp only [psum_s, show ∀ k, cc k = match k % 4 with | 0 => 1 | 1 => 0 | 2 => -1 | _ => 0 from fun _ => rfl]
  show (psum cc x 0 : R) + _ + _ + _ + _ + _ + _ + _ + _ + _ + _ + _ + _ + _ + _ + _ + _ + _ + _ = _
  have z : psum cc x 0 = 0 := rfl
  rw [z]
  grind
 have f0 : fi 0 = 1 := rfl
 rw [e, f0, f2, f4, f6, f8, f10, f12, f14, f16]
 have c : ∀ n : Nat, ((OfNat.ofNat n : Nat) : R) = (OfNat.ofNat n : R) := fun _ => rfl
 simp only [c]
 unfold cosP
 grind
theorem tail18 : 2 * tm 1 18 ≤ fR 1 := by
 have e : (1 : R) = R.of 1 := rfl
 have h : 2 * (qfi 18 * 1 ^ 18) ≤ Nw.fx 1 := by decide +kernel
 have h2 := R.of_le.2 h
 rw [R.of_mul, ← tm_of] at h2
 exact h2
theorem sin_near {x : R} (h : Bd x 1) : Bd (sin x - x * sinP (x * x)) (fR 1) := by
 have := ser_tail sc_bd h (M := 1) (n := 18) (by show (1 : R) ≤ 1; grind) (by omega)
 rw [sin_sum] at this
 exact this.mono tail18
theorem cos_near {x : R} (h : Bd x 1) : Bd (cos x - cosP (x * x)) (fR 1) := by
 have := ser_tail cc_bd h (M := 1) (n := 18) (by show (1 : R) ≤ 1; grind) (by omega)
 rw [cos_sum] at this
 exact this.mono tail18
theorem ring_bd {X : Iv} {x : R} (hi : spec_InsideI X spec_l06Ring = true) (hx : HR X x) : Bd x 1 := by
 obtain ⟨h1, h2, h3⟩ := inside_ring hi
 have a := hx h1
 have b1 := fR_le.2 h2
 have b2 := fR_le.2 h3
 have e1 : fR 4294967296 = 1 := fR_unit 1
 have e2 : fR (-4294967296) = -1 := by rw [fR_neg, e1]
 rw [e2] at b1
 rw [e1] at b2
 unfold In at a
 unfold Bd
 grind
theorem tinyR {x : R} (h : Bd x (fR 1)) : HR spec_l06Tiny x := by
 intro _
 show fR (-1) ≤ x ∧ x ≤ fR 1
 rw [fR_neg]
 exact h
theorem SinSeriesR {X : Iv} {x : R} (hx : HR X x) : HR (spec_SinSeries X) (sin x) := by
 simp only [spec_SinSeries]
 cases hi : spec_InsideI X spec_l06Ring
 ·exact hr_whole _
 simp only [Bool.not_true, cond_false]
 have b := ring_bd hi hx
 exact (AddR (MulR hx (series_sinR (SqrR hx))) (tinyR (sin_near b))).eq (by grind)
theorem CosSeriesR {X : Iv} {x : R} (hx : HR X x) : HR (spec_CosSeries X) (cos x) := by
 simp only [spec_CosSeries]
 cases hi : spec_InsideI X spec_l06Ring
 ·exact hr_whole _
 simp only [Bool.not_true, cond_false]
 have b := ring_bd hi hx
 exact (AddR (series_cosR (SqrR hx)) (tinyR (cos_near b))).eq (by grind)
def turnsOk : Bool := (List.range 4097).all fun k => decide ((k : Int) * 7244019458077122843 ≤ ((k : Int) * 7244019458077122842 / 1073741824 + 1) * 1073741824)
theorem turns_ok : turnsOk = true := by decide +kernel
theorem turn_le {k : Int} (h0 : 0 ≤ k) (h1 : k ≤ 4096) : k * 7244019458077122843 ≤ (k * 7244019458077122842 / 1073741824 + 1) * 1073741824 := by
 have h := turns_ok
 simp only [turnsOk, List.all_eq_true, decide_eq_true_eq, List.mem_range] at h
 obtain ⟨m, rfl⟩ := Int.eq_ofNat_of_zero_le h0
 exact h m (by omega)
theorem P0_val : R.of P0 * 4611686018427387904 = 7244019458077122842 := by
 have e : P0 * 4611686018427387904 = 7244019458077122842 := by decide +kernel
 have := congrArg R.of e
 rw [R.of_mul] at this
 exact this
theorem P1_val : R.of P1 * 4611686018427387904 = 7244019458077122843 := by
 have e : P1 * 4611686018427387904 = 7244019458077122843 := by decide +kernel
 have := congrArg R.of e
 rw [R.of_mul] at this
 exact this
theorem turn_pos {k : Int} (h0 : 0 < k) (h1 : k ≤ 4096) : fR (k * 7244019458077122842 / 1073741824) ≤ (k : R) * qt ∧ (k : R) * qt ≤ fR (k * 7244019458077122842 / 1073741824 + 1) := by
 have d := Int.ediv_mul_le (k * 7244019458077122842) (b := 1073741824) (by omega)
 have u := turn_le (k := k) (by omega) h1
 generalize k * 7244019458077122842 / 1073741824 = q at *
 have d2 := cast_le.2 d
 have u2 := cast_le.2 u
 simp only [cast_mul, cast_add] at d2 u2
 have c : ∀ n : Nat, (((OfNat.ofNat n : Nat) : Int) : R) = (OfNat.ofNat n : R) := fun _ => rfl
 have c0 : ((1073741824 : Int) : R) = 1073741824 := rfl
 have c1 : ((7244019458077122842 : Int) : R) = 7244019458077122842 := rfl
 have c2 : ((7244019458077122843 : Int) : R) = 7244019458077122843 := rfl
 have c3 : ((1 : Int) : R) = 1 := rfl
 rw [c0, c1] at d2
 rw [c0, c2, c3] at u2
 have k0 : 0 ≤ (k : R) := by
  have := cast_le.2 (show (0 : Int) ≤ k by omega)
  exact this
 have l := R.mul_le_l qt_lo k0
 have m := R.mul_le_l qt_hi k0
 have e0 := P0_val
 have e1 := P1_val
 rw [fR_val, fR_val, cast_add, c3]
 clear c c0 c1 c2 c3
 generalize (k : R) = K at *
 generalize (q : R) = Q at *
 generalize R.of P0 = p0 at *
 generalize R.of P1 = p1 at *
 have f0 : (K * p0) * 4611686018427387904 = K * 7244019458077122842 := by rw [← e0]; grind
 have f1 : (K * p1) * 4611686018427387904 = K * 7244019458077122843 := by rw [← e1]; grind
 generalize K * p0 = a0 at *
 generalize K * p1 = a1 at *
 generalize K * qt = b at *
 constructor <;> grind
theorem TurnR (k : Int) : HR (spec_TurnI k) ((k : R) * qt) := by
 simp only [spec_TurnI]
 cases h : spec_l00In k (-4096) 4096
 ·exact hr_whole _
 have hh := (l00In_iff _ _ _).1 h
 simp only [Bool.not_true, cond_false, spec_l05Turn]
 by_cases h0 : k = 0
 ·subst h0
  intro _
  show fR 0 ≤ ((0 : Int) : R) * qt ∧ ((0 : Int) : R) * qt ≤ fR 0
  rw [fR_zero]
  have : ((0 : Int) : R) = 0 := rfl
  rw [this]
  constructor <;> grind
 have e0 : (k == 0) = false := by simp [h0]
 rw [e0]
 simp only [cond_false]
 by_cases hn : k < 0
 ·have e1 : decide (k < 0) = true := decide_eq_true hn
  have e2 : w64 (0 - k) = -k := by rw [w64_id (by omega) (by omega)]; omega
  have e3 : ((-k : Int) == 0) = false := by simp; omega
  have hv := MulFloor30 (a := -k) (by omega)
  have hr : 0 ≤ -k * 7244019458077122842 / 1073741824 ∧ -k * 7244019458077122842 / 1073741824 ≤ 27634151458500 := by omega
  simp only [e1, e2, cond_true, spec_l05Turn.A, e3, cond_false, hv.2]
  rw [w64_id (n := -k * 7244019458077122842 / 1073741824 + 1) (by omega) (by omega), w64_id (by omega) (by omega), w64_id (by omega) (by omega)]
  have t := turn_pos (k := -k) (by omega) (by omega)
  intro _
  unfold In
  simp only [Int.zero_sub, fR_neg]
  rw [cast_neg] at t
  constructor <;> grind
 ·have e1 : decide (k < 0) = false := decide_eq_false hn
  have hv := MulFloor30 (a := k) (by omega)
  simp only [e1, cond_false, hv.2]
  have hr : 0 ≤ k * 7244019458077122842 / 1073741824 ∧ k * 7244019458077122842 / 1073741824 ≤ 27634151458500 := by omega
  rw [w64_id (by omega) (by omega)]
  exact fun _ => turn_pos (by omega) (by omega)
theorem and3u {x : Int} (h0 : 0 ≤ x) (h1 : x < 18446744073709551616) : andI .u64 x 3 = x % 4 := by
 show IntKind.u64.wrap ((BitVec.ofInt 64 x &&& BitVec.ofInt 64 3).toNat : Int) = _
 have e : (BitVec.ofInt 64 x &&& BitVec.ofInt 64 3).toNat = x.toNat % 4 := by
  rw [BitVec.toNat_and]
  have e1 : (BitVec.ofInt 64 x).toNat = x.toNat := by rw [BitVec.toNat_ofInt]; omega
  have e2 : (BitVec.ofInt 64 3).toNat = 2 ^ 2 - 1 := rfl
  rw [e1, e2, Nat.and_two_pow_sub_one_eq_mod]
 rw [e]
 show (((x.toNat % 4 : Nat) : Int)) % 18446744073709551616 = _
 omega
theorem and3 (z : Int) : andI .i64 (w64 z) 3 = z % 4 := by
 have hb : BitVec.ofInt 64 (w64 z) = BitVec.ofInt 64 (u64 z) := by
  apply BitVec.eq_of_toNat_eq
  simp only [BitVec.toNat_ofInt]
  congr 1
  simp only [w64_def, u64_def]
  omega
 have h0 := u64_nn z
 have h1 := u64_lt z
 show w64 (((BitVec.ofInt 64 (w64 z) &&& BitVec.ofInt 64 3).toNat : Nat) : Int) = _
 rw [hb]
 have h2 : andI .u64 (u64 z) 3 = u64 z % 4 := and3u h0 h1
 have h3 : andI .u64 (u64 z) 3 = u64 (((BitVec.ofInt 64 (u64 z) &&& BitVec.ofInt 64 3).toNat : Nat) : Int) := rfl
 have h4 : (((BitVec.ofInt 64 (u64 z) &&& BitVec.ofInt 64 3).toNat : Nat) : Int) < 18446744073709551616 := by
  have := (BitVec.ofInt 64 (u64 z) &&& BitVec.ofInt 64 3).isLt
  omega
 rw [h3, u64_id (by omega) (by omega)] at h2
 rw [h2, w64_id (by omega) (by omega)]
 simp only [u64_def]
 omega
theorem ringR {x : R} (h : Bd x 1) : HR spec_l06Ring x := by
 intro _
 have e1 : fR 4294967296 = 1 := fR_unit 1
 show fR (-4294967296) ≤ x ∧ x ≤ fR 4294967296
 rw [fR_neg, e1]
 exact h
theorem MeetR {A B : Iv} {x : R} (ha : HR A x) (hb : HR B x) : HR (spec_MeetI A B).1 x := by
 simp only [spec_MeetI]
 cases kA : spec_l04Ok A
 ·cases kB : spec_l04Ok B
  ·simp only [Bool.not_false, cond_true]; first | exact hr_whole _ | exact hb | exact hr_bad kB _ | exact hr_bad kA _
  ·simp only [Bool.not_false, cond_true]; exact hb
 cases kB : spec_l04Ok B
 ·simp only [Bool.not_true, cond_false, Bool.not_false, cond_true]; exact ha
 have a := ha kA
 have b := hb kB
 have h1 : A.lo ≤ B.hi := fR_le.1 (Std.le_trans a.1 b.2)
 have h2 : B.lo ≤ A.hi := fR_le.1 (Std.le_trans b.1 a.2)
 have iA := (ok_iff _).1 kA
 have iB := (ok_iff _).1 kB
 have hd : decide (spec_l00Max A.lo B.lo > spec_l00Min A.hi B.hi) = false := by
  refine decide_eq_false ?_
  simp only [spec_l00Max, spec_l00Min, Bool.cond_eq_ite, decide_eq_true_eq]
  split <;> split <;> omega
 simp only [Bool.not_true, cond_false, hd]
 intro _
 unfold In at *
 simp only [spec_l00Max, spec_l00Min, Bool.cond_eq_ite, decide_eq_true_eq]
 constructor
 ·split
  ·first | exact a.1 | exact b.1
  ·first | exact a.1 | exact b.1
 ·split
  ·first | exact a.2 | exact b.2
  ·first | exact a.2 | exact b.2
theorem l06MeetR {A : Iv} {x : R} (ha : HR A x) (h : Bd x 1) : HR (spec_l06Meet A) x := by
 simp only [spec_l06Meet]
 cases (spec_MeetI A spec_l06Ring).2
 ·exact ringR h
 ·exact MeetR ha (ringR h)
theorem AtR (n turns : Int) : HR (spec_l06At n turns) (sin (fR n + (turns : R) * qt)) := by
 simp only [spec_l06At]
 cases h : spec_l06Angle n
 ·exact ringR (sin_bd _)
 simp only [Bool.not_true, cond_false, and3]
 have hr := SubR (at_in n) (TurnR (spec_QuarterOf n))
 generalize hq : spec_QuarterOf n = k at *
 have e : sin (fR n + (turns : R) * qt) = turned (k + turns) (fR n - (k : R) * qt) := by
  rw [← sin_turned, cast_add]
  congr 1
  grind
 rw [e]
 generalize fR n - (k : R) * qt = r at *
 have s1 := SinSeriesR hr
 have c1 := CosSeriesR hr
 have bs := sin_bd r
 have bc := cos_bd r
 unfold turned
 rcases emod4 (k + turns) with h | h | h | h <;> rw [h]
 ·exact l06MeetR s1 bs
 ·exact l06MeetR c1 bc
 ·exact l06MeetR (NegR s1) bs.neg
 ·exact l06MeetR (NegR c1) bc.neg
end Go.G880.Re
/- Exponentials, logarithms and arc tangents: their series. -/
set_option linter.unusedVariables false
set_option linter.unusedSimpArgs false
/- Arc tangents: the series. -/
set_option linter.unusedVariables false
set_option linter.unusedSimpArgs false
/- Sines and cosines of a single angle; turning keeps lengths. -/
set_option linter.unusedVariables false
set_option linter.unusedSimpArgs false
namespace Go.G880.Re
open Go Go.RX Go.G880 Go.Rl
theorem upHR {t : Int} {o : Iv} {q : Int} {x : R} (h : HR o x) : HR (upH t o q) x := by
 unfold upH
 cases (andI .i64 (w64 (q + t)) 3 == 1)
 ·cases (andI .i64 (w64 (q + t)) 3 == 3)
  ·exact h
  ·exact HullR (.inl h)
 ·exact HullR (.inl h)
theorem goFR {X : Iv} {t : Int} {x : R} : ∀ (n : Nat) (k : Int) (o : Iv), HR o x → HR (goF X t n k o) x := by
 intro n
 induction n with
 | zero => intro k o h; exact h
 | succ n ih =>
  intro k o h
  simp only [goF]
  cases spec_OverlapI (spec_TurnI k) X
  ·exact ih _ _ h
  ·exact ih _ _ (upHR h)
theorem over_val (X : Iv) (t : Int) (h : spec_l06Fits X = true) : ∃ n : Nat, ((n : Int) = spec_QuarterOf X.hi + 2 - (spec_QuarterOf X.lo - 1) ∨ (n = 0 ∧ spec_QuarterOf X.hi + 2 ≤ spec_QuarterOf X.lo - 1)) ∧
  spec_l06Over X t = goF X t n (spec_QuarterOf X.lo - 1) (spec_HullI (spec_l06At X.lo t) (spec_l06At X.hi t)) := by
 obtain ⟨n, h1, h2, _⟩ := turns_val X
 have q2 := Quarter_rng X.lo
 have q1 := Quarter_rng X.hi
 refine ⟨n, h2, ?_⟩
 have e1 := over_fin X t n 802 (spec_QuarterOf X.lo - 1) (spec_HullI (spec_l06At X.lo t) (spec_l06At X.hi t)) (by omega) (by omega) (by omega)
 simp only [spec_l06Over, h, Bool.not_true, cond_false, spec_l06Over.fin5]
 rw [w64_id (n := spec_QuarterOf X.lo - 1) (by omega) (by omega), e1]
theorem OverPt (n t : Int) : HR (spec_l06Over ⟨n, n⟩ t) (sin (fR n + (t : R) * qt)) := by
 cases h : spec_l06Fits ⟨n, n⟩
 ·simp only [spec_l06Over, h, Bool.not_false, cond_true]
  exact ringR (sin_bd _)
 obtain ⟨m, _, e⟩ := over_val ⟨n, n⟩ t h
 rw [e]
 exact goFR _ _ _ (HullR (.inl (AtR n t)))
theorem SinPt (n : Int) : HR (spec_SinI ⟨n, n⟩) (sin (fR n)) := (OverPt n 0).eq (by
 have : ((0 : Int) : R) = 0 := rfl
 rw [this]; congr 1; grind)
end Go.G880.Re
