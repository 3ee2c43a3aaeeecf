/- What the program's own interval functions enclose. -/
import Derived.Test.YtogpbandlpjccaaGreatDoorRG
import Derived.Test.YtogpbandlpjccaaGreatDoorD2
set_option linter.unusedVariables false
set_option linter.unusedSimpArgs false
namespace Go.G880.Re
open Go Go.RX Go.G880 Go.Rl
theorem fR_ge_of {n a d : Int} (hd : 0 < d) (h : n * d ≤ a * 4294967296) : fR n ≤ (a : R) / (d : R) := by
 have p : (0 : R) < (d : R) := by have := cast_lt.2 hd; exact this
 rw [R.le_div p, fR_val]
 have := cast_le.2 h
 rw [cast_mul, cast_mul] at this
 have e : ((4294967296 : Int) : R) = 4294967296 := rfl
 rw [e] at this
 grind
theorem fR_le_of {n a d : Int} (hd : 0 < d) (h : a * 4294967296 ≤ n * d) : (a : R) / (d : R) ≤ fR n := by
 have p : (0 : R) < (d : R) := by have := cast_lt.2 hd; exact this
 rw [R.div_le p, fR_val]
 have := cast_le.2 h
 rw [cast_mul, cast_mul] at this
 have e : ((4294967296 : Int) : R) = 4294967296 := rfl
 rw [e] at this
 grind
theorem end_ok {n : Int} {b : Bool} (h : (spec_l03End n b).2 = true) : (spec_l03End n b).1 = n ∧ b = true := by
 unfold spec_l03End at h ⊢
 cases b
 ·simp at h
 ·cases k : spec_l03Ok n
  ·rw [k] at h; simp at h
  ·simp
theorem QuotR {a d : Int} (ha : In64 a) (h : 0 < d) (hd : d ≤ 9223372036854775807) : HR (spec_Quotient a d) ((a : R) / (d : R)) := by
 have h1 : decide (d < 0) = false := decide_eq_false (by omega)
 have h2 : decide (d ≤ 0) = false := decide_eq_false (by omega)
 unfold spec_Quotient
 simp only [h1, cond_false]
 cases k1 : (spec_l03Floor a d).2
 ·exact hr_whole _
 cases k2 : (spec_l03Ceil a d).2
 ·exact hr_whole _
 simp only [Bool.not_true, cond_false]
 simp only [spec_l03Floor, h2, cond_false] at k1 ⊢
 simp only [spec_l03Ceil, h2, cond_false] at k2 ⊢
 rw [spec_MulDivFloor_val ha in64_unit h hd] at k1 k2 ⊢
 have hm := Int.emod_add_mul_ediv (a * 4294967296) d
 have m1 := Int.emod_nonneg (a * 4294967296) (show d ≠ 0 by omega)
 have m2 := Int.emod_lt_of_pos (a * 4294967296) h
 rw [Int.mul_comm d] at hm
 generalize a * 4294967296 / d = q at *
 generalize a * 4294967296 % d = r at *
 split at k1
 case isFalse => simp [spec_l03End] at k1
 rename_i hq
 rw [if_pos hq] at k2 ⊢
 simp only [Bool.not_true, cond_false] at k2 ⊢
 have e1 := (end_ok k1).1
 rw [e1]
 have lo : fR q ≤ (a : R) / (d : R) := fR_ge_of h (by omega)
 cases c : (w64 (q * d) != w64 (a * 4294967296))
 ·rw [c] at k2
  simp only [cond_false] at k2 ⊢
  refine make_in lo (fR_le_of h ?_)
  have c : w64 (q * d) = w64 (a * 4294967296) := by simpa using c
  rw [w64_def, w64_def] at c
  omega
 ·rw [c] at k2
  simp only [cond_true] at k2 ⊢
  rw [(end_ok k2).1]
  refine make_in lo (fR_le_of h ?_)
  have q1 : q + 1 ≤ 9223372036854775807 := by
   have := (end_ok k2).1
   simp only [spec_l03End, Bool.not_true, cond_false] at k2
   cases kk : spec_l03Ok (w64 (q + 1))
   ·rw [kk] at k2; simp at k2
   ·have := (l00In_iff _ _ _).1 kk
    rw [w64_def] at this
    omega
  rw [w64_id (by omega) q1, Int.add_mul]
  omega
theorem AddJ {A B : Iv} {a b : R} (ha : HR A a) (hb : HR B b) : HR (impl_AddI A B) (a + b) := by rw [AddI_eq]; exact AddR ha hb
theorem SubJ {A B : Iv} {a b : R} (ha : HR A a) (hb : HR B b) : HR (impl_SubI A B) (a - b) := by rw [SubI_eq]; exact SubR ha hb
theorem MulJ {A B : Iv} {a b : R} (ha : HR A a) (hb : HR B b) : HR (impl_MulI A B) (a * b) := by rw [MulI_eq]; exact MulR ha hb
theorem DivJ {A B : Iv} {a b : R} (ha : HR A a) (hb : HR B b) : HR (impl_DivI A B) (a / b) := by rw [DivI_eq]; exact DivR ha hb
theorem NegJ {A : Iv} {a : R} (ha : HR A a) : HR (impl_NegI A) (-a) := by rw [NegI_eq]; exact NegR ha
theorem SqrJ {A : Iv} {a : R} (ha : HR A a) : HR (impl_SqrI A) (a * a) := by rw [SqrI_eq]; exact SqrR ha
theorem SqrtJ {A : Iv} {a : R} (ha : HR A a) : HR (impl_SqrtI A) (sqrt a) := by rw [SqrtI_eq]; exact SqrtR ha
theorem IntJ (n : Int) : HR (impl_Integer n) (n : R) := by rw [Integer_eq]; exact IntR n
theorem TurnJ (k : Int) : HR (impl_TurnI k) ((k : R) * qt) := by rw [TurnI_eq]; exact TurnR k
theorem HullJ {A B : Iv} {x y z : R} (hx : HR A x) (hy : HR B y) (h : x ≤ z ∧ z ≤ y ∨ y ≤ z ∧ z ≤ x) : HR (impl_HullI A B) z := by rw [HullI_eq]; exact HullR2 hx hy h
theorem HullJ1 {A B : Iv} {x : R} (h : HR A x ∨ HR B x) : HR (impl_HullI A B) x := by rw [HullI_eq]; exact HullR h
theorem MeetJ {A B : Iv} {x : R} (ha : HR A x) (hb : HR B x) : HR (impl_MeetI A B).1 x := by rw [MeetI_eq]; exact MeetR ha hb
theorem wholeJ (x : R) : HR impl_Whole x := hr_whole x
theorem DoubleJ {A : Iv} {a : R} (ha : HR A a) : HR (impl_DoubleI A) (2 * a) := (AddJ ha ha).eq (by grind)
theorem atJ (n : Int) : HR (impl_at n) (fR n) := fun _ => in_at n
theorem QuotJ {a d : Int} (ha : In64 a) (h : 0 < d) (hd : d ≤ 9223372036854775807) : HR (impl_Quotient a d) ((a : R) / (d : R)) := by
 rw [Quotient_eq ha ⟨by omega, hd⟩]; exact QuotR ha h hd
theorem tinyJ {x : R} (h : Bd x (fR 1)) : HR impl_tiny x := tinyR h
theorem boundJ {a b : Int} {x : R} (k : Bool) (h1 : fR a ≤ x) (h2 : x ≤ fR b) : HR (impl_bounded a b k) x := by
 cases k
 ·exact hr_whole x
 ·rw [bounded_true]; exact make_in h1 h2
theorem monoJ {L H : Iv} {a b v : R} (ha : HR L a) (hb : HR H b) (h : spec_l04Ok L = true → spec_l04Ok H = true → a ≤ v ∧ v ≤ b) :
  HR (bif !(impl_areBounded L H) then impl_Whole else impl_bounded L.lo H.hi true) v := by
 unfold impl_areBounded
 cases k1 : impl_ValidInterval L
 ·exact hr_whole v
 cases k2 : impl_ValidInterval H
 ·exact hr_whole v
 have q := h k1 k2
 have a1 := ha k1
 have b1 := hb k2
 unfold In at a1 b1
 exact boundJ true (by grind) (by grind)
theorem inside_bd {X : Iv} {x : R} {l h : Int} (hl : spec_l04Ok ⟨l, h⟩ = true) (hi : impl_InsideI X ⟨l, h⟩ = true) (hx : HR X x) : fR l ≤ x ∧ x ≤ fR h := by
 unfold impl_InsideI at hi
 unfold impl_IsWhole at hi
 rw [valid_ok, valid_ok] at hi
 cases k : spec_l04Ok X
 ·rw [k, hl] at hi; simp at hi
 rw [k, hl] at hi
 simp only [Bool.not_true, cond_false] at hi
 cases k1 : decide (l ≤ X.lo)
 ·rw [k1] at hi; simp at hi
 rw [k1, cond_true] at hi
 have e1 := fR_le.2 (of_decide_eq_true k1)
 have e2 := fR_le.2 (of_decide_eq_true hi)
 have := hx k
 unfold In at this
 grind
theorem widen_in {X : Iv} {p v : R} (hp : HR X p) (hv : Bd (v - p) (fR 1)) : HR (impl_widened X 1) v := by
 unfold impl_widened
 cases k : impl_ValidInterval X
 ·exact hr_whole v
 have iX := (ok_iff _).1 k
 have := hp k
 unfold In at this
 rw [w64_id (by omega) (by omega), w64_id (by omega) (by omega)]
 unfold Bd at hv
 refine boundJ true ?_ ?_
 ·rw [fR_sub]; grind
 ·rw [fR_add]; grind
theorem HalfJ {A : Iv} {a : R} (ha : HR A a) : HR (impl_HalfI A) (a / 2) := by
 unfold impl_HalfI impl_IsWhole
 cases k : impl_ValidInterval A
 ·exact hr_whole _
 have iA := (ok_iff _).1 k
 have := ha k
 unfold In at this
 simp only [Bool.not_true, cond_false]
 rw [w64_id (by omega) (by omega), fdiv_pos _ (by omega), fdiv_pos _ (by omega)]
 intro _
 have e1 : fR (A.lo / 2 * 2) ≤ fR A.lo := fR_le.2 (by omega)
 have e2 : fR A.hi ≤ fR ((A.hi + 1) / 2 * 2) := fR_le.2 (by omega)
 have two : ∀ n : Int, fR (n * 2) = fR n * 2 := fun n => by rw [fR_val, fR_val, cast_mul]; have e : ((2 : Int) : R) = 2 := rfl; rw [e]; grind
 rw [two] at e1 e2
 exact ⟨by show fR (A.lo / 2) ≤ a / 2; grind, by show a / 2 ≤ fR ((A.hi + 1) / 2); grind⟩
end Go.G880.Re
