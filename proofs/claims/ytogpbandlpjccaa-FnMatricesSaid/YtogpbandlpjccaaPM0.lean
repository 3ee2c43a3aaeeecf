/- Enclosing: intervals that are bounded, or whole. -/
import Derived.Test.YtogpbandlpjccaaPN3
set_option linter.unusedVariables false
set_option linter.unusedSimpArgs false
namespace Go.G880.Nw
open Go Go.RX Go.G880 Go.Newton

/-- The number lies in the interval, if that is bounded. -/
def HasW (X : Iv) (q : Rat) : Prop := spec_l04Ok X = true → has X q
theorem AddI_ok {A B : Iv} (h : spec_l04Ok (spec_AddI A B) = true) : spec_l04Ok A = true ∧ spec_l04Ok B = true := by
  simp only [spec_AddI] at h
  cases kA : spec_l04Ok A
  · rw [kA] at h; simp only [Bool.not_false, cond_true, whole_not] at h; cases h
  cases kB : spec_l04Ok B
  · rw [kA, kB] at h; simp only [Bool.not_false, Bool.not_true, cond_false, cond_true, whole_not] at h; cases h
  exact ⟨rfl, rfl⟩
theorem SubI_ok2 {A B : Iv} (h : spec_l04Ok (spec_SubI A B) = true) : spec_l04Ok A = true ∧ spec_l04Ok B = true := by
  simp only [spec_SubI] at h
  cases kA : spec_l04Ok A
  · rw [kA] at h; simp only [Bool.not_false, cond_true, whole_not] at h; cases h
  cases kB : spec_l04Ok B
  · rw [kA, kB] at h; simp only [Bool.not_false, Bool.not_true, cond_false, cond_true, whole_not] at h; cases h
  exact ⟨rfl, rfl⟩
theorem MulI_ok2 {A B : Iv} (h : spec_l04Ok (spec_MulI A B) = true) : spec_l04Ok A = true ∧ spec_l04Ok B = true := by
  simp only [spec_MulI] at h
  cases kA : spec_l04Ok A
  · rw [kA] at h; simp only [Bool.not_false, cond_true, whole_not] at h; cases h
  cases kB : spec_l04Ok B
  · rw [kA, kB] at h; simp only [Bool.not_false, Bool.not_true, cond_false, cond_true, whole_not] at h; cases h
  exact ⟨rfl, rfl⟩
theorem DivI_ok2 {A B : Iv} (h : spec_l04Ok (spec_DivI A B) = true) : spec_l04Ok A = true ∧ spec_l04Ok B = true ∧ spec_l04Has B 0 = false := by
  simp only [spec_DivI] at h
  cases kA : spec_l04Ok A
  · rw [kA] at h; simp only [Bool.not_false, cond_true, whole_not] at h; cases h
  cases kB : spec_l04Ok B
  · rw [kA, kB] at h; simp only [Bool.not_false, Bool.not_true, cond_false, cond_true, whole_not] at h; cases h
  cases kH : spec_l04Has B 0
  case true => rw [kA, kB, kH] at h; simp only [Bool.not_true, cond_false, cond_true, whole_not] at h; cases h
  exact ⟨rfl, rfl, rfl⟩
theorem AddW {A B : Iv} {a b : Rat} (ha : HasW A a) (hb : HasW B b) : HasW (spec_AddI A B) (a + b) := fun h => AddI_has (ha (AddI_ok h).1) (hb (AddI_ok h).2) h
theorem MulW {A B : Iv} {a b : Rat} (ha : HasW A a) (hb : HasW B b) : HasW (spec_MulI A B) (a * b) := fun h => MulI_has (ha (MulI_ok2 h).1) (hb (MulI_ok2 h).2) h

/-- A fix, as a number. -/
def fx (n : Int) : Rat := (n : Rat) * (1 / 4294967296)
theorem fx_mul (n : Int) : fx n * 4294967296 = (n : Rat) := by
  have : (1 / 4294967296 : Rat) * 4294967296 = 1 := by decide +kernel
  rw [fx, Rat.mul_assoc, this, Rat.mul_one]
theorem has_pt {n : Int} : has ⟨n, n⟩ (fx n) := by
  simp only [has, fx_mul]
  exact ⟨Rat.le_refl, Rat.le_refl⟩
theorem has_lo {X : Iv} (h : spec_l04Ok X = true) : has X (fx X.lo) := by
  simp only [has, fx_mul]
  exact ⟨Rat.le_refl, cst ((ok_iff _).1 h).2.1⟩
theorem fx_le {a b : Int} (h : a ≤ b) : fx a ≤ fx b := le_of_mulU (by rw [fx_mul, fx_mul]; exact cst h)
theorem le_fx {a b : Int} (h : fx a ≤ fx b) : a ≤ b := by
  have := scale_le h
  rw [fx_mul, fx_mul] at this
  exact_mod_cast this
theorem has_fx {X : Iv} {q : Rat} (h : has X q) : fx X.lo ≤ q ∧ q ≤ fx X.hi :=
  ⟨le_of_mulU (by rw [fx_mul]; exact h.1), le_of_mulU (by rw [fx_mul]; exact h.2)⟩
theorem fx_has {X : Iv} {q : Rat} (h1 : fx X.lo ≤ q) (h2 : q ≤ fx X.hi) : has X q := by
  have a := scale_le h1
  have b := scale_le h2
  rw [fx_mul] at a b
  exact ⟨a, b⟩
theorem IntegerW (n : Int) : HasW (spec_Integer n) (n : Rat) := by
  intro h
  simp only [spec_Integer] at h ⊢
  cases k : spec_l00In n (-268435455) 268435455
  · rw [k] at h; simp only [Bool.not_false, cond_true, whole_not] at h; cases h
  rw [k] at h
  simp only [Bool.not_true, cond_false] at h ⊢
  rw [make_of h]
  have hb := (l00In_iff _ _ _).1 k
  rw [w64_id (by omega) (by omega)]
  have e : ((n * 4294967296 : Int) : Rat) = (n : Rat) * 4294967296 := by rw [Rat.intCast_mul, castU]
  simp only [has, e]
  exact ⟨Rat.le_refl, Rat.le_refl⟩

end Go.G880.Nw
