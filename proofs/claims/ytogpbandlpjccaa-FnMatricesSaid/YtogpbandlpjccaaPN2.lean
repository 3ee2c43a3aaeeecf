/- The intervals' operations enclose: sums, differences, products, quotients. -/
import Derived.Test.YtogpbandlpjccaaP8
import Derived.Test.YtogpbandlpjccaaPN1
set_option linter.unusedVariables false
set_option linter.unusedSimpArgs false
namespace Go.G880.Nw
open Go Go.RX Go.G880 Go.Newton

/-- The number lies in the interval. -/
def has (X : Iv) (q : Rat) : Prop := (X.lo : Rat) ≤ q * 4294967296 ∧ q * 4294967296 ≤ (X.hi : Rat)
theorem make_of {a b : Int} (h : spec_l04Ok (spec_l04Make a b) = true) : spec_l04Make a b = ⟨a, b⟩ := by
  simp only [spec_l04Make] at h ⊢
  cases hk : spec_l04Ok ⟨a, b⟩
  · rw [hk] at h
    simp only [Bool.not_false, cond_true] at h
    rw [whole_not] at h
    cases h
  · simp
theorem AddI_has {A B : Iv} {a b : Rat} (ha : has A a) (hb : has B b) (h : spec_l04Ok (spec_AddI A B) = true) : has (spec_AddI A B) (a + b) := by
  simp only [spec_AddI] at h ⊢
  cases kA : spec_l04Ok A
  · rw [kA] at h; simp only [Bool.not_false, cond_true, whole_not] at h; cases h
  cases kB : spec_l04Ok B
  · rw [kA, kB] at h; simp only [Bool.not_false, Bool.not_true, cond_false, cond_true, whole_not] at h; cases h
  rw [kA, kB] at h
  simp only [Bool.not_true, cond_false] at h ⊢
  rw [make_of h]
  have iA := (ok_iff _).1 kA
  have iB := (ok_iff _).1 kB
  simp only [has] at *
  rw [w64_id (by omega) (by omega), w64_id (by omega) (by omega), Rat.intCast_add, Rat.intCast_add]
  grind
theorem SubI_has {A B : Iv} {a b : Rat} (ha : has A a) (hb : has B b) (h : spec_l04Ok (spec_SubI A B) = true) : has (spec_SubI A B) (a - b) := by
  simp only [spec_SubI] at h ⊢
  cases kA : spec_l04Ok A
  · rw [kA] at h; simp only [Bool.not_false, cond_true, whole_not] at h; cases h
  cases kB : spec_l04Ok B
  · rw [kA, kB] at h; simp only [Bool.not_false, Bool.not_true, cond_false, cond_true, whole_not] at h; cases h
  rw [kA, kB] at h
  simp only [Bool.not_true, cond_false] at h ⊢
  rw [make_of h]
  have iA := (ok_iff _).1 kA
  have iB := (ok_iff _).1 kB
  simp only [has] at *
  rw [w64_id (by omega) (by omega), w64_id (by omega) (by omega), Rat.intCast_sub, Rat.intCast_sub]
  grind

/-! ### Rounded products and quotients -/
theorem fix_in64 {n : Int} (h : spec_l03Ok n = true) : In64 n := in64_fix h
theorem end_val {n : Int} {ok : Bool} (h : (spec_l03End n ok).2 = true) : ok = true ∧ (spec_l03End n ok).1 = n := by
  simp only [spec_l03End] at h ⊢
  cases ok
  · simp at h
  cases hk : spec_l03Ok n
  · rw [hk] at h; simp at h
  · simp
theorem MulDown_val {a b : Int} (h : (spec_l03MulDown a b).2 = true) : (spec_l03MulDown a b).1 * 4294967296 ≤ a * b := by
  simp only [spec_l03MulDown] at h ⊢
  cases ka : spec_l03Ok a
  · rw [ka] at h; simp at h
  cases kb : spec_l03Ok b
  · rw [ka, kb] at h; simp at h
  rw [ka, kb] at h
  simp only [Bool.not_true, cond_false] at h ⊢
  obtain ⟨h1, h2⟩ := end_val h
  rw [h2]
  have pr := prod_range (in64_fix ka) (in64_fix kb)
  have hr : spec_l00In 32 0 126 = true := by decide
  simp only [spec_MulFloor, hr, Bool.not_true, cond_false, l02Mul_eq (in64_fix ka) (in64_fix kb), (Shift32 pr.1 pr.2).2] at h1 ⊢
  have hq := quot_range (z := a * b) (d := 4294967296) pr (by omega)
  rw [WideInt_W hq.1 hq.2] at h1 ⊢
  split at h1
  · rw [if_pos (by assumption)]
    simp only
    omega
  · cases h1
theorem MulDown_ok2 {a b : Int} (h : (spec_l03MulDown a b).2 = true) : spec_l03Ok a = true ∧ spec_l03Ok b = true := by
  simp only [spec_l03MulDown] at h
  cases ka : spec_l03Ok a
  · rw [ka] at h; simp at h
  cases kb : spec_l03Ok b
  · rw [ka, kb] at h; simp at h
  exact ⟨rfl, rfl⟩
theorem MulUp_val {a b : Int} (h : (spec_l03MulUp a b).2 = true) : a * b ≤ (spec_l03MulUp a b).1 * 4294967296 := by
  simp only [spec_l03MulUp] at h ⊢
  cases ka : spec_l03Ok a
  · rw [ka] at h; simp at h
  rw [ka] at h
  simp only [Bool.not_true, cond_false] at h ⊢
  rw [(neg_fix ka).1] at h ⊢
  cases kd : (spec_l03MulDown (-a) b).2
  · rw [kd] at h; simp at h
  simp only [Bool.not_true, cond_false]
  have hv := MulDown_val kd
  have ho := MulDown_ok kd
  rw [(neg_fix ho).1, Int.neg_mul]
  rw [Int.neg_mul] at hv
  omega
theorem DivDown_pos {a b : Int} (hb : 0 < b) (h : (spec_l03DivDown a b).2 = true) : (spec_l03DivDown a b).1 * b ≤ a * 4294967296 := by
  simp only [spec_l03DivDown] at h ⊢
  cases ka : spec_l03Ok a
  · rw [ka] at h; simp at h
  cases kb : spec_l03Ok b
  · rw [ka, kb] at h; simp at h
  have hz : (b == 0) = false := by simp; omega
  have hn : decide (b < 0) = false := decide_eq_false (by omega)
  rw [ka, kb, hz, hn] at h
  simp only [Bool.not_true, cond_false, hz, hn] at h ⊢
  obtain ⟨h1, h2⟩ := end_val h
  rw [h2]
  have fb := in64_fix kb
  simp only [In64] at fb
  rw [spec_MulDivFloor_val (in64_fix ka) in64_unit hb (by omega)] at h1 ⊢
  split at h1
  · rw [if_pos (by assumption)]
    exact Int.ediv_mul_le _ (by omega)
  · cases h1
theorem DivDown_neg {a b : Int} (hb : b < 0) (h : (spec_l03DivDown a b).2 = true) : a * 4294967296 ≤ (spec_l03DivDown a b).1 * b := by
  simp only [spec_l03DivDown] at h ⊢
  cases ka : spec_l03Ok a
  · rw [ka] at h; simp at h
  cases kb : spec_l03Ok b
  · rw [ka, kb] at h; simp at h
  have hz : (b == 0) = false := by simp; omega
  have hn : decide (b < 0) = true := decide_eq_true hb
  rw [ka, kb, hz, hn] at h
  simp only [Bool.not_true, cond_false, cond_true, hz, hn, (neg_fix ka).1, (neg_fix kb).1] at h ⊢
  obtain ⟨h1, h2⟩ := end_val h
  rw [h2]
  have fb := (l03Ok_iff b).1 kb
  have hp : 0 < -b := by omega
  have hq : -b ≤ 9223372036854775807 := by omega
  rw [spec_MulDivFloor_val (in64_fix (neg_fix ka).2) in64_unit hp hq] at h1 ⊢
  split at h1
  · rw [if_pos (by assumption)]
    have := Int.ediv_mul_le (-a * 4294967296) (b := -b) (by omega)
    simp only
    rw [Int.mul_neg, Int.neg_mul] at this
    rw [Int.neg_mul]
    omega
  · cases h1
theorem DivDown_nz {a b : Int} (h : (spec_l03DivDown a b).2 = true) : spec_l03Ok a = true ∧ spec_l03Ok (spec_l03DivDown a b).1 = true := by
  have h0 := h
  simp only [spec_l03DivDown] at h
  cases ka : spec_l03Ok a
  · rw [ka] at h; simp at h
  exact ⟨rfl, DivDown_ok h0⟩
theorem DivUp_down {a b : Int} (h : (spec_l03DivUp a b).2 = true) : spec_l03Ok a = true ∧ (spec_l03DivDown (-a) b).2 = true ∧ (spec_l03DivUp a b).1 = -(spec_l03DivDown (-a) b).1 := by
  simp only [spec_l03DivUp] at h ⊢
  cases ka : spec_l03Ok a
  · rw [ka] at h; simp at h
  rw [ka] at h
  simp only [Bool.not_true, cond_false] at h ⊢
  rw [(neg_fix ka).1] at h ⊢
  exact ⟨trivial, h, (neg_fix (DivDown_ok h)).1⟩
end Go.G880.Nw
