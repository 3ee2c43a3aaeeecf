/- Decimal texts: numerals, padded numerals, angles; what they are made of. -/
import Derived.Lib.ItoaNum
import Derived.Lib.Repeat
namespace Go.TX
open Go.Lib

/-- k digits of n. -/
def digs : Nat → Nat → List UInt8
  | 0, _ => []
  | k + 1, n => digs k (n / 10) ++ [UInt8.ofNat (48 + n % 10)]
def pad (d : Nat) (l : List UInt8) : List UInt8 := List.replicate (d - l.length) 48 ++ l
def sgn (n : Int) : List UInt8 := if n < 0 then [45] else []

theorem digs_length : ∀ k n, (digs k n).length = k
  | 0, _ => rfl
  | k + 1, n => by simp [digs, digs_length k]
theorem digs_zero : ∀ k, digs k 0 = List.replicate k 48
  | 0 => rfl
  | k + 1 => by
    rw [digs, Nat.zero_div, digs_zero k, List.replicate_succ']
    rfl
theorem pad_snoc (k : Nat) (l : List UInt8) (x : UInt8) : pad (k + 1) (l ++ [x]) = pad k l ++ [x] := by
  simp [pad]
theorem pad_digs (k n : Nat) (hk : 0 < k) (h : n < 10 ^ k) : pad k (decDigits n) = digs k n := by
  induction k generalizing n with
  | zero => omega
  | succ k ih =>
    by_cases h10 : n < 10
    · rw [decDigits, dif_pos h10, digs, Nat.div_eq_of_lt h10, digs_zero, Nat.mod_eq_of_lt h10]
      simp [pad]
    · rw [decDigits, dif_neg h10, pad_snoc, digs]
      have : 0 < k := by
        rcases Nat.eq_zero_or_pos k with rfl | h1
        · simp at h; omega
        · exact h1
      rw [ih (n / 10) this (by rw [Nat.pow_succ] at h; omega)]

theorem itoa_sgn (n : Int) : itoa n = sgn n ++ decDigits n.natAbs := by
  unfold itoa sgn
  by_cases h : n < 0
  · rw [if_pos h, if_pos h]; rfl
  · rw [if_neg h, if_neg h, show n.toNat = n.natAbs by omega]; rfl

/-! ### Digits and their number -/
def isD (b : UInt8) : Bool := decide (48 ≤ b.toNat) && decide (b.toNat ≤ 57)
def dv (b : UInt8) : Nat := b.toNat - 48
/-- The number that digits spell, behind acc. -/
def val (acc : Nat) (l : List UInt8) : Nat := l.foldl (fun a b => 10 * a + dv b) acc
theorem val_nil (acc : Nat) : val acc [] = acc := rfl
theorem val_cons (acc : Nat) (b : UInt8) (l : List UInt8) : val acc (b :: l) = val (10 * acc + dv b) l := List.foldl_cons ..
theorem val_one (acc : Nat) (b : UInt8) : val acc [b] = 10 * acc + dv b := rfl
theorem val_append (acc : Nat) (l m : List UInt8) : val acc (l ++ m) = val (val acc l) m := by
  unfold val; rw [List.foldl_append]
theorem dig_toNat (n : Nat) : (UInt8.ofNat (48 + n % 10)).toNat = 48 + n % 10 := by
  rw [UInt8.toNat_ofNat']; omega
theorem isD_dig (n : Nat) : isD (UInt8.ofNat (48 + n % 10)) = true := by
  unfold isD; rw [dig_toNat]; simp; omega
theorem dv_dig (n : Nat) : dv (UInt8.ofNat (48 + n % 10)) = n % 10 := by
  unfold dv; rw [dig_toNat]; omega
theorem digs_isD : ∀ k n, (digs k n).all isD = true
  | 0, _ => rfl
  | k + 1, n => by
    rw [digs, List.all_append, digs_isD k]
    simp only [List.all_cons, List.all_nil, isD_dig]; rfl
theorem dec_isD (n : Nat) : (decDigits n).all isD = true := by
  induction n using Nat.strongRecOn with
  | _ n ih =>
    by_cases h : n < 10
    · rw [decDigits, dif_pos h]
      have := isD_dig n
      rw [Nat.mod_eq_of_lt h] at this
      simp only [List.all_cons, List.all_nil, this]; rfl
    · rw [decDigits, dif_neg h, List.all_append, ih (n / 10) (by omega)]
      simp only [List.all_cons, List.all_nil, isD_dig]; rfl
theorem val_dec (n : Nat) : val 0 (decDigits n) = n := by
  induction n using Nat.strongRecOn with
  | _ n ih =>
    by_cases h : n < 10
    · rw [decDigits, dif_pos h]
      have := dv_dig n
      rw [Nat.mod_eq_of_lt h] at this
      rw [val_one, this]; omega
    · rw [decDigits, dif_neg h, val_append, ih (n / 10) (by omega), val_one, dv_dig]; omega
theorem val_digs (k n : Nat) (acc : Nat) (h : n < 10 ^ k) : val acc (digs k n) = acc * 10 ^ k + n := by
  induction k generalizing n with
  | zero => simp at h; subst h; simp [digs, val_nil]
  | succ k ih =>
    rw [digs, val_append, ih (n / 10) (by rw [Nat.pow_succ] at h; omega), val_one, dv_dig]
    rw [Nat.pow_succ, ← Nat.mul_assoc]
    omega
theorem val_lt (l : List UInt8) (acc : Nat) (h : l.all isD = true) : val acc l < (acc + 1) * 10 ^ l.length := by
  induction l generalizing acc with
  | nil => simp [val_nil]
  | cons b l ih =>
    simp only [List.all_cons, Bool.and_eq_true] at h
    have h1 := ih (10 * acc + dv b) h.2
    have h2 : dv b ≤ 9 := by
      have := h.1
      simp only [isD, Bool.and_eq_true, decide_eq_true_eq] at this
      unfold dv; omega
    rw [val_cons, List.length_cons]
    refine Nat.lt_of_lt_of_le h1 ?_
    rw [Nat.pow_succ, Nat.mul_comm (10 ^ l.length) 10, ← Nat.mul_assoc]
    exact Nat.mul_le_mul_right _ (by omega)
theorem dec_length_le (n k : Nat) (hk : 0 < k) (h : n < 10 ^ k) : (decDigits n).length ≤ k := by
  have := congrArg List.length (pad_digs k n hk h)
  rw [digs_length] at this
  simp [pad] at this
  omega
theorem dec_length_pos (n : Nat) : 0 < (decDigits n).length := by rw [decDigits_length]; exact nDigits_pos n
theorem lt_of_dec_length (n k : Nat) (h : (decDigits n).length ≤ k) : n < 10 ^ k := by
  have := lt_pow_nDigits n
  rw [decDigits_length] at h
  exact Nat.lt_of_lt_of_le this (Nat.pow_le_pow_right (by omega) h)
/-- A byte that is no digit. -/
theorem not_mem_of_all {l : List UInt8} (h : l.all isD = true) {b : UInt8} (hb : isD b = false) : b ∉ l := by
  intro hm
  rw [List.all_eq_true] at h
  rw [h b hm] at hb
  cases hb
end Go.TX
