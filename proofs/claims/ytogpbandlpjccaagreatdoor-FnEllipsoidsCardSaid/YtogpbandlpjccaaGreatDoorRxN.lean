/- Whole numbers as Go keeps them: plain lemmas. -/
import Derived.Test.YtogpbandlpjccaaGreatDoorRxF
set_option linter.unusedVariables false
set_option linter.unusedSimpArgs false
namespace Go.G880
open Go Go.RX
theorem w64_def (n : Int) : w64 n = (n + 9223372036854775808) % 18446744073709551616 - 9223372036854775808 := by
 simp only [w64, IntKind.wrap, IntKind.bits, IntKind.signed]
 simp
 omega
theorem u64_def (n : Int) : u64 n = n % 18446744073709551616 := by
 simp only [u64, IntKind.wrap, IntKind.bits, IntKind.signed]
 simp
theorem w64_id {n : Int} (h1 : -9223372036854775808 ≤ n) (h2 : n ≤ 9223372036854775807) : w64 n = n := by rw [w64_def]; omega
theorem u64_id {n : Int} (h1 : 0 ≤ n) (h2 : n ≤ 18446744073709551615) : u64 n = n := by rw [u64_def]; omega
theorem w64_u64 (n : Int) : w64 (u64 n) = w64 n := by rw [w64_def, u64_def, w64_def]; omega
theorem u64_w64 (n : Int) : u64 (w64 n) = u64 n := by rw [u64_def, w64_def, u64_def]; omega
theorem u64_nn (n : Int) : 0 ≤ u64 n := by rw [u64_def]; omega
theorem u64_lt (n : Int) : u64 n < 18446744073709551616 := by rw [u64_def]; omega
theorem w64_ge (n : Int) : -9223372036854775808 ≤ w64 n := by rw [w64_def]; omega
theorem w64_le (n : Int) : w64 n ≤ 9223372036854775807 := by rw [w64_def]; omega
theorem u64_neg (n : Int) : decide (u64 n < 0) = false := by
 have := u64_nn n
 simp only [decide_eq_false_iff_not]
 omega
theorem mx_def (x y : Int) : mxI x y = if y > x then y else x := rfl
theorem mn_def (x y : Int) : mnI x y = if y < x then y else x := rfl
theorem bv64 {x : Int} (h0 : 0 ≤ x) (h1 : x < 18446744073709551616) : (BitVec.ofInt 64 x).toNat = x.toNat := by
 rw [BitVec.toNat_ofInt]
 omega
theorem andI_nat {x y : Int} (hx : 0 ≤ x) (hx1 : x < 18446744073709551616) (hy : 0 ≤ y) (hy1 : y < 18446744073709551616) : andI .u64 x y = ((x.toNat &&& y.toNat : Nat) : Int) := by
 show u64 (((BitVec.ofInt 64 x &&& BitVec.ofInt 64 y).toNat : Nat) : Int) = _
 rw [BitVec.toNat_and, bv64 hx hx1, bv64 hy hy1, u64_id (by omega)]
 have : x.toNat &&& y.toNat ≤ x.toNat := Nat.and_le_left
 omega
theorem orI_nat {x y : Int} (hx : 0 ≤ x) (hx1 : x < 18446744073709551616) (hy : 0 ≤ y) (hy1 : y < 18446744073709551616) : orI .u64 x y = ((x.toNat ||| y.toNat : Nat) : Int) := by
 show u64 (((BitVec.ofInt 64 x ||| BitVec.ofInt 64 y).toNat : Nat) : Int) = _
 have hlt : x.toNat ||| y.toNat < 2 ^ 64 := Nat.or_lt_two_pow (by omega) (by omega)
 rw [BitVec.toNat_or, bv64 hx hx1, bv64 hy hy1, u64_id (by omega) (by omega)]
theorem andI_low {x : Int} (k : Nat) (hk : k ≤ 64) (hx : 0 ≤ x) (hx1 : x < 18446744073709551616) : andI .u64 x (2 ^ k - 1) = x % 2 ^ k := by
 have hp : (2 : Int) ^ k = ((2 ^ k : Nat) : Int) := by simp
 have h2 : 2 ^ k ≤ 2 ^ 64 := Nat.pow_le_pow_right (by omega) hk
 have h1 : 1 ≤ 2 ^ k := Nat.one_le_two_pow
 rw [andI_nat hx hx1 (by rw [hp]; omega) (by rw [hp]; omega), hp]
 have : (((2 ^ k : Nat) : Int) - 1).toNat = 2 ^ k - 1 := by omega
 rw [this, Nat.and_two_pow_sub_one_eq_mod]
 have : x = (x.toNat : Int) := by omega
 rw [this]
 simp
theorem orI_add {a b : Int} (k : Nat) (ha : 0 ≤ a) (ha1 : a < 18446744073709551616) (hd : a % 2 ^ k = 0) (hb : 0 ≤ b) (hb1 : b < 2 ^ k) (hb2 : b < 18446744073709551616) : orI .u64 a b = a + b := by
 rw [orI_nat ha ha1 hb hb2]
 have hp : (2 : Int) ^ k = ((2 ^ k : Nat) : Int) := by simp
 rw [hp] at hd hb1
 have e : a.toNat = (a.toNat / 2 ^ k) <<< k := by
  rw [Nat.shiftLeft_eq]
  have h0 : a.toNat % 2 ^ k = 0 := by
   have e1 : ((a.toNat % 2 ^ k : Nat) : Int) = 0 := by rw [Int.natCast_emod, Int.toNat_of_nonneg ha]; exact hd
   omega
  have := Nat.div_add_mod a.toNat (2 ^ k)
  rw [h0, Nat.mul_comm] at this
  omega
 rw [e, ← Nat.shiftLeft_add_eq_or_of_lt (by omega : b.toNat < 2 ^ k), ← e]
 omega
theorem orI_comm {a b : Int} (ha : 0 ≤ a) (ha1 : a < 18446744073709551616) (hb : 0 ≤ b) (hb2 : b < 18446744073709551616) : orI .u64 a b = orI .u64 b a := by
 rw [orI_nat ha ha1 hb hb2, orI_nat hb hb2 ha ha1, Nat.or_comm]
theorem and1 {x : Int} (hx : 0 ≤ x) (hx1 : x < 18446744073709551616) : andI .u64 x 1 = x % 2 := by
 have := andI_low 1 (by omega) hx hx1
 simpa using this
theorem and32 {x : Int} (hx : 0 ≤ x) (hx1 : x < 18446744073709551616) : andI .u64 x 4294967295 = x % 4294967296 := by
 have := andI_low 32 (by omega) hx hx1
 simpa using this
theorem fdiv_pos (x : Int) {d : Int} (h : 0 < d) : Int.fdiv x d = x / d := Int.fdiv_eq_ediv_of_nonneg x (by omega)
theorem tdiv_nn {x : Int} (d : Int) (h : 0 ≤ x) : Int.tdiv x d = x / d := Int.tdiv_eq_ediv_of_nonneg h
theorem tmod_nn {x : Int} (d : Int) (h : 0 ≤ x) : Int.tmod x d = x % d := Int.tmod_eq_emod_of_nonneg h
end Go.G880
