/- The machine walks the functions that FnMatrices reaches as the plain functions say. -/
import Derived.Test.YtogpbandlpjccaaProg
import Derived.Test.YtogpbandlpjccaaRxG
import Derived.Test.YtogpbandlpjccaaRxO
import Derived.Test.YtogpbandlpjccaaP10
import Derived.Test.YtogpbandlpjccaaDV
import Derived.Test.YtogpbandlpjccaaBO
import Derived.Laws.Externs
import Derived.Test.YtogpbandlpjccaaLen64
set_option linter.unusedVariables false
set_option linter.unusedSimpArgs false
set_option maxRecDepth 100000
namespace Go.G880
open Go Go.RX Go.Proofs.Ytogpbandlpjccaa.TX
def laws_d8Long (code : List Value) (more : List Value) : Bool := bif decide ((code.length : Int) > 1048576) then true else (decide ((more.length : Int) > 1048576))
def laws_FnMatrices (d : List Value) (i : List Value) : Bool := bif (laws_d8Long d i) then true else (let t2 := (spec_E8Mat d); let t3 := (spec_E8Mat i); let t4 := (spec_E8Vec i); bif (!(spec_OverlapV (impl_ApplyM (impl_MulM t2 t3) t4) (impl_ApplyM t2 (impl_ApplyM t3 t4)))) then false else (let t10 := (impl_InverseM t2); bif (!t10.2) then ((!(spec_InverseM t2).2)) else (let t12 := (impl_MulM t2 t10.1); let t13 := (spec_Integer 0); let t14 := (spec_Integer 1); bif (spec_OverlapV t12.a (V3.mk t14 t13 t13)) then (bif (spec_OverlapV t12.b (V3.mk t13 t14 t13)) then ((spec_OverlapV t12.c (V3.mk t13 t13 t14))) else false) else false)))
end Go.G880
namespace Go.Proofs.Ytogpbandlpjccaa
open Go Go.RX Go.G880 Go.Proofs Go.Proofs.Ytogpbandlpjccaa.TX
theorem hmix : Try.prog.follows .mixedOrders = true := by kernel_rfl
/-! ### laws.d8Long -/
def laws_d8Long.t {ρ : Type} (code : List Value) (more : List Value) (K : Bool → Option ρ) : Option ρ := bif decide ((code.length : Int) > 1048576) then (K true) else (K (decide ((more.length : Int) > 1048576)))
theorem laws_d8Long.t_eq {ρ : Type} (code : List Value) (more : List Value) (K : Bool → Option ρ) : laws_d8Long.t code more K = K (laws_d8Long code more) := cq (fun h0 => rfl) (fun h0 => rfl)
theorem laws_d8Long.gives (code : List Value) (more : List Value) : GivesA Try.prog 18 [(aL (.int .u8 0) 5).enc code, (aL (.int .u8 0) 5).enc more] (cBool.enc (laws_d8Long code more)) :=
  givesA_L hmix [] 0 none noL Try.func18 rfl (fun _ _ => noL_ok) ((by kernel_rfl : run1 Try.prog (tab []) 0 none noL Try.f18 (argVals 0 [(aL (.int .u8 0) 5).enc code, (aL (.int .u8 0) 5).enc more]) (argBlocks [(aL (.int .u8 0) 5).enc code, (aL (.int .u8 0) 5).enc more]) = laws_d8Long.t code more fun r => some (cBool.enc r, argBlocks [(aL (.int .u8 0) 5).enc code, (aL (.int .u8 0) 5).enc more])).trans (laws_d8Long.t_eq code more _))
def laws_d8Long.e : Entry Try.prog := entryA2 (aL (.int .u8 0) 5) (aL (.int .u8 0) 5) cBool 18 laws_d8Long (fun code more => true) (fun code more h => laws_d8Long.gives code more)

/-! ### spec.E8Mat -/


/-! ### spec.E8Vec -/


/-! ### impl.transposed -/
def impl_transposed.t {ρ : Type} (m : M3) (K : M3 → Option ρ) : Option ρ := K (M3.mk (V3.mk m.a.x m.b.x m.c.x) (V3.mk m.a.y m.b.y m.c.y) (V3.mk m.a.z m.b.z m.c.z))
theorem impl_transposed.t_eq {ρ : Type} (m : M3) (K : M3 → Option ρ) : impl_transposed.t m K = K (impl_transposed m) := rfl
theorem impl_transposed.gives (m : M3) : GivesV Try.prog 57 [cM3.enc m] (cM3.enc (impl_transposed m)) :=
  givesT hmix [] 0 none Try.func57 rfl rfl ((by kernel_rfl : run1 Try.prog (tab []) 0 none noL Try.f57 [cM3.enc m] [] = impl_transposed.t m fun r => some (cM3.enc r, [])).trans (impl_transposed.t_eq m _))
def impl_transposed.e : Entry Try.prog := entry1 cM3 cM3 57 impl_transposed impl_transposed.gives

/-! ### impl.ValidInterval -/
def impl_ValidInterval.t {ρ : Type} (i : Iv) (K : Bool → Option ρ) : Option ρ := bif decide ((-1152921504606846976) < i.lo) then (bif decide (i.lo ≤ i.hi) then (K (decide (i.hi < 1152921504606846976))) else (K false)) else (K false)
theorem impl_ValidInterval.t_eq {ρ : Type} (i : Iv) (K : Bool → Option ρ) : impl_ValidInterval.t i K = K (impl_ValidInterval i) := cq (fun h0 => cq (fun h1 => rfl) (fun h1 => rfl)) (fun h0 => rfl)
theorem impl_ValidInterval.gives (i : Iv) : GivesV Try.prog 73 [cIv.enc i] (cBool.enc (impl_ValidInterval i)) :=
  givesT hmix [] 0 none Try.func73 rfl rfl ((by kernel_rfl : run1 Try.prog (tab []) 0 none noL Try.f73 [cIv.enc i] [] = impl_ValidInterval.t i fun r => some (cBool.enc r, [])).trans (impl_ValidInterval.t_eq i _))
def impl_ValidInterval.e : Entry Try.prog := entry1 cIv cBool 73 impl_ValidInterval impl_ValidInterval.gives

/-! ### impl.areBounded -/
def impl_areBounded.t {ρ : Type} (a : Iv) (b : Iv) (K : Bool → Option ρ) : Option ρ := bif (impl_ValidInterval a) then (K (impl_ValidInterval b)) else (K false)
theorem impl_areBounded.t_eq {ρ : Type} (a : Iv) (b : Iv) (K : Bool → Option ρ) : impl_areBounded.t a b K = K (impl_areBounded a b) := cq (fun h0 => rfl) (fun h0 => rfl)
theorem impl_areBounded.gives (a : Iv) (b : Iv) : GivesV Try.prog 74 [cIv.enc a, cIv.enc b] (cBool.enc (impl_areBounded a b)) :=
  givesT hmix [impl_ValidInterval.e] 0 none Try.func74 rfl rfl ((by kernel_rfl : run1 Try.prog (tab [impl_ValidInterval.e]) 0 none noL Try.f74 [cIv.enc a, cIv.enc b] [] = impl_areBounded.t a b fun r => some (cBool.enc r, [])).trans (impl_areBounded.t_eq a b _))
def impl_areBounded.e : Entry Try.prog := entry2 cIv cIv cBool 74 impl_areBounded impl_areBounded.gives

/-! ### impl.Whole -/
def impl_Whole.t {ρ : Type} (K : Iv → Option ρ) : Option ρ := K (Iv.mk (-1152921504606846976) 1152921504606846976)
theorem impl_Whole.t_eq {ρ : Type} (K : Iv → Option ρ) : impl_Whole.t K = K impl_Whole := rfl
theorem impl_Whole.gives : GivesV Try.prog 37 [] (cIv.enc impl_Whole) :=
  givesT hmix [] 0 none Try.func37 rfl rfl ((by kernel_rfl : run1 Try.prog (tab []) 0 none noL Try.f37 [] [] = impl_Whole.t fun r => some (cIv.enc r, [])).trans (impl_Whole.t_eq _))
def impl_Whole.e : Entry Try.prog := entry0 cIv 37 impl_Whole impl_Whole.gives

/-! ### impl.within -/
def impl_within.t {ρ : Type} (x : Int) (low : Int) (high : Int) (K : Bool → Option ρ) : Option ρ := bif decide (x ≥ low) then (K (decide (x ≤ high))) else (K false)
theorem impl_within.t_eq {ρ : Type} (x : Int) (low : Int) (high : Int) (K : Bool → Option ρ) : impl_within.t x low high K = K (impl_within x low high) := cq (fun h0 => rfl) (fun h0 => rfl)
theorem impl_within.gives (x : Int) (low : Int) (high : Int) : GivesV Try.prog 67 [(cInt .i64).enc x, (cInt .i64).enc low, (cInt .i64).enc high] (cBool.enc (impl_within x low high)) :=
  givesT hmix [] 0 none Try.func67 rfl rfl ((by kernel_rfl : run1 Try.prog (tab []) 0 none noL Try.f67 [(cInt .i64).enc x, (cInt .i64).enc low, (cInt .i64).enc high] [] = impl_within.t x low high fun r => some (cBool.enc r, [])).trans (impl_within.t_eq x low high _))
def impl_within.e : Entry Try.prog := entry3 (cInt .i64) (cInt .i64) (cInt .i64) cBool 67 impl_within impl_within.gives

/-! ### impl.ValidFix -/
def impl_ValidFix.t {ρ : Type} (n : Int) (K : Bool → Option ρ) : Option ρ := K (impl_within n (-1152921504606846976) 1152921504606846976)
theorem impl_ValidFix.t_eq {ρ : Type} (n : Int) (K : Bool → Option ρ) : impl_ValidFix.t n K = K (impl_ValidFix n) := rfl
theorem impl_ValidFix.gives (n : Int) : GivesV Try.prog 91 [(cInt .i64).enc n] (cBool.enc (impl_ValidFix n)) :=
  givesT hmix [impl_within.e] 0 none Try.func91 rfl rfl ((by kernel_rfl : run1 Try.prog (tab [impl_within.e]) 0 none noL Try.f91 [(cInt .i64).enc n] [] = impl_ValidFix.t n fun r => some (cBool.enc r, [])).trans (impl_ValidFix.t_eq n _))
def impl_ValidFix.e : Entry Try.prog := entry1 (cInt .i64) cBool 91 impl_ValidFix impl_ValidFix.gives

/-! ### bits.Mul64 -/
def bits_Mul64.t {ρ : Type} (x : Int) (y : Int) (K : (Int × Int) → Option ρ) : Option ρ := let x2 := (u64 ((u64 ((Int.fdiv x 4294967296) * (andI .u64 y 4294967295))) + (Int.fdiv (u64 ((andI .u64 x 4294967295) * (andI .u64 y 4294967295))) 4294967296))); K ((u64 ((u64 ((u64 ((Int.fdiv x 4294967296) * (Int.fdiv y 4294967296))) + (Int.fdiv x2 4294967296))) + (Int.fdiv (u64 ((andI .u64 x2 4294967295) + (u64 ((andI .u64 x 4294967295) * (Int.fdiv y 4294967296))))) 4294967296))), (u64 (x * y)))
theorem bits_Mul64.t_eq {ρ : Type} (x : Int) (y : Int) (K : (Int × Int) → Option ρ) : bits_Mul64.t x y K = K (bits_Mul64 x y) := rfl
theorem bits_Mul64.gives (x : Int) (y : Int) : GivesV Try.prog 110 [(cInt .u64).enc x, (cInt .u64).enc y] ((cT2 (cInt .u64) (cInt .u64)).enc (bits_Mul64 x y)) :=
  givesT hmix [] 0 none Try.func110 rfl rfl ((by kernel_rfl : run1 Try.prog (tab []) 0 none noL Try.f110 [(cInt .u64).enc x, (cInt .u64).enc y] [] = bits_Mul64.t x y fun r => some ((cT2 (cInt .u64) (cInt .u64)).enc r, [])).trans (bits_Mul64.t_eq x y _))
def bits_Mul64.e : Entry Try.prog := entry2 (cInt .u64) (cInt .u64) (cT2 (cInt .u64) (cInt .u64)) 110 bits_Mul64 bits_Mul64.gives

/-! ### impl.WideMul -/
def impl_WideMul.t {ρ : Type} (a : Int) (b : Int) (K : Wd → Option ρ) : Option ρ := let t1 := (bits_Mul64 (u64 a) (u64 b)); bif decide (a < 0) then (bif decide (b < 0) then (K (Wd.mk (w64 (u64 ((u64 (t1.1 - (u64 b))) - (u64 a)))) t1.2)) else (K (Wd.mk (w64 (u64 (t1.1 - (u64 b)))) t1.2))) else (bif decide (b < 0) then (K (Wd.mk (w64 (u64 (t1.1 - (u64 a)))) t1.2)) else (K (Wd.mk (w64 t1.1) t1.2)))
theorem impl_WideMul.t_eq {ρ : Type} (a : Int) (b : Int) (K : Wd → Option ρ) : impl_WideMul.t a b K = K (impl_WideMul a b) := cq (fun h0 => cq (fun h1 => rfl) (fun h1 => rfl)) (fun h0 => cq (fun h1 => rfl) (fun h1 => rfl))
theorem impl_WideMul.gives (a : Int) (b : Int) : GivesV Try.prog 103 [(cInt .i64).enc a, (cInt .i64).enc b] (cWd.enc (impl_WideMul a b)) :=
  givesT hmix [bits_Mul64.e] 0 none Try.func103 rfl rfl ((by kernel_rfl : run1 Try.prog (tab [bits_Mul64.e]) 0 none noL Try.f103 [(cInt .i64).enc a, (cInt .i64).enc b] [] = impl_WideMul.t a b fun r => some (cWd.enc r, [])).trans (impl_WideMul.t_eq a b _))
def impl_WideMul.e : Entry Try.prog := entry2 (cInt .i64) (cInt .i64) cWd 103 impl_WideMul impl_WideMul.gives

/-! ### impl.WideShift -/
def impl_WideShift.t {ρ : Type} (w : Wd) (n : Int) (K : Wd → Option ρ) : Option ρ := bif (!(impl_within n 0 127)) then (K (Wd.mk 0 0)) else (bif decide (n ≥ 64) then (bif decide ((w64 (n - 64)) < 0) then none else (K (Wd.mk (Int.fdiv w.hi 9223372036854775808) (u64 (Int.fdiv w.hi (2 ^ (min (Int.toNat (w64 (n - 64))) 64))))))) else (bif decide (n < 0) then none else (bif decide (n < 0) then none else (bif decide ((w64 (64 - n)) < 0) then none else (K (Wd.mk (Int.fdiv w.hi (2 ^ (min (Int.toNat n) 64))) (orI .u64 (Int.fdiv w.lo (2 ^ (min (Int.toNat n) 64))) (u64 ((u64 w.hi) * (2 ^ (min (Int.toNat (w64 (64 - n))) 64)))))))))))
theorem impl_WideShift.t_eq {ρ : Type} (w : Wd) (n : Int) (K : Wd → Option ρ) : impl_WideShift.t w n K = K (impl_WideShift w n) := cq (fun h0 => rfl) (fun h0 => cq (fun h1 => cqF (by first | exact u64_neg _ | (simp only [decide_eq_true_eq, decide_eq_false_iff_not] at *; omega) | (simp only [Bool.not_eq_eq_eq_not, Bool.not_false, inside_iff, l00In_iff, decide_eq_true_eq, decide_eq_false_iff_not, w64_def, u64_def] at *; omega)) (fun h2 => rfl)) (fun h1 => cqF (by first | exact u64_neg _ | (simp only [decide_eq_true_eq, decide_eq_false_iff_not] at *; omega) | (simp only [Bool.not_eq_eq_eq_not, Bool.not_false, inside_iff, l00In_iff, decide_eq_true_eq, decide_eq_false_iff_not, w64_def, u64_def] at *; omega)) (fun h2 => cqF (by first | exact u64_neg _ | (simp only [decide_eq_true_eq, decide_eq_false_iff_not] at *; omega) | (simp only [Bool.not_eq_eq_eq_not, Bool.not_false, inside_iff, l00In_iff, decide_eq_true_eq, decide_eq_false_iff_not, w64_def, u64_def] at *; omega)) (fun h3 => cqF (by first | exact u64_neg _ | (simp only [decide_eq_true_eq, decide_eq_false_iff_not] at *; omega) | (simp only [Bool.not_eq_eq_eq_not, Bool.not_false, inside_iff, l00In_iff, decide_eq_true_eq, decide_eq_false_iff_not, w64_def, u64_def] at *; omega)) (fun h4 => rfl)))))
theorem impl_WideShift.gives (w : Wd) (n : Int) : GivesV Try.prog 102 [cWd.enc w, (cInt .i64).enc n] (cWd.enc (impl_WideShift w n)) :=
  givesT hmix [impl_within.e] 0 none Try.func102 rfl rfl ((by kernel_rfl : run1 Try.prog (tab [impl_within.e]) 0 none noL Try.f102 [cWd.enc w, (cInt .i64).enc n] [] = impl_WideShift.t w n fun r => some (cWd.enc r, [])).trans (impl_WideShift.t_eq w n _))
def impl_WideShift.e : Entry Try.prog := entry2 cWd (cInt .i64) cWd 102 impl_WideShift impl_WideShift.gives

/-! ### impl.WideOf -/
def impl_WideOf.t {ρ : Type} (n : Int) (K : Wd → Option ρ) : Option ρ := K (Wd.mk (Int.fdiv n 9223372036854775808) (u64 n))
theorem impl_WideOf.t_eq {ρ : Type} (n : Int) (K : Wd → Option ρ) : impl_WideOf.t n K = K (impl_WideOf n) := rfl
theorem impl_WideOf.gives (n : Int) : GivesV Try.prog 109 [(cInt .i64).enc n] (cWd.enc (impl_WideOf n)) :=
  givesT hmix [] 0 none Try.func109 rfl rfl ((by kernel_rfl : run1 Try.prog (tab []) 0 none noL Try.f109 [(cInt .i64).enc n] [] = impl_WideOf.t n fun r => some (cWd.enc r, [])).trans (impl_WideOf.t_eq n _))
def impl_WideOf.e : Entry Try.prog := entry1 (cInt .i64) cWd 109 impl_WideOf impl_WideOf.gives

/-! ### impl.WideInt -/
def impl_WideInt.t {ρ : Type} (w : Wd) (K : (Int × Bool) → Option ρ) : Option ρ := let t1 := (impl_WideOf (w64 w.lo)); bif (!((t1.hi == w.hi) && (t1.lo == w.lo))) then (K (0, false)) else (K ((w64 w.lo), true))
theorem impl_WideInt.t_eq {ρ : Type} (w : Wd) (K : (Int × Bool) → Option ρ) : impl_WideInt.t w K = K (impl_WideInt w) := cq (fun h0 => rfl) (fun h0 => rfl)
theorem impl_WideInt.gives (w : Wd) : GivesV Try.prog 101 [cWd.enc w] ((cT2 (cInt .i64) cBool).enc (impl_WideInt w)) :=
  givesT hmix [impl_WideOf.e] 0 none Try.func101 rfl rfl ((by kernel_rfl : run1 Try.prog (tab [impl_WideOf.e]) 0 none noL Try.f101 [cWd.enc w] [] = impl_WideInt.t w fun r => some ((cT2 (cInt .i64) cBool).enc r, [])).trans (impl_WideInt.t_eq w _))
def impl_WideInt.e : Entry Try.prog := entry1 cWd (cT2 (cInt .i64) cBool) 101 impl_WideInt impl_WideInt.gives

/-! ### impl.MulFloor -/
def impl_MulFloor.t {ρ : Type} (a : Int) (b : Int) (shift : Int) (K : (Int × Bool) → Option ρ) : Option ρ := bif (!(impl_within shift 0 126)) then (K (0, false)) else (let t4 := (impl_WideInt (impl_WideShift (impl_WideMul a b) shift)); K (t4.1, t4.2))
theorem impl_MulFloor.t_eq {ρ : Type} (a : Int) (b : Int) (shift : Int) (K : (Int × Bool) → Option ρ) : impl_MulFloor.t a b shift K = K (impl_MulFloor a b shift) := cq (fun h0 => rfl) (fun h0 => rfl)
theorem impl_MulFloor.gives (a : Int) (b : Int) (shift : Int) : GivesV Try.prog 93 [(cInt .i64).enc a, (cInt .i64).enc b, (cInt .i64).enc shift] ((cT2 (cInt .i64) cBool).enc (impl_MulFloor a b shift)) :=
  givesT hmix [impl_within.e, impl_WideMul.e, impl_WideShift.e, impl_WideInt.e] 0 none Try.func93 rfl rfl ((by kernel_rfl : run1 Try.prog (tab [impl_within.e, impl_WideMul.e, impl_WideShift.e, impl_WideInt.e]) 0 none noL Try.f93 [(cInt .i64).enc a, (cInt .i64).enc b, (cInt .i64).enc shift] [] = impl_MulFloor.t a b shift fun r => some ((cT2 (cInt .i64) cBool).enc r, [])).trans (impl_MulFloor.t_eq a b shift _))
def impl_MulFloor.e : Entry Try.prog := entry3 (cInt .i64) (cInt .i64) (cInt .i64) (cT2 (cInt .i64) cBool) 93 impl_MulFloor impl_MulFloor.gives

/-! ### impl.fixed -/
def impl_fixed.t {ρ : Type} (n : Int) (ok : Bool) (K : (Int × Bool) → Option ρ) : Option ρ := bif (!ok) then (K (0, false)) else (bif (!(impl_ValidFix n)) then (K (0, false)) else (K (n, true)))
theorem impl_fixed.t_eq {ρ : Type} (n : Int) (ok : Bool) (K : (Int × Bool) → Option ρ) : impl_fixed.t n ok K = K (impl_fixed n ok) := cq (fun h0 => rfl) (fun h0 => cq (fun h1 => rfl) (fun h1 => rfl))
theorem impl_fixed.gives (n : Int) (ok : Bool) : GivesV Try.prog 92 [(cInt .i64).enc n, cBool.enc ok] ((cT2 (cInt .i64) cBool).enc (impl_fixed n ok)) :=
  givesT hmix [impl_ValidFix.e] 0 none Try.func92 rfl rfl ((by kernel_rfl : run1 Try.prog (tab [impl_ValidFix.e]) 0 none noL Try.f92 [(cInt .i64).enc n, cBool.enc ok] [] = impl_fixed.t n ok fun r => some ((cT2 (cInt .i64) cBool).enc r, [])).trans (impl_fixed.t_eq n ok _))
def impl_fixed.e : Entry Try.prog := entry2 (cInt .i64) cBool (cT2 (cInt .i64) cBool) 92 impl_fixed impl_fixed.gives

/-! ### impl.MulDown -/
def impl_MulDown.t {ρ : Type} (a : Int) (b : Int) (K : (Int × Bool) → Option ρ) : Option ρ := bif (!(impl_ValidFix a)) then (K (0, false)) else (bif (!(impl_ValidFix b)) then (K (0, false)) else (let t3 := (impl_MulFloor a b 32); let t4 := (impl_fixed t3.1 t3.2); K (t4.1, t4.2)))
theorem impl_MulDown.t_eq {ρ : Type} (a : Int) (b : Int) (K : (Int × Bool) → Option ρ) : impl_MulDown.t a b K = K (impl_MulDown a b) := cq (fun h0 => rfl) (fun h0 => cq (fun h1 => rfl) (fun h1 => rfl))
theorem impl_MulDown.gives (a : Int) (b : Int) : GivesV Try.prog 77 [(cInt .i64).enc a, (cInt .i64).enc b] ((cT2 (cInt .i64) cBool).enc (impl_MulDown a b)) :=
  givesT hmix [impl_ValidFix.e, impl_MulFloor.e, impl_fixed.e] 0 none Try.func77 rfl rfl ((by kernel_rfl : run1 Try.prog (tab [impl_ValidFix.e, impl_MulFloor.e, impl_fixed.e]) 0 none noL Try.f77 [(cInt .i64).enc a, (cInt .i64).enc b] [] = impl_MulDown.t a b fun r => some ((cT2 (cInt .i64) cBool).enc r, [])).trans (impl_MulDown.t_eq a b _))
def impl_MulDown.e : Entry Try.prog := entry2 (cInt .i64) (cInt .i64) (cT2 (cInt .i64) cBool) 77 impl_MulDown impl_MulDown.gives

/-! ### impl.MulUp -/
def impl_MulUp.t {ρ : Type} (a : Int) (b : Int) (K : (Int × Bool) → Option ρ) : Option ρ := bif (!(impl_ValidFix a)) then (K (0, false)) else (bif (!(impl_ValidFix b)) then (K (0, false)) else (let t3 := (impl_MulDown (w64 (0 - a)) b); K ((w64 (0 - t3.1)), t3.2)))
theorem impl_MulUp.t_eq {ρ : Type} (a : Int) (b : Int) (K : (Int × Bool) → Option ρ) : impl_MulUp.t a b K = K (impl_MulUp a b) := cq (fun h0 => rfl) (fun h0 => cq (fun h1 => rfl) (fun h1 => rfl))
theorem impl_MulUp.gives (a : Int) (b : Int) : GivesV Try.prog 78 [(cInt .i64).enc a, (cInt .i64).enc b] ((cT2 (cInt .i64) cBool).enc (impl_MulUp a b)) :=
  givesT hmix [impl_ValidFix.e, impl_MulDown.e] 0 none Try.func78 rfl rfl ((by kernel_rfl : run1 Try.prog (tab [impl_ValidFix.e, impl_MulDown.e]) 0 none noL Try.f78 [(cInt .i64).enc a, (cInt .i64).enc b] [] = impl_MulUp.t a b fun r => some ((cT2 (cInt .i64) cBool).enc r, [])).trans (impl_MulUp.t_eq a b _))
def impl_MulUp.e : Entry Try.prog := entry2 (cInt .i64) (cInt .i64) (cT2 (cInt .i64) cBool) 78 impl_MulUp impl_MulUp.gives

/-! ### impl.bounded -/
def impl_bounded.t {ρ : Type} (lo_0 : Int) (hi_1 : Int) (ok : Bool) (K : Iv → Option ρ) : Option ρ := bif ok then (bif (impl_ValidInterval (Iv.mk lo_0 hi_1)) then (K (Iv.mk lo_0 hi_1)) else (K impl_Whole)) else (K impl_Whole)
theorem impl_bounded.t_eq {ρ : Type} (lo_0 : Int) (hi_1 : Int) (ok : Bool) (K : Iv → Option ρ) : impl_bounded.t lo_0 hi_1 ok K = K (impl_bounded lo_0 hi_1 ok) := cq (fun h0 => cq (fun h1 => rfl) (fun h1 => rfl)) (fun h0 => rfl)
theorem impl_bounded.gives (lo_0 : Int) (hi_1 : Int) (ok : Bool) : GivesV Try.prog 75 [(cInt .i64).enc lo_0, (cInt .i64).enc hi_1, cBool.enc ok] (cIv.enc (impl_bounded lo_0 hi_1 ok)) :=
  givesT hmix [impl_ValidInterval.e, impl_Whole.e] 0 none Try.func75 rfl rfl ((by kernel_rfl : run1 Try.prog (tab [impl_ValidInterval.e, impl_Whole.e]) 0 none noL Try.f75 [(cInt .i64).enc lo_0, (cInt .i64).enc hi_1, cBool.enc ok] [] = impl_bounded.t lo_0 hi_1 ok fun r => some (cIv.enc r, [])).trans (impl_bounded.t_eq lo_0 hi_1 ok _))
def impl_bounded.e : Entry Try.prog := entry3 (cInt .i64) (cInt .i64) cBool cIv 75 impl_bounded impl_bounded.gives

/-! ### impl.MulI -/
def impl_MulI.t {ρ : Type} (a : Iv) (b : Iv) (K : Iv → Option ρ) : Option ρ := bif (!(impl_areBounded a b)) then (K impl_Whole) else (let t3 := (impl_MulDown a.lo b.lo); let t4 := (impl_MulUp a.lo b.lo); bif (!t3.2) then (K impl_Whole) else (bif (!t4.2) then (K impl_Whole) else (let t7 := (impl_MulDown a.lo b.hi); let t8 := (impl_MulUp a.lo b.hi); bif (!t7.2) then (K impl_Whole) else (bif (!t8.2) then (K impl_Whole) else (let t11 := (impl_MulDown a.hi b.lo); let t12 := (impl_MulUp a.hi b.lo); bif (!t11.2) then (K impl_Whole) else (bif (!t12.2) then (K impl_Whole) else (let t15 := (impl_MulDown a.hi b.hi); let t16 := (impl_MulUp a.hi b.hi); bif (!t15.2) then (K impl_Whole) else (bif (!t16.2) then (K impl_Whole) else (K (impl_bounded (mnI (mnI (mnI (mnI t3.1 t3.1) t7.1) t11.1) t15.1) (mxI (mxI (mxI (mxI t4.1 t4.1) t8.1) t12.1) t16.1) true))))))))))
theorem impl_MulI.t_eq {ρ : Type} (a : Iv) (b : Iv) (K : Iv → Option ρ) : impl_MulI.t a b K = K (impl_MulI a b) := cq (fun h0 => rfl) (fun h0 => cq (fun h1 => rfl) (fun h1 => cq (fun h2 => rfl) (fun h2 => cq (fun h3 => rfl) (fun h3 => cq (fun h4 => rfl) (fun h4 => cq (fun h5 => rfl) (fun h5 => cq (fun h6 => rfl) (fun h6 => cq (fun h7 => rfl) (fun h7 => cq (fun h8 => rfl) (fun h8 => rfl)))))))))
theorem impl_MulI.gives (a : Iv) (b : Iv) : GivesV Try.prog 39 [cIv.enc a, cIv.enc b] (cIv.enc (impl_MulI a b)) :=
  givesT hmix [impl_areBounded.e, impl_Whole.e, (inl hmix [impl_MulDown.e, impl_MulUp.e, impl_Whole.e, impl_bounded.e] 3 76 Try.f76 Try.func76 rfl)] 3 none Try.func39 rfl rfl ((by kernel_rfl : run1 Try.prog (tab [impl_areBounded.e, impl_Whole.e, (inl hmix [impl_MulDown.e, impl_MulUp.e, impl_Whole.e, impl_bounded.e] 3 76 Try.f76 Try.func76 rfl)]) 3 none noL Try.f39 [cIv.enc a, cIv.enc b] [] = impl_MulI.t a b fun r => some (cIv.enc r, [])).trans (impl_MulI.t_eq a b _))
def impl_MulI.e : Entry Try.prog := entry2 cIv cIv cIv 39 impl_MulI impl_MulI.gives

/-! ### impl.AddI -/
def impl_AddI.t {ρ : Type} (a : Iv) (b : Iv) (K : Iv → Option ρ) : Option ρ := bif (!(impl_areBounded a b)) then (K impl_Whole) else (K (impl_bounded (w64 (a.lo + b.lo)) (w64 (a.hi + b.hi)) true))
theorem impl_AddI.t_eq {ρ : Type} (a : Iv) (b : Iv) (K : Iv → Option ρ) : impl_AddI.t a b K = K (impl_AddI a b) := cq (fun h0 => rfl) (fun h0 => rfl)
theorem impl_AddI.gives (a : Iv) (b : Iv) : GivesV Try.prog 38 [cIv.enc a, cIv.enc b] (cIv.enc (impl_AddI a b)) :=
  givesT hmix [impl_areBounded.e, impl_Whole.e, impl_bounded.e] 0 none Try.func38 rfl rfl ((by kernel_rfl : run1 Try.prog (tab [impl_areBounded.e, impl_Whole.e, impl_bounded.e]) 0 none noL Try.f38 [cIv.enc a, cIv.enc b] [] = impl_AddI.t a b fun r => some (cIv.enc r, [])).trans (impl_AddI.t_eq a b _))
def impl_AddI.e : Entry Try.prog := entry2 cIv cIv cIv 38 impl_AddI impl_AddI.gives

/-! ### impl.DotV -/
def impl_DotV.t {ρ : Type} (a : V3) (b : V3) (K : Iv → Option ρ) : Option ρ := K (impl_AddI (impl_AddI (impl_MulI a.x b.x) (impl_MulI a.y b.y)) (impl_MulI a.z b.z))
theorem impl_DotV.t_eq {ρ : Type} (a : V3) (b : V3) (K : Iv → Option ρ) : impl_DotV.t a b K = K (impl_DotV a b) := rfl
theorem impl_DotV.gives (a : V3) (b : V3) : GivesV Try.prog 56 [cV3.enc a, cV3.enc b] (cIv.enc (impl_DotV a b)) :=
  givesT hmix [impl_MulI.e, impl_AddI.e] 0 none Try.func56 rfl rfl ((by kernel_rfl : run1 Try.prog (tab [impl_MulI.e, impl_AddI.e]) 0 none noL Try.f56 [cV3.enc a, cV3.enc b] [] = impl_DotV.t a b fun r => some (cIv.enc r, [])).trans (impl_DotV.t_eq a b _))
def impl_DotV.e : Entry Try.prog := entry2 cV3 cV3 cIv 56 impl_DotV impl_DotV.gives

/-! ### impl.ApplyM -/
def impl_ApplyM.t {ρ : Type} (m : M3) (a : V3) (K : V3 → Option ρ) : Option ρ := K (V3.mk (impl_DotV m.a a) (impl_DotV m.b a) (impl_DotV m.c a))
theorem impl_ApplyM.t_eq {ρ : Type} (m : M3) (a : V3) (K : V3 → Option ρ) : impl_ApplyM.t m a K = K (impl_ApplyM m a) := rfl
theorem impl_ApplyM.gives (m : M3) (a : V3) : GivesV Try.prog 22 [cM3.enc m, cV3.enc a] (cV3.enc (impl_ApplyM m a)) :=
  givesT hmix [impl_DotV.e] 0 none Try.func22 rfl rfl ((by kernel_rfl : run1 Try.prog (tab [impl_DotV.e]) 0 none noL Try.f22 [cM3.enc m, cV3.enc a] [] = impl_ApplyM.t m a fun r => some (cV3.enc r, [])).trans (impl_ApplyM.t_eq m a _))
def impl_ApplyM.e : Entry Try.prog := entry2 cM3 cV3 cV3 22 impl_ApplyM impl_ApplyM.gives

/-! ### impl.MulM -/
def impl_MulM.t {ρ : Type} (m : M3) (n : M3) (K : M3 → Option ρ) : Option ρ := let t1 := (impl_transposed n); K (M3.mk (impl_ApplyM t1 m.a) (impl_ApplyM t1 m.b) (impl_ApplyM t1 m.c))
theorem impl_MulM.t_eq {ρ : Type} (m : M3) (n : M3) (K : M3 → Option ρ) : impl_MulM.t m n K = K (impl_MulM m n) := rfl
theorem impl_MulM.gives (m : M3) (n : M3) : GivesV Try.prog 23 [cM3.enc m, cM3.enc n] (cM3.enc (impl_MulM m n)) :=
  givesT hmix [impl_transposed.e, impl_ApplyM.e] 0 none Try.func23 rfl rfl ((by kernel_rfl : run1 Try.prog (tab [impl_transposed.e, impl_ApplyM.e]) 0 none noL Try.f23 [cM3.enc m, cM3.enc n] [] = impl_MulM.t m n fun r => some (cM3.enc r, [])).trans (impl_MulM.t_eq m n _))
def impl_MulM.e : Entry Try.prog := entry2 cM3 cM3 cM3 23 impl_MulM impl_MulM.gives

/-! ### spec.l04Ok -/
def spec_l04Ok.t {ρ : Type} (a : Iv) (K : Bool → Option ρ) : Option ρ := bif decide ((-1152921504606846976) < a.lo) then (bif decide (a.lo ≤ a.hi) then (K (decide (a.hi < 1152921504606846976))) else (K false)) else (K false)
theorem spec_l04Ok.t_eq {ρ : Type} (a : Iv) (K : Bool → Option ρ) : spec_l04Ok.t a K = K (spec_l04Ok a) := cq (fun h0 => cq (fun h1 => rfl) (fun h1 => rfl)) (fun h0 => rfl)
theorem spec_l04Ok.gives (a : Iv) : GivesV Try.prog 33 [cIv.enc a] (cBool.enc (spec_l04Ok a)) :=
  givesT hmix [] 0 none Try.func33 rfl rfl ((by kernel_rfl : run1 Try.prog (tab []) 0 none noL Try.f33 [cIv.enc a] [] = spec_l04Ok.t a fun r => some (cBool.enc r, [])).trans (spec_l04Ok.t_eq a _))
def spec_l04Ok.e : Entry Try.prog := entry1 cIv cBool 33 spec_l04Ok spec_l04Ok.gives

/-! ### spec.l04Whole -/
def spec_l04Whole.t {ρ : Type} (K : Iv → Option ρ) : Option ρ := K (Iv.mk (-1152921504606846976) 1152921504606846976)
theorem spec_l04Whole.t_eq {ρ : Type} (K : Iv → Option ρ) : spec_l04Whole.t K = K spec_l04Whole := rfl
theorem spec_l04Whole.gives : GivesV Try.prog 41 [] (cIv.enc spec_l04Whole) :=
  givesT hmix [] 0 none Try.func41 rfl rfl ((by kernel_rfl : run1 Try.prog (tab []) 0 none noL Try.f41 [] [] = spec_l04Whole.t fun r => some (cIv.enc r, [])).trans (spec_l04Whole.t_eq _))
def spec_l04Whole.e : Entry Try.prog := entry0 cIv 41 spec_l04Whole spec_l04Whole.gives

/-! ### spec.l00Max -/
def spec_l00Max.t {ρ : Type} (a : Int) (b : Int) (K : Int → Option ρ) : Option ρ := bif decide (a > b) then (K a) else (K b)
theorem spec_l00Max.t_eq {ρ : Type} (a : Int) (b : Int) (K : Int → Option ρ) : spec_l00Max.t a b K = K (spec_l00Max a b) := cq (fun h0 => rfl) (fun h0 => rfl)
theorem spec_l00Max.gives (a : Int) (b : Int) : GivesV Try.prog 95 [(cInt .i64).enc a, (cInt .i64).enc b] ((cInt .i64).enc (spec_l00Max a b)) :=
  givesT hmix [] 0 none Try.func95 rfl rfl ((by kernel_rfl : run1 Try.prog (tab []) 0 none noL Try.f95 [(cInt .i64).enc a, (cInt .i64).enc b] [] = spec_l00Max.t a b fun r => some ((cInt .i64).enc r, [])).trans (spec_l00Max.t_eq a b _))
def spec_l00Max.e : Entry Try.prog := entry2 (cInt .i64) (cInt .i64) (cInt .i64) 95 spec_l00Max spec_l00Max.gives

/-! ### spec.l00Min -/
def spec_l00Min.t {ρ : Type} (a : Int) (b : Int) (K : Int → Option ρ) : Option ρ := bif decide (a < b) then (K a) else (K b)
theorem spec_l00Min.t_eq {ρ : Type} (a : Int) (b : Int) (K : Int → Option ρ) : spec_l00Min.t a b K = K (spec_l00Min a b) := cq (fun h0 => rfl) (fun h0 => rfl)
theorem spec_l00Min.gives (a : Int) (b : Int) : GivesV Try.prog 96 [(cInt .i64).enc a, (cInt .i64).enc b] ((cInt .i64).enc (spec_l00Min a b)) :=
  givesT hmix [] 0 none Try.func96 rfl rfl ((by kernel_rfl : run1 Try.prog (tab []) 0 none noL Try.f96 [(cInt .i64).enc a, (cInt .i64).enc b] [] = spec_l00Min.t a b fun r => some ((cInt .i64).enc r, [])).trans (spec_l00Min.t_eq a b _))
def spec_l00Min.e : Entry Try.prog := entry2 (cInt .i64) (cInt .i64) (cInt .i64) 96 spec_l00Min spec_l00Min.gives

/-! ### spec.MeetI -/
def spec_MeetI.t {ρ : Type} (a : Iv) (b : Iv) (K : (Iv × Bool) → Option ρ) : Option ρ := bif (!(spec_l04Ok a)) then (bif (!(spec_l04Ok b)) then (K (spec_l04Whole, true)) else (bif (!(spec_l04Ok a)) then (K (b, true)) else (bif (!(spec_l04Ok b)) then (K (a, true)) else (let t6 := (spec_l00Max a.lo b.lo); let t7 := (spec_l00Min a.hi b.hi); bif decide (t6 > t7) then (K ((Iv.mk 0 0), false)) else (K ((Iv.mk t6 t7), true)))))) else (bif (!(spec_l04Ok a)) then (K (b, true)) else (bif (!(spec_l04Ok b)) then (K (a, true)) else (let t10 := (spec_l00Max a.lo b.lo); let t11 := (spec_l00Min a.hi b.hi); bif decide (t10 > t11) then (K ((Iv.mk 0 0), false)) else (K ((Iv.mk t10 t11), true)))))
theorem spec_MeetI.t_eq {ρ : Type} (a : Iv) (b : Iv) (K : (Iv × Bool) → Option ρ) : spec_MeetI.t a b K = K (spec_MeetI a b) := cq (fun h0 => cq (fun h1 => rfl) (fun h1 => cq (fun h2 => rfl) (fun h2 => cq (fun h3 => rfl) (fun h3 => cq (fun h4 => rfl) (fun h4 => rfl))))) (fun h0 => cq (fun h1 => rfl) (fun h1 => cq (fun h2 => rfl) (fun h2 => cq (fun h3 => rfl) (fun h3 => rfl))))
theorem spec_MeetI.gives (a : Iv) (b : Iv) : GivesV Try.prog 85 [cIv.enc a, cIv.enc b] ((cT2 cIv cBool).enc (spec_MeetI a b)) :=
  givesT hmix [spec_l04Ok.e, spec_l04Whole.e, spec_l00Max.e, spec_l00Min.e] 0 none Try.func85 rfl rfl ((by kernel_rfl : run1 Try.prog (tab [spec_l04Ok.e, spec_l04Whole.e, spec_l00Max.e, spec_l00Min.e]) 0 none noL Try.f85 [cIv.enc a, cIv.enc b] [] = spec_MeetI.t a b fun r => some ((cT2 cIv cBool).enc r, [])).trans (spec_MeetI.t_eq a b _))
def spec_MeetI.e : Entry Try.prog := entry2 cIv cIv (cT2 cIv cBool) 85 spec_MeetI spec_MeetI.gives

/-! ### spec.OverlapI -/
def spec_OverlapI.t {ρ : Type} (a : Iv) (b : Iv) (K : Bool → Option ρ) : Option ρ := K ((spec_MeetI a b).2)
theorem spec_OverlapI.t_eq {ρ : Type} (a : Iv) (b : Iv) (K : Bool → Option ρ) : spec_OverlapI.t a b K = K (spec_OverlapI a b) := rfl
theorem spec_OverlapI.gives (a : Iv) (b : Iv) : GivesV Try.prog 55 [cIv.enc a, cIv.enc b] (cBool.enc (spec_OverlapI a b)) :=
  givesT hmix [spec_MeetI.e] 0 none Try.func55 rfl rfl ((by kernel_rfl : run1 Try.prog (tab [spec_MeetI.e]) 0 none noL Try.f55 [cIv.enc a, cIv.enc b] [] = spec_OverlapI.t a b fun r => some (cBool.enc r, [])).trans (spec_OverlapI.t_eq a b _))
def spec_OverlapI.e : Entry Try.prog := entry2 cIv cIv cBool 55 spec_OverlapI spec_OverlapI.gives

/-! ### spec.OverlapV -/
def spec_OverlapV.t {ρ : Type} (a : V3) (b : V3) (K : Bool → Option ρ) : Option ρ := bif (spec_OverlapI a.x b.x) then (bif (spec_OverlapI a.y b.y) then (K (spec_OverlapI a.z b.z)) else (K false)) else (K false)
theorem spec_OverlapV.t_eq {ρ : Type} (a : V3) (b : V3) (K : Bool → Option ρ) : spec_OverlapV.t a b K = K (spec_OverlapV a b) := cq (fun h0 => cq (fun h1 => rfl) (fun h1 => rfl)) (fun h0 => rfl)
theorem spec_OverlapV.gives (a : V3) (b : V3) : GivesV Try.prog 21 [cV3.enc a, cV3.enc b] (cBool.enc (spec_OverlapV a b)) :=
  givesT hmix [spec_OverlapI.e] 0 none Try.func21 rfl rfl ((by kernel_rfl : run1 Try.prog (tab [spec_OverlapI.e]) 0 none noL Try.f21 [cV3.enc a, cV3.enc b] [] = spec_OverlapV.t a b fun r => some (cBool.enc r, [])).trans (spec_OverlapV.t_eq a b _))
def spec_OverlapV.e : Entry Try.prog := entry2 cV3 cV3 cBool 21 spec_OverlapV spec_OverlapV.gives

/-! ### impl.IsWhole -/
def impl_IsWhole.t {ρ : Type} (i : Iv) (K : Bool → Option ρ) : Option ρ := K (!(impl_ValidInterval i))
theorem impl_IsWhole.t_eq {ρ : Type} (i : Iv) (K : Bool → Option ρ) : impl_IsWhole.t i K = K (impl_IsWhole i) := rfl
theorem impl_IsWhole.gives (i : Iv) : GivesV Try.prog 36 [cIv.enc i] (cBool.enc (impl_IsWhole i)) :=
  givesT hmix [impl_ValidInterval.e] 0 none Try.func36 rfl rfl ((by kernel_rfl : run1 Try.prog (tab [impl_ValidInterval.e]) 0 none noL Try.f36 [cIv.enc i] [] = impl_IsWhole.t i fun r => some (cBool.enc r, [])).trans (impl_IsWhole.t_eq i _))
def impl_IsWhole.e : Entry Try.prog := entry1 cIv cBool 36 impl_IsWhole impl_IsWhole.gives

/-! ### impl.NegI -/
def impl_NegI.t {ρ : Type} (a : Iv) (K : Iv → Option ρ) : Option ρ := bif (impl_IsWhole a) then (K impl_Whole) else (K (Iv.mk (w64 (0 - a.hi)) (w64 (0 - a.lo))))
theorem impl_NegI.t_eq {ρ : Type} (a : Iv) (K : Iv → Option ρ) : impl_NegI.t a K = K (impl_NegI a) := cq (fun h0 => rfl) (fun h0 => rfl)
theorem impl_NegI.gives (a : Iv) : GivesV Try.prog 79 [cIv.enc a] (cIv.enc (impl_NegI a)) :=
  givesT hmix [impl_IsWhole.e, impl_Whole.e] 0 none Try.func79 rfl rfl ((by kernel_rfl : run1 Try.prog (tab [impl_IsWhole.e, impl_Whole.e]) 0 none noL Try.f79 [cIv.enc a] [] = impl_NegI.t a fun r => some (cIv.enc r, [])).trans (impl_NegI.t_eq a _))
def impl_NegI.e : Entry Try.prog := entry1 cIv cIv 79 impl_NegI impl_NegI.gives

/-! ### impl.SubI -/
def impl_SubI.t {ρ : Type} (a : Iv) (b : Iv) (K : Iv → Option ρ) : Option ρ := K (impl_AddI a (impl_NegI b))
theorem impl_SubI.t_eq {ρ : Type} (a : Iv) (b : Iv) (K : Iv → Option ρ) : impl_SubI.t a b K = K (impl_SubI a b) := rfl
theorem impl_SubI.gives (a : Iv) (b : Iv) : GivesV Try.prog 48 [cIv.enc a, cIv.enc b] (cIv.enc (impl_SubI a b)) :=
  givesT hmix [impl_NegI.e, impl_AddI.e] 0 none Try.func48 rfl rfl ((by kernel_rfl : run1 Try.prog (tab [impl_NegI.e, impl_AddI.e]) 0 none noL Try.f48 [cIv.enc a, cIv.enc b] [] = impl_SubI.t a b fun r => some (cIv.enc r, [])).trans (impl_SubI.t_eq a b _))
def impl_SubI.e : Entry Try.prog := entry2 cIv cIv cIv 48 impl_SubI impl_SubI.gives

/-! ### impl.CrossV -/
def impl_CrossV.t {ρ : Type} (a : V3) (b : V3) (K : V3 → Option ρ) : Option ρ := K (V3.mk (impl_SubI (impl_MulI a.y b.z) (impl_MulI a.z b.y)) (impl_SubI (impl_MulI a.z b.x) (impl_MulI a.x b.z)) (impl_SubI (impl_MulI a.x b.y) (impl_MulI a.y b.x)))
theorem impl_CrossV.t_eq {ρ : Type} (a : V3) (b : V3) (K : V3 → Option ρ) : impl_CrossV.t a b K = K (impl_CrossV a b) := rfl
theorem impl_CrossV.gives (a : V3) (b : V3) : GivesV Try.prog 58 [cV3.enc a, cV3.enc b] (cV3.enc (impl_CrossV a b)) :=
  givesT hmix [impl_MulI.e, impl_SubI.e] 0 none Try.func58 rfl rfl ((by kernel_rfl : run1 Try.prog (tab [impl_MulI.e, impl_SubI.e]) 0 none noL Try.f58 [cV3.enc a, cV3.enc b] [] = impl_CrossV.t a b fun r => some (cV3.enc r, [])).trans (impl_CrossV.t_eq a b _))
def impl_CrossV.e : Entry Try.prog := entry2 cV3 cV3 cV3 58 impl_CrossV impl_CrossV.gives

/-! ### impl.HasI -/
def impl_HasI.t {ρ : Type} (a : Iv) (n : Int) (K : Bool → Option ρ) : Option ρ := bif (impl_IsWhole a) then (K true) else (K (impl_within n a.lo a.hi))
theorem impl_HasI.t_eq {ρ : Type} (a : Iv) (n : Int) (K : Bool → Option ρ) : impl_HasI.t a n K = K (impl_HasI a n) := cq (fun h0 => rfl) (fun h0 => rfl)
theorem impl_HasI.gives (a : Iv) (n : Int) : GivesV Try.prog 59 [cIv.enc a, (cInt .i64).enc n] (cBool.enc (impl_HasI a n)) :=
  givesT hmix [impl_IsWhole.e, impl_within.e] 0 none Try.func59 rfl rfl ((by kernel_rfl : run1 Try.prog (tab [impl_IsWhole.e, impl_within.e]) 0 none noL Try.f59 [cIv.enc a, (cInt .i64).enc n] [] = impl_HasI.t a n fun r => some (cBool.enc r, [])).trans (impl_HasI.t_eq a n _))
def impl_HasI.e : Entry Try.prog := entry2 cIv (cInt .i64) cBool 59 impl_HasI impl_HasI.gives

/-! ### bits.Len64 -/
theorem bits_Len64.gives (x : Int) (hpre : (decide (0 ≤ x ∧ x < 18446744073709551616)) = true) : GivesV Try.prog 127 [(cInt .u64).enc x] ((cInt .i64).enc (bits_Len64 x)) := by
  simp only [decide_eq_true_eq] at hpre
  exact givesC Try.func127 rfl (by kernel_rfl) rfl rfl (fun w => Go.Proofs.Try.bits_Len64 x w (by omega) (by omega))
def bits_Len64.e : Entry Try.prog := entry1P (cInt .u64) (cInt .i64) 127 bits_Len64 (fun x => decide (0 ≤ x ∧ x < 18446744073709551616)) bits_Len64.gives


/-! ### bits.LeadingZeros64 -/
def bits_LeadingZeros64.t {ρ : Type} (x : Int) (K : Int → Option ρ) : Option ρ := bif decide (0 ≤ x ∧ x < 18446744073709551616) then (K (w64 (64 - (bits_Len64 x)))) else none
theorem bits_LeadingZeros64.t_eq {ρ : Type} (x : Int) (hpre : (decide (0 ≤ x ∧ x < 18446744073709551616)) = true) (K : Int → Option ρ) : bits_LeadingZeros64.t x K = K (bits_LeadingZeros64 x) := cqT (by first | exact u64_neg _ | (simp only [decide_eq_true_eq, decide_eq_false_iff_not] at *; omega) | (simp only [Bool.not_eq_eq_eq_not, Bool.not_false, inside_iff, l00In_iff, decide_eq_true_eq, decide_eq_false_iff_not, w64_def, u64_def] at *; omega)) (fun h0 => rfl)
theorem bits_LeadingZeros64.gives (x : Int) (hpre : (decide (0 ≤ x ∧ x < 18446744073709551616)) = true) : GivesV Try.prog 126 [(cInt .u64).enc x] ((cInt .i64).enc (bits_LeadingZeros64 x)) :=
  givesT hmix [bits_Len64.e] 0 none Try.func126 rfl rfl ((by kernel_rfl : run1 Try.prog (tab [bits_Len64.e]) 0 none noL Try.f126 [(cInt .u64).enc x] [] = bits_LeadingZeros64.t x fun r => some ((cInt .i64).enc r, [])).trans (bits_LeadingZeros64.t_eq x hpre _))
def bits_LeadingZeros64.e : Entry Try.prog := entry1P (cInt .u64) (cInt .i64) 126 bits_LeadingZeros64 (fun x => decide (0 ≤ x ∧ x < 18446744073709551616)) bits_LeadingZeros64.gives

/-! ### bits.Div64 -/
def bits_Div64.ls : Option (List Nat) := some [2, 8, 9, 10, 11, 13, 14, 15, 16, 17, 18]
def bits_Div64.env17 (y_ : Int) (s_ : Int) (yn1 : Int) (yn0 : Int) (un32 : Int) (un1 : Int) (un0 : Int) (v : Int × Int) : Env := [(2, .int .u64 y_), (8, .int .u64 s_), (9, .int .u64 yn1), (10, .int .u64 yn0), (11, .int .u64 un32), (13, .int .u64 un1), (14, .int .u64 un0), (15, .int .u64 v.1), (16, .int .u64 v.2)]
def bits_Div64.heap17 (y_ : Int) (s_ : Int) (yn1 : Int) (yn0 : Int) (un32 : Int) (un1 : Int) (un0 : Int) (v : Int × Int) : LH := []
def bits_Div64.L17 : LEntry := ⟨17, fun _ tm σ K => match tm, σ with
  | [(2, .int .u64 y_), (8, .int .u64 s_), (9, .int .u64 yn1), (10, .int .u64 yn0), (11, .int .u64 un32), (13, .int .u64 un1), (14, .int .u64 un0), (15, .int .u64 q1), (16, .int .u64 rhat)], [] => (match decide (2147483648 ≤ yn1 ∧ yn1 < 4294967296 ∧ 0 ≤ rhat ∧ rhat < 4294967296) with | true => K (.exit 0) (bits_Div64.env17 y_ s_ yn1 yn0 un32 un1 un0 (bits_Div64.fin17 y_ s_ yn1 yn0 un32 un1 un0 (q1, rhat))) (bits_Div64.heap17 y_ s_ yn1 yn0 un32 un1 un0 (bits_Div64.fin17 y_ s_ yn1 yn0 un32 un1 un0 (q1, rhat))) | false => none)
  | _, _ => none⟩
def bits_Div64.env24 (y_ : Int) (s_ : Int) (yn1 : Int) (yn0 : Int) (un32 : Int) (un1 : Int) (un0 : Int) (q1 : Int) (un21 : Int) (v : Int × Int) : Env := [(2, .int .u64 y_), (8, .int .u64 s_), (9, .int .u64 yn1), (10, .int .u64 yn0), (11, .int .u64 un32), (13, .int .u64 un1), (14, .int .u64 un0), (15, .int .u64 q1), (16, .int .u64 v.1), (17, .int .u64 un21), (18, .int .u64 v.2)]
def bits_Div64.heap24 (y_ : Int) (s_ : Int) (yn1 : Int) (yn0 : Int) (un32 : Int) (un1 : Int) (un0 : Int) (q1 : Int) (un21 : Int) (v : Int × Int) : LH := []
def bits_Div64.L24 : LEntry := ⟨24, fun _ tm σ K => match tm, σ with
  | [(2, .int .u64 y_), (8, .int .u64 s_), (9, .int .u64 yn1), (10, .int .u64 yn0), (11, .int .u64 un32), (13, .int .u64 un1), (14, .int .u64 un0), (15, .int .u64 q1), (16, .int .u64 rhat), (17, .int .u64 un21), (18, .int .u64 q0)], [] => (match decide (2147483648 ≤ yn1 ∧ yn1 < 4294967296 ∧ 0 ≤ rhat ∧ rhat < 4294967296) with | true => K (.exit 2) (bits_Div64.env24 y_ s_ yn1 yn0 un32 un1 un0 q1 un21 (bits_Div64.fin24 y_ s_ yn1 yn0 un32 un1 un0 q1 un21 (rhat, q0))) (bits_Div64.heap24 y_ s_ yn1 yn0 un32 un1 un0 q1 un21 (bits_Div64.fin24 y_ s_ yn1 yn0 un32 un1 un0 q1 un21 (rhat, q0))) | false => none)
  | _, _ => none⟩
def bits_Div64.lt17 {ρ : Type} (y_ : Int) (s_ : Int) (yn1 : Int) (yn0 : Int) (un32 : Int) (un1 : Int) (un0 : Int) (q1 : Int) (rhat : Int) (K : Sum (Int × Int) (Int × Int) → Option ρ) : Option ρ := bif decide (q1 ≥ 4294967296) then (bif decide ((u64 (rhat + yn1)) ≥ 4294967296) then (K (Sum.inr ((u64 (q1 - 1)), (u64 (rhat + yn1))))) else (K (Sum.inl ((u64 (q1 - 1)), (u64 (rhat + yn1)))))) else (bif decide ((u64 (q1 * yn0)) > (u64 ((u64 (4294967296 * rhat)) + un1))) then (bif decide ((u64 (rhat + yn1)) ≥ 4294967296) then (K (Sum.inr ((u64 (q1 - 1)), (u64 (rhat + yn1))))) else (K (Sum.inl ((u64 (q1 - 1)), (u64 (rhat + yn1)))))) else (K (Sum.inr (q1, rhat))))
theorem bits_Div64.lt17_eq {ρ : Type} (y_ : Int) (s_ : Int) (yn1 : Int) (yn0 : Int) (un32 : Int) (un1 : Int) (un0 : Int) (q1 : Int) (rhat : Int) (hpre : 2147483648 ≤ yn1 ∧ yn1 < 4294967296 ∧ 0 ≤ rhat ∧ rhat < 4294967296) (K : Sum (Int × Int) (Int × Int) → Option ρ) : bits_Div64.lt17 y_ s_ yn1 yn0 un32 un1 un0 q1 rhat K = K (bits_Div64.rnd17 y_ s_ yn1 yn0 un32 un1 un0 q1 rhat) := cq (fun h0 => cq (fun h1 => rfl) (fun h1 => rfl)) (fun h0 => cq (fun h1 => cq (fun h2 => rfl) (fun h2 => rfl)) (fun h1 => rfl))
theorem bits_Div64.step17 (y_ : Int) (s_ : Int) (yn1 : Int) (yn0 : Int) (un32 : Int) (un1 : Int) (un0 : Int) (q1 : Int) (rhat : Int) (k : Nat) (R : Type) (K : LX → Env → LH → Option R) : loopN Try.prog 0 bits_Div64.ls (k + 1) (exec Try.prog (tab (P := Try.prog) [bits_LeadingZeros64.e]) 0 135 0 bits_Div64.ls (lam [bits_Div64.L17, bits_Div64.L24]) (cOf Try.f118 0)) (bits_Div64.env17 y_ s_ yn1 yn0 un32 un1 un0 (q1, rhat)) (bits_Div64.heap17 y_ s_ yn1 yn0 un32 un1 un0 (q1, rhat)) K = bits_Div64.lt17 y_ s_ yn1 yn0 un32 un1 un0 q1 rhat (sumK (fun v => loopN Try.prog 0 bits_Div64.ls k (exec Try.prog (tab (P := Try.prog) [bits_LeadingZeros64.e]) 0 135 0 bits_Div64.ls (lam [bits_Div64.L17, bits_Div64.L24]) (cOf Try.f118 0)) (bits_Div64.env17 y_ s_ yn1 yn0 un32 un1 un0 v) (bits_Div64.heap17 y_ s_ yn1 yn0 un32 un1 un0 v) K) (fun v => K (.exit 0) (bits_Div64.env17 y_ s_ yn1 yn0 un32 un1 un0 v) (bits_Div64.heap17 y_ s_ yn1 yn0 un32 un1 un0 v))) := by kernel_rfl
theorem bits_Div64.dec17 (y_ : Int) (s_ : Int) (yn1 : Int) (yn0 : Int) (un32 : Int) (un1 : Int) (un0 : Int) (v : Int × Int) (hv : 2147483648 ≤ yn1 ∧ yn1 < 4294967296 ∧ 0 ≤ v.2 ∧ v.2 < 4294967296) (v' : Int × Int) (hr : bits_Div64.rnd17 y_ s_ yn1 yn0 un32 un1 un0 v.1 v.2 = Sum.inl v') : (2147483648 ≤ yn1 ∧ yn1 < 4294967296 ∧ 0 ≤ v'.2 ∧ v'.2 < 4294967296) ∧ (if v'.2 < 2147483648 then 1 else 0) < (if v.2 < 2147483648 then 1 else 0) := by
  simp only [bits_Div64.rnd17, Bool.cond_eq_ite, decide_eq_true_eq] at hr
  have e : u64 (v.2 + yn1) = v.2 + yn1 := u64_id (by omega) (by omega)
  simp only [e] at hr
  (repeat' split at hr) <;> cases hr <;> (simp only []; split <;> split <;> omega)
theorem bits_Div64.to17 : bits_Div64.L17.Ok Try.prog (tab (P := Try.prog) [bits_LeadingZeros64.e]) 0 135 0 bits_Div64.ls (lam [bits_Div64.L17, bits_Div64.L24]) (cOf Try.f118 0) := by
  intro R tm σ K r h
  simp only [bits_Div64.L17] at h
  split at h
  case h_2 => simp at h
  split at h
  case h_2 => simp at h
  rename_i y_ s_ yn1 yn0 un32 un1 un0 q1 rhat _ hc
  exact ⟨_, _, _, h, loop_to (x := 0) (rnd := (fun v : Int × Int => bits_Div64.rnd17 y_ s_ yn1 yn0 un32 un1 un0 v.1 v.2)) (env := fun v : Int × Int => bits_Div64.env17 y_ s_ yn1 yn0 un32 un1 un0 v) (heap := fun v : Int × Int => bits_Div64.heap17 y_ s_ yn1 yn0 un32 un1 un0 v) (Inv := (fun v : Int × Int => 2147483648 ≤ yn1 ∧ yn1 < 4294967296 ∧ 0 ≤ v.2 ∧ v.2 < 4294967296)) (μ := (fun v : Int × Int => (if v.2 < 2147483648 then 1 else 0))) (fun v hv k R K => (bits_Div64.step17 y_ s_ yn1 yn0 un32 un1 un0 v.1 v.2 k R K).trans (bits_Div64.lt17_eq y_ s_ yn1 yn0 un32 un1 un0 v.1 v.2 hv (sumK (fun v => loopN Try.prog 0 bits_Div64.ls k (exec Try.prog (tab (P := Try.prog) [bits_LeadingZeros64.e]) 0 135 0 bits_Div64.ls (lam [bits_Div64.L17, bits_Div64.L24]) (cOf Try.f118 0)) (bits_Div64.env17 y_ s_ yn1 yn0 un32 un1 un0 v) (bits_Div64.heap17 y_ s_ yn1 yn0 un32 un1 un0 v) K) (fun v => K (.exit 0) (bits_Div64.env17 y_ s_ yn1 yn0 un32 un1 un0 v) (bits_Div64.heap17 y_ s_ yn1 yn0 un32 un1 un0 v))))) (fun v hv v' hr => bits_Div64.dec17 y_ s_ yn1 yn0 un32 un1 un0 v hv v' hr) 2 (q1, rhat) (by have := of_decide_eq_true hc; simp only []; omega) (by simp only []; split <;> omega)⟩
def bits_Div64.lt24 {ρ : Type} (y_ : Int) (s_ : Int) (yn1 : Int) (yn0 : Int) (un32 : Int) (un1 : Int) (un0 : Int) (q1 : Int) (un21 : Int) (rhat : Int) (q0 : Int) (K : Sum (Int × Int) (Int × Int) → Option ρ) : Option ρ := bif decide (q0 ≥ 4294967296) then (bif decide ((u64 (rhat + yn1)) ≥ 4294967296) then (K (Sum.inr ((u64 (rhat + yn1)), (u64 (q0 - 1))))) else (K (Sum.inl ((u64 (rhat + yn1)), (u64 (q0 - 1)))))) else (bif decide ((u64 (q0 * yn0)) > (u64 ((u64 (4294967296 * rhat)) + un0))) then (bif decide ((u64 (rhat + yn1)) ≥ 4294967296) then (K (Sum.inr ((u64 (rhat + yn1)), (u64 (q0 - 1))))) else (K (Sum.inl ((u64 (rhat + yn1)), (u64 (q0 - 1)))))) else (K (Sum.inr (rhat, q0))))
theorem bits_Div64.lt24_eq {ρ : Type} (y_ : Int) (s_ : Int) (yn1 : Int) (yn0 : Int) (un32 : Int) (un1 : Int) (un0 : Int) (q1 : Int) (un21 : Int) (rhat : Int) (q0 : Int) (hpre : 2147483648 ≤ yn1 ∧ yn1 < 4294967296 ∧ 0 ≤ rhat ∧ rhat < 4294967296) (K : Sum (Int × Int) (Int × Int) → Option ρ) : bits_Div64.lt24 y_ s_ yn1 yn0 un32 un1 un0 q1 un21 rhat q0 K = K (bits_Div64.rnd24 y_ s_ yn1 yn0 un32 un1 un0 q1 un21 rhat q0) := cq (fun h0 => cq (fun h1 => rfl) (fun h1 => rfl)) (fun h0 => cq (fun h1 => cq (fun h2 => rfl) (fun h2 => rfl)) (fun h1 => rfl))
theorem bits_Div64.step24 (y_ : Int) (s_ : Int) (yn1 : Int) (yn0 : Int) (un32 : Int) (un1 : Int) (un0 : Int) (q1 : Int) (un21 : Int) (rhat : Int) (q0 : Int) (k : Nat) (R : Type) (K : LX → Env → LH → Option R) : loopN Try.prog 0 bits_Div64.ls (k + 1) (exec Try.prog (tab (P := Try.prog) [bits_LeadingZeros64.e]) 0 135 0 bits_Div64.ls (lam [bits_Div64.L17, bits_Div64.L24]) (cOf Try.f118 1)) (bits_Div64.env24 y_ s_ yn1 yn0 un32 un1 un0 q1 un21 (rhat, q0)) (bits_Div64.heap24 y_ s_ yn1 yn0 un32 un1 un0 q1 un21 (rhat, q0)) K = bits_Div64.lt24 y_ s_ yn1 yn0 un32 un1 un0 q1 un21 rhat q0 (sumK (fun v => loopN Try.prog 0 bits_Div64.ls k (exec Try.prog (tab (P := Try.prog) [bits_LeadingZeros64.e]) 0 135 0 bits_Div64.ls (lam [bits_Div64.L17, bits_Div64.L24]) (cOf Try.f118 1)) (bits_Div64.env24 y_ s_ yn1 yn0 un32 un1 un0 q1 un21 v) (bits_Div64.heap24 y_ s_ yn1 yn0 un32 un1 un0 q1 un21 v) K) (fun v => K (.exit 2) (bits_Div64.env24 y_ s_ yn1 yn0 un32 un1 un0 q1 un21 v) (bits_Div64.heap24 y_ s_ yn1 yn0 un32 un1 un0 q1 un21 v))) := by kernel_rfl
theorem bits_Div64.dec24 (y_ : Int) (s_ : Int) (yn1 : Int) (yn0 : Int) (un32 : Int) (un1 : Int) (un0 : Int) (q1 : Int) (un21 : Int) (v : Int × Int) (hv : 2147483648 ≤ yn1 ∧ yn1 < 4294967296 ∧ 0 ≤ v.1 ∧ v.1 < 4294967296) (v' : Int × Int) (hr : bits_Div64.rnd24 y_ s_ yn1 yn0 un32 un1 un0 q1 un21 v.1 v.2 = Sum.inl v') : (2147483648 ≤ yn1 ∧ yn1 < 4294967296 ∧ 0 ≤ v'.1 ∧ v'.1 < 4294967296) ∧ (if v'.1 < 2147483648 then 1 else 0) < (if v.1 < 2147483648 then 1 else 0) := by
  simp only [bits_Div64.rnd24, Bool.cond_eq_ite, decide_eq_true_eq] at hr
  have e : u64 (v.1 + yn1) = v.1 + yn1 := u64_id (by omega) (by omega)
  simp only [e] at hr
  (repeat' split at hr) <;> cases hr <;> (simp only []; split <;> split <;> omega)
theorem bits_Div64.to24 : bits_Div64.L24.Ok Try.prog (tab (P := Try.prog) [bits_LeadingZeros64.e]) 0 135 0 bits_Div64.ls (lam [bits_Div64.L17, bits_Div64.L24]) (cOf Try.f118 1) := by
  intro R tm σ K r h
  simp only [bits_Div64.L24] at h
  split at h
  case h_2 => simp at h
  split at h
  case h_2 => simp at h
  rename_i y_ s_ yn1 yn0 un32 un1 un0 q1 rhat un21 q0 _ hc
  exact ⟨_, _, _, h, loop_to (x := 2) (rnd := (fun v : Int × Int => bits_Div64.rnd24 y_ s_ yn1 yn0 un32 un1 un0 q1 un21 v.1 v.2)) (env := fun v : Int × Int => bits_Div64.env24 y_ s_ yn1 yn0 un32 un1 un0 q1 un21 v) (heap := fun v : Int × Int => bits_Div64.heap24 y_ s_ yn1 yn0 un32 un1 un0 q1 un21 v) (Inv := (fun v : Int × Int => 2147483648 ≤ yn1 ∧ yn1 < 4294967296 ∧ 0 ≤ v.1 ∧ v.1 < 4294967296)) (μ := (fun v : Int × Int => (if v.1 < 2147483648 then 1 else 0))) (fun v hv k R K => (bits_Div64.step24 y_ s_ yn1 yn0 un32 un1 un0 q1 un21 v.1 v.2 k R K).trans (bits_Div64.lt24_eq y_ s_ yn1 yn0 un32 un1 un0 q1 un21 v.1 v.2 hv (sumK (fun v => loopN Try.prog 0 bits_Div64.ls k (exec Try.prog (tab (P := Try.prog) [bits_LeadingZeros64.e]) 0 135 0 bits_Div64.ls (lam [bits_Div64.L17, bits_Div64.L24]) (cOf Try.f118 1)) (bits_Div64.env24 y_ s_ yn1 yn0 un32 un1 un0 q1 un21 v) (bits_Div64.heap24 y_ s_ yn1 yn0 un32 un1 un0 q1 un21 v) K) (fun v => K (.exit 2) (bits_Div64.env24 y_ s_ yn1 yn0 un32 un1 un0 q1 un21 v) (bits_Div64.heap24 y_ s_ yn1 yn0 un32 un1 un0 q1 un21 v))))) (fun v hv v' hr => bits_Div64.dec24 y_ s_ yn1 yn0 un32 un1 un0 q1 un21 v hv v' hr) 2 (rhat, q0) (by have := of_decide_eq_true hc; simp only []; omega) (by simp only []; split <;> omega)⟩
theorem bits_Div64.lok : ∀ c, Try.f118.body = some c → LamOk Try.prog (tab (P := Try.prog) [bits_LeadingZeros64.e]) 0 Try.f118.ntmps 0 bits_Div64.ls (lam [bits_Div64.L17, bits_Div64.L24]) (loopsOf c) := by
  intro c hc
  have hb : loopsOf c = [(cOf Try.f118 0), (cOf Try.f118 1)] := by
    have h : loopsOf (Try.f118.body.getD .skip) = [(cOf Try.f118 0), (cOf Try.f118 1)] := by kernel_rfl
    rw [hc] at h
    exact h
  exact lam_ok2 hb (by kernel_rfl) (by kernel_rfl) bits_Div64.to17 bits_Div64.to24
def bits_Div64.t {ρ : Type} (d : Int) (i : Int) (a2 : Int) (K : (Int × Int) → Option ρ) : Option ρ := bif (a2 == 0) then none else (bif decide (a2 ≤ d) then none else (bif (d == 0) then (bif decide (a2 = 0) then none else (bif decide (a2 = 0) then none else (K ((u64 (Int.tdiv i a2)), (Int.tmod i a2))))) else (bif decide (0 ≤ a2 ∧ a2 < 18446744073709551616) then (let t1 := (bits_LeadingZeros64 a2); bif decide ((u64 t1) < 0) then none else (let x2 := (Int.fdiv (u64 (a2 * (2 ^ (min (Int.toNat (u64 t1)) 64)))) 4294967296); let x3 := (andI .u64 (u64 (a2 * (2 ^ (min (Int.toNat (u64 t1)) 64)))) 4294967295); bif decide ((u64 t1) < 0) then none else (bif decide ((u64 (64 - (u64 t1))) < 0) then none else (let x5 := (orI .u64 (u64 (d * (2 ^ (min (Int.toNat (u64 t1)) 64)))) (Int.fdiv i (2 ^ (min (Int.toNat (u64 (64 - (u64 t1)))) 64)))); bif decide ((u64 t1) < 0) then none else (let x6 := (Int.fdiv (u64 (i * (2 ^ (min (Int.toNat (u64 t1)) 64)))) 4294967296); let x7 := (andI .u64 (u64 (i * (2 ^ (min (Int.toNat (u64 t1)) 64)))) 4294967295); bif decide (x2 = 0) then none else (bif decide (2147483648 ≤ x2 ∧ x2 < 4294967296 ∧ 0 ≤ (u64 (x5 - (u64 ((u64 (Int.tdiv x5 x2)) * x2)))) ∧ (u64 (x5 - (u64 ((u64 (Int.tdiv x5 x2)) * x2)))) < 4294967296) then (let t8 := (bits_Div64.fin17 ((u64 (a2 * (2 ^ (min (Int.toNat (u64 t1)) 64))))) ((u64 t1)) x2 x3 x5 x6 x7 ((u64 (Int.tdiv x5 x2)), (u64 (x5 - (u64 ((u64 (Int.tdiv x5 x2)) * x2)))))); let x9 := (u64 (t8.1 * (u64 (a2 * (2 ^ (min (Int.toNat (u64 t1)) 64)))))); bif decide (x2 = 0) then none else (let x10 := (u64 (Int.tdiv (u64 ((u64 ((u64 (x5 * 4294967296)) + x6)) - x9)) x2)); let x11 := (u64 ((u64 ((u64 ((u64 (x5 * 4294967296)) + x6)) - x9)) - (u64 (x10 * x2)))); bif decide (2147483648 ≤ x2 ∧ x2 < 4294967296 ∧ 0 ≤ x11 ∧ x11 < 4294967296) then (let t12 := (bits_Div64.fin24 ((u64 (a2 * (2 ^ (min (Int.toNat (u64 t1)) 64))))) ((u64 t1)) x2 x3 x5 x6 x7 t8.1 ((u64 ((u64 ((u64 (x5 * 4294967296)) + x6)) - x9))) (x11, x10)); bif decide ((u64 t1) < 0) then none else (K ((u64 ((u64 (t8.1 * 4294967296)) + t12.2)), (Int.fdiv (u64 ((u64 ((u64 ((u64 ((u64 ((u64 (x5 * 4294967296)) + x6)) - x9)) * 4294967296)) + x7)) - (u64 (t12.2 * (u64 (a2 * (2 ^ (min (Int.toNat (u64 t1)) 64)))))))) (2 ^ (min (Int.toNat (u64 t1)) 64)))))) else none)) else none)))))) else none)))
theorem bits_Div64.t_eq {ρ : Type} (d : Int) (i : Int) (a2 : Int) (hpre : (decide (0 ≤ d ∧ d < a2 ∧ a2 < 18446744073709551616 ∧ 0 ≤ i ∧ i < 18446744073709551616)) = true) (K : (Int × Int) → Option ρ) : bits_Div64.t d i a2 K = K (bits_Div64 d i a2) := cqF (by first | exact u64_neg _ | exact d64_c (d64_x2 hpre) (orI_rng _ _) | exact d64_c (d64_x2 hpre) (u64_rng _) | exact d64_x2_ne hpre | (simp only [decide_eq_true_eq, decide_eq_false_iff_not, beq_eq_false_iff_ne, ne_eq] at *; omega)) (fun h0 => cqF (by first | exact u64_neg _ | exact d64_c (d64_x2 hpre) (orI_rng _ _) | exact d64_c (d64_x2 hpre) (u64_rng _) | exact d64_x2_ne hpre | (simp only [decide_eq_true_eq, decide_eq_false_iff_not, beq_eq_false_iff_ne, ne_eq] at *; omega)) (fun h1 => cq (fun h2 => cqF (by first | exact u64_neg _ | exact d64_c (d64_x2 hpre) (orI_rng _ _) | exact d64_c (d64_x2 hpre) (u64_rng _) | exact d64_x2_ne hpre | (simp only [decide_eq_true_eq, decide_eq_false_iff_not, beq_eq_false_iff_ne, ne_eq] at *; omega)) (fun h3 => cqF (by first | exact u64_neg _ | exact d64_c (d64_x2 hpre) (orI_rng _ _) | exact d64_c (d64_x2 hpre) (u64_rng _) | exact d64_x2_ne hpre | (simp only [decide_eq_true_eq, decide_eq_false_iff_not, beq_eq_false_iff_ne, ne_eq] at *; omega)) (fun h4 => rfl))) (fun h2 => cqT (by first | exact u64_neg _ | exact d64_c (d64_x2 hpre) (orI_rng _ _) | exact d64_c (d64_x2 hpre) (u64_rng _) | exact d64_x2_ne hpre | (simp only [decide_eq_true_eq, decide_eq_false_iff_not, beq_eq_false_iff_ne, ne_eq] at *; omega)) (fun h3 => cqF (by first | exact u64_neg _ | exact d64_c (d64_x2 hpre) (orI_rng _ _) | exact d64_c (d64_x2 hpre) (u64_rng _) | exact d64_x2_ne hpre | (simp only [decide_eq_true_eq, decide_eq_false_iff_not, beq_eq_false_iff_ne, ne_eq] at *; omega)) (fun h4 => cqF (by first | exact u64_neg _ | exact d64_c (d64_x2 hpre) (orI_rng _ _) | exact d64_c (d64_x2 hpre) (u64_rng _) | exact d64_x2_ne hpre | (simp only [decide_eq_true_eq, decide_eq_false_iff_not, beq_eq_false_iff_ne, ne_eq] at *; omega)) (fun h5 => cqF (by first | exact u64_neg _ | exact d64_c (d64_x2 hpre) (orI_rng _ _) | exact d64_c (d64_x2 hpre) (u64_rng _) | exact d64_x2_ne hpre | (simp only [decide_eq_true_eq, decide_eq_false_iff_not, beq_eq_false_iff_ne, ne_eq] at *; omega)) (fun h6 => cqF (by first | exact u64_neg _ | exact d64_c (d64_x2 hpre) (orI_rng _ _) | exact d64_c (d64_x2 hpre) (u64_rng _) | exact d64_x2_ne hpre | (simp only [decide_eq_true_eq, decide_eq_false_iff_not, beq_eq_false_iff_ne, ne_eq] at *; omega)) (fun h7 => cqF (by first | exact u64_neg _ | exact d64_c (d64_x2 hpre) (orI_rng _ _) | exact d64_c (d64_x2 hpre) (u64_rng _) | exact d64_x2_ne hpre | (simp only [decide_eq_true_eq, decide_eq_false_iff_not, beq_eq_false_iff_ne, ne_eq] at *; omega)) (fun h8 => cqT (by first | exact u64_neg _ | exact d64_c (d64_x2 hpre) (orI_rng _ _) | exact d64_c (d64_x2 hpre) (u64_rng _) | exact d64_x2_ne hpre | (simp only [decide_eq_true_eq, decide_eq_false_iff_not, beq_eq_false_iff_ne, ne_eq] at *; omega)) (fun h9 => cqF (by first | exact u64_neg _ | exact d64_c (d64_x2 hpre) (orI_rng _ _) | exact d64_c (d64_x2 hpre) (u64_rng _) | exact d64_x2_ne hpre | (simp only [decide_eq_true_eq, decide_eq_false_iff_not, beq_eq_false_iff_ne, ne_eq] at *; omega)) (fun h10 => cqT (by first | exact u64_neg _ | exact d64_c (d64_x2 hpre) (orI_rng _ _) | exact d64_c (d64_x2 hpre) (u64_rng _) | exact d64_x2_ne hpre | (simp only [decide_eq_true_eq, decide_eq_false_iff_not, beq_eq_false_iff_ne, ne_eq] at *; omega)) (fun h11 => cqF (by first | exact u64_neg _ | exact d64_c (d64_x2 hpre) (orI_rng _ _) | exact d64_c (d64_x2 hpre) (u64_rng _) | exact d64_x2_ne hpre | (simp only [decide_eq_true_eq, decide_eq_false_iff_not, beq_eq_false_iff_ne, ne_eq] at *; omega)) (fun h12 => rfl)))))))))))))
theorem bits_Div64.gives (d : Int) (i : Int) (a2 : Int) (hpre : (decide (0 ≤ d ∧ d < a2 ∧ a2 < 18446744073709551616 ∧ 0 ≤ i ∧ i < 18446744073709551616)) = true) : GivesV Try.prog 118 [(cInt .u64).enc d, (cInt .u64).enc i, (cInt .u64).enc a2] ((cT2 (cInt .u64) (cInt .u64)).enc (bits_Div64 d i a2)) :=
  givesL hmix [bits_LeadingZeros64.e] 0 bits_Div64.ls (lam [bits_Div64.L17, bits_Div64.L24]) Try.func118 rfl rfl bits_Div64.lok ((by kernel_rfl : run1 Try.prog (tab [bits_LeadingZeros64.e]) 0 bits_Div64.ls (lam [bits_Div64.L17, bits_Div64.L24]) Try.f118 [(cInt .u64).enc d, (cInt .u64).enc i, (cInt .u64).enc a2] [] = bits_Div64.t d i a2 fun r => some ((cT2 (cInt .u64) (cInt .u64)).enc r, [])).trans (bits_Div64.t_eq d i a2 hpre _))
def bits_Div64.e : Entry Try.prog := entry3P (cInt .u64) (cInt .u64) (cInt .u64) (cT2 (cInt .u64) (cInt .u64)) 118 bits_Div64 (fun d i a2 => decide (0 ≤ d ∧ d < a2 ∧ a2 < 18446744073709551616 ∧ 0 ≤ i ∧ i < 18446744073709551616)) bits_Div64.gives

/-! ### impl.divided -/
def impl_divided.t {ρ : Type} (hi_0 : Int) (lo_1 : Int) (d : Int) (K : (Int × Int × Int) → Option ρ) : Option ρ := bif decide (d = 0) then none else (bif decide (d = 0) then none else (bif decide (0 ≤ (Int.tmod hi_0 d) ∧ (Int.tmod hi_0 d) < d ∧ d < 18446744073709551616 ∧ 0 ≤ lo_1 ∧ lo_1 < 18446744073709551616) then (let t1 := (bits_Div64 (Int.tmod hi_0 d) lo_1 d); K ((u64 (Int.tdiv hi_0 d)), t1.1, t1.2)) else none))
theorem impl_divided.t_eq {ρ : Type} (hi_0 : Int) (lo_1 : Int) (d : Int) (hpre : (decide (0 ≤ hi_0 ∧ hi_0 < 18446744073709551616 ∧ 0 ≤ lo_1 ∧ lo_1 < 18446744073709551616 ∧ 0 < d ∧ d < 18446744073709551616)) = true) (K : (Int × Int × Int) → Option ρ) : impl_divided.t hi_0 lo_1 d K = K (impl_divided hi_0 lo_1 d) := cqF (by first | exact pd_divided hpre | (simp only [decide_eq_true_eq, decide_eq_false_iff_not] at *; omega)) (fun h0 => cqF (by first | exact pd_divided hpre | (simp only [decide_eq_true_eq, decide_eq_false_iff_not] at *; omega)) (fun h1 => cqT (by first | exact pd_divided hpre | (simp only [decide_eq_true_eq, decide_eq_false_iff_not] at *; omega)) (fun h2 => rfl)))
theorem impl_divided.gives (hi_0 : Int) (lo_1 : Int) (d : Int) (hpre : (decide (0 ≤ hi_0 ∧ hi_0 < 18446744073709551616 ∧ 0 ≤ lo_1 ∧ lo_1 < 18446744073709551616 ∧ 0 < d ∧ d < 18446744073709551616)) = true) : GivesV Try.prog 111 [(cInt .u64).enc hi_0, (cInt .u64).enc lo_1, (cInt .u64).enc d] ((cT3 (cInt .u64) (cInt .u64) (cInt .u64)).enc (impl_divided hi_0 lo_1 d)) :=
  givesT hmix [bits_Div64.e] 0 none Try.func111 rfl rfl ((by kernel_rfl : run1 Try.prog (tab [bits_Div64.e]) 0 none noL Try.f111 [(cInt .u64).enc hi_0, (cInt .u64).enc lo_1, (cInt .u64).enc d] [] = impl_divided.t hi_0 lo_1 d fun r => some ((cT3 (cInt .u64) (cInt .u64) (cInt .u64)).enc r, [])).trans (impl_divided.t_eq hi_0 lo_1 d hpre _))
def impl_divided.e : Entry Try.prog := entry3P (cInt .u64) (cInt .u64) (cInt .u64) (cT3 (cInt .u64) (cInt .u64) (cInt .u64)) 111 impl_divided (fun hi_0 lo_1 d => decide (0 ≤ hi_0 ∧ hi_0 < 18446744073709551616 ∧ 0 ≤ lo_1 ∧ lo_1 < 18446744073709551616 ∧ 0 < d ∧ d < 18446744073709551616)) impl_divided.gives

/-! ### bits.Sub64 -/
def sub64E : Array Value → Sem Value := fun args => do
  let (x, y, b) ← Extern.MathBitsCarry.three "Sub64" args
  pure (Extern.MathBitsCarry.pair ((x + Extern.MathBitsCarry.m64 - y - b) % Extern.MathBitsCarry.m64) (if x < y + b then 1 else 0))
theorem bits_Sub64.ext (x y c : Int) (h : decide (0 ≤ c ∧ c ≤ 1) = true) (w : World) : (callFunc 119 #[.int .u64 x, .int .u64 y, .int .u64 c]).run Try.prog w = .ok (.value ((cT2 (cInt .u64) (cInt .u64)).enc (bits_Sub64 x y c))) w := by
  have hc : c = 0 ∨ c = 1 := by simp only [decide_eq_true_eq] at h; omega
  rcases hc with rfl | rfl <;> (rw [run_callFunc_extern Try.func119 (by kernel_rfl) (by kernel_rfl) (by kernel_rfl) (e := sub64E) (by kernel_rfl)]; rfl)
def bits_Sub64.e : Entry Try.prog := entryX3 (cInt .u64) (cInt .u64) (cInt .u64) (cT2 (cInt .u64) (cInt .u64)) 119 bits_Sub64 (fun x y c => decide (0 ≤ c ∧ c ≤ 1)) bits_Sub64.ext


/-! ### impl.Wide).negative -/
def impl_Wide_negative.t {ρ : Type} (w : Wd) (K : Wd → Option ρ) : Option ρ := let t1 := (bits_Sub64 0 w.lo 0); bif decide (0 ≤ t1.2 ∧ t1.2 ≤ 1) then (K (Wd.mk (w64 (bits_Sub64 0 (u64 w.hi) t1.2).1) t1.1)) else none
theorem impl_Wide_negative.t_eq {ρ : Type} (w : Wd) (K : Wd → Option ρ) : impl_Wide_negative.t w K = K (impl_Wide_negative w) := cqT (by exact sub64_borrow _ _ _) (fun h0 => rfl)
theorem impl_Wide_negative.gives (w : Wd) : GivesV Try.prog 112 [cWd.enc w] (cWd.enc (impl_Wide_negative w)) :=
  givesT hmix [bits_Sub64.e] 0 none Try.func112 rfl rfl ((by kernel_rfl : run1 Try.prog (tab [bits_Sub64.e]) 0 none noL Try.f112 [cWd.enc w] [] = impl_Wide_negative.t w fun r => some (cWd.enc r, [])).trans (impl_Wide_negative.t_eq w _))
def impl_Wide_negative.e : Entry Try.prog := entry1 cWd cWd 112 impl_Wide_negative impl_Wide_negative.gives

/-! ### bits.Add64 -/
theorem bits_Add64.ext (x y c : Int) (h : decide (0 ≤ c ∧ c ≤ 1) = true) (w : World) : (callFunc 113 #[.int .u64 x, .int .u64 y, .int .u64 c]).run Try.prog w = .ok (.value ((cT2 (cInt .u64) (cInt .u64)).enc (bits_Add64 x y c))) w := by
  have hc : c = 0 ∨ c = 1 := by simp only [decide_eq_true_eq] at h; omega
  rcases hc with rfl | rfl <;> (rw [run_callFunc_extern Try.func113 (by kernel_rfl) (by kernel_rfl) (by kernel_rfl) (e := add64Entry) (by kernel_rfl)]; rfl)
def bits_Add64.e : Entry Try.prog := entryX3 (cInt .u64) (cInt .u64) (cInt .u64) (cT2 (cInt .u64) (cInt .u64)) 113 bits_Add64 (fun x y c => decide (0 ≤ c ∧ c ≤ 1)) bits_Add64.ext


/-! ### impl.WideDiv -/
def impl_WideDiv.t {ρ : Type} (d : Wd) (i : Int) (K : (Wd × Int × Bool) → Option ρ) : Option ρ := bif decide (i ≤ 0) then (K ((Wd.mk 0 0), 0, false)) else (bif decide (d.hi ≥ 0) then (bif decide (0 ≤ (u64 d.hi) ∧ (u64 d.hi) < 18446744073709551616 ∧ 0 ≤ d.lo ∧ d.lo < 18446744073709551616 ∧ 0 < (u64 i) ∧ (u64 i) < 18446744073709551616) then (let t1 := (impl_divided (u64 d.hi) d.lo (u64 i)); K ((Wd.mk (w64 t1.1) t1.2.1), (w64 t1.2.2), true)) else none) else (let t2 := (impl_Wide_negative d); bif decide (0 ≤ (u64 t2.hi) ∧ (u64 t2.hi) < 18446744073709551616 ∧ 0 ≤ t2.lo ∧ t2.lo < 18446744073709551616 ∧ 0 < (u64 i) ∧ (u64 i) < 18446744073709551616) then (let t3 := (impl_divided (u64 t2.hi) t2.lo (u64 i)); bif (t3.2.2 == 0) then (K ((impl_Wide_negative (Wd.mk (w64 t3.1) t3.2.1)), 0, true)) else (let t5 := (bits_Add64 t3.2.1 1 0); K ((impl_Wide_negative (Wd.mk (w64 (u64 (t3.1 + t5.2))) t5.1)), (w64 (i - (w64 t3.2.2))), true))) else none))
theorem impl_WideDiv.t_eq {ρ : Type} (d : Wd) (i : Int) (hpre : (decide (0 ≤ d.lo ∧ d.lo < 18446744073709551616 ∧ i ≤ 9223372036854775807)) = true) (K : (Wd × Int × Bool) → Option ρ) : impl_WideDiv.t d i K = K (impl_WideDiv d i) := cq (fun h0 => rfl) (fun h0 => cq (fun h1 => cqT (by first | with_reducible exact pd_wd1 hpre h0 | with_reducible exact pd_wd2 hpre h0) (fun h2 => rfl)) (fun h1 => cqT (by first | with_reducible exact pd_wd1 hpre h0 | with_reducible exact pd_wd2 hpre h0) (fun h2 => cq (fun h3 => rfl) (fun h3 => rfl))))
theorem impl_WideDiv.gives (d : Wd) (i : Int) (hpre : (decide (0 ≤ d.lo ∧ d.lo < 18446744073709551616 ∧ i ≤ 9223372036854775807)) = true) : GivesV Try.prog 104 [cWd.enc d, (cInt .i64).enc i] ((cT3 cWd (cInt .i64) cBool).enc (impl_WideDiv d i)) :=
  givesT hmix [impl_divided.e, impl_Wide_negative.e, bits_Add64.e] 0 none Try.func104 rfl rfl ((by kernel_rfl : run1 Try.prog (tab [impl_divided.e, impl_Wide_negative.e, bits_Add64.e]) 0 none noL Try.f104 [cWd.enc d, (cInt .i64).enc i] [] = impl_WideDiv.t d i fun r => some ((cT3 cWd (cInt .i64) cBool).enc r, [])).trans (impl_WideDiv.t_eq d i hpre _))
def impl_WideDiv.e : Entry Try.prog := entry2P cWd (cInt .i64) (cT3 cWd (cInt .i64) cBool) 104 impl_WideDiv (fun d i => decide (0 ≤ d.lo ∧ d.lo < 18446744073709551616 ∧ i ≤ 9223372036854775807)) impl_WideDiv.gives

/-! ### impl.MulDivFloor -/
def impl_MulDivFloor.t {ρ : Type} (a : Int) (b : Int) (d : Int) (K : (Int × Bool) → Option ρ) : Option ρ := let t1 := (impl_WideMul a b); bif decide (0 ≤ t1.lo ∧ t1.lo < 18446744073709551616 ∧ d ≤ 9223372036854775807) then (let t2 := (impl_WideDiv t1 d); bif (!t2.2.2) then (K (0, false)) else (let t3 := (impl_WideInt t2.1); K (t3.1, t3.2))) else none
theorem impl_MulDivFloor.t_eq {ρ : Type} (a : Int) (b : Int) (d : Int) (hpre : (decide (d ≤ 9223372036854775807)) = true) (K : (Int × Bool) → Option ρ) : impl_MulDivFloor.t a b d K = K (impl_MulDivFloor a b d) := cqT (by exact pd_mul hpre) (fun h0 => cq (fun h1 => rfl) (fun h1 => rfl))
theorem impl_MulDivFloor.gives (a : Int) (b : Int) (d : Int) (hpre : (decide (d ≤ 9223372036854775807)) = true) : GivesV Try.prog 94 [(cInt .i64).enc a, (cInt .i64).enc b, (cInt .i64).enc d] ((cT2 (cInt .i64) cBool).enc (impl_MulDivFloor a b d)) :=
  givesT hmix [impl_WideMul.e, impl_WideDiv.e, impl_WideInt.e] 0 none Try.func94 rfl rfl ((by kernel_rfl : run1 Try.prog (tab [impl_WideMul.e, impl_WideDiv.e, impl_WideInt.e]) 0 none noL Try.f94 [(cInt .i64).enc a, (cInt .i64).enc b, (cInt .i64).enc d] [] = impl_MulDivFloor.t a b d fun r => some ((cT2 (cInt .i64) cBool).enc r, [])).trans (impl_MulDivFloor.t_eq a b d hpre _))
def impl_MulDivFloor.e : Entry Try.prog := entry3P (cInt .i64) (cInt .i64) (cInt .i64) (cT2 (cInt .i64) cBool) 94 impl_MulDivFloor (fun a b d => decide (d ≤ 9223372036854775807)) impl_MulDivFloor.gives

/-! ### impl.DivDown -/
def impl_DivDown.t {ρ : Type} (a : Int) (b : Int) (K : (Int × Bool) → Option ρ) : Option ρ := bif (!(impl_ValidFix a)) then (K (0, false)) else (bif (!(impl_ValidFix b)) then (K (0, false)) else (bif decide (b < 0) then (bif decide ((w64 (0 - b)) ≤ 9223372036854775807) then (let t3 := (impl_MulDivFloor (w64 (0 - a)) 4294967296 (w64 (0 - b))); let t4 := (impl_fixed t3.1 t3.2); K (t4.1, t4.2)) else none) else (bif decide (b ≤ 9223372036854775807) then (let t5 := (impl_MulDivFloor a 4294967296 b); let t6 := (impl_fixed t5.1 t5.2); K (t6.1, t6.2)) else none)))
theorem impl_DivDown.t_eq {ρ : Type} (a : Int) (b : Int) (K : (Int × Bool) → Option ρ) : impl_DivDown.t a b K = K (impl_DivDown a b) := cq (fun h0 => rfl) (fun h0 => cq (fun h1 => rfl) (fun h1 => cq (fun h2 => cqT (by first | exact decide_eq_true (w64_le _) | exact pd_fix h1) (fun h3 => rfl)) (fun h2 => cqT (by first | exact decide_eq_true (w64_le _) | exact pd_fix h1) (fun h3 => rfl))))
theorem impl_DivDown.gives (a : Int) (b : Int) : GivesV Try.prog 80 [(cInt .i64).enc a, (cInt .i64).enc b] ((cT2 (cInt .i64) cBool).enc (impl_DivDown a b)) :=
  givesT hmix [impl_ValidFix.e, impl_MulDivFloor.e, impl_fixed.e] 0 none Try.func80 rfl rfl ((by kernel_rfl : run1 Try.prog (tab [impl_ValidFix.e, impl_MulDivFloor.e, impl_fixed.e]) 0 none noL Try.f80 [(cInt .i64).enc a, (cInt .i64).enc b] [] = impl_DivDown.t a b fun r => some ((cT2 (cInt .i64) cBool).enc r, [])).trans (impl_DivDown.t_eq a b _))
def impl_DivDown.e : Entry Try.prog := entry2 (cInt .i64) (cInt .i64) (cT2 (cInt .i64) cBool) 80 impl_DivDown impl_DivDown.gives

/-! ### impl.DivUp -/
def impl_DivUp.t {ρ : Type} (a : Int) (b : Int) (K : (Int × Bool) → Option ρ) : Option ρ := bif (!(impl_ValidFix a)) then (K (0, false)) else (bif (!(impl_ValidFix b)) then (K (0, false)) else (let t3 := (impl_DivDown (w64 (0 - a)) b); K ((w64 (0 - t3.1)), t3.2)))
theorem impl_DivUp.t_eq {ρ : Type} (a : Int) (b : Int) (K : (Int × Bool) → Option ρ) : impl_DivUp.t a b K = K (impl_DivUp a b) := cq (fun h0 => rfl) (fun h0 => cq (fun h1 => rfl) (fun h1 => rfl))
theorem impl_DivUp.gives (a : Int) (b : Int) : GivesV Try.prog 81 [(cInt .i64).enc a, (cInt .i64).enc b] ((cT2 (cInt .i64) cBool).enc (impl_DivUp a b)) :=
  givesT hmix [impl_ValidFix.e, impl_DivDown.e] 0 none Try.func81 rfl rfl ((by kernel_rfl : run1 Try.prog (tab [impl_ValidFix.e, impl_DivDown.e]) 0 none noL Try.f81 [(cInt .i64).enc a, (cInt .i64).enc b] [] = impl_DivUp.t a b fun r => some ((cT2 (cInt .i64) cBool).enc r, [])).trans (impl_DivUp.t_eq a b _))
def impl_DivUp.e : Entry Try.prog := entry2 (cInt .i64) (cInt .i64) (cT2 (cInt .i64) cBool) 81 impl_DivUp impl_DivUp.gives

/-! ### impl.DivI -/
def impl_DivI.t {ρ : Type} (a : Iv) (b : Iv) (K : Iv → Option ρ) : Option ρ := bif (!(impl_areBounded a b)) then (K impl_Whole) else (bif (impl_HasI b 0) then (K impl_Whole) else (let t5 := (impl_DivDown a.lo b.lo); let t6 := (impl_DivUp a.lo b.lo); bif (!t5.2) then (K impl_Whole) else (bif (!t6.2) then (K impl_Whole) else (let t9 := (impl_DivDown a.lo b.hi); let t10 := (impl_DivUp a.lo b.hi); bif (!t9.2) then (K impl_Whole) else (bif (!t10.2) then (K impl_Whole) else (let t13 := (impl_DivDown a.hi b.lo); let t14 := (impl_DivUp a.hi b.lo); bif (!t13.2) then (K impl_Whole) else (bif (!t14.2) then (K impl_Whole) else (let t17 := (impl_DivDown a.hi b.hi); let t18 := (impl_DivUp a.hi b.hi); bif (!t17.2) then (K impl_Whole) else (bif (!t18.2) then (K impl_Whole) else (K (impl_bounded (mnI (mnI (mnI (mnI t5.1 t5.1) t9.1) t13.1) t17.1) (mxI (mxI (mxI (mxI t6.1 t6.1) t10.1) t14.1) t18.1) true)))))))))))
theorem impl_DivI.t_eq {ρ : Type} (a : Iv) (b : Iv) (K : Iv → Option ρ) : impl_DivI.t a b K = K (impl_DivI a b) := cq (fun h0 => rfl) (fun h0 => cq (fun h1 => rfl) (fun h1 => cq (fun h2 => rfl) (fun h2 => cq (fun h3 => rfl) (fun h3 => cq (fun h4 => rfl) (fun h4 => cq (fun h5 => rfl) (fun h5 => cq (fun h6 => rfl) (fun h6 => cq (fun h7 => rfl) (fun h7 => cq (fun h8 => rfl) (fun h8 => cq (fun h9 => rfl) (fun h9 => rfl))))))))))
theorem impl_DivI.gives (a : Iv) (b : Iv) : GivesV Try.prog 49 [cIv.enc a, cIv.enc b] (cIv.enc (impl_DivI a b)) :=
  givesT hmix [impl_areBounded.e, impl_Whole.e, impl_HasI.e, (inl hmix [impl_DivDown.e, impl_DivUp.e, impl_Whole.e, impl_bounded.e] 3 76 Try.f76 Try.func76 rfl)] 3 none Try.func49 rfl rfl ((by kernel_rfl : run1 Try.prog (tab [impl_areBounded.e, impl_Whole.e, impl_HasI.e, (inl hmix [impl_DivDown.e, impl_DivUp.e, impl_Whole.e, impl_bounded.e] 3 76 Try.f76 Try.func76 rfl)]) 3 none noL Try.f49 [cIv.enc a, cIv.enc b] [] = impl_DivI.t a b fun r => some (cIv.enc r, [])).trans (impl_DivI.t_eq a b _))
def impl_DivI.e : Entry Try.prog := entry2 cIv cIv cIv 49 impl_DivI impl_DivI.gives

/-! ### impl.dividedV -/
def impl_dividedV.t {ρ : Type} (a : V3) (k : Iv) (K : V3 → Option ρ) : Option ρ := K (V3.mk (impl_DivI a.x k) (impl_DivI a.y k) (impl_DivI a.z k))
theorem impl_dividedV.t_eq {ρ : Type} (a : V3) (k : Iv) (K : V3 → Option ρ) : impl_dividedV.t a k K = K (impl_dividedV a k) := rfl
theorem impl_dividedV.gives (a : V3) (k : Iv) : GivesV Try.prog 60 [cV3.enc a, cIv.enc k] (cV3.enc (impl_dividedV a k)) :=
  givesT hmix [impl_DivI.e] 0 none Try.func60 rfl rfl ((by kernel_rfl : run1 Try.prog (tab [impl_DivI.e]) 0 none noL Try.f60 [cV3.enc a, cIv.enc k] [] = impl_dividedV.t a k fun r => some (cV3.enc r, [])).trans (impl_dividedV.t_eq a k _))
def impl_dividedV.e : Entry Try.prog := entry2 cV3 cIv cV3 60 impl_dividedV impl_dividedV.gives

/-! ### impl.InverseM -/
def impl_InverseM.t {ρ : Type} (m : M3) (K : (M3 × Bool) → Option ρ) : Option ρ := let t1 := (impl_CrossV m.b m.c); let t4 := (impl_DotV m.a t1); bif (impl_HasI t4 0) then (K ((M3.mk (V3.mk (Iv.mk 0 0) (Iv.mk 0 0) (Iv.mk 0 0)) (V3.mk (Iv.mk 0 0) (Iv.mk 0 0) (Iv.mk 0 0)) (V3.mk (Iv.mk 0 0) (Iv.mk 0 0) (Iv.mk 0 0))), false)) else (let t6 := (impl_transposed (M3.mk t1 (impl_CrossV m.c m.a) (impl_CrossV m.a m.b))); K ((M3.mk (impl_dividedV t6.a t4) (impl_dividedV t6.b t4) (impl_dividedV t6.c t4)), true))
theorem impl_InverseM.t_eq {ρ : Type} (m : M3) (K : (M3 × Bool) → Option ρ) : impl_InverseM.t m K = K (impl_InverseM m) := cq (fun h0 => rfl) (fun h0 => rfl)
theorem impl_InverseM.gives (m : M3) : GivesV Try.prog 24 [cM3.enc m] ((cT2 cM3 cBool).enc (impl_InverseM m)) :=
  givesT hmix [impl_CrossV.e, impl_DotV.e, impl_HasI.e, impl_transposed.e, impl_dividedV.e] 0 none Try.func24 rfl rfl ((by kernel_rfl : run1 Try.prog (tab [impl_CrossV.e, impl_DotV.e, impl_HasI.e, impl_transposed.e, impl_dividedV.e]) 0 none noL Try.f24 [cM3.enc m] [] = impl_InverseM.t m fun r => some ((cT2 cM3 cBool).enc r, [])).trans (impl_InverseM.t_eq m _))
def impl_InverseM.e : Entry Try.prog := entry1 cM3 (cT2 cM3 cBool) 24 impl_InverseM impl_InverseM.gives

/-! ### spec.l00In -/
def spec_l00In.t {ρ : Type} (n : Int) (low : Int) (high : Int) (K : Bool → Option ρ) : Option ρ := bif decide (n ≥ low) then (K (decide (n ≤ high))) else (K false)
theorem spec_l00In.t_eq {ρ : Type} (n : Int) (low : Int) (high : Int) (K : Bool → Option ρ) : spec_l00In.t n low high K = K (spec_l00In n low high) := cq (fun h0 => rfl) (fun h0 => rfl)
theorem spec_l00In.gives (n : Int) (low : Int) (high : Int) : GivesV Try.prog 40 [(cInt .i64).enc n, (cInt .i64).enc low, (cInt .i64).enc high] (cBool.enc (spec_l00In n low high)) :=
  givesT hmix [] 0 none Try.func40 rfl rfl ((by kernel_rfl : run1 Try.prog (tab []) 0 none noL Try.f40 [(cInt .i64).enc n, (cInt .i64).enc low, (cInt .i64).enc high] [] = spec_l00In.t n low high fun r => some (cBool.enc r, [])).trans (spec_l00In.t_eq n low high _))
def spec_l00In.e : Entry Try.prog := entry3 (cInt .i64) (cInt .i64) (cInt .i64) cBool 40 spec_l00In spec_l00In.gives

/-! ### spec.l03Ok -/
def spec_l03Ok.t {ρ : Type} (n : Int) (K : Bool → Option ρ) : Option ρ := K (spec_l00In n (-1152921504606846976) 1152921504606846976)
theorem spec_l03Ok.t_eq {ρ : Type} (n : Int) (K : Bool → Option ρ) : spec_l03Ok.t n K = K (spec_l03Ok n) := rfl
theorem spec_l03Ok.gives (n : Int) : GivesV Try.prog 105 [(cInt .i64).enc n] (cBool.enc (spec_l03Ok n)) :=
  givesT hmix [spec_l00In.e] 0 none Try.func105 rfl rfl ((by kernel_rfl : run1 Try.prog (tab [spec_l00In.e]) 0 none noL Try.f105 [(cInt .i64).enc n] [] = spec_l03Ok.t n fun r => some (cBool.enc r, [])).trans (spec_l03Ok.t_eq n _))
def spec_l03Ok.e : Entry Try.prog := entry1 (cInt .i64) cBool 105 spec_l03Ok spec_l03Ok.gives

/-! ### spec.l02Size -/
def spec_l02Size.t {ρ : Type} (n : Int) (K : Int → Option ρ) : Option ρ := bif decide (n < 0) then (K (u64 (0 - (u64 n)))) else (K (u64 n))
theorem spec_l02Size.t_eq {ρ : Type} (n : Int) (K : Int → Option ρ) : spec_l02Size.t n K = K (spec_l02Size n) := cq (fun h0 => rfl) (fun h0 => rfl)
theorem spec_l02Size.gives (n : Int) : GivesV Try.prog 122 [(cInt .i64).enc n] ((cInt .u64).enc (spec_l02Size n)) :=
  givesT hmix [] 0 none Try.func122 rfl rfl ((by kernel_rfl : run1 Try.prog (tab []) 0 none noL Try.f122 [(cInt .i64).enc n] [] = spec_l02Size.t n fun r => some ((cInt .u64).enc r, [])).trans (spec_l02Size.t_eq n _))
def spec_l02Size.e : Entry Try.prog := entry1 (cInt .i64) (cInt .u64) 122 spec_l02Size spec_l02Size.gives

/-! ### spec.l02Times -/
def spec_l02Times.t {ρ : Type} (a : Int) (b : Int) (K : (Int × Int) → Option ρ) : Option ρ := let x2 := (u64 ((u64 ((Int.fdiv a 4294967296) * (andI .u64 b 4294967295))) + (Int.fdiv (u64 ((andI .u64 a 4294967295) * (andI .u64 b 4294967295))) 4294967296))); K ((u64 ((u64 ((u64 ((Int.fdiv a 4294967296) * (Int.fdiv b 4294967296))) + (Int.fdiv x2 4294967296))) + (Int.fdiv (u64 ((u64 ((andI .u64 a 4294967295) * (Int.fdiv b 4294967296))) + (andI .u64 x2 4294967295))) 4294967296))), (u64 (a * b)))
theorem spec_l02Times.t_eq {ρ : Type} (a : Int) (b : Int) (K : (Int × Int) → Option ρ) : spec_l02Times.t a b K = K (spec_l02Times a b) := rfl
theorem spec_l02Times.gives (a : Int) (b : Int) : GivesV Try.prog 121 [(cInt .u64).enc a, (cInt .u64).enc b] ((cT2 (cInt .u64) (cInt .u64)).enc (spec_l02Times a b)) :=
  givesT hmix [] 0 none Try.func121 rfl rfl ((by kernel_rfl : run1 Try.prog (tab []) 0 none noL Try.f121 [(cInt .u64).enc a, (cInt .u64).enc b] [] = spec_l02Times.t a b fun r => some ((cT2 (cInt .u64) (cInt .u64)).enc r, [])).trans (spec_l02Times.t_eq a b _))
def spec_l02Times.e : Entry Try.prog := entry2 (cInt .u64) (cInt .u64) (cT2 (cInt .u64) (cInt .u64)) 121 spec_l02Times spec_l02Times.gives

/-! ### spec.l02Minus -/
def spec_l02Minus.t {ρ : Type} (w : Wd) (K : Wd → Option ρ) : Option ρ := bif (w.lo == 0) then (K (Wd.mk (w64 (0 - w.hi)) (u64 (0 - w.lo)))) else (K (Wd.mk (xorI .i64 (-1) w.hi) (u64 (0 - w.lo))))
theorem spec_l02Minus.t_eq {ρ : Type} (w : Wd) (K : Wd → Option ρ) : spec_l02Minus.t w K = K (spec_l02Minus w) := cq (fun h0 => rfl) (fun h0 => rfl)
theorem spec_l02Minus.gives (w : Wd) : GivesV Try.prog 123 [cWd.enc w] (cWd.enc (spec_l02Minus w)) :=
  givesT hmix [] 0 none Try.func123 rfl rfl ((by kernel_rfl : run1 Try.prog (tab []) 0 none noL Try.f123 [cWd.enc w] [] = spec_l02Minus.t w fun r => some (cWd.enc r, [])).trans (spec_l02Minus.t_eq w _))
def spec_l02Minus.e : Entry Try.prog := entry1 cWd cWd 123 spec_l02Minus spec_l02Minus.gives

/-! ### spec.l02Mul -/
def spec_l02Mul.t {ρ : Type} (a : Int) (b : Int) (K : Wd → Option ρ) : Option ρ := let t3 := (spec_l02Times (spec_l02Size a) (spec_l02Size b)); bif (!(decide (a < 0) == decide (b < 0))) then (K (spec_l02Minus (Wd.mk (w64 t3.1) t3.2))) else (K (Wd.mk (w64 t3.1) t3.2))
theorem spec_l02Mul.t_eq {ρ : Type} (a : Int) (b : Int) (K : Wd → Option ρ) : spec_l02Mul.t a b K = K (spec_l02Mul a b) := cq (fun h0 => rfl) (fun h0 => rfl)
theorem spec_l02Mul.gives (a : Int) (b : Int) : GivesV Try.prog 116 [(cInt .i64).enc a, (cInt .i64).enc b] (cWd.enc (spec_l02Mul a b)) :=
  givesT hmix [spec_l02Size.e, spec_l02Times.e, spec_l02Minus.e] 0 none Try.func116 rfl rfl ((by kernel_rfl : run1 Try.prog (tab [spec_l02Size.e, spec_l02Times.e, spec_l02Minus.e]) 0 none noL Try.f116 [(cInt .i64).enc a, (cInt .i64).enc b] [] = spec_l02Mul.t a b fun r => some (cWd.enc r, [])).trans (spec_l02Mul.t_eq a b _))
def spec_l02Mul.e : Entry Try.prog := entry2 (cInt .i64) (cInt .i64) cWd 116 spec_l02Mul spec_l02Mul.gives

/-! ### spec.l02Shift -/
def spec_l02Shift.t {ρ : Type} (w : Wd) (n : Int) (K : Wd → Option ρ) : Option ρ := bif (n == 0) then (K w) else (bif decide (n < 64) then (bif decide ((u64 n) < 0) then none else (bif decide ((u64 n) < 0) then none else (bif decide ((u64 (w64 (64 - n))) < 0) then none else (K (Wd.mk (Int.fdiv w.hi (2 ^ (min (Int.toNat (u64 n)) 64))) (orI .u64 (Int.fdiv w.lo (2 ^ (min (Int.toNat (u64 n)) 64))) (u64 ((u64 w.hi) * (2 ^ (min (Int.toNat (u64 (w64 (64 - n)))) 64)))))))))) else (bif decide ((u64 (w64 (n - 64))) < 0) then none else (K (Wd.mk (Int.fdiv w.hi 9223372036854775808) (u64 (Int.fdiv w.hi (2 ^ (min (Int.toNat (u64 (w64 (n - 64)))) 64))))))))
theorem spec_l02Shift.t_eq {ρ : Type} (w : Wd) (n : Int) (K : Wd → Option ρ) : spec_l02Shift.t w n K = K (spec_l02Shift w n) := cq (fun h0 => rfl) (fun h0 => cq (fun h1 => cqF (by first | exact u64_neg _ | (simp only [decide_eq_true_eq, decide_eq_false_iff_not] at *; omega) | (simp only [Bool.not_eq_eq_eq_not, Bool.not_false, inside_iff, l00In_iff, decide_eq_true_eq, decide_eq_false_iff_not, w64_def, u64_def] at *; omega)) (fun h2 => cqF (by first | exact u64_neg _ | (simp only [decide_eq_true_eq, decide_eq_false_iff_not] at *; omega) | (simp only [Bool.not_eq_eq_eq_not, Bool.not_false, inside_iff, l00In_iff, decide_eq_true_eq, decide_eq_false_iff_not, w64_def, u64_def] at *; omega)) (fun h3 => cqF (by first | exact u64_neg _ | (simp only [decide_eq_true_eq, decide_eq_false_iff_not] at *; omega) | (simp only [Bool.not_eq_eq_eq_not, Bool.not_false, inside_iff, l00In_iff, decide_eq_true_eq, decide_eq_false_iff_not, w64_def, u64_def] at *; omega)) (fun h4 => rfl)))) (fun h1 => cqF (by first | exact u64_neg _ | (simp only [decide_eq_true_eq, decide_eq_false_iff_not] at *; omega) | (simp only [Bool.not_eq_eq_eq_not, Bool.not_false, inside_iff, l00In_iff, decide_eq_true_eq, decide_eq_false_iff_not, w64_def, u64_def] at *; omega)) (fun h2 => rfl)))
theorem spec_l02Shift.gives (w : Wd) (n : Int) : GivesV Try.prog 115 [cWd.enc w, (cInt .i64).enc n] (cWd.enc (spec_l02Shift w n)) :=
  givesT hmix [] 0 none Try.func115 rfl rfl ((by kernel_rfl : run1 Try.prog (tab []) 0 none noL Try.f115 [cWd.enc w, (cInt .i64).enc n] [] = spec_l02Shift.t w n fun r => some (cWd.enc r, [])).trans (spec_l02Shift.t_eq w n _))
def spec_l02Shift.e : Entry Try.prog := entry2 cWd (cInt .i64) cWd 115 spec_l02Shift spec_l02Shift.gives

/-! ### spec.l02Of -/
def spec_l02Of.t {ρ : Type} (n : Int) (K : Wd → Option ρ) : Option ρ := bif decide (n < 0) then (K (Wd.mk (-1) (u64 n))) else (K (Wd.mk 0 (u64 n)))
theorem spec_l02Of.t_eq {ρ : Type} (n : Int) (K : Wd → Option ρ) : spec_l02Of.t n K = K (spec_l02Of n) := cq (fun h0 => rfl) (fun h0 => rfl)
theorem spec_l02Of.gives (n : Int) : GivesV Try.prog 120 [(cInt .i64).enc n] (cWd.enc (spec_l02Of n)) :=
  givesT hmix [] 0 none Try.func120 rfl rfl ((by kernel_rfl : run1 Try.prog (tab []) 0 none noL Try.f120 [(cInt .i64).enc n] [] = spec_l02Of.t n fun r => some (cWd.enc r, [])).trans (spec_l02Of.t_eq n _))
def spec_l02Of.e : Entry Try.prog := entry1 (cInt .i64) cWd 120 spec_l02Of spec_l02Of.gives

/-! ### spec.l02Int -/
def spec_l02Int.t {ρ : Type} (w : Wd) (K : (Int × Bool) → Option ρ) : Option ρ := let t1 := (spec_l02Of (w64 w.lo)); bif (!((t1.hi == w.hi) && (t1.lo == w.lo))) then (K (0, false)) else (K ((w64 w.lo), true))
theorem spec_l02Int.t_eq {ρ : Type} (w : Wd) (K : (Int × Bool) → Option ρ) : spec_l02Int.t w K = K (spec_l02Int w) := cq (fun h0 => rfl) (fun h0 => rfl)
theorem spec_l02Int.gives (w : Wd) : GivesV Try.prog 114 [cWd.enc w] ((cT2 (cInt .i64) cBool).enc (spec_l02Int w)) :=
  givesT hmix [spec_l02Of.e] 0 none Try.func114 rfl rfl ((by kernel_rfl : run1 Try.prog (tab [spec_l02Of.e]) 0 none noL Try.f114 [cWd.enc w] [] = spec_l02Int.t w fun r => some ((cT2 (cInt .i64) cBool).enc r, [])).trans (spec_l02Int.t_eq w _))
def spec_l02Int.e : Entry Try.prog := entry1 cWd (cT2 (cInt .i64) cBool) 114 spec_l02Int spec_l02Int.gives

/-! ### spec.MulFloor -/
def spec_MulFloor.t {ρ : Type} (a : Int) (b : Int) (shift : Int) (K : (Int × Bool) → Option ρ) : Option ρ := bif (!(spec_l00In shift 0 126)) then (K (0, false)) else (let t4 := (spec_l02Int (spec_l02Shift (spec_l02Mul a b) shift)); K (t4.1, t4.2))
theorem spec_MulFloor.t_eq {ρ : Type} (a : Int) (b : Int) (shift : Int) (K : (Int × Bool) → Option ρ) : spec_MulFloor.t a b shift K = K (spec_MulFloor a b shift) := cq (fun h0 => rfl) (fun h0 => rfl)
theorem spec_MulFloor.gives (a : Int) (b : Int) (shift : Int) : GivesV Try.prog 106 [(cInt .i64).enc a, (cInt .i64).enc b, (cInt .i64).enc shift] ((cT2 (cInt .i64) cBool).enc (spec_MulFloor a b shift)) :=
  givesT hmix [spec_l00In.e, spec_l02Mul.e, spec_l02Shift.e, spec_l02Int.e] 0 none Try.func106 rfl rfl ((by kernel_rfl : run1 Try.prog (tab [spec_l00In.e, spec_l02Mul.e, spec_l02Shift.e, spec_l02Int.e]) 0 none noL Try.f106 [(cInt .i64).enc a, (cInt .i64).enc b, (cInt .i64).enc shift] [] = spec_MulFloor.t a b shift fun r => some ((cT2 (cInt .i64) cBool).enc r, [])).trans (spec_MulFloor.t_eq a b shift _))
def spec_MulFloor.e : Entry Try.prog := entry3 (cInt .i64) (cInt .i64) (cInt .i64) (cT2 (cInt .i64) cBool) 106 spec_MulFloor spec_MulFloor.gives

/-! ### spec.l03End -/
def spec_l03End.t {ρ : Type} (n : Int) (ok : Bool) (K : (Int × Bool) → Option ρ) : Option ρ := bif (!ok) then (K (0, false)) else (bif (!(spec_l03Ok n)) then (K (0, false)) else (K (n, true)))
theorem spec_l03End.t_eq {ρ : Type} (n : Int) (ok : Bool) (K : (Int × Bool) → Option ρ) : spec_l03End.t n ok K = K (spec_l03End n ok) := cq (fun h0 => rfl) (fun h0 => cq (fun h1 => rfl) (fun h1 => rfl))
theorem spec_l03End.gives (n : Int) (ok : Bool) : GivesV Try.prog 107 [(cInt .i64).enc n, cBool.enc ok] ((cT2 (cInt .i64) cBool).enc (spec_l03End n ok)) :=
  givesT hmix [spec_l03Ok.e] 0 none Try.func107 rfl rfl ((by kernel_rfl : run1 Try.prog (tab [spec_l03Ok.e]) 0 none noL Try.f107 [(cInt .i64).enc n, cBool.enc ok] [] = spec_l03End.t n ok fun r => some ((cT2 (cInt .i64) cBool).enc r, [])).trans (spec_l03End.t_eq n ok _))
def spec_l03End.e : Entry Try.prog := entry2 (cInt .i64) cBool (cT2 (cInt .i64) cBool) 107 spec_l03End spec_l03End.gives

/-! ### spec.l03MulDown -/
def spec_l03MulDown.t {ρ : Type} (a : Int) (b : Int) (K : (Int × Bool) → Option ρ) : Option ρ := bif (!(spec_l03Ok a)) then (K (0, false)) else (bif (!(spec_l03Ok b)) then (K (0, false)) else (let t3 := (spec_MulFloor a b 32); let t4 := (spec_l03End t3.1 t3.2); K (t4.1, t4.2)))
theorem spec_l03MulDown.t_eq {ρ : Type} (a : Int) (b : Int) (K : (Int × Bool) → Option ρ) : spec_l03MulDown.t a b K = K (spec_l03MulDown a b) := cq (fun h0 => rfl) (fun h0 => cq (fun h1 => rfl) (fun h1 => rfl))
theorem spec_l03MulDown.gives (a : Int) (b : Int) : GivesV Try.prog 97 [(cInt .i64).enc a, (cInt .i64).enc b] ((cT2 (cInt .i64) cBool).enc (spec_l03MulDown a b)) :=
  givesT hmix [spec_l03Ok.e, spec_MulFloor.e, spec_l03End.e] 0 none Try.func97 rfl rfl ((by kernel_rfl : run1 Try.prog (tab [spec_l03Ok.e, spec_MulFloor.e, spec_l03End.e]) 0 none noL Try.f97 [(cInt .i64).enc a, (cInt .i64).enc b] [] = spec_l03MulDown.t a b fun r => some ((cT2 (cInt .i64) cBool).enc r, [])).trans (spec_l03MulDown.t_eq a b _))
def spec_l03MulDown.e : Entry Try.prog := entry2 (cInt .i64) (cInt .i64) (cT2 (cInt .i64) cBool) 97 spec_l03MulDown spec_l03MulDown.gives

/-! ### spec.l03MulUp -/
def spec_l03MulUp.t {ρ : Type} (a : Int) (b : Int) (K : (Int × Bool) → Option ρ) : Option ρ := let t1 := (spec_l03MulDown (w64 (0 - a)) b); bif (!(spec_l03Ok a)) then (K (0, false)) else (bif (!t1.2) then (K (0, false)) else (K ((w64 (0 - t1.1)), true)))
theorem spec_l03MulUp.t_eq {ρ : Type} (a : Int) (b : Int) (K : (Int × Bool) → Option ρ) : spec_l03MulUp.t a b K = K (spec_l03MulUp a b) := cq (fun h0 => rfl) (fun h0 => cq (fun h1 => rfl) (fun h1 => rfl))
theorem spec_l03MulUp.gives (a : Int) (b : Int) : GivesV Try.prog 98 [(cInt .i64).enc a, (cInt .i64).enc b] ((cT2 (cInt .i64) cBool).enc (spec_l03MulUp a b)) :=
  givesT hmix [spec_l03MulDown.e, spec_l03Ok.e] 0 none Try.func98 rfl rfl ((by kernel_rfl : run1 Try.prog (tab [spec_l03MulDown.e, spec_l03Ok.e]) 0 none noL Try.f98 [(cInt .i64).enc a, (cInt .i64).enc b] [] = spec_l03MulUp.t a b fun r => some ((cT2 (cInt .i64) cBool).enc r, [])).trans (spec_l03MulUp.t_eq a b _))
def spec_l03MulUp.e : Entry Try.prog := entry2 (cInt .i64) (cInt .i64) (cT2 (cInt .i64) cBool) 98 spec_l03MulUp spec_l03MulUp.gives

/-! ### spec.l04Make -/
def spec_l04Make.t {ρ : Type} (lo_0 : Int) (hi_1 : Int) (K : Iv → Option ρ) : Option ρ := bif (!(spec_l04Ok (Iv.mk lo_0 hi_1))) then (K spec_l04Whole) else (K (Iv.mk lo_0 hi_1))
theorem spec_l04Make.t_eq {ρ : Type} (lo_0 : Int) (hi_1 : Int) (K : Iv → Option ρ) : spec_l04Make.t lo_0 hi_1 K = K (spec_l04Make lo_0 hi_1) := cq (fun h0 => rfl) (fun h0 => rfl)
theorem spec_l04Make.gives (lo_0 : Int) (hi_1 : Int) : GivesV Try.prog 42 [(cInt .i64).enc lo_0, (cInt .i64).enc hi_1] (cIv.enc (spec_l04Make lo_0 hi_1)) :=
  givesT hmix [spec_l04Ok.e, spec_l04Whole.e] 0 none Try.func42 rfl rfl ((by kernel_rfl : run1 Try.prog (tab [spec_l04Ok.e, spec_l04Whole.e]) 0 none noL Try.f42 [(cInt .i64).enc lo_0, (cInt .i64).enc hi_1] [] = spec_l04Make.t lo_0 hi_1 fun r => some (cIv.enc r, [])).trans (spec_l04Make.t_eq lo_0 hi_1 _))
def spec_l04Make.e : Entry Try.prog := entry2 (cInt .i64) (cInt .i64) cIv 42 spec_l04Make spec_l04Make.gives

/-! ### spec.MulI -/
def spec_MulI.t {ρ : Type} (d : Iv) (i : Iv) (K : Iv → Option ρ) : Option ρ := bif (!(spec_l04Ok d)) then (K spec_l04Whole) else (bif (!(spec_l04Ok i)) then (K spec_l04Whole) else (let t5 := (spec_l03MulDown d.lo i.lo); let t6 := (spec_l03MulUp d.lo i.lo); bif (!t5.2) then (K spec_l04Whole) else (bif (!t6.2) then (K spec_l04Whole) else (let t11 := (spec_l03MulDown d.lo i.hi); let t12 := (spec_l03MulUp d.lo i.hi); bif (!t11.2) then (K spec_l04Whole) else (bif (!t12.2) then (K spec_l04Whole) else (let t17 := (spec_l03MulDown d.hi i.lo); let t18 := (spec_l03MulUp d.hi i.lo); bif (!t17.2) then (K spec_l04Whole) else (bif (!t18.2) then (K spec_l04Whole) else (let t23 := (spec_l03MulDown d.hi i.hi); let t24 := (spec_l03MulUp d.hi i.hi); bif (!t23.2) then (K spec_l04Whole) else (bif (!t24.2) then (K spec_l04Whole) else (K (spec_l04Make (spec_l00Min (spec_l00Min (spec_l00Min (spec_l00Min 1152921504606846976 t5.1) t11.1) t17.1) t23.1) (spec_l00Max (spec_l00Max (spec_l00Max (spec_l00Max (-1152921504606846976) t6.1) t12.1) t18.1) t24.1))))))))))))
theorem spec_MulI.t_eq {ρ : Type} (d : Iv) (i : Iv) (K : Iv → Option ρ) : spec_MulI.t d i K = K (spec_MulI d i) := cq (fun h0 => rfl) (fun h0 => cq (fun h1 => rfl) (fun h1 => cq (fun h2 => rfl) (fun h2 => cq (fun h3 => rfl) (fun h3 => cq (fun h4 => rfl) (fun h4 => cq (fun h5 => rfl) (fun h5 => cq (fun h6 => rfl) (fun h6 => cq (fun h7 => rfl) (fun h7 => cq (fun h8 => rfl) (fun h8 => cq (fun h9 => rfl) (fun h9 => rfl))))))))))
theorem spec_MulI.gives (d : Iv) (i : Iv) : GivesV Try.prog 87 [cIv.enc d, cIv.enc i] (cIv.enc (spec_MulI d i)) :=
  givesT hmix [spec_l04Ok.e, spec_l04Whole.e, spec_l03MulDown.e, spec_l03MulUp.e, spec_l00Min.e, spec_l00Max.e, spec_l04Make.e] 3 none Try.func87 rfl rfl ((by kernel_rfl : run1 Try.prog (tab [spec_l04Ok.e, spec_l04Whole.e, spec_l03MulDown.e, spec_l03MulUp.e, spec_l00Min.e, spec_l00Max.e, spec_l04Make.e]) 3 none noL Try.f87 [cIv.enc d, cIv.enc i] [] = spec_MulI.t d i fun r => some (cIv.enc r, [])).trans (spec_MulI.t_eq d i _))
def spec_MulI.e : Entry Try.prog := entry2 cIv cIv cIv 87 spec_MulI spec_MulI.gives

/-! ### spec.SubI -/
def spec_SubI.t {ρ : Type} (a : Iv) (b : Iv) (K : Iv → Option ρ) : Option ρ := bif (!(spec_l04Ok a)) then (K spec_l04Whole) else (bif (!(spec_l04Ok b)) then (K spec_l04Whole) else (K (spec_l04Make (w64 (a.lo - b.hi)) (w64 (a.hi - b.lo)))))
theorem spec_SubI.t_eq {ρ : Type} (a : Iv) (b : Iv) (K : Iv → Option ρ) : spec_SubI.t a b K = K (spec_SubI a b) := cq (fun h0 => rfl) (fun h0 => cq (fun h1 => rfl) (fun h1 => rfl))
theorem spec_SubI.gives (a : Iv) (b : Iv) : GivesV Try.prog 86 [cIv.enc a, cIv.enc b] (cIv.enc (spec_SubI a b)) :=
  givesT hmix [spec_l04Ok.e, spec_l04Whole.e, spec_l04Make.e] 0 none Try.func86 rfl rfl ((by kernel_rfl : run1 Try.prog (tab [spec_l04Ok.e, spec_l04Whole.e, spec_l04Make.e]) 0 none noL Try.f86 [cIv.enc a, cIv.enc b] [] = spec_SubI.t a b fun r => some (cIv.enc r, [])).trans (spec_SubI.t_eq a b _))
def spec_SubI.e : Entry Try.prog := entry2 cIv cIv cIv 86 spec_SubI spec_SubI.gives

/-! ### spec.CrossV -/
def spec_CrossV.t {ρ : Type} (a : V3) (b : V3) (K : V3 → Option ρ) : Option ρ := K (V3.mk (spec_SubI (spec_MulI a.y b.z) (spec_MulI a.z b.y)) (spec_SubI (spec_MulI a.z b.x) (spec_MulI a.x b.z)) (spec_SubI (spec_MulI a.x b.y) (spec_MulI a.y b.x)))
theorem spec_CrossV.t_eq {ρ : Type} (a : V3) (b : V3) (K : V3 → Option ρ) : spec_CrossV.t a b K = K (spec_CrossV a b) := rfl
theorem spec_CrossV.gives (a : V3) (b : V3) : GivesV Try.prog 61 [cV3.enc a, cV3.enc b] (cV3.enc (spec_CrossV a b)) :=
  givesT hmix [spec_MulI.e, spec_SubI.e] 0 none Try.func61 rfl rfl ((by kernel_rfl : run1 Try.prog (tab [spec_MulI.e, spec_SubI.e]) 0 none noL Try.f61 [cV3.enc a, cV3.enc b] [] = spec_CrossV.t a b fun r => some (cV3.enc r, [])).trans (spec_CrossV.t_eq a b _))
def spec_CrossV.e : Entry Try.prog := entry2 cV3 cV3 cV3 61 spec_CrossV spec_CrossV.gives

/-! ### spec.AddI -/
def spec_AddI.t {ρ : Type} (a : Iv) (b : Iv) (K : Iv → Option ρ) : Option ρ := bif (!(spec_l04Ok a)) then (K spec_l04Whole) else (bif (!(spec_l04Ok b)) then (K spec_l04Whole) else (K (spec_l04Make (w64 (a.lo + b.lo)) (w64 (a.hi + b.hi)))))
theorem spec_AddI.t_eq {ρ : Type} (a : Iv) (b : Iv) (K : Iv → Option ρ) : spec_AddI.t a b K = K (spec_AddI a b) := cq (fun h0 => rfl) (fun h0 => cq (fun h1 => rfl) (fun h1 => rfl))
theorem spec_AddI.gives (a : Iv) (b : Iv) : GivesV Try.prog 88 [cIv.enc a, cIv.enc b] (cIv.enc (spec_AddI a b)) :=
  givesT hmix [spec_l04Ok.e, spec_l04Whole.e, spec_l04Make.e] 0 none Try.func88 rfl rfl ((by kernel_rfl : run1 Try.prog (tab [spec_l04Ok.e, spec_l04Whole.e, spec_l04Make.e]) 0 none noL Try.f88 [cIv.enc a, cIv.enc b] [] = spec_AddI.t a b fun r => some (cIv.enc r, [])).trans (spec_AddI.t_eq a b _))
def spec_AddI.e : Entry Try.prog := entry2 cIv cIv cIv 88 spec_AddI spec_AddI.gives

/-! ### spec.DotV -/
def spec_DotV.t {ρ : Type} (a : V3) (b : V3) (K : Iv → Option ρ) : Option ρ := K (spec_AddI (spec_AddI (spec_MulI a.x b.x) (spec_MulI a.y b.y)) (spec_MulI a.z b.z))
theorem spec_DotV.t_eq {ρ : Type} (a : V3) (b : V3) (K : Iv → Option ρ) : spec_DotV.t a b K = K (spec_DotV a b) := rfl
theorem spec_DotV.gives (a : V3) (b : V3) : GivesV Try.prog 62 [cV3.enc a, cV3.enc b] (cIv.enc (spec_DotV a b)) :=
  givesT hmix [spec_MulI.e, spec_AddI.e] 0 none Try.func62 rfl rfl ((by kernel_rfl : run1 Try.prog (tab [spec_MulI.e, spec_AddI.e]) 0 none noL Try.f62 [cV3.enc a, cV3.enc b] [] = spec_DotV.t a b fun r => some (cIv.enc r, [])).trans (spec_DotV.t_eq a b _))
def spec_DotV.e : Entry Try.prog := entry2 cV3 cV3 cIv 62 spec_DotV spec_DotV.gives

/-! ### spec.l04Has -/
def spec_l04Has.t {ρ : Type} (a : Iv) (n : Int) (K : Bool → Option ρ) : Option ρ := K (spec_l00In n a.lo a.hi)
theorem spec_l04Has.t_eq {ρ : Type} (a : Iv) (n : Int) (K : Bool → Option ρ) : spec_l04Has.t a n K = K (spec_l04Has a n) := rfl
theorem spec_l04Has.gives (a : Iv) (n : Int) : GivesV Try.prog 34 [cIv.enc a, (cInt .i64).enc n] (cBool.enc (spec_l04Has a n)) :=
  givesT hmix [spec_l00In.e] 0 none Try.func34 rfl rfl ((by kernel_rfl : run1 Try.prog (tab [spec_l00In.e]) 0 none noL Try.f34 [cIv.enc a, (cInt .i64).enc n] [] = spec_l04Has.t a n fun r => some (cBool.enc r, [])).trans (spec_l04Has.t_eq a n _))
def spec_l04Has.e : Entry Try.prog := entry2 cIv (cInt .i64) cBool 34 spec_l04Has spec_l04Has.gives

/-! ### spec.HasI -/
def spec_HasI.t {ρ : Type} (a : Iv) (n : Int) (K : Bool → Option ρ) : Option ρ := bif (!(spec_l04Ok a)) then (K true) else (K (spec_l04Has a n))
theorem spec_HasI.t_eq {ρ : Type} (a : Iv) (n : Int) (K : Bool → Option ρ) : spec_HasI.t a n K = K (spec_HasI a n) := cq (fun h0 => rfl) (fun h0 => rfl)
theorem spec_HasI.gives (a : Iv) (n : Int) : GivesV Try.prog 10 [cIv.enc a, (cInt .i64).enc n] (cBool.enc (spec_HasI a n)) :=
  givesT hmix [spec_l04Ok.e, spec_l04Has.e] 0 none Try.func10 rfl rfl ((by kernel_rfl : run1 Try.prog (tab [spec_l04Ok.e, spec_l04Has.e]) 0 none noL Try.f10 [cIv.enc a, (cInt .i64).enc n] [] = spec_HasI.t a n fun r => some (cBool.enc r, [])).trans (spec_HasI.t_eq a n _))
def spec_HasI.e : Entry Try.prog := entry2 cIv (cInt .i64) cBool 10 spec_HasI spec_HasI.gives

/-! ### spec.l10Columns -/
def spec_l10Columns.t {ρ : Type} (m : M3) (K : M3 → Option ρ) : Option ρ := K (M3.mk (V3.mk m.a.x m.b.x m.c.x) (V3.mk m.a.y m.b.y m.c.y) (V3.mk m.a.z m.b.z m.c.z))
theorem spec_l10Columns.t_eq {ρ : Type} (m : M3) (K : M3 → Option ρ) : spec_l10Columns.t m K = K (spec_l10Columns m) := rfl
theorem spec_l10Columns.gives (m : M3) : GivesV Try.prog 63 [cM3.enc m] (cM3.enc (spec_l10Columns m)) :=
  givesT hmix [] 0 none Try.func63 rfl rfl ((by kernel_rfl : run1 Try.prog (tab []) 0 none noL Try.f63 [cM3.enc m] [] = spec_l10Columns.t m fun r => some (cM3.enc r, [])).trans (spec_l10Columns.t_eq m _))
def spec_l10Columns.e : Entry Try.prog := entry1 cM3 cM3 63 spec_l10Columns spec_l10Columns.gives

/-! ### spec.l02Divide -/
def spec_l02Divide.ls : Option (List Nat) := some [1, 2, 9, 10, 11, 12]
def spec_l02Divide.env5 (lo_1 : Int) (d : Int) (v : Int × Int × Int × Int) : Env := [(1, .int .u64 lo_1), (2, .int .u64 d), (9, .int .u64 v.1), (10, .int .u64 v.2.1), (11, .int .u64 v.2.2.1), (12, .int .i64 v.2.2.2)]
def spec_l02Divide.heap5 (lo_1 : Int) (d : Int) (v : Int × Int × Int × Int) : LH := []
def spec_l02Divide.L5 : LEntry := ⟨5, fun _ tm σ K => match tm, σ with
  | [(1, .int .u64 lo_1), (2, .int .u64 d), (9, .int .u64 qhi), (10, .int .u64 rest), (11, .int .u64 q), (12, .int .i64 i)], [] => (match decide (i = 63) with | true => K (.exit 0) (spec_l02Divide.env5 lo_1 d (spec_l02Divide.fin5 lo_1 d (qhi, rest, q, i))) (spec_l02Divide.heap5 lo_1 d (spec_l02Divide.fin5 lo_1 d (qhi, rest, q, i))) | false => none)
  | _, _ => none⟩
def spec_l02Divide.lt5 {ρ : Type} (lo_1 : Int) (d : Int) (qhi : Int) (rest : Int) (q : Int) (i : Int) (K : Sum (Int × Int × Int × Int) (Int × Int × Int × Int) → Option ρ) : Option ρ := bif decide (i ≥ 0) then (bif decide ((u64 i) < 0) then none else (let x1 := (andI .u64 (Int.fdiv lo_1 (2 ^ (min (Int.toNat (u64 i)) 64))) 1); bif ((Int.fdiv rest 9223372036854775808) == 1) then (K (Sum.inl (qhi, (u64 ((orI .u64 (u64 (rest * 2)) x1) - d)), (orI .u64 (u64 (q * 2)) 1), (w64 (i - 1))))) else (bif decide ((orI .u64 (u64 (rest * 2)) x1) ≥ d) then (K (Sum.inl (qhi, (u64 ((orI .u64 (u64 (rest * 2)) x1) - d)), (orI .u64 (u64 (q * 2)) 1), (w64 (i - 1))))) else (K (Sum.inl (qhi, (orI .u64 (u64 (rest * 2)) x1), (u64 (q * 2)), (w64 (i - 1)))))))) else (K (Sum.inr (qhi, rest, q, i)))
theorem spec_l02Divide.lt5_eq {ρ : Type} (lo_1 : Int) (d : Int) (qhi : Int) (rest : Int) (q : Int) (i : Int) (hpre : -1 ≤ i ∧ i ≤ 63) (K : Sum (Int × Int × Int × Int) (Int × Int × Int × Int) → Option ρ) : spec_l02Divide.lt5 lo_1 d qhi rest q i K = K (spec_l02Divide.rnd5 lo_1 d qhi rest q i) := cq (fun h0 => cqF (by first | exact u64_neg _ | (simp only [decide_eq_false_iff_not, decide_eq_true_eq] at *; omega)) (fun h1 => cq (fun h2 => rfl) (fun h2 => cq (fun h3 => rfl) (fun h3 => rfl)))) (fun h0 => rfl)
theorem spec_l02Divide.step5 (lo_1 : Int) (d : Int) (qhi : Int) (rest : Int) (q : Int) (i : Int) (k : Nat) (R : Type) (K : LX → Env → LH → Option R) : loopN Try.prog 0 spec_l02Divide.ls (k + 1) (exec Try.prog (tab (P := Try.prog) (T := Prem.none) []) 0 51 0 spec_l02Divide.ls (lam [spec_l02Divide.L5]) (cOf Try.f124 0)) (spec_l02Divide.env5 lo_1 d (qhi, rest, q, i)) (spec_l02Divide.heap5 lo_1 d (qhi, rest, q, i)) K = spec_l02Divide.lt5 lo_1 d qhi rest q i (sumK (fun v => loopN Try.prog 0 spec_l02Divide.ls k (exec Try.prog (tab (P := Try.prog) (T := Prem.none) []) 0 51 0 spec_l02Divide.ls (lam [spec_l02Divide.L5]) (cOf Try.f124 0)) (spec_l02Divide.env5 lo_1 d v) (spec_l02Divide.heap5 lo_1 d v) K) (fun v => K (.exit 0) (spec_l02Divide.env5 lo_1 d v) (spec_l02Divide.heap5 lo_1 d v))) := by kernel_rfl
theorem spec_l02Divide.dec5 (lo_1 : Int) (d : Int) (v : Int × Int × Int × Int) (hv : -1 ≤ v.2.2.2 ∧ v.2.2.2 ≤ 63) (v' : Int × Int × Int × Int) (hr : spec_l02Divide.rnd5 lo_1 d v.1 v.2.1 v.2.2.1 v.2.2.2 = Sum.inl v') : (-1 ≤ v'.2.2.2 ∧ v'.2.2.2 ≤ 63) ∧ (v'.2.2.2 + 1).toNat < (v.2.2.2 + 1).toNat := by
  simp only [spec_l02Divide.rnd5, Bool.cond_eq_ite, decide_eq_true_eq] at hr
  have e : w64 (v.2.2.2 - 1) = v.2.2.2 - 1 := w64_id (by omega) (by omega)
  (repeat' split at hr) <;> cases hr <;> (simp only [e]; omega)
theorem spec_l02Divide.to5 : spec_l02Divide.L5.Ok Try.prog (tab (P := Try.prog) (T := Prem.none) []) 0 51 0 spec_l02Divide.ls (lam [spec_l02Divide.L5]) (cOf Try.f124 0) := by
  intro R tm σ K r h
  simp only [spec_l02Divide.L5] at h
  split at h
  case h_2 => simp at h
  split at h
  case h_2 => simp at h
  rename_i lo_1 d qhi rest q i _ hc
  exact ⟨_, _, _, h, loop_to (x := 0) (rnd := (fun v : Int × Int × Int × Int => spec_l02Divide.rnd5 lo_1 d v.1 v.2.1 v.2.2.1 v.2.2.2)) (env := fun v : Int × Int × Int × Int => spec_l02Divide.env5 lo_1 d v) (heap := fun v : Int × Int × Int × Int => spec_l02Divide.heap5 lo_1 d v) (Inv := (fun v : Int × Int × Int × Int => -1 ≤ v.2.2.2 ∧ v.2.2.2 ≤ 63)) (μ := (fun v : Int × Int × Int × Int => (v.2.2.2 + 1).toNat)) (fun v hv k R K => (spec_l02Divide.step5 lo_1 d v.1 v.2.1 v.2.2.1 v.2.2.2 k R K).trans (spec_l02Divide.lt5_eq lo_1 d v.1 v.2.1 v.2.2.1 v.2.2.2 hv (sumK (fun v => loopN Try.prog 0 spec_l02Divide.ls k (exec Try.prog (tab (P := Try.prog) (T := Prem.none) []) 0 51 0 spec_l02Divide.ls (lam [spec_l02Divide.L5]) (cOf Try.f124 0)) (spec_l02Divide.env5 lo_1 d v) (spec_l02Divide.heap5 lo_1 d v) K) (fun v => K (.exit 0) (spec_l02Divide.env5 lo_1 d v) (spec_l02Divide.heap5 lo_1 d v))))) (fun v hv v' hr => spec_l02Divide.dec5 lo_1 d v hv v' hr) 65 (qhi, rest, q, i) (by have := of_decide_eq_true hc; simp only []; omega) (by have := of_decide_eq_true hc; simp only []; omega)⟩
theorem spec_l02Divide.lok : ∀ c, Try.f124.body = some c → LamOk Try.prog (tab (P := Try.prog) (T := Prem.none) []) 0 Try.f124.ntmps 0 spec_l02Divide.ls (lam [spec_l02Divide.L5]) (loopsOf c) := by
  intro c hc
  have hb : loopsOf c = [(cOf Try.f124 0)] := by
    have h : loopsOf (Try.f124.body.getD .skip) = [(cOf Try.f124 0)] := by kernel_rfl
    rw [hc] at h
    exact h
  exact lam_ok1 hb spec_l02Divide.to5
def spec_l02Divide.t {ρ : Type} (hi_0 : Int) (lo_1 : Int) (d : Int) (K : (Int × Int × Int) → Option ρ) : Option ρ := bif decide (d = 0) then none else (bif decide (d = 0) then none else (let t1 := (spec_l02Divide.fin5 lo_1 d ((u64 (Int.tdiv hi_0 d)), (Int.tmod hi_0 d), 0, 63)); K (t1.1, t1.2.2.1, t1.2.1)))
theorem spec_l02Divide.t_eq {ρ : Type} (hi_0 : Int) (lo_1 : Int) (d : Int) (hpre : ((d != 0)) = true) (K : (Int × Int × Int) → Option ρ) : spec_l02Divide.t hi_0 lo_1 d K = K (spec_l02Divide hi_0 lo_1 d) := cqF (by exact pd_ne hpre) (fun h0 => cqF (by exact pd_ne hpre) (fun h1 => rfl))
theorem spec_l02Divide.gives (hi_0 : Int) (lo_1 : Int) (d : Int) (hpre : ((d != 0)) = true) : GivesV Try.prog 124 [(cInt .u64).enc hi_0, (cInt .u64).enc lo_1, (cInt .u64).enc d] ((cT3 (cInt .u64) (cInt .u64) (cInt .u64)).enc (spec_l02Divide hi_0 lo_1 d)) :=
  givesL hmix [] 0 spec_l02Divide.ls (lam [spec_l02Divide.L5]) Try.func124 rfl rfl spec_l02Divide.lok ((by kernel_rfl : run1 Try.prog (tab []) 0 spec_l02Divide.ls (lam [spec_l02Divide.L5]) Try.f124 [(cInt .u64).enc hi_0, (cInt .u64).enc lo_1, (cInt .u64).enc d] [] = spec_l02Divide.t hi_0 lo_1 d fun r => some ((cT3 (cInt .u64) (cInt .u64) (cInt .u64)).enc r, [])).trans (spec_l02Divide.t_eq hi_0 lo_1 d hpre _))
def spec_l02Divide.e : Entry Try.prog := entry3P (cInt .u64) (cInt .u64) (cInt .u64) (cT3 (cInt .u64) (cInt .u64) (cInt .u64)) 124 spec_l02Divide (fun hi_0 lo_1 d => (d != 0)) spec_l02Divide.gives

/-! ### spec.l02Plus -/
def spec_l02Plus.t {ρ : Type} (a : Wd) (b : Wd) (K : Wd → Option ρ) : Option ρ := bif decide ((u64 (a.lo + b.lo)) < a.lo) then (K (Wd.mk (w64 ((w64 (a.hi + b.hi)) + 1)) (u64 (a.lo + b.lo)))) else (K (Wd.mk (w64 (a.hi + b.hi)) (u64 (a.lo + b.lo))))
theorem spec_l02Plus.t_eq {ρ : Type} (a : Wd) (b : Wd) (K : Wd → Option ρ) : spec_l02Plus.t a b K = K (spec_l02Plus a b) := cq (fun h0 => rfl) (fun h0 => rfl)
theorem spec_l02Plus.gives (a : Wd) (b : Wd) : GivesV Try.prog 125 [cWd.enc a, cWd.enc b] (cWd.enc (spec_l02Plus a b)) :=
  givesT hmix [] 0 none Try.func125 rfl rfl ((by kernel_rfl : run1 Try.prog (tab []) 0 none noL Try.f125 [cWd.enc a, cWd.enc b] [] = spec_l02Plus.t a b fun r => some (cWd.enc r, [])).trans (spec_l02Plus.t_eq a b _))
def spec_l02Plus.e : Entry Try.prog := entry2 cWd cWd cWd 125 spec_l02Plus spec_l02Plus.gives

/-! ### spec.l02Div -/
def spec_l02Div.t {ρ : Type} (w : Wd) (d : Int) (K : (Wd × Int) → Option ρ) : Option ρ := bif decide (w.hi ≥ 0) then (bif ((u64 d) != 0) then (let t1 := (spec_l02Divide (u64 w.hi) w.lo (u64 d)); K ((Wd.mk (w64 t1.1) t1.2.1), (w64 t1.2.2))) else none) else (let t2 := (spec_l02Minus w); bif ((u64 d) != 0) then (let t3 := (spec_l02Divide (u64 t2.hi) t2.lo (u64 d)); let t4 := (spec_l02Minus (Wd.mk (w64 t3.1) t3.2.1)); bif (t3.2.2 == 0) then (K (t4, 0)) else (K ((spec_l02Plus t4 (spec_l02Of (-1))), (w64 (d - (w64 t3.2.2)))))) else none)
theorem spec_l02Div.t_eq {ρ : Type} (w : Wd) (d : Int) (hpre : ((u64 d != 0)) = true) (K : (Wd × Int) → Option ρ) : spec_l02Div.t w d K = K (spec_l02Div w d) := cq (fun h0 => cqT (by exact hpre) (fun h1 => rfl)) (fun h0 => cqT (by exact hpre) (fun h1 => cq (fun h2 => rfl) (fun h2 => rfl)))
theorem spec_l02Div.gives (w : Wd) (d : Int) (hpre : ((u64 d != 0)) = true) : GivesV Try.prog 117 [cWd.enc w, (cInt .i64).enc d] ((cT2 cWd (cInt .i64)).enc (spec_l02Div w d)) :=
  givesT hmix [spec_l02Divide.e, spec_l02Minus.e, spec_l02Of.e, spec_l02Plus.e] 0 none Try.func117 rfl rfl ((by kernel_rfl : run1 Try.prog (tab [spec_l02Divide.e, spec_l02Minus.e, spec_l02Of.e, spec_l02Plus.e]) 0 none noL Try.f117 [cWd.enc w, (cInt .i64).enc d] [] = spec_l02Div.t w d fun r => some ((cT2 cWd (cInt .i64)).enc r, [])).trans (spec_l02Div.t_eq w d hpre _))
def spec_l02Div.e : Entry Try.prog := entry2P cWd (cInt .i64) (cT2 cWd (cInt .i64)) 117 spec_l02Div (fun w d => (u64 d != 0)) spec_l02Div.gives

/-! ### spec.MulDivFloor -/
def spec_MulDivFloor.t {ρ : Type} (a : Int) (b : Int) (d : Int) (K : (Int × Bool) → Option ρ) : Option ρ := bif decide (d ≤ 0) then (K (0, false)) else (bif (u64 d != 0) then (let t3 := (spec_l02Int (spec_l02Div (spec_l02Mul a b) d).1); K (t3.1, t3.2)) else none)
theorem spec_MulDivFloor.t_eq {ρ : Type} (a : Int) (b : Int) (d : Int) (hpre : (decide (d ≤ 9223372036854775807)) = true) (K : (Int × Bool) → Option ρ) : spec_MulDivFloor.t a b d K = K (spec_MulDivFloor a b d) := cq (fun h0 => rfl) (fun h0 => cqT (by exact pd_u hpre h0) (fun h1 => rfl))
theorem spec_MulDivFloor.gives (a : Int) (b : Int) (d : Int) (hpre : (decide (d ≤ 9223372036854775807)) = true) : GivesV Try.prog 108 [(cInt .i64).enc a, (cInt .i64).enc b, (cInt .i64).enc d] ((cT2 (cInt .i64) cBool).enc (spec_MulDivFloor a b d)) :=
  givesT hmix [spec_l02Mul.e, spec_l02Div.e, spec_l02Int.e] 0 none Try.func108 rfl rfl ((by kernel_rfl : run1 Try.prog (tab [spec_l02Mul.e, spec_l02Div.e, spec_l02Int.e]) 0 none noL Try.f108 [(cInt .i64).enc a, (cInt .i64).enc b, (cInt .i64).enc d] [] = spec_MulDivFloor.t a b d fun r => some ((cT2 (cInt .i64) cBool).enc r, [])).trans (spec_MulDivFloor.t_eq a b d hpre _))
def spec_MulDivFloor.e : Entry Try.prog := entry3P (cInt .i64) (cInt .i64) (cInt .i64) (cT2 (cInt .i64) cBool) 108 spec_MulDivFloor (fun a b d => decide (d ≤ 9223372036854775807)) spec_MulDivFloor.gives

/-! ### spec.l03DivDown -/
def spec_l03DivDown.t {ρ : Type} (a : Int) (b : Int) (K : (Int × Bool) → Option ρ) : Option ρ := bif (!(spec_l03Ok a)) then (K (0, false)) else (bif (!(spec_l03Ok b)) then (K (0, false)) else (bif (b == 0) then (K (0, false)) else (bif decide (b < 0) then (bif decide ((w64 (0 - b)) ≤ 9223372036854775807) then (let t3 := (spec_MulDivFloor (w64 (0 - a)) 4294967296 (w64 (0 - b))); let t4 := (spec_l03End t3.1 t3.2); K (t4.1, t4.2)) else none) else (bif decide (b ≤ 9223372036854775807) then (let t5 := (spec_MulDivFloor a 4294967296 b); let t6 := (spec_l03End t5.1 t5.2); K (t6.1, t6.2)) else none))))
theorem spec_l03DivDown.t_eq {ρ : Type} (a : Int) (b : Int) (K : (Int × Bool) → Option ρ) : spec_l03DivDown.t a b K = K (spec_l03DivDown a b) := cq (fun h0 => rfl) (fun h0 => cq (fun h1 => rfl) (fun h1 => cq (fun h2 => rfl) (fun h2 => cq (fun h3 => cqT (by first | exact decide_eq_true (w64_le _) | exact pd_fix' h1) (fun h4 => rfl)) (fun h3 => cqT (by first | exact decide_eq_true (w64_le _) | exact pd_fix' h1) (fun h4 => rfl)))))
theorem spec_l03DivDown.gives (a : Int) (b : Int) : GivesV Try.prog 99 [(cInt .i64).enc a, (cInt .i64).enc b] ((cT2 (cInt .i64) cBool).enc (spec_l03DivDown a b)) :=
  givesT hmix [spec_l03Ok.e, spec_MulDivFloor.e, spec_l03End.e] 0 none Try.func99 rfl rfl ((by kernel_rfl : run1 Try.prog (tab [spec_l03Ok.e, spec_MulDivFloor.e, spec_l03End.e]) 0 none noL Try.f99 [(cInt .i64).enc a, (cInt .i64).enc b] [] = spec_l03DivDown.t a b fun r => some ((cT2 (cInt .i64) cBool).enc r, [])).trans (spec_l03DivDown.t_eq a b _))
def spec_l03DivDown.e : Entry Try.prog := entry2 (cInt .i64) (cInt .i64) (cT2 (cInt .i64) cBool) 99 spec_l03DivDown spec_l03DivDown.gives

/-! ### spec.l03DivUp -/
def spec_l03DivUp.t {ρ : Type} (a : Int) (b : Int) (K : (Int × Bool) → Option ρ) : Option ρ := bif (!(spec_l03Ok a)) then (K (0, false)) else (let t2 := (spec_l03DivDown (w64 (0 - a)) b); K ((w64 (0 - t2.1)), t2.2))
theorem spec_l03DivUp.t_eq {ρ : Type} (a : Int) (b : Int) (K : (Int × Bool) → Option ρ) : spec_l03DivUp.t a b K = K (spec_l03DivUp a b) := cq (fun h0 => rfl) (fun h0 => rfl)
theorem spec_l03DivUp.gives (a : Int) (b : Int) : GivesV Try.prog 100 [(cInt .i64).enc a, (cInt .i64).enc b] ((cT2 (cInt .i64) cBool).enc (spec_l03DivUp a b)) :=
  givesT hmix [spec_l03Ok.e, spec_l03DivDown.e] 0 none Try.func100 rfl rfl ((by kernel_rfl : run1 Try.prog (tab [spec_l03Ok.e, spec_l03DivDown.e]) 0 none noL Try.f100 [(cInt .i64).enc a, (cInt .i64).enc b] [] = spec_l03DivUp.t a b fun r => some ((cT2 (cInt .i64) cBool).enc r, [])).trans (spec_l03DivUp.t_eq a b _))
def spec_l03DivUp.e : Entry Try.prog := entry2 (cInt .i64) (cInt .i64) (cT2 (cInt .i64) cBool) 100 spec_l03DivUp spec_l03DivUp.gives

/-! ### spec.DivI -/
def spec_DivI.t {ρ : Type} (d : Iv) (i : Iv) (K : Iv → Option ρ) : Option ρ := bif (!(spec_l04Ok d)) then (K spec_l04Whole) else (bif (!(spec_l04Ok i)) then (K spec_l04Whole) else (bif (spec_l04Has i 0) then (K spec_l04Whole) else (let t7 := (spec_l03DivDown d.lo i.lo); let t8 := (spec_l03DivUp d.lo i.lo); bif (!t7.2) then (K spec_l04Whole) else (bif (!t8.2) then (K spec_l04Whole) else (let t13 := (spec_l03DivDown d.lo i.hi); let t14 := (spec_l03DivUp d.lo i.hi); bif (!t13.2) then (K spec_l04Whole) else (bif (!t14.2) then (K spec_l04Whole) else (let t19 := (spec_l03DivDown d.hi i.lo); let t20 := (spec_l03DivUp d.hi i.lo); bif (!t19.2) then (K spec_l04Whole) else (bif (!t20.2) then (K spec_l04Whole) else (let t25 := (spec_l03DivDown d.hi i.hi); let t26 := (spec_l03DivUp d.hi i.hi); bif (!t25.2) then (K spec_l04Whole) else (bif (!t26.2) then (K spec_l04Whole) else (K (spec_l04Make (spec_l00Min (spec_l00Min (spec_l00Min (spec_l00Min 1152921504606846976 t7.1) t13.1) t19.1) t25.1) (spec_l00Max (spec_l00Max (spec_l00Max (spec_l00Max (-1152921504606846976) t8.1) t14.1) t20.1) t26.1)))))))))))))
theorem spec_DivI.t_eq {ρ : Type} (d : Iv) (i : Iv) (K : Iv → Option ρ) : spec_DivI.t d i K = K (spec_DivI d i) := cq (fun h0 => rfl) (fun h0 => cq (fun h1 => rfl) (fun h1 => cq (fun h2 => rfl) (fun h2 => cq (fun h3 => rfl) (fun h3 => cq (fun h4 => rfl) (fun h4 => cq (fun h5 => rfl) (fun h5 => cq (fun h6 => rfl) (fun h6 => cq (fun h7 => rfl) (fun h7 => cq (fun h8 => rfl) (fun h8 => cq (fun h9 => rfl) (fun h9 => cq (fun h10 => rfl) (fun h10 => rfl)))))))))))
theorem spec_DivI.gives (d : Iv) (i : Iv) : GivesV Try.prog 89 [cIv.enc d, cIv.enc i] (cIv.enc (spec_DivI d i)) :=
  givesT hmix [spec_l04Ok.e, spec_l04Whole.e, spec_l04Has.e, spec_l03DivDown.e, spec_l03DivUp.e, spec_l00Min.e, spec_l00Max.e, spec_l04Make.e] 3 none Try.func89 rfl rfl ((by kernel_rfl : run1 Try.prog (tab [spec_l04Ok.e, spec_l04Whole.e, spec_l04Has.e, spec_l03DivDown.e, spec_l03DivUp.e, spec_l00Min.e, spec_l00Max.e, spec_l04Make.e]) 3 none noL Try.f89 [cIv.enc d, cIv.enc i] [] = spec_DivI.t d i fun r => some (cIv.enc r, [])).trans (spec_DivI.t_eq d i _))
def spec_DivI.e : Entry Try.prog := entry2 cIv cIv cIv 89 spec_DivI spec_DivI.gives

/-! ### spec.l10Over -/
def spec_l10Over.t {ρ : Type} (a : V3) (d : Iv) (K : V3 → Option ρ) : Option ρ := K (V3.mk (spec_DivI a.x d) (spec_DivI a.y d) (spec_DivI a.z d))
theorem spec_l10Over.t_eq {ρ : Type} (a : V3) (d : Iv) (K : V3 → Option ρ) : spec_l10Over.t a d K = K (spec_l10Over a d) := rfl
theorem spec_l10Over.gives (a : V3) (d : Iv) : GivesV Try.prog 64 [cV3.enc a, cIv.enc d] (cV3.enc (spec_l10Over a d)) :=
  givesT hmix [spec_DivI.e] 0 none Try.func64 rfl rfl ((by kernel_rfl : run1 Try.prog (tab [spec_DivI.e]) 0 none noL Try.f64 [cV3.enc a, cIv.enc d] [] = spec_l10Over.t a d fun r => some (cV3.enc r, [])).trans (spec_l10Over.t_eq a d _))
def spec_l10Over.e : Entry Try.prog := entry2 cV3 cIv cV3 64 spec_l10Over spec_l10Over.gives

/-! ### spec.InverseM -/
def spec_InverseM.t {ρ : Type} (m : M3) (K : (M3 × Bool) → Option ρ) : Option ρ := let t1 := (spec_CrossV m.b m.c); let t4 := (spec_DotV m.a t1); bif (spec_HasI t4 0) then (K ((M3.mk (V3.mk (Iv.mk 0 0) (Iv.mk 0 0) (Iv.mk 0 0)) (V3.mk (Iv.mk 0 0) (Iv.mk 0 0) (Iv.mk 0 0)) (V3.mk (Iv.mk 0 0) (Iv.mk 0 0) (Iv.mk 0 0))), false)) else (let t6 := (spec_l10Columns (M3.mk t1 (spec_CrossV m.c m.a) (spec_CrossV m.a m.b))); K ((M3.mk (spec_l10Over t6.a t4) (spec_l10Over t6.b t4) (spec_l10Over t6.c t4)), true))
theorem spec_InverseM.t_eq {ρ : Type} (m : M3) (K : (M3 × Bool) → Option ρ) : spec_InverseM.t m K = K (spec_InverseM m) := cq (fun h0 => rfl) (fun h0 => rfl)
theorem spec_InverseM.gives (m : M3) : GivesV Try.prog 25 [cM3.enc m] ((cT2 cM3 cBool).enc (spec_InverseM m)) :=
  givesT hmix [spec_CrossV.e, spec_DotV.e, spec_HasI.e, spec_l10Columns.e, spec_l10Over.e] 0 none Try.func25 rfl rfl ((by kernel_rfl : run1 Try.prog (tab [spec_CrossV.e, spec_DotV.e, spec_HasI.e, spec_l10Columns.e, spec_l10Over.e]) 0 none noL Try.f25 [cM3.enc m] [] = spec_InverseM.t m fun r => some ((cT2 cM3 cBool).enc r, [])).trans (spec_InverseM.t_eq m _))
def spec_InverseM.e : Entry Try.prog := entry1 cM3 (cT2 cM3 cBool) 25 spec_InverseM spec_InverseM.gives

/-! ### spec.Integer -/
def spec_Integer.t {ρ : Type} (n : Int) (K : Iv → Option ρ) : Option ρ := bif (!(spec_l00In n (-268435455) 268435455)) then (K spec_l04Whole) else (K (spec_l04Make (w64 (n * 4294967296)) (w64 (n * 4294967296))))
theorem spec_Integer.t_eq {ρ : Type} (n : Int) (K : Iv → Option ρ) : spec_Integer.t n K = K (spec_Integer n) := cq (fun h0 => rfl) (fun h0 => rfl)
theorem spec_Integer.gives (n : Int) : GivesV Try.prog 12 [(cInt .i64).enc n] (cIv.enc (spec_Integer n)) :=
  givesT hmix [spec_l00In.e, spec_l04Whole.e, spec_l04Make.e] 0 none Try.func12 rfl rfl ((by kernel_rfl : run1 Try.prog (tab [spec_l00In.e, spec_l04Whole.e, spec_l04Make.e]) 0 none noL Try.f12 [(cInt .i64).enc n] [] = spec_Integer.t n fun r => some (cIv.enc r, [])).trans (spec_Integer.t_eq n _))
def spec_Integer.e : Entry Try.prog := entry1 (cInt .i64) cIv 12 spec_Integer spec_Integer.gives

/-! ### laws.FnMatrices -/
def laws_FnMatrices.t {ρ : Type} (d : List Value) (i : List Value) (K : Bool → Option ρ) : Option ρ := bif (laws_d8Long d i) then (K true) else (bif okS d 0 then (let t2 := (spec_E8Mat d); bif okS i 0 then (let t3 := (spec_E8Mat i); bif okS i 0 then (let t4 := (spec_E8Vec i); bif (!(spec_OverlapV (impl_ApplyM (impl_MulM t2 t3) t4) (impl_ApplyM t2 (impl_ApplyM t3 t4)))) then (K false) else (let t10 := (impl_InverseM t2); bif (!t10.2) then (K (!(spec_InverseM t2).2)) else (let t12 := (impl_MulM t2 t10.1); let t13 := (spec_Integer 0); let t14 := (spec_Integer 1); bif (spec_OverlapV t12.a (V3.mk t14 t13 t13)) then (bif (spec_OverlapV t12.b (V3.mk t13 t14 t13)) then (K (spec_OverlapV t12.c (V3.mk t13 t13 t14))) else (K false)) else (K false)))) else none) else none) else none)
theorem laws_FnMatrices.t_eq {ρ : Type} (d : List Value) (i : List Value) (hpre : ((bytesOk d && bytesOk i)) = true) (K : Bool → Option ρ) : laws_FnMatrices.t d i K = K (laws_FnMatrices d i) := cq (fun h0 => rfl) (fun h0 => cqT (by first | exact pd_ok1 hpre h0 | exact pd_ok2 hpre h0) (fun h1 => cqT (by first | exact pd_ok1 hpre h0 | exact pd_ok2 hpre h0) (fun h2 => cqT (by first | exact pd_ok1 hpre h0 | exact pd_ok2 hpre h0) (fun h3 => cq (fun h4 => rfl) (fun h4 => cq (fun h5 => rfl) (fun h5 => cq (fun h6 => cq (fun h7 => rfl) (fun h7 => rfl)) (fun h6 => rfl)))))))
theorem laws_FnMatrices.gives (d : List Value) (i : List Value) (hpre : ((bytesOk d && bytesOk i)) = true) : GivesA Try.prog 4 [(aL (.int .u8 0) 5).enc d, (aL (.int .u8 0) 5).enc i] (cBool.enc (laws_FnMatrices d i)) :=
  givesA_L hmix [laws_d8Long.e, spec_E8Mat.e, spec_E8Vec.e, impl_MulM.e, impl_ApplyM.e, spec_OverlapV.e, impl_InverseM.e, spec_InverseM.e, spec_Integer.e] 0 none noL Try.func4 rfl (fun _ _ => noL_ok) ((by kernel_rfl : run1 Try.prog (tab [laws_d8Long.e, spec_E8Mat.e, spec_E8Vec.e, impl_MulM.e, impl_ApplyM.e, spec_OverlapV.e, impl_InverseM.e, spec_InverseM.e, spec_Integer.e]) 0 none noL Try.f4 (argVals 0 [(aL (.int .u8 0) 5).enc d, (aL (.int .u8 0) 5).enc i]) (argBlocks [(aL (.int .u8 0) 5).enc d, (aL (.int .u8 0) 5).enc i]) = laws_FnMatrices.t d i fun r => some (cBool.enc r, argBlocks [(aL (.int .u8 0) 5).enc d, (aL (.int .u8 0) 5).enc i])).trans (laws_FnMatrices.t_eq d i hpre _))
def laws_FnMatrices.e : Entry Try.prog := entryA2 (aL (.int .u8 0) 5) (aL (.int .u8 0) 5) cBool 4 laws_FnMatrices (fun d i => (bytesOk d && bytesOk i)) (fun d i h => laws_FnMatrices.gives d i h)

end Go.Proofs.Ytogpbandlpjccaa
