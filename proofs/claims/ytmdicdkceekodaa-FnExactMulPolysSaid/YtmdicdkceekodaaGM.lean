import Derived.Test.YtmdicdkceekodaaProg
import Derived.Test.YtmdicdkceekodaaRxG
import Derived.Test.YtmdicdkceekodaaDP
set_option linter.unusedVariables false
set_option linter.unusedSimpArgs false
set_option maxRecDepth 100000
namespace Go.Proofs.Ytmdicdkceekodaa
open Go Go.RX Go.G880 Go.Proofs
theorem hmix : Try.prog.follows .mixedOrders = true := by kernel_rfl
/-! ### impl.ValidInterval -/
def impl_ValidInterval.t {ρ : Type} (i : Iv) (K : Bool → Option ρ) : Option ρ := bif decide ((-1152921504606846976) < i.lo) then (bif decide (i.lo ≤ i.hi) then (K (decide (i.hi < 1152921504606846976))) else (K false)) else (K false)
theorem impl_ValidInterval.t_eq {ρ : Type} (i : Iv) (K : Bool → Option ρ) : impl_ValidInterval.t i K = K (impl_ValidInterval i) := cq (fun h0 => cq (fun h1 => rfl) (fun h1 => rfl)) (fun h0 => rfl)
theorem impl_ValidInterval.gives (i : Iv) : GivesV Try.prog 61 [cIv.enc i] (cBool.enc (impl_ValidInterval i)) :=
  givesT hmix [] 0 none Try.func61 rfl rfl ((by kernel_rfl : run1 Try.prog (tab []) 0 none noL Try.f61 [cIv.enc i] [] = impl_ValidInterval.t i fun r => some (cBool.enc r, [])).trans (impl_ValidInterval.t_eq i _))
def impl_ValidInterval.e : Entry Try.prog := entry1 cIv cBool 61 impl_ValidInterval impl_ValidInterval.gives

/-! ### impl.areBounded -/
def impl_areBounded.t {ρ : Type} (a : Iv) (b : Iv) (K : Bool → Option ρ) : Option ρ := bif (impl_ValidInterval a) then (K (impl_ValidInterval b)) else (K false)
theorem impl_areBounded.t_eq {ρ : Type} (a : Iv) (b : Iv) (K : Bool → Option ρ) : impl_areBounded.t a b K = K (impl_areBounded a b) := cq (fun h0 => rfl) (fun h0 => rfl)
theorem impl_areBounded.gives (a : Iv) (b : Iv) : GivesV Try.prog 42 [cIv.enc a, cIv.enc b] (cBool.enc (impl_areBounded a b)) :=
  givesT hmix [impl_ValidInterval.e] 0 none Try.func42 rfl rfl ((by kernel_rfl : run1 Try.prog (tab [impl_ValidInterval.e]) 0 none noL Try.f42 [cIv.enc a, cIv.enc b] [] = impl_areBounded.t a b fun r => some (cBool.enc r, [])).trans (impl_areBounded.t_eq a b _))
def impl_areBounded.e : Entry Try.prog := entry2 cIv cIv cBool 42 impl_areBounded impl_areBounded.gives

/-! ### impl.Whole -/
def impl_Whole.t {ρ : Type} (K : Iv → Option ρ) : Option ρ := K (Iv.mk (-1152921504606846976) 1152921504606846976)
theorem impl_Whole.t_eq {ρ : Type} (K : Iv → Option ρ) : impl_Whole.t K = K impl_Whole := rfl
theorem impl_Whole.gives : GivesV Try.prog 43 [] (cIv.enc impl_Whole) :=
  givesT hmix [] 0 none Try.func43 rfl rfl ((by kernel_rfl : run1 Try.prog (tab []) 0 none noL Try.f43 [] [] = impl_Whole.t fun r => some (cIv.enc r, [])).trans (impl_Whole.t_eq _))
def impl_Whole.e : Entry Try.prog := entry0 cIv 43 impl_Whole impl_Whole.gives

/-! ### impl.within -/
def impl_within.t {ρ : Type} (x : Int) (low : Int) (high : Int) (K : Bool → Option ρ) : Option ρ := bif decide (x ≥ low) then (K (decide (x ≤ high))) else (K false)
theorem impl_within.t_eq {ρ : Type} (x : Int) (low : Int) (high : Int) (K : Bool → Option ρ) : impl_within.t x low high K = K (impl_within x low high) := cq (fun h0 => rfl) (fun h0 => rfl)
theorem impl_within.gives (x : Int) (low : Int) (high : Int) : GivesV Try.prog 38 [(cInt .i64).enc x, (cInt .i64).enc low, (cInt .i64).enc high] (cBool.enc (impl_within x low high)) :=
  givesT hmix [] 0 none Try.func38 rfl rfl ((by kernel_rfl : run1 Try.prog (tab []) 0 none noL Try.f38 [(cInt .i64).enc x, (cInt .i64).enc low, (cInt .i64).enc high] [] = impl_within.t x low high fun r => some (cBool.enc r, [])).trans (impl_within.t_eq x low high _))
def impl_within.e : Entry Try.prog := entry3 (cInt .i64) (cInt .i64) (cInt .i64) cBool 38 impl_within impl_within.gives

/-! ### impl.ValidFix -/
def impl_ValidFix.t {ρ : Type} (n : Int) (K : Bool → Option ρ) : Option ρ := K (impl_within n (-1152921504606846976) 1152921504606846976)
theorem impl_ValidFix.t_eq {ρ : Type} (n : Int) (K : Bool → Option ρ) : impl_ValidFix.t n K = K (impl_ValidFix n) := rfl
theorem impl_ValidFix.gives (n : Int) : GivesV Try.prog 62 [(cInt .i64).enc n] (cBool.enc (impl_ValidFix n)) :=
  givesT hmix [impl_within.e] 0 none Try.func62 rfl rfl ((by kernel_rfl : run1 Try.prog (tab [impl_within.e]) 0 none noL Try.f62 [(cInt .i64).enc n] [] = impl_ValidFix.t n fun r => some (cBool.enc r, [])).trans (impl_ValidFix.t_eq n _))
def impl_ValidFix.e : Entry Try.prog := entry1 (cInt .i64) cBool 62 impl_ValidFix impl_ValidFix.gives

/-! ### bits.Mul64 -/
def bits_Mul64.t {ρ : Type} (x : Int) (y : Int) (K : (Int × Int) → Option ρ) : Option ρ := let x2 := (u64 ((u64 ((Int.fdiv x 4294967296) * (andI .u64 y 4294967295))) + (Int.fdiv (u64 ((andI .u64 x 4294967295) * (andI .u64 y 4294967295))) 4294967296))); K ((u64 ((u64 ((u64 ((Int.fdiv x 4294967296) * (Int.fdiv y 4294967296))) + (Int.fdiv x2 4294967296))) + (Int.fdiv (u64 ((andI .u64 x2 4294967295) + (u64 ((andI .u64 x 4294967295) * (Int.fdiv y 4294967296))))) 4294967296))), (u64 (x * y)))
theorem bits_Mul64.t_eq {ρ : Type} (x : Int) (y : Int) (K : (Int × Int) → Option ρ) : bits_Mul64.t x y K = K (bits_Mul64 x y) := rfl
theorem bits_Mul64.gives (x : Int) (y : Int) : GivesV Try.prog 88 [(cInt .u64).enc x, (cInt .u64).enc y] ((cT2 (cInt .u64) (cInt .u64)).enc (bits_Mul64 x y)) :=
  givesT hmix [] 0 none Try.func88 rfl rfl ((by kernel_rfl : run1 Try.prog (tab []) 0 none noL Try.f88 [(cInt .u64).enc x, (cInt .u64).enc y] [] = bits_Mul64.t x y fun r => some ((cT2 (cInt .u64) (cInt .u64)).enc r, [])).trans (bits_Mul64.t_eq x y _))
def bits_Mul64.e : Entry Try.prog := entry2 (cInt .u64) (cInt .u64) (cT2 (cInt .u64) (cInt .u64)) 88 bits_Mul64 bits_Mul64.gives

/-! ### impl.WideMul -/
def impl_WideMul.t {ρ : Type} (a : Int) (b : Int) (K : Wd → Option ρ) : Option ρ := let t1 := (bits_Mul64 (u64 a) (u64 b)); bif decide (a < 0) then (bif decide (b < 0) then (K (Wd.mk (w64 (u64 ((u64 (t1.1 - (u64 b))) - (u64 a)))) t1.2)) else (K (Wd.mk (w64 (u64 (t1.1 - (u64 b)))) t1.2))) else (bif decide (b < 0) then (K (Wd.mk (w64 (u64 (t1.1 - (u64 a)))) t1.2)) else (K (Wd.mk (w64 t1.1) t1.2)))
theorem impl_WideMul.t_eq {ρ : Type} (a : Int) (b : Int) (K : Wd → Option ρ) : impl_WideMul.t a b K = K (impl_WideMul a b) := cq (fun h0 => cq (fun h1 => rfl) (fun h1 => rfl)) (fun h0 => cq (fun h1 => rfl) (fun h1 => rfl))
theorem impl_WideMul.gives (a : Int) (b : Int) : GivesV Try.prog 78 [(cInt .i64).enc a, (cInt .i64).enc b] (cWd.enc (impl_WideMul a b)) :=
  givesT hmix [bits_Mul64.e] 0 none Try.func78 rfl rfl ((by kernel_rfl : run1 Try.prog (tab [bits_Mul64.e]) 0 none noL Try.f78 [(cInt .i64).enc a, (cInt .i64).enc b] [] = impl_WideMul.t a b fun r => some (cWd.enc r, [])).trans (impl_WideMul.t_eq a b _))
def impl_WideMul.e : Entry Try.prog := entry2 (cInt .i64) (cInt .i64) cWd 78 impl_WideMul impl_WideMul.gives

/-! ### impl.WideShift -/
def impl_WideShift.t {ρ : Type} (w : Wd) (n : Int) (K : Wd → Option ρ) : Option ρ := bif (!(impl_within n 0 127)) then (K (Wd.mk 0 0)) else (bif decide (n ≥ 64) then (bif decide ((w64 (n - 64)) < 0) then none else (K (Wd.mk (Int.fdiv w.hi 9223372036854775808) (u64 (Int.fdiv w.hi (2 ^ (min (Int.toNat (w64 (n - 64))) 64))))))) else (bif decide (n < 0) then none else (bif decide (n < 0) then none else (bif decide ((w64 (64 - n)) < 0) then none else (K (Wd.mk (Int.fdiv w.hi (2 ^ (min (Int.toNat n) 64))) (orI .u64 (Int.fdiv w.lo (2 ^ (min (Int.toNat n) 64))) (u64 ((u64 w.hi) * (2 ^ (min (Int.toNat (w64 (64 - n))) 64)))))))))))
theorem impl_WideShift.t_eq {ρ : Type} (w : Wd) (n : Int) (K : Wd → Option ρ) : impl_WideShift.t w n K = K (impl_WideShift w n) := cq (fun h0 => rfl) (fun h0 => cq (fun h1 => cqF (by first | exact u64_neg _ | (simp only [decide_eq_true_eq, decide_eq_false_iff_not] at *; omega) | (simp only [Bool.not_eq_eq_eq_not, Bool.not_false, inside_iff, l00In_iff, decide_eq_true_eq, decide_eq_false_iff_not, w64_def, u64_def] at *; omega)) (fun h2 => rfl)) (fun h1 => cqF (by first | exact u64_neg _ | (simp only [decide_eq_true_eq, decide_eq_false_iff_not] at *; omega) | (simp only [Bool.not_eq_eq_eq_not, Bool.not_false, inside_iff, l00In_iff, decide_eq_true_eq, decide_eq_false_iff_not, w64_def, u64_def] at *; omega)) (fun h2 => cqF (by first | exact u64_neg _ | (simp only [decide_eq_true_eq, decide_eq_false_iff_not] at *; omega) | (simp only [Bool.not_eq_eq_eq_not, Bool.not_false, inside_iff, l00In_iff, decide_eq_true_eq, decide_eq_false_iff_not, w64_def, u64_def] at *; omega)) (fun h3 => cqF (by first | exact u64_neg _ | (simp only [decide_eq_true_eq, decide_eq_false_iff_not] at *; omega) | (simp only [Bool.not_eq_eq_eq_not, Bool.not_false, inside_iff, l00In_iff, decide_eq_true_eq, decide_eq_false_iff_not, w64_def, u64_def] at *; omega)) (fun h4 => rfl)))))
theorem impl_WideShift.gives (w : Wd) (n : Int) : GivesV Try.prog 77 [cWd.enc w, (cInt .i64).enc n] (cWd.enc (impl_WideShift w n)) :=
  givesT hmix [impl_within.e] 0 none Try.func77 rfl rfl ((by kernel_rfl : run1 Try.prog (tab [impl_within.e]) 0 none noL Try.f77 [cWd.enc w, (cInt .i64).enc n] [] = impl_WideShift.t w n fun r => some (cWd.enc r, [])).trans (impl_WideShift.t_eq w n _))
def impl_WideShift.e : Entry Try.prog := entry2 cWd (cInt .i64) cWd 77 impl_WideShift impl_WideShift.gives

/-! ### impl.WideOf -/
def impl_WideOf.t {ρ : Type} (n : Int) (K : Wd → Option ρ) : Option ρ := K (Wd.mk (Int.fdiv n 9223372036854775808) (u64 n))
theorem impl_WideOf.t_eq {ρ : Type} (n : Int) (K : Wd → Option ρ) : impl_WideOf.t n K = K (impl_WideOf n) := rfl
theorem impl_WideOf.gives (n : Int) : GivesV Try.prog 87 [(cInt .i64).enc n] (cWd.enc (impl_WideOf n)) :=
  givesT hmix [] 0 none Try.func87 rfl rfl ((by kernel_rfl : run1 Try.prog (tab []) 0 none noL Try.f87 [(cInt .i64).enc n] [] = impl_WideOf.t n fun r => some (cWd.enc r, [])).trans (impl_WideOf.t_eq n _))
def impl_WideOf.e : Entry Try.prog := entry1 (cInt .i64) cWd 87 impl_WideOf impl_WideOf.gives

/-! ### impl.WideInt -/
def impl_WideInt.t {ρ : Type} (w : Wd) (K : (Int × Bool) → Option ρ) : Option ρ := let t1 := (impl_WideOf (w64 w.lo)); bif (!((t1.hi == w.hi) && (t1.lo == w.lo))) then (K (0, false)) else (K ((w64 w.lo), true))
theorem impl_WideInt.t_eq {ρ : Type} (w : Wd) (K : (Int × Bool) → Option ρ) : impl_WideInt.t w K = K (impl_WideInt w) := cq (fun h0 => rfl) (fun h0 => rfl)
theorem impl_WideInt.gives (w : Wd) : GivesV Try.prog 76 [cWd.enc w] ((cT2 (cInt .i64) cBool).enc (impl_WideInt w)) :=
  givesT hmix [impl_WideOf.e] 0 none Try.func76 rfl rfl ((by kernel_rfl : run1 Try.prog (tab [impl_WideOf.e]) 0 none noL Try.f76 [cWd.enc w] [] = impl_WideInt.t w fun r => some ((cT2 (cInt .i64) cBool).enc r, [])).trans (impl_WideInt.t_eq w _))
def impl_WideInt.e : Entry Try.prog := entry1 cWd (cT2 (cInt .i64) cBool) 76 impl_WideInt impl_WideInt.gives

/-! ### impl.MulFloor -/
def impl_MulFloor.t {ρ : Type} (a : Int) (b : Int) (shift : Int) (K : (Int × Bool) → Option ρ) : Option ρ := bif (!(impl_within shift 0 126)) then (K (0, false)) else (let t4 := (impl_WideInt (impl_WideShift (impl_WideMul a b) shift)); K (t4.1, t4.2))
theorem impl_MulFloor.t_eq {ρ : Type} (a : Int) (b : Int) (shift : Int) (K : (Int × Bool) → Option ρ) : impl_MulFloor.t a b shift K = K (impl_MulFloor a b shift) := cq (fun h0 => rfl) (fun h0 => rfl)
theorem impl_MulFloor.gives (a : Int) (b : Int) (shift : Int) : GivesV Try.prog 64 [(cInt .i64).enc a, (cInt .i64).enc b, (cInt .i64).enc shift] ((cT2 (cInt .i64) cBool).enc (impl_MulFloor a b shift)) :=
  givesT hmix [impl_within.e, impl_WideMul.e, impl_WideShift.e, impl_WideInt.e] 0 none Try.func64 rfl rfl ((by kernel_rfl : run1 Try.prog (tab [impl_within.e, impl_WideMul.e, impl_WideShift.e, impl_WideInt.e]) 0 none noL Try.f64 [(cInt .i64).enc a, (cInt .i64).enc b, (cInt .i64).enc shift] [] = impl_MulFloor.t a b shift fun r => some ((cT2 (cInt .i64) cBool).enc r, [])).trans (impl_MulFloor.t_eq a b shift _))
def impl_MulFloor.e : Entry Try.prog := entry3 (cInt .i64) (cInt .i64) (cInt .i64) (cT2 (cInt .i64) cBool) 64 impl_MulFloor impl_MulFloor.gives

/-! ### impl.fixed -/
def impl_fixed.t {ρ : Type} (n : Int) (ok : Bool) (K : (Int × Bool) → Option ρ) : Option ρ := bif (!ok) then (K (0, false)) else (bif (!(impl_ValidFix n)) then (K (0, false)) else (K (n, true)))
theorem impl_fixed.t_eq {ρ : Type} (n : Int) (ok : Bool) (K : (Int × Bool) → Option ρ) : impl_fixed.t n ok K = K (impl_fixed n ok) := cq (fun h0 => rfl) (fun h0 => cq (fun h1 => rfl) (fun h1 => rfl))
theorem impl_fixed.gives (n : Int) (ok : Bool) : GivesV Try.prog 63 [(cInt .i64).enc n, cBool.enc ok] ((cT2 (cInt .i64) cBool).enc (impl_fixed n ok)) :=
  givesT hmix [impl_ValidFix.e] 0 none Try.func63 rfl rfl ((by kernel_rfl : run1 Try.prog (tab [impl_ValidFix.e]) 0 none noL Try.f63 [(cInt .i64).enc n, cBool.enc ok] [] = impl_fixed.t n ok fun r => some ((cT2 (cInt .i64) cBool).enc r, [])).trans (impl_fixed.t_eq n ok _))
def impl_fixed.e : Entry Try.prog := entry2 (cInt .i64) cBool (cT2 (cInt .i64) cBool) 63 impl_fixed impl_fixed.gives

/-! ### impl.MulDown -/
def impl_MulDown.t {ρ : Type} (a : Int) (b : Int) (K : (Int × Bool) → Option ρ) : Option ρ := bif (!(impl_ValidFix a)) then (K (0, false)) else (bif (!(impl_ValidFix b)) then (K (0, false)) else (let t3 := (impl_MulFloor a b 32); let t4 := (impl_fixed t3.1 t3.2); K (t4.1, t4.2)))
theorem impl_MulDown.t_eq {ρ : Type} (a : Int) (b : Int) (K : (Int × Bool) → Option ρ) : impl_MulDown.t a b K = K (impl_MulDown a b) := cq (fun h0 => rfl) (fun h0 => cq (fun h1 => rfl) (fun h1 => rfl))
theorem impl_MulDown.gives (a : Int) (b : Int) : GivesV Try.prog 46 [(cInt .i64).enc a, (cInt .i64).enc b] ((cT2 (cInt .i64) cBool).enc (impl_MulDown a b)) :=
  givesT hmix [impl_ValidFix.e, impl_MulFloor.e, impl_fixed.e] 0 none Try.func46 rfl rfl ((by kernel_rfl : run1 Try.prog (tab [impl_ValidFix.e, impl_MulFloor.e, impl_fixed.e]) 0 none noL Try.f46 [(cInt .i64).enc a, (cInt .i64).enc b] [] = impl_MulDown.t a b fun r => some ((cT2 (cInt .i64) cBool).enc r, [])).trans (impl_MulDown.t_eq a b _))
def impl_MulDown.e : Entry Try.prog := entry2 (cInt .i64) (cInt .i64) (cT2 (cInt .i64) cBool) 46 impl_MulDown impl_MulDown.gives

/-! ### impl.MulUp -/
def impl_MulUp.t {ρ : Type} (a : Int) (b : Int) (K : (Int × Bool) → Option ρ) : Option ρ := bif (!(impl_ValidFix a)) then (K (0, false)) else (bif (!(impl_ValidFix b)) then (K (0, false)) else (let t3 := (impl_MulDown (w64 (0 - a)) b); K ((w64 (0 - t3.1)), t3.2)))
theorem impl_MulUp.t_eq {ρ : Type} (a : Int) (b : Int) (K : (Int × Bool) → Option ρ) : impl_MulUp.t a b K = K (impl_MulUp a b) := cq (fun h0 => rfl) (fun h0 => cq (fun h1 => rfl) (fun h1 => rfl))
theorem impl_MulUp.gives (a : Int) (b : Int) : GivesV Try.prog 47 [(cInt .i64).enc a, (cInt .i64).enc b] ((cT2 (cInt .i64) cBool).enc (impl_MulUp a b)) :=
  givesT hmix [impl_ValidFix.e, impl_MulDown.e] 0 none Try.func47 rfl rfl ((by kernel_rfl : run1 Try.prog (tab [impl_ValidFix.e, impl_MulDown.e]) 0 none noL Try.f47 [(cInt .i64).enc a, (cInt .i64).enc b] [] = impl_MulUp.t a b fun r => some ((cT2 (cInt .i64) cBool).enc r, [])).trans (impl_MulUp.t_eq a b _))
def impl_MulUp.e : Entry Try.prog := entry2 (cInt .i64) (cInt .i64) (cT2 (cInt .i64) cBool) 47 impl_MulUp impl_MulUp.gives

/-! ### impl.bounded -/
def impl_bounded.t {ρ : Type} (lo_0 : Int) (hi_1 : Int) (ok : Bool) (K : Iv → Option ρ) : Option ρ := bif ok then (bif (impl_ValidInterval (Iv.mk lo_0 hi_1)) then (K (Iv.mk lo_0 hi_1)) else (K impl_Whole)) else (K impl_Whole)
theorem impl_bounded.t_eq {ρ : Type} (lo_0 : Int) (hi_1 : Int) (ok : Bool) (K : Iv → Option ρ) : impl_bounded.t lo_0 hi_1 ok K = K (impl_bounded lo_0 hi_1 ok) := cq (fun h0 => cq (fun h1 => rfl) (fun h1 => rfl)) (fun h0 => rfl)
theorem impl_bounded.gives (lo_0 : Int) (hi_1 : Int) (ok : Bool) : GivesV Try.prog 44 [(cInt .i64).enc lo_0, (cInt .i64).enc hi_1, cBool.enc ok] (cIv.enc (impl_bounded lo_0 hi_1 ok)) :=
  givesT hmix [impl_ValidInterval.e, impl_Whole.e] 0 none Try.func44 rfl rfl ((by kernel_rfl : run1 Try.prog (tab [impl_ValidInterval.e, impl_Whole.e]) 0 none noL Try.f44 [(cInt .i64).enc lo_0, (cInt .i64).enc hi_1, cBool.enc ok] [] = impl_bounded.t lo_0 hi_1 ok fun r => some (cIv.enc r, [])).trans (impl_bounded.t_eq lo_0 hi_1 ok _))
def impl_bounded.e : Entry Try.prog := entry3 (cInt .i64) (cInt .i64) cBool cIv 44 impl_bounded impl_bounded.gives

/-! ### impl.MulI -/
def impl_MulI.t {ρ : Type} (a : Iv) (b : Iv) (K : Iv → Option ρ) : Option ρ := bif (!(impl_areBounded a b)) then (K impl_Whole) else (let t3 := (impl_MulDown a.lo b.lo); let t4 := (impl_MulUp a.lo b.lo); bif (!t3.2) then (K impl_Whole) else (bif (!t4.2) then (K impl_Whole) else (let t7 := (impl_MulDown a.lo b.hi); let t8 := (impl_MulUp a.lo b.hi); bif (!t7.2) then (K impl_Whole) else (bif (!t8.2) then (K impl_Whole) else (let t11 := (impl_MulDown a.hi b.lo); let t12 := (impl_MulUp a.hi b.lo); bif (!t11.2) then (K impl_Whole) else (bif (!t12.2) then (K impl_Whole) else (let t15 := (impl_MulDown a.hi b.hi); let t16 := (impl_MulUp a.hi b.hi); bif (!t15.2) then (K impl_Whole) else (bif (!t16.2) then (K impl_Whole) else (K (impl_bounded (mnI (mnI (mnI (mnI t3.1 t3.1) t7.1) t11.1) t15.1) (mxI (mxI (mxI (mxI t4.1 t4.1) t8.1) t12.1) t16.1) true))))))))))
theorem impl_MulI.t_eq {ρ : Type} (a : Iv) (b : Iv) (K : Iv → Option ρ) : impl_MulI.t a b K = K (impl_MulI a b) := cq (fun h0 => rfl) (fun h0 => cq (fun h1 => rfl) (fun h1 => cq (fun h2 => rfl) (fun h2 => cq (fun h3 => rfl) (fun h3 => cq (fun h4 => rfl) (fun h4 => cq (fun h5 => rfl) (fun h5 => cq (fun h6 => rfl) (fun h6 => cq (fun h7 => rfl) (fun h7 => cq (fun h8 => rfl) (fun h8 => rfl)))))))))
theorem impl_MulI.gives (a : Iv) (b : Iv) : GivesV Try.prog 22 [cIv.enc a, cIv.enc b] (cIv.enc (impl_MulI a b)) :=
  givesT hmix [impl_areBounded.e, impl_Whole.e, (inl hmix [impl_MulDown.e, impl_MulUp.e, impl_Whole.e, impl_bounded.e] 3 45 Try.f45 Try.func45 rfl)] 3 none Try.func22 rfl rfl ((by kernel_rfl : run1 Try.prog (tab [impl_areBounded.e, impl_Whole.e, (inl hmix [impl_MulDown.e, impl_MulUp.e, impl_Whole.e, impl_bounded.e] 3 45 Try.f45 Try.func45 rfl)]) 3 none noL Try.f22 [cIv.enc a, cIv.enc b] [] = impl_MulI.t a b fun r => some (cIv.enc r, [])).trans (impl_MulI.t_eq a b _))
def impl_MulI.e : Entry Try.prog := entry2 cIv cIv cIv 22 impl_MulI impl_MulI.gives

/-! ### spec.l04Ok -/
def spec_l04Ok.t {ρ : Type} (a : Iv) (K : Bool → Option ρ) : Option ρ := bif decide ((-1152921504606846976) < a.lo) then (bif decide (a.lo ≤ a.hi) then (K (decide (a.hi < 1152921504606846976))) else (K false)) else (K false)
theorem spec_l04Ok.t_eq {ρ : Type} (a : Iv) (K : Bool → Option ρ) : spec_l04Ok.t a K = K (spec_l04Ok a) := cq (fun h0 => cq (fun h1 => rfl) (fun h1 => rfl)) (fun h0 => rfl)
theorem spec_l04Ok.gives (a : Iv) : GivesV Try.prog 25 [cIv.enc a] (cBool.enc (spec_l04Ok a)) :=
  givesT hmix [] 0 none Try.func25 rfl rfl ((by kernel_rfl : run1 Try.prog (tab []) 0 none noL Try.f25 [cIv.enc a] [] = spec_l04Ok.t a fun r => some (cBool.enc r, [])).trans (spec_l04Ok.t_eq a _))
def spec_l04Ok.e : Entry Try.prog := entry1 cIv cBool 25 spec_l04Ok spec_l04Ok.gives

/-! ### spec.l04Whole -/
def spec_l04Whole.t {ρ : Type} (K : Iv → Option ρ) : Option ρ := K (Iv.mk (-1152921504606846976) 1152921504606846976)
theorem spec_l04Whole.t_eq {ρ : Type} (K : Iv → Option ρ) : spec_l04Whole.t K = K spec_l04Whole := rfl
theorem spec_l04Whole.gives : GivesV Try.prog 32 [] (cIv.enc spec_l04Whole) :=
  givesT hmix [] 0 none Try.func32 rfl rfl ((by kernel_rfl : run1 Try.prog (tab []) 0 none noL Try.f32 [] [] = spec_l04Whole.t fun r => some (cIv.enc r, [])).trans (spec_l04Whole.t_eq _))
def spec_l04Whole.e : Entry Try.prog := entry0 cIv 32 spec_l04Whole spec_l04Whole.gives

/-! ### spec.l00In -/
def spec_l00In.t {ρ : Type} (n : Int) (low : Int) (high : Int) (K : Bool → Option ρ) : Option ρ := bif decide (n ≥ low) then (K (decide (n ≤ high))) else (K false)
theorem spec_l00In.t_eq {ρ : Type} (n : Int) (low : Int) (high : Int) (K : Bool → Option ρ) : spec_l00In.t n low high K = K (spec_l00In n low high) := cq (fun h0 => rfl) (fun h0 => rfl)
theorem spec_l00In.gives (n : Int) (low : Int) (high : Int) : GivesV Try.prog 26 [(cInt .i64).enc n, (cInt .i64).enc low, (cInt .i64).enc high] (cBool.enc (spec_l00In n low high)) :=
  givesT hmix [] 0 none Try.func26 rfl rfl ((by kernel_rfl : run1 Try.prog (tab []) 0 none noL Try.f26 [(cInt .i64).enc n, (cInt .i64).enc low, (cInt .i64).enc high] [] = spec_l00In.t n low high fun r => some (cBool.enc r, [])).trans (spec_l00In.t_eq n low high _))
def spec_l00In.e : Entry Try.prog := entry3 (cInt .i64) (cInt .i64) (cInt .i64) cBool 26 spec_l00In spec_l00In.gives

/-! ### spec.l03Ok -/
def spec_l03Ok.t {ρ : Type} (n : Int) (K : Bool → Option ρ) : Option ρ := K (spec_l00In n (-1152921504606846976) 1152921504606846976)
theorem spec_l03Ok.t_eq {ρ : Type} (n : Int) (K : Bool → Option ρ) : spec_l03Ok.t n K = K (spec_l03Ok n) := rfl
theorem spec_l03Ok.gives (n : Int) : GivesV Try.prog 57 [(cInt .i64).enc n] (cBool.enc (spec_l03Ok n)) :=
  givesT hmix [spec_l00In.e] 0 none Try.func57 rfl rfl ((by kernel_rfl : run1 Try.prog (tab [spec_l00In.e]) 0 none noL Try.f57 [(cInt .i64).enc n] [] = spec_l03Ok.t n fun r => some (cBool.enc r, [])).trans (spec_l03Ok.t_eq n _))
def spec_l03Ok.e : Entry Try.prog := entry1 (cInt .i64) cBool 57 spec_l03Ok spec_l03Ok.gives

/-! ### spec.l02Size -/
def spec_l02Size.t {ρ : Type} (n : Int) (K : Int → Option ρ) : Option ρ := bif decide (n < 0) then (K (u64 (0 - (u64 n)))) else (K (u64 n))
theorem spec_l02Size.t_eq {ρ : Type} (n : Int) (K : Int → Option ρ) : spec_l02Size.t n K = K (spec_l02Size n) := cq (fun h0 => rfl) (fun h0 => rfl)
theorem spec_l02Size.gives (n : Int) : GivesV Try.prog 85 [(cInt .i64).enc n] ((cInt .u64).enc (spec_l02Size n)) :=
  givesT hmix [] 0 none Try.func85 rfl rfl ((by kernel_rfl : run1 Try.prog (tab []) 0 none noL Try.f85 [(cInt .i64).enc n] [] = spec_l02Size.t n fun r => some ((cInt .u64).enc r, [])).trans (spec_l02Size.t_eq n _))
def spec_l02Size.e : Entry Try.prog := entry1 (cInt .i64) (cInt .u64) 85 spec_l02Size spec_l02Size.gives

/-! ### spec.l02Times -/
def spec_l02Times.t {ρ : Type} (a : Int) (b : Int) (K : (Int × Int) → Option ρ) : Option ρ := let x2 := (u64 ((u64 ((Int.fdiv a 4294967296) * (andI .u64 b 4294967295))) + (Int.fdiv (u64 ((andI .u64 a 4294967295) * (andI .u64 b 4294967295))) 4294967296))); K ((u64 ((u64 ((u64 ((Int.fdiv a 4294967296) * (Int.fdiv b 4294967296))) + (Int.fdiv x2 4294967296))) + (Int.fdiv (u64 ((u64 ((andI .u64 a 4294967295) * (Int.fdiv b 4294967296))) + (andI .u64 x2 4294967295))) 4294967296))), (u64 (a * b)))
theorem spec_l02Times.t_eq {ρ : Type} (a : Int) (b : Int) (K : (Int × Int) → Option ρ) : spec_l02Times.t a b K = K (spec_l02Times a b) := rfl
theorem spec_l02Times.gives (a : Int) (b : Int) : GivesV Try.prog 84 [(cInt .u64).enc a, (cInt .u64).enc b] ((cT2 (cInt .u64) (cInt .u64)).enc (spec_l02Times a b)) :=
  givesT hmix [] 0 none Try.func84 rfl rfl ((by kernel_rfl : run1 Try.prog (tab []) 0 none noL Try.f84 [(cInt .u64).enc a, (cInt .u64).enc b] [] = spec_l02Times.t a b fun r => some ((cT2 (cInt .u64) (cInt .u64)).enc r, [])).trans (spec_l02Times.t_eq a b _))
def spec_l02Times.e : Entry Try.prog := entry2 (cInt .u64) (cInt .u64) (cT2 (cInt .u64) (cInt .u64)) 84 spec_l02Times spec_l02Times.gives

/-! ### spec.l02Minus -/
def spec_l02Minus.t {ρ : Type} (w : Wd) (K : Wd → Option ρ) : Option ρ := bif (w.lo == 0) then (K (Wd.mk (w64 (0 - w.hi)) (u64 (0 - w.lo)))) else (K (Wd.mk (xorI .i64 (-1) w.hi) (u64 (0 - w.lo))))
theorem spec_l02Minus.t_eq {ρ : Type} (w : Wd) (K : Wd → Option ρ) : spec_l02Minus.t w K = K (spec_l02Minus w) := cq (fun h0 => rfl) (fun h0 => rfl)
theorem spec_l02Minus.gives (w : Wd) : GivesV Try.prog 86 [cWd.enc w] (cWd.enc (spec_l02Minus w)) :=
  givesT hmix [] 0 none Try.func86 rfl rfl ((by kernel_rfl : run1 Try.prog (tab []) 0 none noL Try.f86 [cWd.enc w] [] = spec_l02Minus.t w fun r => some (cWd.enc r, [])).trans (spec_l02Minus.t_eq w _))
def spec_l02Minus.e : Entry Try.prog := entry1 cWd cWd 86 spec_l02Minus spec_l02Minus.gives

/-! ### spec.l02Mul -/
def spec_l02Mul.t {ρ : Type} (a : Int) (b : Int) (K : Wd → Option ρ) : Option ρ := let t3 := (spec_l02Times (spec_l02Size a) (spec_l02Size b)); bif (!(decide (a < 0) == decide (b < 0))) then (K (spec_l02Minus (Wd.mk (w64 t3.1) t3.2))) else (K (Wd.mk (w64 t3.1) t3.2))
theorem spec_l02Mul.t_eq {ρ : Type} (a : Int) (b : Int) (K : Wd → Option ρ) : spec_l02Mul.t a b K = K (spec_l02Mul a b) := cq (fun h0 => rfl) (fun h0 => rfl)
theorem spec_l02Mul.gives (a : Int) (b : Int) : GivesV Try.prog 75 [(cInt .i64).enc a, (cInt .i64).enc b] (cWd.enc (spec_l02Mul a b)) :=
  givesT hmix [spec_l02Size.e, spec_l02Times.e, spec_l02Minus.e] 0 none Try.func75 rfl rfl ((by kernel_rfl : run1 Try.prog (tab [spec_l02Size.e, spec_l02Times.e, spec_l02Minus.e]) 0 none noL Try.f75 [(cInt .i64).enc a, (cInt .i64).enc b] [] = spec_l02Mul.t a b fun r => some (cWd.enc r, [])).trans (spec_l02Mul.t_eq a b _))
def spec_l02Mul.e : Entry Try.prog := entry2 (cInt .i64) (cInt .i64) cWd 75 spec_l02Mul spec_l02Mul.gives

/-! ### spec.l02Shift -/
def spec_l02Shift.t {ρ : Type} (w : Wd) (n : Int) (K : Wd → Option ρ) : Option ρ := bif (n == 0) then (K w) else (bif decide (n < 64) then (bif decide ((u64 n) < 0) then none else (bif decide ((u64 n) < 0) then none else (bif decide ((u64 (w64 (64 - n))) < 0) then none else (K (Wd.mk (Int.fdiv w.hi (2 ^ (min (Int.toNat (u64 n)) 64))) (orI .u64 (Int.fdiv w.lo (2 ^ (min (Int.toNat (u64 n)) 64))) (u64 ((u64 w.hi) * (2 ^ (min (Int.toNat (u64 (w64 (64 - n)))) 64)))))))))) else (bif decide ((u64 (w64 (n - 64))) < 0) then none else (K (Wd.mk (Int.fdiv w.hi 9223372036854775808) (u64 (Int.fdiv w.hi (2 ^ (min (Int.toNat (u64 (w64 (n - 64)))) 64))))))))
theorem spec_l02Shift.t_eq {ρ : Type} (w : Wd) (n : Int) (K : Wd → Option ρ) : spec_l02Shift.t w n K = K (spec_l02Shift w n) := cq (fun h0 => rfl) (fun h0 => cq (fun h1 => cqF (by first | exact u64_neg _ | (simp only [decide_eq_true_eq, decide_eq_false_iff_not] at *; omega) | (simp only [Bool.not_eq_eq_eq_not, Bool.not_false, inside_iff, l00In_iff, decide_eq_true_eq, decide_eq_false_iff_not, w64_def, u64_def] at *; omega)) (fun h2 => cqF (by first | exact u64_neg _ | (simp only [decide_eq_true_eq, decide_eq_false_iff_not] at *; omega) | (simp only [Bool.not_eq_eq_eq_not, Bool.not_false, inside_iff, l00In_iff, decide_eq_true_eq, decide_eq_false_iff_not, w64_def, u64_def] at *; omega)) (fun h3 => cqF (by first | exact u64_neg _ | (simp only [decide_eq_true_eq, decide_eq_false_iff_not] at *; omega) | (simp only [Bool.not_eq_eq_eq_not, Bool.not_false, inside_iff, l00In_iff, decide_eq_true_eq, decide_eq_false_iff_not, w64_def, u64_def] at *; omega)) (fun h4 => rfl)))) (fun h1 => cqF (by first | exact u64_neg _ | (simp only [decide_eq_true_eq, decide_eq_false_iff_not] at *; omega) | (simp only [Bool.not_eq_eq_eq_not, Bool.not_false, inside_iff, l00In_iff, decide_eq_true_eq, decide_eq_false_iff_not, w64_def, u64_def] at *; omega)) (fun h2 => rfl)))
theorem spec_l02Shift.gives (w : Wd) (n : Int) : GivesV Try.prog 74 [cWd.enc w, (cInt .i64).enc n] (cWd.enc (spec_l02Shift w n)) :=
  givesT hmix [] 0 none Try.func74 rfl rfl ((by kernel_rfl : run1 Try.prog (tab []) 0 none noL Try.f74 [cWd.enc w, (cInt .i64).enc n] [] = spec_l02Shift.t w n fun r => some (cWd.enc r, [])).trans (spec_l02Shift.t_eq w n _))
def spec_l02Shift.e : Entry Try.prog := entry2 cWd (cInt .i64) cWd 74 spec_l02Shift spec_l02Shift.gives

/-! ### spec.l02Of -/
def spec_l02Of.t {ρ : Type} (n : Int) (K : Wd → Option ρ) : Option ρ := bif decide (n < 0) then (K (Wd.mk (-1) (u64 n))) else (K (Wd.mk 0 (u64 n)))
theorem spec_l02Of.t_eq {ρ : Type} (n : Int) (K : Wd → Option ρ) : spec_l02Of.t n K = K (spec_l02Of n) := cq (fun h0 => rfl) (fun h0 => rfl)
theorem spec_l02Of.gives (n : Int) : GivesV Try.prog 83 [(cInt .i64).enc n] (cWd.enc (spec_l02Of n)) :=
  givesT hmix [] 0 none Try.func83 rfl rfl ((by kernel_rfl : run1 Try.prog (tab []) 0 none noL Try.f83 [(cInt .i64).enc n] [] = spec_l02Of.t n fun r => some (cWd.enc r, [])).trans (spec_l02Of.t_eq n _))
def spec_l02Of.e : Entry Try.prog := entry1 (cInt .i64) cWd 83 spec_l02Of spec_l02Of.gives

/-! ### spec.l02Int -/
def spec_l02Int.t {ρ : Type} (w : Wd) (K : (Int × Bool) → Option ρ) : Option ρ := let t1 := (spec_l02Of (w64 w.lo)); bif (!((t1.hi == w.hi) && (t1.lo == w.lo))) then (K (0, false)) else (K ((w64 w.lo), true))
theorem spec_l02Int.t_eq {ρ : Type} (w : Wd) (K : (Int × Bool) → Option ρ) : spec_l02Int.t w K = K (spec_l02Int w) := cq (fun h0 => rfl) (fun h0 => rfl)
theorem spec_l02Int.gives (w : Wd) : GivesV Try.prog 73 [cWd.enc w] ((cT2 (cInt .i64) cBool).enc (spec_l02Int w)) :=
  givesT hmix [spec_l02Of.e] 0 none Try.func73 rfl rfl ((by kernel_rfl : run1 Try.prog (tab [spec_l02Of.e]) 0 none noL Try.f73 [cWd.enc w] [] = spec_l02Int.t w fun r => some ((cT2 (cInt .i64) cBool).enc r, [])).trans (spec_l02Int.t_eq w _))
def spec_l02Int.e : Entry Try.prog := entry1 cWd (cT2 (cInt .i64) cBool) 73 spec_l02Int spec_l02Int.gives

/-! ### spec.MulFloor -/
def spec_MulFloor.t {ρ : Type} (a : Int) (b : Int) (shift : Int) (K : (Int × Bool) → Option ρ) : Option ρ := bif (!(spec_l00In shift 0 126)) then (K (0, false)) else (let t4 := (spec_l02Int (spec_l02Shift (spec_l02Mul a b) shift)); K (t4.1, t4.2))
theorem spec_MulFloor.t_eq {ρ : Type} (a : Int) (b : Int) (shift : Int) (K : (Int × Bool) → Option ρ) : spec_MulFloor.t a b shift K = K (spec_MulFloor a b shift) := cq (fun h0 => rfl) (fun h0 => rfl)
theorem spec_MulFloor.gives (a : Int) (b : Int) (shift : Int) : GivesV Try.prog 58 [(cInt .i64).enc a, (cInt .i64).enc b, (cInt .i64).enc shift] ((cT2 (cInt .i64) cBool).enc (spec_MulFloor a b shift)) :=
  givesT hmix [spec_l00In.e, spec_l02Mul.e, spec_l02Shift.e, spec_l02Int.e] 0 none Try.func58 rfl rfl ((by kernel_rfl : run1 Try.prog (tab [spec_l00In.e, spec_l02Mul.e, spec_l02Shift.e, spec_l02Int.e]) 0 none noL Try.f58 [(cInt .i64).enc a, (cInt .i64).enc b, (cInt .i64).enc shift] [] = spec_MulFloor.t a b shift fun r => some ((cT2 (cInt .i64) cBool).enc r, [])).trans (spec_MulFloor.t_eq a b shift _))
def spec_MulFloor.e : Entry Try.prog := entry3 (cInt .i64) (cInt .i64) (cInt .i64) (cT2 (cInt .i64) cBool) 58 spec_MulFloor spec_MulFloor.gives

/-! ### spec.l03End -/
def spec_l03End.t {ρ : Type} (n : Int) (ok : Bool) (K : (Int × Bool) → Option ρ) : Option ρ := bif (!ok) then (K (0, false)) else (bif (!(spec_l03Ok n)) then (K (0, false)) else (K (n, true)))
theorem spec_l03End.t_eq {ρ : Type} (n : Int) (ok : Bool) (K : (Int × Bool) → Option ρ) : spec_l03End.t n ok K = K (spec_l03End n ok) := cq (fun h0 => rfl) (fun h0 => cq (fun h1 => rfl) (fun h1 => rfl))
theorem spec_l03End.gives (n : Int) (ok : Bool) : GivesV Try.prog 59 [(cInt .i64).enc n, cBool.enc ok] ((cT2 (cInt .i64) cBool).enc (spec_l03End n ok)) :=
  givesT hmix [spec_l03Ok.e] 0 none Try.func59 rfl rfl ((by kernel_rfl : run1 Try.prog (tab [spec_l03Ok.e]) 0 none noL Try.f59 [(cInt .i64).enc n, cBool.enc ok] [] = spec_l03End.t n ok fun r => some ((cT2 (cInt .i64) cBool).enc r, [])).trans (spec_l03End.t_eq n ok _))
def spec_l03End.e : Entry Try.prog := entry2 (cInt .i64) cBool (cT2 (cInt .i64) cBool) 59 spec_l03End spec_l03End.gives

/-! ### spec.l03MulDown -/
def spec_l03MulDown.t {ρ : Type} (a : Int) (b : Int) (K : (Int × Bool) → Option ρ) : Option ρ := bif (!(spec_l03Ok a)) then (K (0, false)) else (bif (!(spec_l03Ok b)) then (K (0, false)) else (let t3 := (spec_MulFloor a b 32); let t4 := (spec_l03End t3.1 t3.2); K (t4.1, t4.2)))
theorem spec_l03MulDown.t_eq {ρ : Type} (a : Int) (b : Int) (K : (Int × Bool) → Option ρ) : spec_l03MulDown.t a b K = K (spec_l03MulDown a b) := cq (fun h0 => rfl) (fun h0 => cq (fun h1 => rfl) (fun h1 => rfl))
theorem spec_l03MulDown.gives (a : Int) (b : Int) : GivesV Try.prog 34 [(cInt .i64).enc a, (cInt .i64).enc b] ((cT2 (cInt .i64) cBool).enc (spec_l03MulDown a b)) :=
  givesT hmix [spec_l03Ok.e, spec_MulFloor.e, spec_l03End.e] 0 none Try.func34 rfl rfl ((by kernel_rfl : run1 Try.prog (tab [spec_l03Ok.e, spec_MulFloor.e, spec_l03End.e]) 0 none noL Try.f34 [(cInt .i64).enc a, (cInt .i64).enc b] [] = spec_l03MulDown.t a b fun r => some ((cT2 (cInt .i64) cBool).enc r, [])).trans (spec_l03MulDown.t_eq a b _))
def spec_l03MulDown.e : Entry Try.prog := entry2 (cInt .i64) (cInt .i64) (cT2 (cInt .i64) cBool) 34 spec_l03MulDown spec_l03MulDown.gives

/-! ### spec.l03MulUp -/
def spec_l03MulUp.t {ρ : Type} (a : Int) (b : Int) (K : (Int × Bool) → Option ρ) : Option ρ := let t1 := (spec_l03MulDown (w64 (0 - a)) b); bif (!(spec_l03Ok a)) then (K (0, false)) else (bif (!t1.2) then (K (0, false)) else (K ((w64 (0 - t1.1)), true)))
theorem spec_l03MulUp.t_eq {ρ : Type} (a : Int) (b : Int) (K : (Int × Bool) → Option ρ) : spec_l03MulUp.t a b K = K (spec_l03MulUp a b) := cq (fun h0 => rfl) (fun h0 => cq (fun h1 => rfl) (fun h1 => rfl))
theorem spec_l03MulUp.gives (a : Int) (b : Int) : GivesV Try.prog 35 [(cInt .i64).enc a, (cInt .i64).enc b] ((cT2 (cInt .i64) cBool).enc (spec_l03MulUp a b)) :=
  givesT hmix [spec_l03MulDown.e, spec_l03Ok.e] 0 none Try.func35 rfl rfl ((by kernel_rfl : run1 Try.prog (tab [spec_l03MulDown.e, spec_l03Ok.e]) 0 none noL Try.f35 [(cInt .i64).enc a, (cInt .i64).enc b] [] = spec_l03MulUp.t a b fun r => some ((cT2 (cInt .i64) cBool).enc r, [])).trans (spec_l03MulUp.t_eq a b _))
def spec_l03MulUp.e : Entry Try.prog := entry2 (cInt .i64) (cInt .i64) (cT2 (cInt .i64) cBool) 35 spec_l03MulUp spec_l03MulUp.gives

/-! ### spec.l00Min -/
def spec_l00Min.t {ρ : Type} (a : Int) (b : Int) (K : Int → Option ρ) : Option ρ := bif decide (a < b) then (K a) else (K b)
theorem spec_l00Min.t_eq {ρ : Type} (a : Int) (b : Int) (K : Int → Option ρ) : spec_l00Min.t a b K = K (spec_l00Min a b) := cq (fun h0 => rfl) (fun h0 => rfl)
theorem spec_l00Min.gives (a : Int) (b : Int) : GivesV Try.prog 36 [(cInt .i64).enc a, (cInt .i64).enc b] ((cInt .i64).enc (spec_l00Min a b)) :=
  givesT hmix [] 0 none Try.func36 rfl rfl ((by kernel_rfl : run1 Try.prog (tab []) 0 none noL Try.f36 [(cInt .i64).enc a, (cInt .i64).enc b] [] = spec_l00Min.t a b fun r => some ((cInt .i64).enc r, [])).trans (spec_l00Min.t_eq a b _))
def spec_l00Min.e : Entry Try.prog := entry2 (cInt .i64) (cInt .i64) (cInt .i64) 36 spec_l00Min spec_l00Min.gives

/-! ### spec.l00Max -/
def spec_l00Max.t {ρ : Type} (a : Int) (b : Int) (K : Int → Option ρ) : Option ρ := bif decide (a > b) then (K a) else (K b)
theorem spec_l00Max.t_eq {ρ : Type} (a : Int) (b : Int) (K : Int → Option ρ) : spec_l00Max.t a b K = K (spec_l00Max a b) := cq (fun h0 => rfl) (fun h0 => rfl)
theorem spec_l00Max.gives (a : Int) (b : Int) : GivesV Try.prog 37 [(cInt .i64).enc a, (cInt .i64).enc b] ((cInt .i64).enc (spec_l00Max a b)) :=
  givesT hmix [] 0 none Try.func37 rfl rfl ((by kernel_rfl : run1 Try.prog (tab []) 0 none noL Try.f37 [(cInt .i64).enc a, (cInt .i64).enc b] [] = spec_l00Max.t a b fun r => some ((cInt .i64).enc r, [])).trans (spec_l00Max.t_eq a b _))
def spec_l00Max.e : Entry Try.prog := entry2 (cInt .i64) (cInt .i64) (cInt .i64) 37 spec_l00Max spec_l00Max.gives

/-! ### spec.l04Make -/
def spec_l04Make.t {ρ : Type} (lo_0 : Int) (hi_1 : Int) (K : Iv → Option ρ) : Option ρ := bif (!(spec_l04Ok (Iv.mk lo_0 hi_1))) then (K spec_l04Whole) else (K (Iv.mk lo_0 hi_1))
theorem spec_l04Make.t_eq {ρ : Type} (lo_0 : Int) (hi_1 : Int) (K : Iv → Option ρ) : spec_l04Make.t lo_0 hi_1 K = K (spec_l04Make lo_0 hi_1) := cq (fun h0 => rfl) (fun h0 => rfl)
theorem spec_l04Make.gives (lo_0 : Int) (hi_1 : Int) : GivesV Try.prog 33 [(cInt .i64).enc lo_0, (cInt .i64).enc hi_1] (cIv.enc (spec_l04Make lo_0 hi_1)) :=
  givesT hmix [spec_l04Ok.e, spec_l04Whole.e] 0 none Try.func33 rfl rfl ((by kernel_rfl : run1 Try.prog (tab [spec_l04Ok.e, spec_l04Whole.e]) 0 none noL Try.f33 [(cInt .i64).enc lo_0, (cInt .i64).enc hi_1] [] = spec_l04Make.t lo_0 hi_1 fun r => some (cIv.enc r, [])).trans (spec_l04Make.t_eq lo_0 hi_1 _))
def spec_l04Make.e : Entry Try.prog := entry2 (cInt .i64) (cInt .i64) cIv 33 spec_l04Make spec_l04Make.gives

/-! ### spec.MulI -/
def spec_MulI.t {ρ : Type} (d : Iv) (i : Iv) (K : Iv → Option ρ) : Option ρ := bif (!(spec_l04Ok d)) then (K spec_l04Whole) else (bif (!(spec_l04Ok i)) then (K spec_l04Whole) else (let t5 := (spec_l03MulDown d.lo i.lo); let t6 := (spec_l03MulUp d.lo i.lo); bif (!t5.2) then (K spec_l04Whole) else (bif (!t6.2) then (K spec_l04Whole) else (let t11 := (spec_l03MulDown d.lo i.hi); let t12 := (spec_l03MulUp d.lo i.hi); bif (!t11.2) then (K spec_l04Whole) else (bif (!t12.2) then (K spec_l04Whole) else (let t17 := (spec_l03MulDown d.hi i.lo); let t18 := (spec_l03MulUp d.hi i.lo); bif (!t17.2) then (K spec_l04Whole) else (bif (!t18.2) then (K spec_l04Whole) else (let t23 := (spec_l03MulDown d.hi i.hi); let t24 := (spec_l03MulUp d.hi i.hi); bif (!t23.2) then (K spec_l04Whole) else (bif (!t24.2) then (K spec_l04Whole) else (K (spec_l04Make (spec_l00Min (spec_l00Min (spec_l00Min (spec_l00Min 1152921504606846976 t5.1) t11.1) t17.1) t23.1) (spec_l00Max (spec_l00Max (spec_l00Max (spec_l00Max (-1152921504606846976) t6.1) t12.1) t18.1) t24.1))))))))))))
theorem spec_MulI.t_eq {ρ : Type} (d : Iv) (i : Iv) (K : Iv → Option ρ) : spec_MulI.t d i K = K (spec_MulI d i) := cq (fun h0 => rfl) (fun h0 => cq (fun h1 => rfl) (fun h1 => cq (fun h2 => rfl) (fun h2 => cq (fun h3 => rfl) (fun h3 => cq (fun h4 => rfl) (fun h4 => cq (fun h5 => rfl) (fun h5 => cq (fun h6 => rfl) (fun h6 => cq (fun h7 => rfl) (fun h7 => cq (fun h8 => rfl) (fun h8 => cq (fun h9 => rfl) (fun h9 => rfl))))))))))
theorem spec_MulI.gives (d : Iv) (i : Iv) : GivesV Try.prog 18 [cIv.enc d, cIv.enc i] (cIv.enc (spec_MulI d i)) :=
  givesT hmix [spec_l04Ok.e, spec_l04Whole.e, spec_l03MulDown.e, spec_l03MulUp.e, spec_l00Min.e, spec_l00Max.e, spec_l04Make.e] 3 none Try.func18 rfl rfl ((by kernel_rfl : run1 Try.prog (tab [spec_l04Ok.e, spec_l04Whole.e, spec_l03MulDown.e, spec_l03MulUp.e, spec_l00Min.e, spec_l00Max.e, spec_l04Make.e]) 3 none noL Try.f18 [cIv.enc d, cIv.enc i] [] = spec_MulI.t d i fun r => some (cIv.enc r, [])).trans (spec_MulI.t_eq d i _))
def spec_MulI.e : Entry Try.prog := entry2 cIv cIv cIv 18 spec_MulI spec_MulI.gives

end Go.Proofs.Ytmdicdkceekodaa
